/-
  A part of a proof that a law of this seat returns true at every input. Conditions: those in each theorem.
-/
import Derived.Test.YtikjgeenhbnkkaaGreatDoorAG7
import Derived.Test.YtikjgeenhbnkkaaGreatDoorAS3
import Derived.Test.YtikjgeenhbnkkaaGreatDoorAVF
set_option linter.unusedSimpArgs false
set_option linter.unusedVariables false
set_option maxRecDepth 100000
namespace Go.Proofs.YtikjgeenhbnkkaaGreatDoor
open Go Eng
def lookF (x : Pic) : Nat → Int → Prop
  | 0 => FrameF ((List.range x.marks.length).map (gOf (addsP x)))
  | 1 => RoleF x
  | 2 => EntryF x
  | 3 => SlotF x
  | 4 => ClockF x
  | 5 => ObjF x
  | 6 => PinF x
  | 7 => LockF x
  | _ => fun _ => False
def faultsOf (rows : Nat → List Int) (q : Nat) : List (Int × Int) := (List.range q).flatMap fun i => (rows i).map fun n => ((2 : Int) + (i : Int), n)
def RowsOk (x : Pic) (rows : Nat → List Int) (q : Nat) : Prop := ∀ i, i < q → (rows i).Pairwise (· < ·) ∧ ∀ n, n ∈ rows i ↔ lookF x i n
def RFault : Rd (Int × Int) := fun _ cs x => cs = [.int .u8 x.1, vi x.2]
theorem RFault.stab : Stab RFault := stab_eq
def fltC (L : List (Int × Int)) : List Value := L.flatMap fun p => [.int .u8 p.1, vi p.2]
theorem fltC_len (L : List (Int × Int)) : (fltC L).length = L.length * 2 := by
  induction L with
  | nil => rfl
  | cons a L ih => unfold fltC at *; rw [List.flatMap_cons, List.length_append, ih]; simp; omega
theorem fltC_app (L M : List (Int × Int)) : fltC (L ++ M) = fltC L ++ fltC M := by simp [fltC, List.flatMap_append]
theorem fltC_get : ∀ (L : List (Int × Int)) (i : Nat) (p : Int × Int), L[i]? = some p → (fltC L)[i * 2]? = some (.int .u8 p.1) ∧ (fltC L)[i * 2 + 1]? = some (vi p.2)
  | [], i, p, h => by simp at h
  | a :: L, 0, p, h => by simp at h; subst h; exact ⟨rfl, rfl⟩
  | a :: L, i + 1, p, h => by
    have := fltC_get L i p (by simpa using h)
    have e : fltC (a :: L) = [.int .u8 a.1, vi a.2] ++ fltC L := rfl
    rw [e, List.getElem?_append_right (by simp; omega), List.getElem?_append_right (by simp; omega)]
    have e1 : (i + 1) * 2 - [Value.int .u8 a.1, vi a.2].length = i * 2 := by simp; omega
    have e2 : (i + 1) * 2 + 1 - [Value.int .u8 a.1, vi a.2].length = i * 2 + 1 := by simp; omega
    rw [e1, e2]
    exact this
def RowF (w : World) (base : Nat) (a : Option Addr) (l c : Nat) (L : List (Int × Int)) : Prop := l = L.length ∧ w.ownsRow base 83 2 (.slice a l c) l (fltC L)
theorem RowF.sl {w : World} {base : Nat} {a : Option Addr} {l c : Nat} {L : List (Int × Int)} (h : RowF w base a l c L) : SlR RFault 2 w a l c L := by
  obtain ⟨rfl, h⟩ := h
  rcases h.2 with ⟨hv, h0⟩ | ⟨g, cap, cur, hv, hb, hgg, hnc, hm, hsz, htk⟩
  · have : L = [] := List.length_eq_zero_iff.1 h0
    subst this
    cases hv
    exact SlR.nil'
  · cases hv
    refine ⟨rfl, fun _ => rfl, fun h => (by cases h), hnc, hm, fun i p hp => ⟨_, rfl, rfl, fun j u hu => ?_⟩⟩
    have hi := (List.getElem?_eq_some_iff.1 hp).1
    have hr : ∀ o, o < L.length * 2 → rd w g o = (fltC L)[o]? := fun o ho => by
      rw [rd_def, hgg, ← htk, List.getElem?_take_of_lt ho, Array.getElem?_toList]
    obtain ⟨g1, g2⟩ := fltC_get L i p hp
    match j with
    | 0 =>
      simp at hu
      subst hu
      show rd w g (0 + i * 2 + 0) = _
      rw [Nat.zero_add, Nat.add_zero, hr _ (by omega), g1]
    | 1 =>
      simp at hu
      subst hu
      show rd w g (0 + i * 2 + 1) = _
      rw [Nat.zero_add, hr _ (by omega), g2]
    | j + 2 => simp at hu
theorem nodup_sub_len {α : Type} [DecidableEq α] : ∀ {L M : List α}, L.Nodup → L ⊆ M → L.length ≤ M.length
  | [], _, _, _ => Nat.zero_le _
  | a :: L, M, h, hs => by
    obtain ⟨h1, h2⟩ := List.nodup_cons.1 h
    have ha : a ∈ M := hs (by simp)
    have h3 := nodup_sub_len (M := M.erase a) h2 fun x hx => by
      have hne : x ≠ a := fun e => h1 (e ▸ hx)
      exact (List.mem_erase_of_ne hne).2 (hs (by simp [hx]))
    have h4 := List.length_erase_of_mem ha
    have h5 : 0 < M.length := List.length_pos_of_mem ha
    rw [List.length_cons]
    omega
theorem flatMap_congr' {α β : Type} {f g : α → List β} : ∀ {L : List α}, (∀ a ∈ L, f a = g a) → L.flatMap f = L.flatMap g
  | [], _ => rfl
  | a :: L, h => by
    rw [List.flatMap_cons, List.flatMap_cons, h a (by simp), flatMap_congr' fun b hb => h b (by simp [hb])]
theorem info_fault : (Tryz.prog.info? 83).map (fun i => (i.zero, i.size, i.bytes)) = some (some (.agg #[.int .u8 0, .int .i64 0]), 2, 16) := by kernel_rfl
theorem wrap_kind {q : Nat} (h : q < 8) : IntKind.wrap .u8 (2 + IntKind.wrap .u8 (q : Int)) = (2 : Int) + (q : Int) := by
  match q, h with
  | 0, _ | 1, _ | 2, _ | 3, _ | 4, _ | 5, _ | 6, _ | 7, _ => rfl
structure LkI (w : World) (S : PicS) (x : Pic) (n : Nat) (p : Option Addr) (w' : World) : Prop where
  ex : ∃ TB om sm pm k : Nat, p = some ⟨k, 0, none⟩ ∧ Kept none' w w' ∧ (w.heap.size ≤ TB ∧ w.heap.size ≤ om ∧ w.heap.size ≤ sm ∧ w.heap.size ≤ pm) ∧ (k ≠ TB ∧ k ≠ om ∧ k ≠ sm ∧ k ≠ pm ∧ TB ≠ om ∧ TB ≠ sm ∧ TB ≠ pm ∧ om ≠ sm ∧ om ≠ pm ∧ sm ≠ pm) ∧
    own w' k (picC S x.c ++ [.slice (some ⟨TB, 0, none⟩) n n, .map (some om), .map (some sm), .map (some pm)]) ∧ own w' TB (List.replicate n (.slice none 0 0)) ∧ MapIs w' om [] ∧ MapIs w' sm [] ∧ MapIs w' pm []
theorem picC_len (S : PicS) (c : Nat → Int) : (picC S c).length = 107 := by unfold picC; rw [List.length_append, runI_len]; rfl
theorem picC_eq (S : PicS) (c : Nat → Int) : picC S c = runI .i64 c 0 94 ++ [S.v 0, S.v 1, S.v 2, S.v 3, S.v 4, S.v 5, S.v 6, S.v 7, S.v 8, S.v 9, S.v 10, S.v 11, S.v 12] := rfl
theorem ck_leaf {w v v' : World} {S : PicS} {x : Pic} {n TB om sm pm : Nat} {t : TypeId} (k : Kept none' w v) (hpx : True) (hge : w.heap.size ≤ TB ∧ w.heap.size ≤ om ∧ w.heap.size ≤ sm ∧ w.heap.size ≤ pm)
    (ne : TB ≠ om ∧ TB ≠ sm ∧ TB ≠ pm ∧ om ≠ sm ∧ om ≠ pm ∧ sm ≠ pm) (oT : own v TB (List.replicate n (.slice none 0 0))) (mo : MapIs v om []) (ms : MapIs v sm []) (mp : MapIs v pm [])
    (e : v' = v.alloc (.cells (runI .i64 x.c 0 94 ++ [S.v 0, S.v 1, S.v 2, S.v 3, S.v 4, S.v 5, S.v 6, S.v 7, S.v 8, S.v 9, S.v 10, S.v 11, S.v 12, .slice (some ⟨TB, 0, none⟩) n n, .map (some om), .map (some sm), .map (some pm)]).toArray t)) : LkI w S x n (some ⟨v.heap.size, 0, none⟩) v' := by
  have h1 := oT.lt
  have h2 := mo.lt
  have h3 := ms.lt
  have h4 := mp.lt
  refine ⟨TB, om, sm, pm, v.heap.size, rfl, k.al e, hge, by omega, ?_, oT.al e, mo.al e, ms.al e, mp.al e⟩
  have := own_alloc e
  rw [picC_eq, List.append_assoc]
  exact this
theorem region_Check {w v0 : World} {S : PicS} {x : Pic} {n px : Nat} (hn : S.l 0 = n) (hbig : n ≤ 100000) (k0 : Kept none' w v0) (p0 : own v0 px (picC S x.c)) {I : Option Addr → World → Prop} (hI : ∀ p w', LkI w S x n p w' → I p w') : True := trivial
theorem CallsV.fn {P : Program} {f : FuncId} {args : List Value} {w : World} {R : Ending → World → Prop} (hc : callB P f = true) (h : Calls P f args.toArray w R) : CallsV P (.func (.func f) #[] #[]) args w R := by
  refine CallsV.mk f #[] #[] rfl hc ?_
  simpa using h
theorem check_spec {w : World} {S : PicS} {x : Pic} (P : PicR w S x) (hz : SizR w) (hrg : ∀ s ∈ x.slabs, -9223372036854775808 ≤ s.frame ∧ s.frame ≤ 9223372036854775807) (hsm : ShapeP x → Small x) :
    Calls Tryz.prog 7 #[picV S x.c] w fun e w' => ∃ (a : Option Addr) (l c : Nat) (L : List (Int × Int)), e = .returned (.slice a l c) ∧ Kept none' w w' ∧ SlR RFault 2 w' a l c L ∧ (¬ ShapeP x → L = [(1, 0)]) ∧ (ShapeP x → ∃ rows, RowsOk x rows 8 ∧ L = faultsOf rows 8) := by
  refine (vc7 x.c (S.a 0) (S.l 0) (S.c 0) (S.a 1) (S.l 1) (S.c 1) (S.a 2) (S.l 2) (S.c 2) (S.a 3) (S.l 3) (S.c 3) (S.a 4) (S.l 4) (S.c 4) (S.a 5) (S.l 5) (S.c 5) (S.a 6) (S.l 6) (S.c 6) (S.a 7) (S.l 7) (S.c 7) (S.a 8) (S.l 8) (S.c 8) (S.a 9) (S.l 9) (S.c 9) (S.a 10) (S.l 10) (S.c 10) (S.a 11) (S.l 11) (S.c 11) (S.a 12) (S.l 12) (S.c 12) w
    (fun v w' => ∃ (a : Option Addr) (l c : Nat) (L : List (Int × Int)), v = .slice a l c ∧ Kept none' w w' ∧ SlR RFault 2 w' a l c L ∧ (¬ ShapeP x → L = [(1, 0)]) ∧ (ShapeP x → ∃ rows, RowsOk x rows 8 ∧ L = faultsOf rows 8)) ?_).mono ?_
  rotate_left
  · rintro e w' ⟨v, rfl, a, l, c, L, rfl, hw⟩
    exact ⟨a, l, c, L, rfl, hw⟩
  unfold vcP7
  intro w1 e1
  have op1 : own w1 w.heap.size (picC S x.c) := own_alloc e1
  have k1 : Kept none' w w1 := (Kept.refl _ _).al e1
  refine ⟨x.c, S.a 0, S.l 0, S.c 0, S.a 1, S.l 1, S.c 1, S.a 2, S.l 2, S.c 2, S.a 3, S.l 3, S.c 3, S.a 4, S.l 4, S.c 4, S.a 5, S.l 5, S.c 5, S.a 6, S.l 6, S.c 6, S.a 7, S.l 7, S.c 7, S.a 8, S.l 8, S.c 8, S.a 9, S.l 9, S.c 9, S.a 10, S.l 10, S.c 10, S.a 11, S.l 11, S.c 11, S.a 12, S.l 12, S.c 12, op1.rdAll (vs := picC S x.c) 0 (fun j _ => by rw [Nat.zero_add]), ?_⟩
  refine (shape_spec (P.k k1) (hz.k k1) hrg).mono ?_
  rintro _ w2 ⟨b, rfl, k12, hb⟩
  have k2 := k1.tr k12
  have op2 := op1.k k12
  refine ⟨b, rfl, Wif_intro (fun hbf => ?_) (fun hbt => ?_)⟩
  · have hns : ¬ ShapeP x := fun hs => by rw [hb.2 hs] at hbf; cases hbf
    intro w3 e3
    have o3 := own_alloc (c := [.int .u8 1, vi 0]) e3
    refine ⟨_, _, _, [(1, 0)], rfl, k2.al e3, ⟨rfl, fun _ => rfl, fun h => (by cases h), Nat.le_refl _, by unfold maxLen; omega, fun i p hp => ⟨_, rfl, rfl, fun j u hu => ?_⟩⟩, fun _ => rfl, fun hs => absurd hs hns⟩
    have hi : i = 0 := by
      have := (List.getElem?_eq_some_iff.1 hp).1
      simp at this
      exact this
    subst hi
    simp at hp
    subst hp
    show rd w3 w2.heap.size (0 + 0 * 2 + j) = _
    rw [Nat.zero_mul, Nat.zero_add, o3.rd]
    exact hu
  have hS : ShapeP x := hb.1 (by simpa using hbt)
  have hSm := hsm hS
  have hct := hS.ct hSm
  have hto := hS.tot
  have hml := P.marks.len
  refine ⟨LkI w S x (S.l 0), ?_, ?_⟩
  · intro v0 e0
    have k0 : Kept none' w v0 := k2.dr e0
    have p0 : own v0 w.heap.size (picC S x.c) := op2.dr e0
    have h94 : (picC S x.c)[94]? = some (S.v 0) := picC_s S x.c (i := 0) (by decide)
    have hmk : okMk 24 (S.l 0 : Int) (S.l 0 : Int) = true := by
      have : S.l 0 ≤ 1024 := by omega
      simp only [okMk, decide_eq_true_eq]
      omega
    have hpx : True := trivial
    have hs0 := k0.sz
    have htn : ((S.l 0 : Nat) : Int).toNat = S.l 0 := Int.toNat_natCast _
    refine ⟨x.c, S.a 0, S.l 0, S.c 0, S.a 1, S.l 1, S.c 1, S.a 2, S.l 2, S.c 2, S.a 3, S.l 3, S.c 3, S.a 4, S.l 4, S.c 4, S.a 5, S.l 5, S.c 5, S.a 6, S.l 6, S.c 6, S.a 7, S.l 7, S.c 7, S.a 8, S.l 8, S.c 8, S.a 9, S.l 9, S.c 9, S.a 10, S.l 10, S.c 10, S.a 11, S.l 11, S.c 11, S.a 12, S.l 12, S.c 12, p0.rdAll (vs := picC S x.c) 0 (fun j _ => by rw [Nat.zero_add]), S.a 0, S.l 0, S.c 0, (p0.rd 94).trans h94, ?_⟩
    rw [htn]
    refine ⟨?_, ?_, ?_, ?_⟩
    · refine Wif_yes hmk (fun v1 e1 => ?_)
      have z1 : v1.heap.size = v0.heap.size + 1 := by rw [e1]; simp only [World.alloc, Array.size_push]
      have p1 := p0.al e1
      refine ⟨⟨p1.rdAll (vs := picC S x.c) 0 (fun j _ => by rw [Nat.zero_add]), trivial⟩, ?_⟩
      refine ⟨?_, ?_, ?_⟩
      · intro v2 e2
        have z2 : v2.heap.size = v1.heap.size + 1 := by rw [e2]; simp only [World.alloc, Array.size_push]
        have p2 := p1.al e2
        refine ⟨⟨p2.rdAll (vs := picC S x.c) 0 (fun j _ => by rw [Nat.zero_add]), trivial⟩, ?_⟩
        refine ⟨?_, ?_⟩
        · intro v3 e3
          have z3 : v3.heap.size = v2.heap.size + 1 := by rw [e3]; simp only [World.alloc, Array.size_push]
          have p3 := p2.al e3
          refine ⟨⟨p3.rdAll (vs := picC S x.c) 0 (fun j _ => by rw [Nat.zero_add]), trivial⟩, ?_⟩
          intro v4 e4
          have z4 : v4.heap.size = v3.heap.size + 1 := by rw [e4]; simp only [World.alloc, Array.size_push]
          have p4 := p3.al e4
          refine ⟨⟨p4.rdAll (vs := picC S x.c) 0 (fun j _ => by rw [Nat.zero_add]), trivial⟩, ?_⟩
          have kk : Kept none' w v4 := by
            have q0 := k0
            have q1 : Kept none' w v1 := q0.al e1
            have q2 : Kept none' w v2 := e2 ▸ q1.allocMap _ _
            have q3 : Kept none' w v3 := e3 ▸ q2.allocMap _ _
            have q4 : Kept none' w v4 := e4 ▸ q3.allocMap _ _
            exact q4
          exact fun v5 e5 => ck_leaf kk hpx ⟨by omega, by omega, by omega, by omega⟩ (by omega) ((((own_alloc e1).al e2).al e3).al e4) (((map_new e2).al e3).al e4) ((map_new e3).al e4) (map_new e4) e5
        · intro v3 e3
          have z3 : v3.heap.size = v2.heap.size + 1 := by rw [e3]; simp only [World.alloc, Array.size_push]
          have p3 := p2.al e3
          refine ⟨⟨p3.rdAll (vs := picC S x.c) 0 (fun j _ => by rw [Nat.zero_add]), trivial⟩, ?_⟩
          intro v4 e4
          have z4 : v4.heap.size = v3.heap.size + 1 := by rw [e4]; simp only [World.alloc, Array.size_push]
          have p4 := p3.al e4
          refine ⟨⟨p4.rdAll (vs := picC S x.c) 0 (fun j _ => by rw [Nat.zero_add]), trivial⟩, ?_⟩
          have kk : Kept none' w v4 := by
            have q0 := k0
            have q1 : Kept none' w v1 := q0.al e1
            have q2 : Kept none' w v2 := e2 ▸ q1.allocMap _ _
            have q3 : Kept none' w v3 := e3 ▸ q2.allocMap _ _
            have q4 : Kept none' w v4 := e4 ▸ q3.allocMap _ _
            exact q4
          exact fun v5 e5 => ck_leaf kk hpx ⟨by omega, by omega, by omega, by omega⟩ (by omega) ((((own_alloc e1).al e2).al e3).al e4) (((map_new e2).al e3).al e4) (map_new e4) ((map_new e3).al e4) e5
      · intro v2 e2
        have z2 : v2.heap.size = v1.heap.size + 1 := by rw [e2]; simp only [World.alloc, Array.size_push]
        have p2 := p1.al e2
        refine ⟨⟨p2.rdAll (vs := picC S x.c) 0 (fun j _ => by rw [Nat.zero_add]), trivial⟩, ?_⟩
        refine ⟨?_, ?_⟩
        · intro v3 e3
          have z3 : v3.heap.size = v2.heap.size + 1 := by rw [e3]; simp only [World.alloc, Array.size_push]
          have p3 := p2.al e3
          refine ⟨⟨p3.rdAll (vs := picC S x.c) 0 (fun j _ => by rw [Nat.zero_add]), trivial⟩, ?_⟩
          intro v4 e4
          have z4 : v4.heap.size = v3.heap.size + 1 := by rw [e4]; simp only [World.alloc, Array.size_push]
          have p4 := p3.al e4
          refine ⟨⟨p4.rdAll (vs := picC S x.c) 0 (fun j _ => by rw [Nat.zero_add]), trivial⟩, ?_⟩
          have kk : Kept none' w v4 := by
            have q0 := k0
            have q1 : Kept none' w v1 := q0.al e1
            have q2 : Kept none' w v2 := e2 ▸ q1.allocMap _ _
            have q3 : Kept none' w v3 := e3 ▸ q2.allocMap _ _
            have q4 : Kept none' w v4 := e4 ▸ q3.allocMap _ _
            exact q4
          exact fun v5 e5 => ck_leaf kk hpx ⟨by omega, by omega, by omega, by omega⟩ (by omega) ((((own_alloc e1).al e2).al e3).al e4) ((map_new e3).al e4) (((map_new e2).al e3).al e4) (map_new e4) e5
        · intro v3 e3
          have z3 : v3.heap.size = v2.heap.size + 1 := by rw [e3]; simp only [World.alloc, Array.size_push]
          have p3 := p2.al e3
          refine ⟨⟨p3.rdAll (vs := picC S x.c) 0 (fun j _ => by rw [Nat.zero_add]), trivial⟩, ?_⟩
          intro v4 e4
          have z4 : v4.heap.size = v3.heap.size + 1 := by rw [e4]; simp only [World.alloc, Array.size_push]
          have p4 := p3.al e4
          refine ⟨⟨p4.rdAll (vs := picC S x.c) 0 (fun j _ => by rw [Nat.zero_add]), trivial⟩, ?_⟩
          have kk : Kept none' w v4 := by
            have q0 := k0
            have q1 : Kept none' w v1 := q0.al e1
            have q2 : Kept none' w v2 := e2 ▸ q1.allocMap _ _
            have q3 : Kept none' w v3 := e3 ▸ q2.allocMap _ _
            have q4 : Kept none' w v4 := e4 ▸ q3.allocMap _ _
            exact q4
          exact fun v5 e5 => ck_leaf kk hpx ⟨by omega, by omega, by omega, by omega⟩ (by omega) ((((own_alloc e1).al e2).al e3).al e4) (map_new e4) (((map_new e2).al e3).al e4) ((map_new e3).al e4) e5
      · intro v2 e2
        have z2 : v2.heap.size = v1.heap.size + 1 := by rw [e2]; simp only [World.alloc, Array.size_push]
        have p2 := p1.al e2
        refine ⟨⟨p2.rdAll (vs := picC S x.c) 0 (fun j _ => by rw [Nat.zero_add]), trivial⟩, ?_⟩
        refine ⟨?_, ?_⟩
        · intro v3 e3
          have z3 : v3.heap.size = v2.heap.size + 1 := by rw [e3]; simp only [World.alloc, Array.size_push]
          have p3 := p2.al e3
          refine ⟨⟨p3.rdAll (vs := picC S x.c) 0 (fun j _ => by rw [Nat.zero_add]), trivial⟩, ?_⟩
          intro v4 e4
          have z4 : v4.heap.size = v3.heap.size + 1 := by rw [e4]; simp only [World.alloc, Array.size_push]
          have p4 := p3.al e4
          refine ⟨⟨p4.rdAll (vs := picC S x.c) 0 (fun j _ => by rw [Nat.zero_add]), trivial⟩, ?_⟩
          have kk : Kept none' w v4 := by
            have q0 := k0
            have q1 : Kept none' w v1 := q0.al e1
            have q2 : Kept none' w v2 := e2 ▸ q1.allocMap _ _
            have q3 : Kept none' w v3 := e3 ▸ q2.allocMap _ _
            have q4 : Kept none' w v4 := e4 ▸ q3.allocMap _ _
            exact q4
          exact fun v5 e5 => ck_leaf kk hpx ⟨by omega, by omega, by omega, by omega⟩ (by omega) ((((own_alloc e1).al e2).al e3).al e4) ((map_new e3).al e4) (map_new e4) (((map_new e2).al e3).al e4) e5
        · intro v3 e3
          have z3 : v3.heap.size = v2.heap.size + 1 := by rw [e3]; simp only [World.alloc, Array.size_push]
          have p3 := p2.al e3
          refine ⟨⟨p3.rdAll (vs := picC S x.c) 0 (fun j _ => by rw [Nat.zero_add]), trivial⟩, ?_⟩
          intro v4 e4
          have z4 : v4.heap.size = v3.heap.size + 1 := by rw [e4]; simp only [World.alloc, Array.size_push]
          have p4 := p3.al e4
          refine ⟨⟨p4.rdAll (vs := picC S x.c) 0 (fun j _ => by rw [Nat.zero_add]), trivial⟩, ?_⟩
          have kk : Kept none' w v4 := by
            have q0 := k0
            have q1 : Kept none' w v1 := q0.al e1
            have q2 : Kept none' w v2 := e2 ▸ q1.allocMap _ _
            have q3 : Kept none' w v3 := e3 ▸ q2.allocMap _ _
            have q4 : Kept none' w v4 := e4 ▸ q3.allocMap _ _
            exact q4
          exact fun v5 e5 => ck_leaf kk hpx ⟨by omega, by omega, by omega, by omega⟩ (by omega) ((((own_alloc e1).al e2).al e3).al e4) (map_new e4) ((map_new e3).al e4) (((map_new e2).al e3).al e4) e5
    · intro v1 e1
      have z1 : v1.heap.size = v0.heap.size + 1 := by rw [e1]; simp only [World.alloc, Array.size_push]
      have p1 := p0.al e1
      refine ⟨⟨(p1.rd 94).trans h94, trivial⟩, ?_⟩
      refine ⟨⟨p1.rdAll (vs := picC S x.c) 0 (fun j _ => by rw [Nat.zero_add]), trivial⟩, ?_⟩
      refine ⟨?_, ?_, ?_⟩
      · refine Wif_yes hmk (fun v2 e2 => ?_)
        have z2 : v2.heap.size = v1.heap.size + 1 := by rw [e2]; simp only [World.alloc, Array.size_push]
        have p2 := p1.al e2
        refine ⟨⟨p2.rdAll (vs := picC S x.c) 0 (fun j _ => by rw [Nat.zero_add]), trivial⟩, ?_⟩
        refine ⟨?_, ?_⟩
        · intro v3 e3
          have z3 : v3.heap.size = v2.heap.size + 1 := by rw [e3]; simp only [World.alloc, Array.size_push]
          have p3 := p2.al e3
          refine ⟨⟨p3.rdAll (vs := picC S x.c) 0 (fun j _ => by rw [Nat.zero_add]), trivial⟩, ?_⟩
          intro v4 e4
          have z4 : v4.heap.size = v3.heap.size + 1 := by rw [e4]; simp only [World.alloc, Array.size_push]
          have p4 := p3.al e4
          refine ⟨⟨p4.rdAll (vs := picC S x.c) 0 (fun j _ => by rw [Nat.zero_add]), trivial⟩, ?_⟩
          have kk : Kept none' w v4 := by
            have q0 := k0
            have q1 : Kept none' w v1 := e1 ▸ q0.allocMap _ _
            have q2 : Kept none' w v2 := q1.al e2
            have q3 : Kept none' w v3 := e3 ▸ q2.allocMap _ _
            have q4 : Kept none' w v4 := e4 ▸ q3.allocMap _ _
            exact q4
          exact fun v5 e5 => ck_leaf kk hpx ⟨by omega, by omega, by omega, by omega⟩ (by omega) (((own_alloc e2).al e3).al e4) ((((map_new e1).al e2).al e3).al e4) ((map_new e3).al e4) (map_new e4) e5
        · intro v3 e3
          have z3 : v3.heap.size = v2.heap.size + 1 := by rw [e3]; simp only [World.alloc, Array.size_push]
          have p3 := p2.al e3
          refine ⟨⟨p3.rdAll (vs := picC S x.c) 0 (fun j _ => by rw [Nat.zero_add]), trivial⟩, ?_⟩
          intro v4 e4
          have z4 : v4.heap.size = v3.heap.size + 1 := by rw [e4]; simp only [World.alloc, Array.size_push]
          have p4 := p3.al e4
          refine ⟨⟨p4.rdAll (vs := picC S x.c) 0 (fun j _ => by rw [Nat.zero_add]), trivial⟩, ?_⟩
          have kk : Kept none' w v4 := by
            have q0 := k0
            have q1 : Kept none' w v1 := e1 ▸ q0.allocMap _ _
            have q2 : Kept none' w v2 := q1.al e2
            have q3 : Kept none' w v3 := e3 ▸ q2.allocMap _ _
            have q4 : Kept none' w v4 := e4 ▸ q3.allocMap _ _
            exact q4
          exact fun v5 e5 => ck_leaf kk hpx ⟨by omega, by omega, by omega, by omega⟩ (by omega) (((own_alloc e2).al e3).al e4) ((((map_new e1).al e2).al e3).al e4) (map_new e4) ((map_new e3).al e4) e5
      · intro v2 e2
        have z2 : v2.heap.size = v1.heap.size + 1 := by rw [e2]; simp only [World.alloc, Array.size_push]
        have p2 := p1.al e2
        refine ⟨⟨(p2.rd 94).trans h94, trivial⟩, ?_⟩
        refine ⟨⟨p2.rdAll (vs := picC S x.c) 0 (fun j _ => by rw [Nat.zero_add]), trivial⟩, ?_⟩
        refine ⟨?_, ?_⟩
        · refine Wif_yes hmk (fun v3 e3 => ?_)
          have z3 : v3.heap.size = v2.heap.size + 1 := by rw [e3]; simp only [World.alloc, Array.size_push]
          have p3 := p2.al e3
          refine ⟨⟨p3.rdAll (vs := picC S x.c) 0 (fun j _ => by rw [Nat.zero_add]), trivial⟩, ?_⟩
          intro v4 e4
          have z4 : v4.heap.size = v3.heap.size + 1 := by rw [e4]; simp only [World.alloc, Array.size_push]
          have p4 := p3.al e4
          refine ⟨⟨p4.rdAll (vs := picC S x.c) 0 (fun j _ => by rw [Nat.zero_add]), trivial⟩, ?_⟩
          have kk : Kept none' w v4 := by
            have q0 := k0
            have q1 : Kept none' w v1 := e1 ▸ q0.allocMap _ _
            have q2 : Kept none' w v2 := e2 ▸ q1.allocMap _ _
            have q3 : Kept none' w v3 := q2.al e3
            have q4 : Kept none' w v4 := e4 ▸ q3.allocMap _ _
            exact q4
          exact fun v5 e5 => ck_leaf kk hpx ⟨by omega, by omega, by omega, by omega⟩ (by omega) ((own_alloc e3).al e4) ((((map_new e1).al e2).al e3).al e4) (((map_new e2).al e3).al e4) (map_new e4) e5
        · intro v3 e3
          have z3 : v3.heap.size = v2.heap.size + 1 := by rw [e3]; simp only [World.alloc, Array.size_push]
          have p3 := p2.al e3
          refine ⟨⟨(p3.rd 94).trans h94, trivial⟩, ?_⟩
          refine ⟨⟨p3.rdAll (vs := picC S x.c) 0 (fun j _ => by rw [Nat.zero_add]), trivial⟩, ?_⟩
          refine Wif_yes hmk (fun v4 e4 => ?_)
          have z4 : v4.heap.size = v3.heap.size + 1 := by rw [e4]; simp only [World.alloc, Array.size_push]
          have p4 := p3.al e4
          refine ⟨⟨p4.rdAll (vs := picC S x.c) 0 (fun j _ => by rw [Nat.zero_add]), trivial⟩, ?_⟩
          have kk : Kept none' w v4 := by
            have q0 := k0
            have q1 : Kept none' w v1 := e1 ▸ q0.allocMap _ _
            have q2 : Kept none' w v2 := e2 ▸ q1.allocMap _ _
            have q3 : Kept none' w v3 := e3 ▸ q2.allocMap _ _
            have q4 : Kept none' w v4 := q3.al e4
            exact q4
          exact fun v5 e5 => ck_leaf kk hpx ⟨by omega, by omega, by omega, by omega⟩ (by omega) (own_alloc e4) ((((map_new e1).al e2).al e3).al e4) (((map_new e2).al e3).al e4) ((map_new e3).al e4) e5
      · intro v2 e2
        have z2 : v2.heap.size = v1.heap.size + 1 := by rw [e2]; simp only [World.alloc, Array.size_push]
        have p2 := p1.al e2
        refine ⟨⟨(p2.rd 94).trans h94, trivial⟩, ?_⟩
        refine ⟨⟨p2.rdAll (vs := picC S x.c) 0 (fun j _ => by rw [Nat.zero_add]), trivial⟩, ?_⟩
        refine ⟨?_, ?_⟩
        · refine Wif_yes hmk (fun v3 e3 => ?_)
          have z3 : v3.heap.size = v2.heap.size + 1 := by rw [e3]; simp only [World.alloc, Array.size_push]
          have p3 := p2.al e3
          refine ⟨⟨p3.rdAll (vs := picC S x.c) 0 (fun j _ => by rw [Nat.zero_add]), trivial⟩, ?_⟩
          intro v4 e4
          have z4 : v4.heap.size = v3.heap.size + 1 := by rw [e4]; simp only [World.alloc, Array.size_push]
          have p4 := p3.al e4
          refine ⟨⟨p4.rdAll (vs := picC S x.c) 0 (fun j _ => by rw [Nat.zero_add]), trivial⟩, ?_⟩
          have kk : Kept none' w v4 := by
            have q0 := k0
            have q1 : Kept none' w v1 := e1 ▸ q0.allocMap _ _
            have q2 : Kept none' w v2 := e2 ▸ q1.allocMap _ _
            have q3 : Kept none' w v3 := q2.al e3
            have q4 : Kept none' w v4 := e4 ▸ q3.allocMap _ _
            exact q4
          exact fun v5 e5 => ck_leaf kk hpx ⟨by omega, by omega, by omega, by omega⟩ (by omega) ((own_alloc e3).al e4) ((((map_new e1).al e2).al e3).al e4) (map_new e4) (((map_new e2).al e3).al e4) e5
        · intro v3 e3
          have z3 : v3.heap.size = v2.heap.size + 1 := by rw [e3]; simp only [World.alloc, Array.size_push]
          have p3 := p2.al e3
          refine ⟨⟨(p3.rd 94).trans h94, trivial⟩, ?_⟩
          refine ⟨⟨p3.rdAll (vs := picC S x.c) 0 (fun j _ => by rw [Nat.zero_add]), trivial⟩, ?_⟩
          refine Wif_yes hmk (fun v4 e4 => ?_)
          have z4 : v4.heap.size = v3.heap.size + 1 := by rw [e4]; simp only [World.alloc, Array.size_push]
          have p4 := p3.al e4
          refine ⟨⟨p4.rdAll (vs := picC S x.c) 0 (fun j _ => by rw [Nat.zero_add]), trivial⟩, ?_⟩
          have kk : Kept none' w v4 := by
            have q0 := k0
            have q1 : Kept none' w v1 := e1 ▸ q0.allocMap _ _
            have q2 : Kept none' w v2 := e2 ▸ q1.allocMap _ _
            have q3 : Kept none' w v3 := e3 ▸ q2.allocMap _ _
            have q4 : Kept none' w v4 := q3.al e4
            exact q4
          exact fun v5 e5 => ck_leaf kk hpx ⟨by omega, by omega, by omega, by omega⟩ (by omega) (own_alloc e4) ((((map_new e1).al e2).al e3).al e4) ((map_new e3).al e4) (((map_new e2).al e3).al e4) e5
    · intro v1 e1
      have z1 : v1.heap.size = v0.heap.size + 1 := by rw [e1]; simp only [World.alloc, Array.size_push]
      have p1 := p0.al e1
      refine ⟨⟨(p1.rd 94).trans h94, trivial⟩, ?_⟩
      refine ⟨⟨p1.rdAll (vs := picC S x.c) 0 (fun j _ => by rw [Nat.zero_add]), trivial⟩, ?_⟩
      refine ⟨?_, ?_, ?_⟩
      · refine Wif_yes hmk (fun v2 e2 => ?_)
        have z2 : v2.heap.size = v1.heap.size + 1 := by rw [e2]; simp only [World.alloc, Array.size_push]
        have p2 := p1.al e2
        refine ⟨⟨p2.rdAll (vs := picC S x.c) 0 (fun j _ => by rw [Nat.zero_add]), trivial⟩, ?_⟩
        refine ⟨?_, ?_⟩
        · intro v3 e3
          have z3 : v3.heap.size = v2.heap.size + 1 := by rw [e3]; simp only [World.alloc, Array.size_push]
          have p3 := p2.al e3
          refine ⟨⟨p3.rdAll (vs := picC S x.c) 0 (fun j _ => by rw [Nat.zero_add]), trivial⟩, ?_⟩
          intro v4 e4
          have z4 : v4.heap.size = v3.heap.size + 1 := by rw [e4]; simp only [World.alloc, Array.size_push]
          have p4 := p3.al e4
          refine ⟨⟨p4.rdAll (vs := picC S x.c) 0 (fun j _ => by rw [Nat.zero_add]), trivial⟩, ?_⟩
          have kk : Kept none' w v4 := by
            have q0 := k0
            have q1 : Kept none' w v1 := e1 ▸ q0.allocMap _ _
            have q2 : Kept none' w v2 := q1.al e2
            have q3 : Kept none' w v3 := e3 ▸ q2.allocMap _ _
            have q4 : Kept none' w v4 := e4 ▸ q3.allocMap _ _
            exact q4
          exact fun v5 e5 => ck_leaf kk hpx ⟨by omega, by omega, by omega, by omega⟩ (by omega) (((own_alloc e2).al e3).al e4) ((map_new e3).al e4) ((((map_new e1).al e2).al e3).al e4) (map_new e4) e5
        · intro v3 e3
          have z3 : v3.heap.size = v2.heap.size + 1 := by rw [e3]; simp only [World.alloc, Array.size_push]
          have p3 := p2.al e3
          refine ⟨⟨p3.rdAll (vs := picC S x.c) 0 (fun j _ => by rw [Nat.zero_add]), trivial⟩, ?_⟩
          intro v4 e4
          have z4 : v4.heap.size = v3.heap.size + 1 := by rw [e4]; simp only [World.alloc, Array.size_push]
          have p4 := p3.al e4
          refine ⟨⟨p4.rdAll (vs := picC S x.c) 0 (fun j _ => by rw [Nat.zero_add]), trivial⟩, ?_⟩
          have kk : Kept none' w v4 := by
            have q0 := k0
            have q1 : Kept none' w v1 := e1 ▸ q0.allocMap _ _
            have q2 : Kept none' w v2 := q1.al e2
            have q3 : Kept none' w v3 := e3 ▸ q2.allocMap _ _
            have q4 : Kept none' w v4 := e4 ▸ q3.allocMap _ _
            exact q4
          exact fun v5 e5 => ck_leaf kk hpx ⟨by omega, by omega, by omega, by omega⟩ (by omega) (((own_alloc e2).al e3).al e4) (map_new e4) ((((map_new e1).al e2).al e3).al e4) ((map_new e3).al e4) e5
      · intro v2 e2
        have z2 : v2.heap.size = v1.heap.size + 1 := by rw [e2]; simp only [World.alloc, Array.size_push]
        have p2 := p1.al e2
        refine ⟨⟨(p2.rd 94).trans h94, trivial⟩, ?_⟩
        refine ⟨⟨p2.rdAll (vs := picC S x.c) 0 (fun j _ => by rw [Nat.zero_add]), trivial⟩, ?_⟩
        refine ⟨?_, ?_⟩
        · refine Wif_yes hmk (fun v3 e3 => ?_)
          have z3 : v3.heap.size = v2.heap.size + 1 := by rw [e3]; simp only [World.alloc, Array.size_push]
          have p3 := p2.al e3
          refine ⟨⟨p3.rdAll (vs := picC S x.c) 0 (fun j _ => by rw [Nat.zero_add]), trivial⟩, ?_⟩
          intro v4 e4
          have z4 : v4.heap.size = v3.heap.size + 1 := by rw [e4]; simp only [World.alloc, Array.size_push]
          have p4 := p3.al e4
          refine ⟨⟨p4.rdAll (vs := picC S x.c) 0 (fun j _ => by rw [Nat.zero_add]), trivial⟩, ?_⟩
          have kk : Kept none' w v4 := by
            have q0 := k0
            have q1 : Kept none' w v1 := e1 ▸ q0.allocMap _ _
            have q2 : Kept none' w v2 := e2 ▸ q1.allocMap _ _
            have q3 : Kept none' w v3 := q2.al e3
            have q4 : Kept none' w v4 := e4 ▸ q3.allocMap _ _
            exact q4
          exact fun v5 e5 => ck_leaf kk hpx ⟨by omega, by omega, by omega, by omega⟩ (by omega) ((own_alloc e3).al e4) (((map_new e2).al e3).al e4) ((((map_new e1).al e2).al e3).al e4) (map_new e4) e5
        · intro v3 e3
          have z3 : v3.heap.size = v2.heap.size + 1 := by rw [e3]; simp only [World.alloc, Array.size_push]
          have p3 := p2.al e3
          refine ⟨⟨(p3.rd 94).trans h94, trivial⟩, ?_⟩
          refine ⟨⟨p3.rdAll (vs := picC S x.c) 0 (fun j _ => by rw [Nat.zero_add]), trivial⟩, ?_⟩
          refine Wif_yes hmk (fun v4 e4 => ?_)
          have z4 : v4.heap.size = v3.heap.size + 1 := by rw [e4]; simp only [World.alloc, Array.size_push]
          have p4 := p3.al e4
          refine ⟨⟨p4.rdAll (vs := picC S x.c) 0 (fun j _ => by rw [Nat.zero_add]), trivial⟩, ?_⟩
          have kk : Kept none' w v4 := by
            have q0 := k0
            have q1 : Kept none' w v1 := e1 ▸ q0.allocMap _ _
            have q2 : Kept none' w v2 := e2 ▸ q1.allocMap _ _
            have q3 : Kept none' w v3 := e3 ▸ q2.allocMap _ _
            have q4 : Kept none' w v4 := q3.al e4
            exact q4
          exact fun v5 e5 => ck_leaf kk hpx ⟨by omega, by omega, by omega, by omega⟩ (by omega) (own_alloc e4) (((map_new e2).al e3).al e4) ((((map_new e1).al e2).al e3).al e4) ((map_new e3).al e4) e5
      · intro v2 e2
        have z2 : v2.heap.size = v1.heap.size + 1 := by rw [e2]; simp only [World.alloc, Array.size_push]
        have p2 := p1.al e2
        refine ⟨⟨(p2.rd 94).trans h94, trivial⟩, ?_⟩
        refine ⟨⟨p2.rdAll (vs := picC S x.c) 0 (fun j _ => by rw [Nat.zero_add]), trivial⟩, ?_⟩
        refine ⟨?_, ?_⟩
        · refine Wif_yes hmk (fun v3 e3 => ?_)
          have z3 : v3.heap.size = v2.heap.size + 1 := by rw [e3]; simp only [World.alloc, Array.size_push]
          have p3 := p2.al e3
          refine ⟨⟨p3.rdAll (vs := picC S x.c) 0 (fun j _ => by rw [Nat.zero_add]), trivial⟩, ?_⟩
          intro v4 e4
          have z4 : v4.heap.size = v3.heap.size + 1 := by rw [e4]; simp only [World.alloc, Array.size_push]
          have p4 := p3.al e4
          refine ⟨⟨p4.rdAll (vs := picC S x.c) 0 (fun j _ => by rw [Nat.zero_add]), trivial⟩, ?_⟩
          have kk : Kept none' w v4 := by
            have q0 := k0
            have q1 : Kept none' w v1 := e1 ▸ q0.allocMap _ _
            have q2 : Kept none' w v2 := e2 ▸ q1.allocMap _ _
            have q3 : Kept none' w v3 := q2.al e3
            have q4 : Kept none' w v4 := e4 ▸ q3.allocMap _ _
            exact q4
          exact fun v5 e5 => ck_leaf kk hpx ⟨by omega, by omega, by omega, by omega⟩ (by omega) ((own_alloc e3).al e4) (map_new e4) ((((map_new e1).al e2).al e3).al e4) (((map_new e2).al e3).al e4) e5
        · intro v3 e3
          have z3 : v3.heap.size = v2.heap.size + 1 := by rw [e3]; simp only [World.alloc, Array.size_push]
          have p3 := p2.al e3
          refine ⟨⟨(p3.rd 94).trans h94, trivial⟩, ?_⟩
          refine ⟨⟨p3.rdAll (vs := picC S x.c) 0 (fun j _ => by rw [Nat.zero_add]), trivial⟩, ?_⟩
          refine Wif_yes hmk (fun v4 e4 => ?_)
          have z4 : v4.heap.size = v3.heap.size + 1 := by rw [e4]; simp only [World.alloc, Array.size_push]
          have p4 := p3.al e4
          refine ⟨⟨p4.rdAll (vs := picC S x.c) 0 (fun j _ => by rw [Nat.zero_add]), trivial⟩, ?_⟩
          have kk : Kept none' w v4 := by
            have q0 := k0
            have q1 : Kept none' w v1 := e1 ▸ q0.allocMap _ _
            have q2 : Kept none' w v2 := e2 ▸ q1.allocMap _ _
            have q3 : Kept none' w v3 := e3 ▸ q2.allocMap _ _
            have q4 : Kept none' w v4 := q3.al e4
            exact q4
          exact fun v5 e5 => ck_leaf kk hpx ⟨by omega, by omega, by omega, by omega⟩ (by omega) (own_alloc e4) ((map_new e3).al e4) ((((map_new e1).al e2).al e3).al e4) (((map_new e2).al e3).al e4) e5
    · intro v1 e1
      have z1 : v1.heap.size = v0.heap.size + 1 := by rw [e1]; simp only [World.alloc, Array.size_push]
      have p1 := p0.al e1
      refine ⟨⟨(p1.rd 94).trans h94, trivial⟩, ?_⟩
      refine ⟨⟨p1.rdAll (vs := picC S x.c) 0 (fun j _ => by rw [Nat.zero_add]), trivial⟩, ?_⟩
      refine ⟨?_, ?_, ?_⟩
      · refine Wif_yes hmk (fun v2 e2 => ?_)
        have z2 : v2.heap.size = v1.heap.size + 1 := by rw [e2]; simp only [World.alloc, Array.size_push]
        have p2 := p1.al e2
        refine ⟨⟨p2.rdAll (vs := picC S x.c) 0 (fun j _ => by rw [Nat.zero_add]), trivial⟩, ?_⟩
        refine ⟨?_, ?_⟩
        · intro v3 e3
          have z3 : v3.heap.size = v2.heap.size + 1 := by rw [e3]; simp only [World.alloc, Array.size_push]
          have p3 := p2.al e3
          refine ⟨⟨p3.rdAll (vs := picC S x.c) 0 (fun j _ => by rw [Nat.zero_add]), trivial⟩, ?_⟩
          intro v4 e4
          have z4 : v4.heap.size = v3.heap.size + 1 := by rw [e4]; simp only [World.alloc, Array.size_push]
          have p4 := p3.al e4
          refine ⟨⟨p4.rdAll (vs := picC S x.c) 0 (fun j _ => by rw [Nat.zero_add]), trivial⟩, ?_⟩
          have kk : Kept none' w v4 := by
            have q0 := k0
            have q1 : Kept none' w v1 := e1 ▸ q0.allocMap _ _
            have q2 : Kept none' w v2 := q1.al e2
            have q3 : Kept none' w v3 := e3 ▸ q2.allocMap _ _
            have q4 : Kept none' w v4 := e4 ▸ q3.allocMap _ _
            exact q4
          exact fun v5 e5 => ck_leaf kk hpx ⟨by omega, by omega, by omega, by omega⟩ (by omega) (((own_alloc e2).al e3).al e4) ((map_new e3).al e4) (map_new e4) ((((map_new e1).al e2).al e3).al e4) e5
        · intro v3 e3
          have z3 : v3.heap.size = v2.heap.size + 1 := by rw [e3]; simp only [World.alloc, Array.size_push]
          have p3 := p2.al e3
          refine ⟨⟨p3.rdAll (vs := picC S x.c) 0 (fun j _ => by rw [Nat.zero_add]), trivial⟩, ?_⟩
          intro v4 e4
          have z4 : v4.heap.size = v3.heap.size + 1 := by rw [e4]; simp only [World.alloc, Array.size_push]
          have p4 := p3.al e4
          refine ⟨⟨p4.rdAll (vs := picC S x.c) 0 (fun j _ => by rw [Nat.zero_add]), trivial⟩, ?_⟩
          have kk : Kept none' w v4 := by
            have q0 := k0
            have q1 : Kept none' w v1 := e1 ▸ q0.allocMap _ _
            have q2 : Kept none' w v2 := q1.al e2
            have q3 : Kept none' w v3 := e3 ▸ q2.allocMap _ _
            have q4 : Kept none' w v4 := e4 ▸ q3.allocMap _ _
            exact q4
          exact fun v5 e5 => ck_leaf kk hpx ⟨by omega, by omega, by omega, by omega⟩ (by omega) (((own_alloc e2).al e3).al e4) (map_new e4) ((map_new e3).al e4) ((((map_new e1).al e2).al e3).al e4) e5
      · intro v2 e2
        have z2 : v2.heap.size = v1.heap.size + 1 := by rw [e2]; simp only [World.alloc, Array.size_push]
        have p2 := p1.al e2
        refine ⟨⟨(p2.rd 94).trans h94, trivial⟩, ?_⟩
        refine ⟨⟨p2.rdAll (vs := picC S x.c) 0 (fun j _ => by rw [Nat.zero_add]), trivial⟩, ?_⟩
        refine ⟨?_, ?_⟩
        · refine Wif_yes hmk (fun v3 e3 => ?_)
          have z3 : v3.heap.size = v2.heap.size + 1 := by rw [e3]; simp only [World.alloc, Array.size_push]
          have p3 := p2.al e3
          refine ⟨⟨p3.rdAll (vs := picC S x.c) 0 (fun j _ => by rw [Nat.zero_add]), trivial⟩, ?_⟩
          intro v4 e4
          have z4 : v4.heap.size = v3.heap.size + 1 := by rw [e4]; simp only [World.alloc, Array.size_push]
          have p4 := p3.al e4
          refine ⟨⟨p4.rdAll (vs := picC S x.c) 0 (fun j _ => by rw [Nat.zero_add]), trivial⟩, ?_⟩
          have kk : Kept none' w v4 := by
            have q0 := k0
            have q1 : Kept none' w v1 := e1 ▸ q0.allocMap _ _
            have q2 : Kept none' w v2 := e2 ▸ q1.allocMap _ _
            have q3 : Kept none' w v3 := q2.al e3
            have q4 : Kept none' w v4 := e4 ▸ q3.allocMap _ _
            exact q4
          exact fun v5 e5 => ck_leaf kk hpx ⟨by omega, by omega, by omega, by omega⟩ (by omega) ((own_alloc e3).al e4) (((map_new e2).al e3).al e4) (map_new e4) ((((map_new e1).al e2).al e3).al e4) e5
        · intro v3 e3
          have z3 : v3.heap.size = v2.heap.size + 1 := by rw [e3]; simp only [World.alloc, Array.size_push]
          have p3 := p2.al e3
          refine ⟨⟨(p3.rd 94).trans h94, trivial⟩, ?_⟩
          refine ⟨⟨p3.rdAll (vs := picC S x.c) 0 (fun j _ => by rw [Nat.zero_add]), trivial⟩, ?_⟩
          refine Wif_yes hmk (fun v4 e4 => ?_)
          have z4 : v4.heap.size = v3.heap.size + 1 := by rw [e4]; simp only [World.alloc, Array.size_push]
          have p4 := p3.al e4
          refine ⟨⟨p4.rdAll (vs := picC S x.c) 0 (fun j _ => by rw [Nat.zero_add]), trivial⟩, ?_⟩
          have kk : Kept none' w v4 := by
            have q0 := k0
            have q1 : Kept none' w v1 := e1 ▸ q0.allocMap _ _
            have q2 : Kept none' w v2 := e2 ▸ q1.allocMap _ _
            have q3 : Kept none' w v3 := e3 ▸ q2.allocMap _ _
            have q4 : Kept none' w v4 := q3.al e4
            exact q4
          exact fun v5 e5 => ck_leaf kk hpx ⟨by omega, by omega, by omega, by omega⟩ (by omega) (own_alloc e4) (((map_new e2).al e3).al e4) ((map_new e3).al e4) ((((map_new e1).al e2).al e3).al e4) e5
      · intro v2 e2
        have z2 : v2.heap.size = v1.heap.size + 1 := by rw [e2]; simp only [World.alloc, Array.size_push]
        have p2 := p1.al e2
        refine ⟨⟨(p2.rd 94).trans h94, trivial⟩, ?_⟩
        refine ⟨⟨p2.rdAll (vs := picC S x.c) 0 (fun j _ => by rw [Nat.zero_add]), trivial⟩, ?_⟩
        refine ⟨?_, ?_⟩
        · refine Wif_yes hmk (fun v3 e3 => ?_)
          have z3 : v3.heap.size = v2.heap.size + 1 := by rw [e3]; simp only [World.alloc, Array.size_push]
          have p3 := p2.al e3
          refine ⟨⟨p3.rdAll (vs := picC S x.c) 0 (fun j _ => by rw [Nat.zero_add]), trivial⟩, ?_⟩
          intro v4 e4
          have z4 : v4.heap.size = v3.heap.size + 1 := by rw [e4]; simp only [World.alloc, Array.size_push]
          have p4 := p3.al e4
          refine ⟨⟨p4.rdAll (vs := picC S x.c) 0 (fun j _ => by rw [Nat.zero_add]), trivial⟩, ?_⟩
          have kk : Kept none' w v4 := by
            have q0 := k0
            have q1 : Kept none' w v1 := e1 ▸ q0.allocMap _ _
            have q2 : Kept none' w v2 := e2 ▸ q1.allocMap _ _
            have q3 : Kept none' w v3 := q2.al e3
            have q4 : Kept none' w v4 := e4 ▸ q3.allocMap _ _
            exact q4
          exact fun v5 e5 => ck_leaf kk hpx ⟨by omega, by omega, by omega, by omega⟩ (by omega) ((own_alloc e3).al e4) (map_new e4) (((map_new e2).al e3).al e4) ((((map_new e1).al e2).al e3).al e4) e5
        · intro v3 e3
          have z3 : v3.heap.size = v2.heap.size + 1 := by rw [e3]; simp only [World.alloc, Array.size_push]
          have p3 := p2.al e3
          refine ⟨⟨(p3.rd 94).trans h94, trivial⟩, ?_⟩
          refine ⟨⟨p3.rdAll (vs := picC S x.c) 0 (fun j _ => by rw [Nat.zero_add]), trivial⟩, ?_⟩
          refine Wif_yes hmk (fun v4 e4 => ?_)
          have z4 : v4.heap.size = v3.heap.size + 1 := by rw [e4]; simp only [World.alloc, Array.size_push]
          have p4 := p3.al e4
          refine ⟨⟨p4.rdAll (vs := picC S x.c) 0 (fun j _ => by rw [Nat.zero_add]), trivial⟩, ?_⟩
          have kk : Kept none' w v4 := by
            have q0 := k0
            have q1 : Kept none' w v1 := e1 ▸ q0.allocMap _ _
            have q2 : Kept none' w v2 := e2 ▸ q1.allocMap _ _
            have q3 : Kept none' w v3 := e3 ▸ q2.allocMap _ _
            have q4 : Kept none' w v4 := q3.al e4
            exact q4
          exact fun v5 e5 => ck_leaf kk hpx ⟨by omega, by omega, by omega, by omega⟩ (by omega) (own_alloc e4) ((map_new e3).al e4) (((map_new e2).al e3).al e4) ((((map_new e1).al e2).al e3).al e4) e5
  rintro p w3 hI
  obtain ⟨TB, om, sm, pm, k, rfl, k3, hge, hne, ok, oT, mo, ms, mp⟩ := hI.ex
  have rC : ∀ (j : Nat) (u : Value), (picC S x.c)[j]? = some u → rd w3 k j = some u := fun j u hu => by
    rw [ok.rd, List.getElem?_append_left (List.getElem?_eq_some_iff.1 hu).1]; exact hu
  have rE : ∀ j, rd w3 k (107 + j) = [Value.slice (some ⟨TB, 0, none⟩) (S.l 0) (S.l 0), .map (some om), .map (some sm), .map (some pm)][j]? := fun j => by
    rw [ok.rd, List.getElem?_append_right (by rw [picC_len]; omega), picC_len, Nat.add_sub_cancel_left]
  have pic : PicAt w3 k S x.c := ⟨fun i hi => rC _ _ (picC_c S x.c hi), fun i hi => rC _ _ (picC_s S x.c hi)⟩
  refine (count_spec (x := x) (n := S.l 0) P k3 hge pic.sl (rE 0) (rE 1) (rE 2) (rE 3) hne oT mo ms mp (hml ▸ hct) hS.2.2.1).mono ?_
  rintro _ w4 ⟨rfl, hCt⟩
  obtain ⟨lk4, k4⟩ := lkAt_of hCt hml (by omega) P k3 hge pic (rE 0) (rE 1) (rE 2) (rE 3) ⟨hne.1, hne.2.1, hne.2.2.1, hne.2.2.2.1⟩
  refine ⟨rfl, fun w5 e5 => ?_⟩
  have ofn := own_alloc (c := [.func (.func 20) #[] #[], .func (.func 21) #[] #[], .func (.func 22) #[] #[], .func (.func 23) #[] #[], .func (.func 24) #[] #[], .func (.func 25) #[] #[], .func (.func 26) #[] #[], .func (.func 27) #[] #[]]) e5
  have k45 : Kept none' w4 w5 := (Kept.refl _ _).al e5
  have k5 := k4.tr k45
  have lk5 := lk4.k k45
  generalize hfb : w4.heap.size = fb at *
  -- what the lookers tell
  obtain ⟨hm, hlens, hnds, ht⟩ := hS
  obtain ⟨t1, t2, t3, t4, t5, t6, t7, t8, t9, t10, t11⟩ := ht
  obtain ⟨r1, r2⟩ := rise_facts t9
  have hpn : (x.procs.map Proc.pid).Nodup := r2.imp fun h => by omega
  have hc0 := hm.1
  have hhold := hlens.holders
  have hc90 := hm.2.2.1
  have key : ∀ q, q < 8 → ∃ v, [Value.func (.func 20) #[] #[], .func (.func 21) #[] #[], .func (.func 22) #[] #[], .func (.func 23) #[] #[], .func (.func 24) #[] #[], .func (.func 25) #[] #[], .func (.func 26) #[] #[], .func (.func 27) #[] #[]][q]? = some v ∧ ∀ w', LkAt w' k S x → CallsV Tryz.prog v [pt k] w' (Looks w' (lookF x q)) := by
    intro q hq
    match q, hq with
    | 0, _ =>
      refine ⟨_, rfl, fun w' h => CallsV.fn (by kernel_rfl) ?_⟩
      obtain ⟨ta, tl, tc, h1, h2⟩ := h.th
      exact frames_spec h1 h2 (by simp; omega)
    | 1, _ => exact ⟨_, rfl, fun w' h => CallsV.fn (by kernel_rfl) (roles_spec h hnds (by omega))⟩
    | 2, _ =>
      have := hSm.procs; have := hSm.frames; have := hSm.slots
      exact ⟨_, rfl, fun w' h => CallsV.fn (by kernel_rfl) (entries_spec h hpn (by omega) (by omega) (by omega) fun p hp => by have := fm_mem_len (f := Proc.pages) hp; have := hSm.pages; omega)⟩
    | 3, _ =>
      have hu : (usedL x).length ≤ x.flight.length + (x.procs.flatMap Proc.pages).length := by
        have h1 : (x.procs.flatMap slotL).length ≤ (x.procs.flatMap Proc.pages).length := by
          generalize x.procs = L
          induction L with
          | nil => simp
          | cons a L ih =>
            rw [List.flatMap_cons, List.flatMap_cons, List.length_append, List.length_append]
            have : (slotL a).length ≤ a.pages.length := by
              unfold slotL
              rw [List.length_map]
              exact List.length_filter_le _ _
            omega
        have h2 := List.length_filter_le (fun f => decide (f ≥ 0)) x.flight
        simp only [usedL, List.length_append]
        omega
      have ht' : (takenL x).length = x.slots.length := by simp [takenL]
      have := hSm.flight; have := hSm.pages; have := hSm.slots
      refine ⟨_, rfl, fun w' h => CallsV.fn (by kernel_rfl) (slots_spec h (fun s hs => ?_) (by omega))⟩
      rcases hs with hs | hs
      · obtain ⟨o, ho, rfl⟩ := List.mem_map.1 hs
        have := (t11 o ho).1
        unfold SlP at this
        omega
      · rcases List.mem_append.1 hs with hs | hs
        · obtain ⟨h1, h2⟩ := List.mem_filter.1 hs
          have := t3 s h1
          unfold SlP at this
          omega
        · obtain ⟨p, hp, hs⟩ := List.mem_flatMap.1 hs
          obtain ⟨m, hm', rfl⟩ := List.mem_map.1 hs
          obtain ⟨h1, h2⟩ := List.mem_filter.1 hm'
          have := (r1 p hp).2.2.2.2.2 m h1
          have h2 : m.kind = 2 := by simpa using h2
          have := this.2.2.resolve_left (fun hh => hh h2)
          unfold SlP at this
          omega
    | 4, _ =>
      have := hSm.frames
      exact ⟨_, rfl, fun w' h => CallsV.fn (by kernel_rfl) (clocks_spec h hm hlens.clocks (fun o ho => (t10 o ho).1) (by omega) fun cl hcl => by have := hSm.cl cl hcl; omega)⟩
    | 5, _ =>
      have := hSm.many; have := hSm.slabs; have := hSm.mags; have := hSm.depots
      refine ⟨_, rfl, fun w' h => CallsV.fn (by kernel_rfl) (objects_spec h hnds (fun s hs => (slb_count (t8 s hs)).2) (by omega) (by omega) (by omega) fun m hm' => ?_)⟩
      rcases List.mem_append.1 hm' with hm' | hm'
      · have := (t5 m hm').1; omega
      · have := (t7 m hm').1; omega
    | 6, _ =>
      have := hSm.pinned
      exact ⟨_, rfl, fun w' h => CallsV.fn (by kernel_rfl) (pins_spec h (fun p hp => by have := r1 p hp; omega) (by omega) (by omega))⟩
    | 7, _ =>
      exact ⟨_, rfl, fun w' h => CallsV.fn (by kernel_rfl) (locks_spec h.pic h.P (by omega))⟩
  refine ⟨fun a l c n w' M => ∃ (q : Nat) (rows : Nat → List Int), n = (q : Int) ∧ q ≤ 8 ∧ M = 8 - q ∧ Kept none' w5 w' ∧ RowsOk x rows q ∧ RowF w' w5.heap.size a l c (faultsOf rows q) ∧ (faultsOf rows q).length ≤ 10000000 * q, ⟨8, 0, fun _ => [], rfl, by omega, rfl, Kept.refl _ _, fun i hi => by omega, ⟨rfl, World.ownsRow_nil _ _ _ _⟩, by simp [faultsOf]⟩, ?_⟩
  rintro a l c _ w6 _ ⟨q, rows, rfl, hq, rfl, k56, hrows, row, hrl⟩
  refine Wif_intro (fun hc => ?_) (fun hc => ?_)
  · have hq8 : q < 8 := by simp at hc; omega
    obtain ⟨v, hv, hcall⟩ := key q hq8
    refine Wif_yes (inB_of (by omega) (by omega)) ⟨v, ?_, ?_⟩
    · rw [Int.toNat_natCast, Nat.zero_add, Nat.mul_one, (ofn.k k56).rd]
      exact hv
    refine CallsV.mono (hcall w6 (lk5.k k56)) ?_
    rintro _ w7 ⟨a1, l1, c1, xs, rfl, k67, row1, hxl, hxs⟩
    refine ⟨a1, l1, c1, rfl, (sort_row row1 (by omega)).mono ?_⟩
    rintro _ w8 ⟨rfl, row2, k78⟩
    have hsp : (sortI xs).Pairwise (· ≤ ·) := by
      have := List.pairwise_mergeSort (le := fun x y : Int => decide (x ≤ y)) (by intro a b c h1 h2; simp at *; omega) (by intro a b; simp; omega) xs
      exact this.imp fun h => by simpa using h
    refine ⟨rfl, (compact_row row2 hsp (by simp [sortI]; omega)).mono ?_⟩
    rintro _ w9 ⟨l2, ys, rfl, row3, hyp, hys, k89⟩
    have k69 : Kept none' w6 w9 := own0 (own0 k67 k78 fun b hb => (row1.ge hb).1) k89 fun b hb => (row2.ge hb).1
    have k59 := k56.tr k69
    have hyl : ys.length ≤ 10000000 := by
      have h1 : ys.Nodup := hyp.imp fun h => by omega
      have h2 : ys ⊆ xs := fun n hn => by
        have := (hys n).1 hn
        unfold sortI at this
        exact List.mem_mergeSort.1 this
      have := nodup_sub_len h1 h2
      omega
    have hymem : ∀ n, n ∈ ys ↔ lookF x q n := fun n => by
      rw [hys n, ← hxs n]
      unfold sortI
      exact List.mem_mergeSort
    have hs3 := sl_of_row row3.1 row3.2
    have hl2 : l2 = ys.length := row3.1
    have row9 : RowF w9 w5.heap.size a l c (faultsOf rows q) := ⟨row.1, ownsRow_kx row.2 k69 fun _ _ _ _ => id⟩
    refine ⟨a1, l2, c1, rfl, fun a l c n w' M => ∃ (i : Nat), n = (i : Int) ∧ i ≤ ys.length ∧ M = ys.length - i ∧ Kept none' w5 w' ∧ w9.heap.size ≤ w'.heap.size ∧ SlR RInt 1 w' a1 l2 c1 ys ∧ (∀ b, (Value.slice a l c).ownBlock = some b → (Value.slice a1 l2 c1).ownBlock ≠ some b) ∧ RowF w' w5.heap.size a l c (faultsOf rows q ++ (ys.take i).map fun n => ((2 : Int) + (q : Int), n)), ⟨ys.length, 0, rfl, by omega, rfl, k59, Nat.le_refl _, hs3, fun b hb hb2 => ?_, by simpa using row9⟩, ?_⟩
    · obtain ⟨rfl, rr⟩ := row
      have h1 := (rr.lt b hb).2
      have h2 := (row3.ge hb2).1
      omega
    clear hs3 row9
    rintro a l c _ w10 _ ⟨i, rfl, hi, rfl, k510, hs910, hs10, hdis, row10⟩
    refine Wif_intro (fun hc2 => ?_) (fun hc2 => ?_)
    · have hil : i < ys.length := by simp at hc2; omega
      obtain ⟨y, hy⟩ : ∃ y, ys[i]? = some y := ⟨ys[i], List.getElem?_eq_getElem hil⟩
      obtain ⟨cs, _, hR, hr⟩ := hs10.el i y hy
      obtain rfl : cs = [vi y] := hR
      refine Wif_yes (hs10.isp (by omega)) (Wif_yes (inB_of (by omega) (by omega)) ?_)
      rw [Int.toNat_natCast]
      refine ⟨y, hr 0 _ rfl, ?_⟩
      rw [wrap_kind hq8]
      intro w11 e11
      have o11 := own_alloc (c := [.int .u8 ((2 : Int) + (q : Int)), vi y]) e11
      have q11 : Kept none' w10 w11 := (Kept.refl _ _).al e11
      have hinfo := info_fault
      cases hi2 : Tryz.prog.info? 83 with
      | none => rw [hi2] at hinfo; cases hinfo
      | some i0 =>
      rw [hi2] at hinfo
      simp at hinfo
      have row11 : w11.ownsRow w5.heap.size 83 2 (.slice a l c) l (fltC (faultsOf rows q ++ (ys.take i).map fun n => ((2 : Int) + (q : Int), n))) := ownsRow_kx row10.2 q11 fun _ _ _ _ => id
      have hlen : l = (faultsOf rows q).length + i := by
        rw [row10.1, List.length_append, List.length_map, List.length_take]; omega
      have hsz := k510.sz
      have hsz1 := q11.sz
      obtain ⟨a', l', c', w12, happ, rfl, row12, k1112, hsn⟩ := app_any (P := Tryz.prog) (t := 39) (e := 83) (i := i0) (z := .agg #[.int .u8 0, .int .i64 0]) (size := 2) Tryz.underlying39 hi2 hinfo.1 hinfo.2.1 rfl (by decide) row11 o11 (m := 1) (off := 0) (c := 1) (news := [.int .u8 ((2 : Int) + (q : Int)), vi y]) rfl rfl (fun u hu => by simp at hu; rcases hu with rfl | rfl <;> rfl) (by omega) (by omega) (by omega)
      have hge5 : ∀ b, (Value.slice a l c).ownBlock = some b → w5.heap.size ≤ b := fun b hb => (row11.lt b hb).1
      refine ⟨a', _, c', w12, happ, ys.length - (i + 1), by omega, i + 1, by rw [wi (by omega)]; rfl, by omega, rfl, own0 (k510.tr q11) k1112 hge5, by have := k1112.sz; omega, ?_, ?_, ?_⟩
      · -- the sorted row has its own block
        have hs11 := hs10.k RInt.stab q11
        refine ⟨hs11.len, hs11.isp, hs11.nil, hs11.lc, hs11.mx, fun j z hz => ?_⟩
        obtain ⟨cs, g1, g2, g3⟩ := hs11.el j z hz
        refine ⟨cs, g1, g2, fun o u hu => k1112.rd_some (g3 o u hu) fun hb => ?_⟩
        have hp := isP_spec (hs11.isp (by have := (List.getElem?_eq_some_iff.1 hz).1; have := hs11.len; omega))
        refine hdis _ hb ?_
        rw [hp]
        rcases row3.2.2 with ⟨hv', _⟩ | ⟨g, cap, cur, hv', _⟩
        · cases hv'; cases hp
        · cases hv'; rfl
      · intro b hb hb2
        rcases hsn with hsn | hsn
        · rw [hsn] at hb
          exact hdis b hb hb2
        · have h1 := hsn b hb
          have h2 := (row3.ge hb2).2
          omega
      · refine ⟨?_, ?_⟩
        · rw [hlen, List.length_append, List.length_map, List.length_take]; omega
        · rw [take_snoc hy, List.map_append, ← List.append_assoc, fltC_app]
          exact row12
    · have hil : i = ys.length := by simp at hc2; omega
      subst hil
      rw [List.take_length] at row10
      have hE : faultsOf (fun j => if j = q then ys else rows j) (q + 1) = faultsOf rows q ++ ys.map fun n => ((2 : Int) + (q : Int), n) := by
        unfold faultsOf
        rw [List.range_succ, List.flatMap_append]
        congr 1
        · refine flatMap_congr' fun j hj => ?_
          have : j ≠ q := by have := List.mem_range.1 hj; omega
          simp [this]
        · simp
      refine ⟨8 - (q + 1), by omega, q + 1, fun j => if j = q then ys else rows j, by rw [wi (by omega)]; rfl, by omega, rfl, k510, fun j hj => ?_, by rw [hE]; exact row10, by rw [hE, List.length_append, List.length_map]; omega⟩
      by_cases hjq : j = q
      · subst hjq
        simp only [if_true]
        exact ⟨hyp, hymem⟩
      · simp only [if_neg hjq]
        exact hrows j (by omega)
  · have hq8 : q = 8 := by simp at hc; omega
    subst hq8
    exact ⟨a, l, c, faultsOf rows 8, rfl, k5.tr k56, row.sl, fun hn => absurd ⟨hm, hlens, hnds, ⟨t1, t2, t3, t4, t5, t6, t7, t8, t9, t10, t11⟩⟩ hn, fun _ => ⟨rows, hrows, rfl⟩⟩
end Go.Proofs.YtikjgeenhbnkkaaGreatDoor
