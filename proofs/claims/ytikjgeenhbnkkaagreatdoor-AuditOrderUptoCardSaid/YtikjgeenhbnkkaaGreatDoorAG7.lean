/-
  A part of a proof that a law of this seat returns true at every input. Conditions: those in each theorem.
-/
import Derived.Test.YtikjgeenhbnkkaaGreatDoorAVD
import Derived.Test.YtikjgeenhbnkkaaGreatDoorAV6
set_option linter.unusedSimpArgs false
set_option linter.unusedVariables false
set_option maxRecDepth 100000
namespace Go.Proofs.YtikjgeenhbnkkaaGreatDoor
open Go Eng
def slabO (s : Slab) : List (Int × Int) := s.chain.map (fun i => (s.frame, i)) ++ s.alive.map fun a => (s.frame, a.1)
def manyL (x : Pic) : List (Int × Int) := x.slabs.flatMap slabO ++ x.flying.flatMap id ++ (x.mags ++ x.depots).flatMap fun m => m.flatMap id
def ClsIs (x : Pic) (f c : Int) : Prop := (∃ s ∈ x.slabs, s.frame = f ∧ s.cls = c) ∨ ((∀ s ∈ x.slabs, s.frame ≠ f) ∧ c = 0)
def MagF (x : Pic) (m : List (List (Int × Int))) (n : Int) : Prop := ∃ (cls : Nat) (l : List (Int × Int)), m[cls]? = some l ∧ ∃ o ∈ l, n = o.1 ∧ ¬ ClsIs x o.1 cls
def SlbF (x : Pic) (s : Slab) (n : Int) : Prop := n = s.frame ∧ ∃ i : Nat, (i : Int) < s.count ∧ cnO (manyL x) (s.frame, (i : Int)) ≠ 1
def ObjF (x : Pic) (n : Int) : Prop := (∃ m ∈ x.mags ++ x.depots, MagF x m n) ∨ ∃ s ∈ x.slabs, SlbF x s n
theorem cls_uniq {x : Pic} (hnd : (x.slabs.map Slab.frame).Nodup) {f c c' : Int} (h : ClsIs x f c) (h' : ClsIs x f c') : c = c' := by
  rcases h with ⟨s, h1, h2, h3⟩ | ⟨h1, h2⟩ <;> rcases h' with ⟨s', h1', h2', h3'⟩ | ⟨h1', h2'⟩
  · have := inj_of_nodup hnd h1 h1' (h2.trans h2'.symm)
    subst this
    omega
  · exact absurd h2 (h1' s h1)
  · exact absurd h2' (h1 s' h1')
  · omega
def RdK (w w' : World) : Prop := ∀ (b o : Nat) (v : Value), rd w b o = some v → rd w' b o = some v
def StabR {α : Type} (R : Rd α) : Prop := ∀ (w w' : World) (cs : List Value) (x : α), R w cs x → RdK w w' → R w' cs x
theorem SlR.kr {α : Type} {R : Rd α} {s : Nat} {w w' : World} {a : Option Addr} {l c : Nat} {xs : List α} (h : SlR R s w a l c xs) (hs : StabR R) (k : RdK w w') : SlR R s w' a l c xs :=
  ⟨h.len, h.isp, h.nil, h.lc, h.mx, fun i x hx => by
    obtain ⟨cs, h1, h2, h3⟩ := h.el i x hx
    exact ⟨cs, h1, hs _ _ _ _ h2 k, fun j u hu => k _ _ _ (h3 j u hu)⟩⟩
theorem RL.stabR {α : Type} {R : Rd α} {s : Nat} (hs : StabR R) : StabR (RL R s) := fun w w' cs x h k => by
  obtain ⟨a, l, c, e, h⟩ := h
  exact ⟨a, l, c, e, h.kr hs k⟩
theorem RPair.stabR : StabR RPair := fun _ _ _ _ h _ => h
theorem rdk_of {w w' : World} {mb : Nat} {L : List (Int × Int)} (h : CG w mb L) (k : Kept (· = mb) w w') : RdK w w' := fun b o v hr => by
  refine k.rd_some hr fun hb => ?_
  subst hb
  obtain ⟨M, hM, _⟩ := h.ex
  obtain ⟨es, cl, g1, _⟩ := hM.ex
  rw [rd_def, g1] at hr
  cases hr
theorem RowI.add4 {X : Nat → Prop} {w0 w w1 : World} {a : Option Addr} {l c : Nat} {xs : List Int} {n : Int} (h : RowI w w0.heap.size a l c xs) (k : Kept X w0 w) (e : w1 = w.alloc (.cells #[.int .i64 n] 3)) (hl : xs.length ≤ 100000000) :
    ∃ a' l' c' w', appIs Tryz.prog #[31, 31] 31 (.slice a l c) (.slice (some ⟨w.heap.size, 0, none⟩) 1 1) (.slice a' l' c') w1 w' ∧ RowI w' w0.heap.size a' l' c' (xs ++ [n]) ∧ Kept X w0 w' ∧ Kept (fun b => (Value.slice a l c).ownBlock = some b) w w' ∧
      ((Value.slice a' l' c').ownBlock = (Value.slice a l c).ownBlock ∨ ∀ g, (Value.slice a' l' c').ownBlock = some g → w.heap.size ≤ g) := by
  have k1 : Kept none' w w1 := (Kept.refl _ _).al e
  have o1 := own_alloc (c := [vi n]) e
  have h1 := h.k k1
  have s0 := k.sz
  have s1 := k1.sz
  have hlen := h.1
  have hinfo := info_int
  cases hi : Tryz.prog.info? 3 with
  | none => rw [hi] at hinfo; cases hinfo
  | some i0 =>
  rw [hi] at hinfo
  simp at hinfo
  obtain ⟨a', l', c', w', happ, rfl, row, k2, hsn⟩ := app_any (P := Tryz.prog) (t := 31) (e := 3) (i := i0) (z := vi 0) (size := 1) Tryz.underlying31 hi hinfo.1 hinfo.2.1 rfl (by decide) h1.2 o1 (m := 1) (off := 0) (c := 1) (news := [vi n]) rfl rfl (fun u hu => by simp at hu; subst hu; rfl) (by omega) (by omega) (by omega)
  have k02 : Kept (fun b => (Value.slice a l c).ownBlock = some b) w w' := (k1.mono fun _ _ h => h.elim).trans k2 fun _ _ h => h
  exact ⟨a', _, c', w', happ, ⟨by simp [hlen], by rw [List.map_append]; exact row⟩, k.trans k02 fun b hb hh => by have := (h1.2.lt b hh).1; omega, k02, hsn.imp id fun h g hg => by have := h g hg; omega⟩
theorem RowI.ge {w : World} {base : Nat} {a : Option Addr} {l c : Nat} {xs : List Int} (h : RowI w base a l c xs) {b : Nat} (hb : (Value.slice a l c).ownBlock = some b) : base ≤ b ∧ b < w.heap.size := by
  obtain ⟨rfl, r⟩ := h
  exact r.lt b hb
theorem objects_spec {w : World} {k : Nat} {S : PicS} {x : Pic} (h : LkAt w k S x) (hnd : (x.slabs.map Slab.frame).Nodup) (hc : ∀ s ∈ x.slabs, s.count ≤ 256) (hl : (manyL x).length ≤ 1000000) (hls : x.slabs.length ≤ 10000) (hlm : x.mags.length + x.depots.length ≤ 1000000) (hlm2 : ∀ m ∈ x.mags ++ x.depots, m.length ≤ 1000000) : Calls Tryz.prog 25 #[pt k] w (Looks w (ObjF x)) := by
  refine (vc25 (some ⟨k, 0, none⟩) w (LooksV w (ObjF x)) ?_).mono fun e w' => looks_of
  unfold vcP25
  intro w1 e1
  have m1 := mapG_new (enc := encOb) e1
  have k1 : Kept none' w w1 := e1 ▸ (Kept.refl _ _).allocMap _ _
  have s1 : w1.heap.size = w.heap.size + 1 := by rw [e1]; simp only [World.alloc, Array.size_push]
  have cg1 : CG w1 w.heap.size [] := ⟨[], m1, fun k => rfl⟩
  generalize hmb : w.heap.size = mb at *
  have hP := h.P
  have hold : ∀ {w' : World}, Kept (· = mb) w1 w' → Kept none' w w' := fun k' => own0 k1 k' fun b hb => by omega
  have hlS := hP.slabs.len
  have hmS := hP.slabs.lt63
  have hTot : (x.slabs.flatMap slabO).length + (x.flying.flatMap id).length + ((x.mags ++ x.depots).flatMap fun m => m.flatMap id).length ≤ 1000000 := by
    have := hl
    unfold manyL at this
    simp only [List.length_append] at this
    exact this
  refine Wif_yes rfl ⟨S.a 9, S.l 9, S.c 9, (h.k k1).pic.sl 9 (by decide), fun n w' M => ∃ q : Nat, n = (q : Int) ∧ q ≤ x.slabs.length ∧ M = x.slabs.length - q ∧ Kept (· = mb) w1 w' ∧ CG w' mb ((x.slabs.take q).flatMap slabO), ⟨x.slabs.length, 0, rfl, by omega, rfl, Kept.refl _ _, by simpa using cg1⟩, ?_⟩
  rintro _ wl _ ⟨q, rfl, hq, rfl, kl, cg⟩
  refine Wif_intro (fun hcq => ?_) (fun hcq => ?_)
  · have hql : q < x.slabs.length := by simp at hcq; omega
    obtain ⟨s, hsq⟩ : ∃ s, x.slabs[q]? = some s := ⟨x.slabs[q], List.getElem?_eq_getElem hql⟩
    obtain ⟨cs, _, hRx, hr⟩ := hP.slabs.el q s hsq
    obtain ⟨a1, l1, c1, a2, l2, c2, rfl, hx1, hx2⟩ := hRx
    have hr : ∀ (j : Nat) (u : Value), _ → rd wl (pb (S.a 9)) (po (S.a 9) + q * 7 + j) = some u := fun j u hu => (hold kl).rd_some (hr j u hu) id
    have hx1l := hx1.len
    have hx1m := hx1.lt63
    have hx2l := hx2.len
    have hx2m := hx2.lt63
    refine Wif_yes (hP.slabs.isp (by omega)) (Wif_yes (inB_of (by omega) (by omega)) ?_)
    rw [Int.toNat_natCast]
    refine ⟨_, _, _, _, _, _, _, _, _, _, _, ⟨hr 0 _ rfl, hr 1 _ rfl, hr 2 _ rfl, hr 3 _ rfl, hr 4 _ rfl, hr 5 _ rfl, hr 6 _ rfl⟩, ?_⟩
    intro v1 f1
    have o1 := own_alloc (c := [vi 0, vi 0, vi 0, vi 0, vi 0, .slice none 0 0, .slice none 0 0]) f1
    have q1 : Kept none' wl v1 := (Kept.refl _ _).al f1
    refine ⟨⟨o1.wr (by decide), o1.wr (by decide), o1.wr (by decide), o1.wr (by decide), o1.wr (by decide), o1.wr (by decide), o1.wr (by decide)⟩, ?_⟩
    intro v2 f2
    have o2 : own v2 wl.heap.size [vi s.node, vi s.cls, vi s.frame, vi s.colour, vi s.count, .slice a1 l1 c1, .slice a2 l2 c2] := by
      rw [f2]; exact ((((((o1.st_same).st_same).st_same).st_same).st_same).st_same).st_same
    have q12 : Kept (· = wl.heap.size) v1 v2 := by
      rw [f2]; exact (((((((Kept.refl (· = wl.heap.size) v1).st (.inl rfl)).st (.inl rfl)).st (.inl rfl)).st (.inl rfl)).st (.inl rfl)).st (.inl rfl)).st (.inl rfl)
    have q2 : Kept none' wl v2 := own0 q1 q12 fun b hb => by omega
    have K2 : Kept (· = mb) w1 v2 := kl.trans q2 fun _ _ h => h.elim
    have hge := kl.sz
    have e4 : (x.slabs.take (q + 1)).flatMap slabO = (x.slabs.take q).flatMap slabO ++ slabO s := fm_take hsq
    have hle := fm_len (f := slabO) x.slabs (q + 1)
    rw [e4, List.length_append] at hle
    have hsO : (slabO s).length = s.chain.length + s.alive.length := by simp [slabO]
    refine ⟨a1, l1, c1, by rw [o2.rd]; rfl, fun n w' M => ∃ i : Nat, n = (i : Int) ∧ i ≤ s.chain.length ∧ M = s.chain.length - i ∧ Kept (· = mb) w1 w' ∧ own w' wl.heap.size [vi s.node, vi s.cls, vi s.frame, vi s.colour, vi s.count, .slice a1 l1 c1, .slice a2 l2 c2] ∧ CG w' mb ((x.slabs.take q).flatMap slabO ++ (s.chain.take i).map fun i => (s.frame, i)), ⟨s.chain.length, 0, rfl, by omega, rfl, K2, o2, by simpa using cg.k q2⟩, ?_⟩
    rintro _ v3 _ ⟨i, rfl, hi, rfl, K3, o3, cg3⟩
    refine Wif_intro (fun hc3 => ?_) (fun hc3 => ?_)
    · have hil : i < s.chain.length := by simp at hc3; omega
      obtain ⟨u, hu⟩ : ∃ u, s.chain[i]? = some u := ⟨s.chain[i], List.getElem?_eq_getElem hil⟩
      obtain ⟨cs2, _, hR2, hr2⟩ := (hx1.k RInt.stab (hold K3)).el i u hu
      obtain rfl : cs2 = [vi u] := hR2
      refine Wif_yes (hx1.isp (by omega)) (Wif_yes (inB_of (by omega) (by omega)) ?_)
      rw [Int.toNat_natCast]
      refine ⟨u, hr2 0 _ rfl, ?_⟩
      intro v4 f4
      have q4 : Kept none' v3 v4 := (Kept.refl _ _).dr f4
      have o4 := o3.k q4
      obtain ⟨z, n, v5, hmen, hlk5, v6, hest, cg6, q6⟩ := (cg3.k q4).inc (s.frame, u) (by simp only [List.length_append, List.length_map, List.length_take]; omega)
      refine ⟨s.frame, by rw [o4.rd]; rfl, _, (cg3.k q4).look (s.frame, u), z, n, v5, hmen, ⟨hlk5, trivial⟩, v6, hest, s.chain.length - (i + 1), by omega, i + 1, by rw [wi (by omega)]; rfl, by omega, rfl, (K3.trans q4 fun _ _ h => h.elim).trans q6 fun _ _ h => h, o4.kx q6 (by omega), ?_⟩
      rw [take_snoc hu, List.map_append, ← List.append_assoc]
      exact cg6
    have hil : i = s.chain.length := by simp at hc3; omega
    subst hil
    rw [List.take_length] at cg3
    clear hc3 hi
    refine ⟨a2, l2, c2, by rw [o3.rd]; rfl, fun n w' M => ∃ i : Nat, n = (i : Int) ∧ i ≤ s.alive.length ∧ M = s.alive.length - i ∧ Kept (· = mb) w1 w' ∧ own w' wl.heap.size [vi s.node, vi s.cls, vi s.frame, vi s.colour, vi s.count, .slice a1 l1 c1, .slice a2 l2 c2] ∧ CG w' mb ((x.slabs.take q).flatMap slabO ++ s.chain.map (fun i => (s.frame, i)) ++ (s.alive.take i).map fun a => (s.frame, a.1)), ⟨s.alive.length, 0, rfl, by omega, rfl, K3, o3, by simpa using cg3⟩, ?_⟩
    clear K3 o3 cg3 v3
    rintro _ v3 _ ⟨i, rfl, hi, rfl, K3, o3, cg3⟩
    refine Wif_intro (fun hc3 => ?_) (fun hc3 => ?_)
    · have hil : i < s.alive.length := by simp at hc3; omega
      obtain ⟨u, hu⟩ : ∃ u, s.alive[i]? = some u := ⟨s.alive[i], List.getElem?_eq_getElem hil⟩
      obtain ⟨cs2, _, hR2, hr2⟩ := (hx2.k RAlive.stab (hold K3)).el i u hu
      obtain rfl : cs2 = [vi u.1, .int .u64 u.2] := hR2
      refine Wif_yes (hx2.isp (by omega)) (Wif_yes (inB_of (by omega) (by omega)) ?_)
      rw [Int.toNat_natCast]
      refine ⟨u.1, u.2, ⟨hr2 0 _ rfl, hr2 1 _ rfl⟩, ?_⟩
      intro v4 f4
      have o4 := own_alloc (c := [vi 0, .int .u64 0]) f4
      have q4 : Kept none' v3 v4 := (Kept.refl _ _).al f4
      refine ⟨⟨o4.wr (by decide), o4.wr (by decide)⟩, ?_⟩
      intro v5 f5
      have o5 : own v5 v3.heap.size [vi u.1, .int .u64 u.2] := o4.s2 f5
      have q5 : Kept none' v3 v5 := own0 q4 ((Kept.refl (· = v3.heap.size) v4).s2 f5 (.inl rfl)) fun b hb => by omega
      intro v6 f6
      have q6 : Kept none' v3 v6 := q5.dr f6
      have o6 := o5.dr f6
      have o36 := o3.k q6
      have hs3 := o3.lt
      obtain ⟨z, n, v7, hmen, hlk7, v8, hest, cg8, q8⟩ := (cg3.k q6).inc (s.frame, u.1) (by simp only [List.length_append, List.length_map, List.length_take]; omega)
      refine ⟨s.frame, by rw [o36.rd]; rfl, u.1, by rw [o6.rd]; rfl, _, (cg3.k q6).look (s.frame, u.1), z, n, v7, hmen, ⟨hlk7, trivial⟩, v8, hest, s.alive.length - (i + 1), by omega, i + 1, by rw [wi (by omega)]; rfl, by omega, rfl, (K3.trans q6 fun _ _ h => h.elim).trans q8 fun _ _ h => h, o36.kx q8 (by omega), ?_⟩
      rw [take_snoc hu, List.map_append, ← List.append_assoc]
      exact cg8
    · have hil : i = s.alive.length := by simp at hc3; omega
      subst hil
      rw [List.take_length] at cg3
      refine ⟨x.slabs.length - (q + 1), by omega, q + 1, by rw [wi (by omega)]; rfl, by omega, rfl, K3, ?_⟩
      rw [e4, slabO, ← List.append_assoc]
      exact cg3
  have hql : q = x.slabs.length := by simp at hcq; omega
  subst hql
  rw [List.take_length] at cg
  clear hcq hq
  -- flying
  have hlF := hP.flying.len
  have hmF := hP.flying.lt63
  refine Wif_yes rfl ⟨S.a 3, S.l 3, S.c 3, (h.k (hold kl)).pic.sl 3 (by decide), fun n w' M => ∃ q : Nat, n = (q : Int) ∧ q ≤ x.flying.length ∧ M = x.flying.length - q ∧ Kept (· = mb) w1 w' ∧ CG w' mb (x.slabs.flatMap slabO ++ (x.flying.take q).flatMap id), ⟨x.flying.length, 0, rfl, by omega, rfl, kl, by simpa using cg⟩, ?_⟩
  clear kl cg wl
  rintro _ wl _ ⟨q, rfl, hq, rfl, kl, cg⟩
  refine Wif_intro (fun hcq => ?_) (fun hcq => ?_)
  · have hql : q < x.flying.length := by simp at hcq; omega
    obtain ⟨l, hlq⟩ : ∃ l, x.flying[q]? = some l := ⟨x.flying[q], List.getElem?_eq_getElem hql⟩
    obtain ⟨cs, _, hRx, hr⟩ := hP.flying.el q l hlq
    obtain ⟨a1, l1, c1, rfl, hx1⟩ := hRx
    have hx1l := hx1.len
    have hx1m := hx1.lt63
    have e4 : (x.flying.take (q + 1)).flatMap id = (x.flying.take q).flatMap id ++ l := fm_take hlq
    have hle := fm_len (f := (id : List (Int × Int) → List (Int × Int))) x.flying (q + 1)
    rw [e4, List.length_append] at hle
    refine Wif_yes (hP.flying.isp (by omega)) (Wif_yes (inB_of (by omega) (by omega)) ?_)
    rw [Int.toNat_natCast]
    refine ⟨a1, l1, c1, (hold kl).rd_some (hr 0 _ rfl) id, fun n w' M => ∃ i : Nat, n = (i : Int) ∧ i ≤ l.length ∧ M = l.length - i ∧ Kept (· = mb) w1 w' ∧ CG w' mb (x.slabs.flatMap slabO ++ (x.flying.take q).flatMap id ++ l.take i), ⟨l.length, 0, rfl, by omega, rfl, kl, by simpa using cg⟩, ?_⟩
    rintro _ v3 _ ⟨i, rfl, hi, rfl, K3, cg3⟩
    refine Wif_intro (fun hc3 => ?_) (fun hc3 => ?_)
    · have hil : i < l.length := by simp at hc3; omega
      obtain ⟨u, hu⟩ : ∃ u, l[i]? = some u := ⟨l[i], List.getElem?_eq_getElem hil⟩
      obtain ⟨cs2, _, hR2, hr2⟩ := (hx1.k RPair.stab (hold K3)).el i u hu
      obtain rfl : cs2 = [vi u.1, vi u.2] := hR2
      refine Wif_yes (hx1.isp (by omega)) (Wif_yes (inB_of (by omega) (by omega)) ?_)
      rw [Int.toNat_natCast]
      refine ⟨u.1, u.2, ⟨hr2 0 _ rfl, hr2 1 _ rfl⟩, ?_⟩
      intro v4 f4
      have o4 := own_alloc (c := [vi 0, vi 0]) f4
      have q4 : Kept none' v3 v4 := (Kept.refl _ _).al f4
      refine ⟨⟨o4.wr (by decide), o4.wr (by decide)⟩, ?_⟩
      intro v5 f5
      have o5 : own v5 v3.heap.size [vi u.1, vi u.2] := o4.s2 f5
      have q5 : Kept none' v3 v5 := own0 q4 ((Kept.refl (· = v3.heap.size) v4).s2 f5 (.inl rfl)) fun b hb => by omega
      intro v6 f6
      have q6 : Kept none' v3 v6 := q5.dr f6
      have o6 := o5.dr f6
      obtain ⟨z, n, v7, hmen, hlk7, v8, hest, cg8, q8⟩ := (cg3.k q6).inc u (by simp only [List.length_append, List.length_take]; omega)
      refine ⟨u.1, u.2, ⟨by rw [o6.rd]; rfl, by rw [o6.rd]; rfl⟩, _, (cg3.k q6).look u, z, n, v7, hmen, ⟨hlk7, trivial⟩, v8, hest, l.length - (i + 1), by omega, i + 1, by rw [wi (by omega)]; rfl, by omega, rfl, (K3.trans q6 fun _ _ h => h.elim).trans q8 fun _ _ h => h, ?_⟩
      rw [take_snoc hu, ← List.append_assoc]
      exact cg8
    · have hil : i = l.length := by simp at hc3; omega
      subst hil
      rw [List.take_length] at cg3
      refine ⟨x.flying.length - (q + 1), by omega, q + 1, by rw [wi (by omega)]; rfl, by omega, rfl, K3, ?_⟩
      rw [e4, ← List.append_assoc]
      exact cg3
  have hql : q = x.flying.length := by simp at hcq; omega
  subst hql
  rw [List.take_length] at cg
  clear hcq hq
  -- magazines and depots
  generalize hD : x.slabs.flatMap slabO ++ x.flying.flatMap id = D at *
  have hDl : D.length = (x.slabs.flatMap slabO).length + (x.flying.flatMap id).length := by rw [← hD, List.length_append]
  have hML : manyL x = D ++ (x.mags ++ x.depots).flatMap fun m => m.flatMap id := by rw [manyL, hD]
  intro v1 f1
  have q1 : Kept none' wl v1 := (Kept.refl _ _).dr f1
  have K1 : Kept (· = mb) w1 v1 := kl.trans q1 fun _ _ h => h.elim
  refine Wif_yes rfl ⟨S.a 10, S.l 10, S.c 10, (h.k (hold K1)).pic.sl 10 (by decide), Wif_yes rfl ⟨S.a 11, S.l 11, S.c 11, (h.k (hold K1)).pic.sl 11 (by decide), fun v2 f2 => ?_⟩⟩
  have o2 := own_alloc (c := [.slice (S.a 10) (S.l 10) (S.c 10), .slice (S.a 11) (S.l 11) (S.c 11)]) f2
  have q2 : Kept none' v1 v2 := (Kept.refl _ _).al f2
  have K2 : Kept (· = mb) w1 v2 := K1.trans q2 fun _ _ h => h.elim
  have hP2 := hP.k (hold K2)
  refine (concat_objs (xs := x.mags) (ys := x.depots) hP2.mags hP2.depots o2 hlm).mono ?_
  rintro _ v3 ⟨ma, ml, mc, rfl, hmd, q3⟩
  have K3 : Kept (· = mb) w1 v3 := K2.trans q3 fun _ _ h => h.elim
  have cg3 := (cg.k q1).k (q2.tr q3)
  have hmdl := hmd.len
  have hmdm := hmd.lt63
  have hmdl2 : (x.mags ++ x.depots).length ≤ 1000000 := by rw [List.length_append]; exact hlm
  generalize hMD : x.mags ++ x.depots = MD at *
  have hmb3 : mb < v3.heap.size := by have := K3.sz; omega
  refine ⟨ma, ml, mc, rfl, fun a l c n w' M => ∃ (q : Nat) (xs : List Int), n = (q : Int) ∧ q ≤ MD.length ∧ M = MD.length - q ∧ Kept (· = mb) v3 w' ∧ CG w' mb (D ++ (MD.take q).flatMap fun m => m.flatMap id) ∧ RowI w' v3.heap.size a l c xs ∧ xs.length ≤ ((MD.take q).flatMap fun m => m.flatMap id).length ∧ Found MD q (MagF x) xs, ⟨MD.length, 0, [], rfl, by omega, rfl, Kept.refl _ _, by simpa using cg3, RowI.nil', by simp, Found.zero⟩, ?_⟩
  have hK : ∀ {w' : World}, Kept (· = mb) v3 w' → Kept (· = mb) w1 w' := fun k' => K3.trans k' fun _ _ h => h
  have hRK : ∀ {w' : World}, Kept (· = mb) v3 w' → RdK v3 w' := fun k' => rdk_of cg3 k'
  clear kl cg K1 K2
  rintro a l c _ wl _ ⟨q, xs, rfl, hq, rfl, kv, cg, row, hxl, hxs⟩
  refine Wif_intro (fun hcq => ?_) (fun hcq => ?_)
  · have hql : q < MD.length := by simp at hcq; omega
    obtain ⟨m, hmq⟩ : ∃ m, MD[q]? = some m := ⟨MD[q], List.getElem?_eq_getElem hql⟩
    have hmm := List.mem_of_getElem? hmq
    have hml := hlm2 m hmm
    obtain ⟨cs, _, hRx, hr⟩ := hmd.el q m hmq
    obtain ⟨a1, l1, c1, rfl, hx1⟩ := hRx
    have hx1l := hx1.len
    have e4 : (MD.take (q + 1)).flatMap (fun m => m.flatMap id) = (MD.take q).flatMap (fun m => m.flatMap id) ++ m.flatMap id := fm_take hmq
    have hle := fm_len (f := fun m : List (List (Int × Int)) => m.flatMap id) MD (q + 1)
    rw [e4, List.length_append] at hle
    refine Wif_yes (hmd.isp (by omega)) (Wif_yes (inB_of (by omega) (by omega)) ?_)
    rw [Int.toNat_natCast]
    refine ⟨a1, l1, c1, hRK kv _ _ _ (hr 0 _ rfl), fun a l c n w' M => ∃ (i : Nat) (ys : List Int), n = (i : Int) ∧ i ≤ m.length ∧ M = m.length - i ∧ Kept (· = mb) v3 w' ∧ CG w' mb (D ++ (MD.take q).flatMap (fun m => m.flatMap id) ++ (m.take i).flatMap id) ∧ RowI w' v3.heap.size a l c ys ∧ ys.length ≤ ((MD.take q).flatMap fun m => m.flatMap id).length + ((m.take i).flatMap id).length ∧ (∀ n, n ∈ ys ↔ n ∈ xs ∨ ∃ (cls : Nat) (l : List (Int × Int)), cls < i ∧ m[cls]? = some l ∧ ∃ o ∈ l, n = o.1 ∧ ¬ ClsIs x o.1 cls), ⟨m.length, 0, xs, rfl, by omega, rfl, kv, by simpa using cg, row, by simpa using hxl, fun n => by simp⟩, ?_⟩
    rintro a l c _ v4 _ ⟨i, ys, rfl, hi, rfl, kv4, cg4, row4, hyl, hys⟩
    refine Wif_intro (fun hc4 => ?_) (fun hc4 => ?_)
    · have hil : i < m.length := by simp at hc4; omega
      obtain ⟨L, hLi⟩ : ∃ L, m[i]? = some L := ⟨m[i], List.getElem?_eq_getElem hil⟩
      obtain ⟨cs2, _, hR2, hr2⟩ := hx1.el i L hLi
      obtain ⟨a2, l2, c2, rfl, hx2⟩ := hR2
      have hx2l := hx2.len
      have e5 : (m.take (i + 1)).flatMap id = (m.take i).flatMap id ++ L := fm_take hLi
      have hle2 := fm_len (f := (id : List (Int × Int) → List (Int × Int))) m (i + 1)
      rw [e5, List.length_append] at hle2
      refine Wif_yes (hx1.isp (by omega)) (Wif_yes (inB_of (by omega) (by omega)) ?_)
      rw [Int.toNat_natCast]
      refine ⟨a2, l2, c2, hRK kv4 _ _ _ (hr2 0 _ rfl), fun a l c n w' M => ∃ (j : Nat) (zs : List Int), n = (j : Int) ∧ j ≤ L.length ∧ M = L.length - j ∧ Kept (· = mb) v3 w' ∧ CG w' mb (D ++ (MD.take q).flatMap (fun m => m.flatMap id) ++ (m.take i).flatMap id ++ L.take j) ∧ RowI w' v3.heap.size a l c zs ∧ zs.length ≤ ((MD.take q).flatMap fun m => m.flatMap id).length + ((m.take i).flatMap id).length + j ∧ FoundB (fun n => n ∈ ys) L j (fun o n => n = o.1 ∧ ¬ ClsIs x o.1 i) zs, ⟨L.length, 0, ys, rfl, by omega, rfl, kv4, by simpa using cg4, row4, by omega, FoundB.zero fun n => Iff.rfl⟩, ?_⟩
      rintro a l c _ v5 _ ⟨j, zs, rfl, hj, rfl, kv5, cg5, row5, hzl, hzs⟩
      refine Wif_intro (fun hc5 => ?_) (fun hc5 => ?_)
      · have hjl : j < L.length := by simp at hc5; omega
        obtain ⟨o, ho⟩ : ∃ o, L[j]? = some o := ⟨L[j], List.getElem?_eq_getElem hjl⟩
        obtain ⟨cs3, _, hR3, hr3⟩ := hx2.el j o ho
        obtain rfl : cs3 = [vi o.1, vi o.2] := hR3
        refine Wif_yes (hx2.isp (by omega)) (Wif_yes (inB_of (by omega) (by omega)) ?_)
        rw [Int.toNat_natCast]
        refine ⟨o.1, o.2, ⟨hRK kv5 _ _ _ (hr3 0 _ rfl), hRK kv5 _ _ _ (hr3 1 _ rfl)⟩, ?_⟩
        intro v6 f6
        have o6 := own_alloc (c := [vi 0, vi 0]) f6
        have q6 : Kept none' v5 v6 := (Kept.refl _ _).al f6
        refine ⟨⟨o6.wr (by decide), o6.wr (by decide)⟩, ?_⟩
        intro v7 f7
        have o7 : own v7 v5.heap.size [vi o.1, vi o.2] := o6.s2 f7
        have q7 : Kept none' v5 v7 := own0 q6 ((Kept.refl (· = v5.heap.size) v6).s2 f7 (.inl rfl)) fun b hb => by omega
        intro v8 f8
        have q8 : Kept none' v5 v8 := q7.dr f8
        have o8 := o7.dr f8
        have hs35 := kv5.sz
        obtain ⟨z, n, v9, hmen, hlk9, v10, hest, cg10, q10⟩ := (cg5.k q8).inc o (by simp only [List.length_append, List.length_take]; omega)
        refine ⟨o.1, o.2, ⟨by rw [o8.rd]; rfl, by rw [o8.rd]; rfl⟩, _, (cg5.k q8).look o, z, n, v9, hmen, ⟨hlk9, trivial⟩, v10, hest, ?_⟩
        intro v11 f11
        have q11 : Kept none' v10 v11 := (Kept.refl _ _).dr f11
        have q511 : Kept (· = mb) v5 v11 := (((q8.mono fun _ _ h => h.elim).trans (X := (· = mb)) q10 fun _ _ h => h).trans q11 fun _ _ h => h.elim)
        have kv11 : Kept (· = mb) v3 v11 := kv5.trans q511 fun _ _ h => h
        have cg11 := cg10.k q11
        have o11 := (o8.kx q10 (by omega)).k q11
        have hrow5 : ∀ b, (Value.slice a l c).ownBlock = some b → b ≠ mb := fun b hb => by have := row5.ge hb; omega
        have row11 : RowI v11 v3.heap.size a l c zs := ⟨row5.1, ownsRow_kx row5.2 q511 fun b _ _ hb hh => hrow5 b hb hh⟩
        have h11 := h.k (hold (hK kv11))
        obtain ⟨ms, M, g1, g2, g3, g4⟩ := h11.sl
        have hlk := look1 (P := Tryz.prog) (mt := 87) (vt := 55) (kt := 3) rfl rfl g2 o.1 (z := .agg #[vi 0, vi 0, vi 0, vi 0, vi 0, .slice none 0 0, .slice none 0 0]) (Tryz.zeroValue55 v11)
        have e6 := take_snoc ho
        have cgn : CG v11 mb (D ++ (MD.take q).flatMap (fun m => m.flatMap id) ++ (m.take i).flatMap id ++ L.take (j + 1)) := by rw [e6, ← List.append_assoc]; exact cg11
        have fin : ∀ (cc : Int), ClsIs x o.1 cc → Wif (cc != (i : Int))
            (∃ (x_1 : Int), rd v11 v5.heap.size 0 = some (vi x_1) ∧ ∀ (w' : World), w' = v11.alloc (.cells #[vi x_1] 3) → ∃ (a_2 : Option Addr) (l_2 c_1 : Nat) (w'_5 : World), appIs Tryz.prog #[31, 31] 31 (.slice a l c) (.slice (some ⟨v11.heap.size, 0, none⟩) 1 1) (.slice a_2 l_2 c_1) w' w'_5 ∧ ∃ (m_1 : Nat), Nat.succ m_1 ≤ L.length - j ∧ ∃ (j' : Nat) (zs : List Int), IntKind.wrap .i64 ((j : Int) + 1) = (j' : Int) ∧ j' ≤ L.length ∧ m_1 = L.length - j' ∧ Kept (· = mb) v3 w'_5 ∧ CG w'_5 mb (D ++ (MD.take q).flatMap (fun m => m.flatMap id) ++ (m.take i).flatMap id ++ L.take j') ∧ RowI w'_5 v3.heap.size a_2 l_2 c_1 zs ∧ zs.length ≤ ((MD.take q).flatMap fun m => m.flatMap id).length + ((m.take i).flatMap id).length + j' ∧ FoundB (fun n => n ∈ ys) L j' (fun o n => n = o.1 ∧ ¬ ClsIs x o.1 i) zs)
            (∃ (m_1 : Nat), Nat.succ m_1 ≤ L.length - j ∧ ∃ (j' : Nat) (zs : List Int), IntKind.wrap .i64 ((j : Int) + 1) = (j' : Int) ∧ j' ≤ L.length ∧ m_1 = L.length - j' ∧ Kept (· = mb) v3 v11 ∧ CG v11 mb (D ++ (MD.take q).flatMap (fun m => m.flatMap id) ++ (m.take i).flatMap id ++ L.take j') ∧ RowI v11 v3.heap.size a l c zs ∧ zs.length ≤ ((MD.take q).flatMap fun m => m.flatMap id).length + ((m.take i).flatMap id).length + j' ∧ FoundB (fun n => n ∈ ys) L j' (fun o n => n = o.1 ∧ ¬ ClsIs x o.1 i) zs) := by
          intro cc hcc
          refine Wif_intro (fun hne => ?_) (fun heq => ?_)
          · have hne : cc ≠ (i : Int) := by simpa using hne
            have hno : ¬ ClsIs x o.1 i := fun hi => hne (cls_uniq hnd hcc hi)
            refine ⟨o.1, by rw [o11.rd]; rfl, fun v12 f12 => ?_⟩
            obtain ⟨a', l', c', v13, happ, row13, k13, k13', _⟩ := row11.add4 kv11 f12 (by omega)
            have cg13 := cgn.kx k13' fun hb => hrow5 _ hb rfl
            refine ⟨a', l', c', v13, happ, L.length - (j + 1), by omega, j + 1, zs ++ [o.1], by rw [wi (by omega)]; rfl, by omega, rfl, k13, cg13, row13, by rw [List.length_append, List.length_singleton]; omega, hzs.step ho fun n => ?_⟩
            rw [List.mem_append, List.mem_singleton]
            exact ⟨fun g => g.imp id fun g => ⟨g, hno⟩, fun g => g.imp id And.left⟩
          · have heq : cc = (i : Int) := by simpa using heq
            exact ⟨L.length - (j + 1), by omega, j + 1, zs, by rw [wi (by omega)]; rfl, by omega, rfl, kv11, cgn, row11, by omega, hzs.step ho fun n => ⟨.inl, fun g => g.elim id fun g => absurd (heq ▸ hcc) g.2⟩⟩
        by_cases hex : ∃ s ∈ x.slabs, s.frame = o.1
        · obtain ⟨s, hs, hsf⟩ := hex
          obtain ⟨b1, d1, e1', b2, d2, e2', hv⟩ := g3 s hs
          rw [← hsf, hv] at hlk
          have hlk : lookIs Tryz.prog 87 (.map (some ms)) (vi s.frame) false (.agg #[vi s.node, vi s.cls, vi s.frame, vi s.colour, vi s.count, .slice b1 d1 e1', .slice b2 d2 e2']) v11 := hlk
          refine Wif_yes rfl ⟨some ms, g1, o.1, by rw [o11.rd]; rfl, _, _, _, _, _, _, _, _, _, _, _, by rw [← hsf]; exact hlk, fin s.cls (.inl ⟨s, hs, hsf, rfl⟩)⟩
        · have hno : ∀ s ∈ x.slabs, s.frame ≠ o.1 := fun s hs hf => hex ⟨s, hs, hf⟩
          have hln : M.lookup o.1 = none := by
            cases hl : M.lookup o.1 with
            | none => rfl
            | some v => obtain ⟨s, q1, q2⟩ := g4 _ _ hl; exact absurd q2 (hno s q1)
          rw [hln] at hlk
          have hlk : lookIs Tryz.prog 87 (.map (some ms)) (vi o.1) false (.agg #[vi 0, vi 0, vi 0, vi 0, vi 0, .slice none 0 0, .slice none 0 0]) v11 := hlk
          refine Wif_yes rfl ⟨some ms, g1, o.1, by rw [o11.rd]; rfl, _, _, _, _, _, _, _, _, _, _, _, hlk, fin 0 (.inr ⟨hno, rfl⟩)⟩
      · have hjl : j = L.length := by simp at hc5; omega
        subst hjl
        rw [List.take_length] at cg5
        have hza := hzs.all
        refine ⟨m.length - (i + 1), by omega, i + 1, zs, by rw [wi (by omega)]; rfl, by omega, rfl, kv5, ?_, row5, ?_, fun n => ?_⟩
        · rw [e5, ← List.append_assoc]
          exact cg5
        · rw [e5, List.length_append]; omega
        · rw [hza n, hys n]
          constructor
          · rintro ((g | ⟨cls, l', h1, h2, h3⟩) | ⟨o, h1, h2, h3⟩)
            · exact .inl g
            · exact .inr ⟨cls, l', by omega, h2, h3⟩
            · exact .inr ⟨i, L, by omega, hLi, o, h1, h2, h3⟩
          · rintro (g | ⟨cls, l', h1, h2, o, h3, h4, h5⟩)
            · exact .inl (.inl g)
            · rcases Nat.lt_succ_iff_lt_or_eq.1 h1 with hlt | rfl
              · exact .inl (.inr ⟨cls, l', hlt, h2, o, h3, h4, h5⟩)
              · rw [hLi] at h2
                cases h2
                exact .inr ⟨o, h3, h4, h5⟩
    · have hil : i = m.length := by simp at hc4; omega
      subst hil
      rw [List.take_length] at cg4 hyl
      refine ⟨MD.length - (q + 1), by omega, q + 1, ys, by rw [wi (by omega)]; rfl, by omega, rfl, kv4, ?_, row4, ?_, hxs.step hmq fun n => ?_⟩
      · rw [e4, ← List.append_assoc]
        exact cg4
      · rw [e4, List.length_append]; omega
      · rw [hys n]
        constructor
        · rintro (g | ⟨cls, l', h1, h2, h3⟩)
          · exact .inl g
          · exact .inr ⟨cls, l', h2, h3⟩
        · rintro (g | ⟨cls, l', h2, h3⟩)
          · exact .inl g
          · exact .inr ⟨cls, l', (List.getElem?_eq_some_iff.1 h2).1, h2, h3⟩
  have hql : q = MD.length := by simp at hcq; omega
  subst hql
  rw [List.take_length, ← hML] at cg
  rw [List.take_length] at hxl
  have hxs1 := hxs.all
  clear hcq hq hxs
  -- the slabs' own
  refine Wif_yes rfl ⟨S.a 9, S.l 9, S.c 9, (h.k (hold (hK kv))).pic.sl 9 (by decide), fun a l c n w' M => ∃ (q : Nat) (xs : List Int), n = (q : Int) ∧ q ≤ x.slabs.length ∧ M = x.slabs.length - q ∧ Kept (· = mb) v3 w' ∧ CG w' mb (manyL x) ∧ RowI w' v3.heap.size a l c xs ∧ xs.length ≤ 1000000 + 256 * q ∧ FoundB (fun n => ∃ m ∈ MD, MagF x m n) x.slabs q (SlbF x) xs, ⟨x.slabs.length, 0, xs, rfl, by omega, rfl, kv, cg, row, by omega, FoundB.zero hxs1⟩, ?_⟩
  clear kv cg row hxl hxs1
  rintro a l c _ wl _ ⟨q, xs, rfl, hq, rfl, kv, cg, row, hxl, hxs⟩
  refine Wif_intro (fun hcq => ?_) (fun hcq => ?_)
  · have hql : q < x.slabs.length := by simp at hcq; omega
    obtain ⟨s, hsq⟩ : ∃ s, x.slabs[q]? = some s := ⟨x.slabs[q], List.getElem?_eq_getElem hql⟩
    have hsm := List.mem_of_getElem? hsq
    have hsc := hc s hsm
    obtain ⟨cs, _, hRx, hr⟩ := hP.slabs.el q s hsq
    obtain ⟨a1, l1, c1, a2, l2, c2, rfl, hx1, hx2⟩ := hRx
    have hr : ∀ (j : Nat) (u : Value), _ → rd wl (pb (S.a 9)) (po (S.a 9) + q * 7 + j) = some u := fun j u hu => (hold (hK kv)).rd_some (hr j u hu) id
    refine Wif_yes (hP.slabs.isp (by omega)) (Wif_yes (inB_of (by omega) (by omega)) ?_)
    rw [Int.toNat_natCast]
    refine ⟨_, _, _, _, _, _, _, _, _, _, _, ⟨hr 0 _ rfl, hr 1 _ rfl, hr 2 _ rfl, hr 3 _ rfl, hr 4 _ rfl, hr 5 _ rfl, hr 6 _ rfl⟩, ?_⟩
    intro v4 f4
    have o4 := own_alloc (c := [vi 0, vi 0, vi 0, vi 0, vi 0, .slice none 0 0, .slice none 0 0]) f4
    have q4 : Kept none' wl v4 := (Kept.refl _ _).al f4
    refine ⟨⟨o4.wr (by decide), o4.wr (by decide), o4.wr (by decide), o4.wr (by decide), o4.wr (by decide), o4.wr (by decide), o4.wr (by decide)⟩, ?_⟩
    intro v5 f5
    have o5 : own v5 wl.heap.size [vi s.node, vi s.cls, vi s.frame, vi s.colour, vi s.count, .slice a1 l1 c1, .slice a2 l2 c2] := by
      rw [f5]; exact ((((((o4.st_same).st_same).st_same).st_same).st_same).st_same).st_same
    have q45 : Kept (· = wl.heap.size) v4 v5 := by
      rw [f5]; exact (((((((Kept.refl (· = wl.heap.size) v4).st (.inl rfl)).st (.inl rfl)).st (.inl rfl)).st (.inl rfl)).st (.inl rfl)).st (.inl rfl)).st (.inl rfl)
    have q5 : Kept none' wl v5 := own0 q4 q45 fun b hb => by omega
    have hnb : ∀ b, (Value.slice a l c).ownBlock = some b → b ≠ wl.heap.size := fun b hb => by have := row.ge hb; omega
    have hs3 := kv.sz
    refine ⟨s.count, by rw [o5.rd]; rfl, fun a l c n w' M => ∃ (i : Nat) (ys : List Int), n = (i : Int) ∧ M = s.count.toNat - i ∧ i ≤ s.count.toNat ∧ Kept (· = mb) v3 w' ∧ CG w' mb (manyL x) ∧ own w' wl.heap.size [vi s.node, vi s.cls, vi s.frame, vi s.colour, vi s.count, .slice a1 l1 c1, .slice a2 l2 c2] ∧ (∀ b, (Value.slice a l c).ownBlock = some b → b ≠ wl.heap.size) ∧ RowI w' v3.heap.size a l c ys ∧ ys.length ≤ xs.length + i ∧ (∀ n, n ∈ ys ↔ n ∈ xs ∨ (n = s.frame ∧ ∃ j : Nat, j < i ∧ cnO (manyL x) (s.frame, (j : Int)) ≠ 1)), ⟨s.count.toNat, 0, xs, rfl, rfl, Nat.zero_le _, kv.trans q5 fun _ _ h => h.elim, cg.k q5, o5, hnb, row.k q5, by omega, fun n => by simp⟩, ?_⟩
    clear hnb row
    rintro a l c _ v6 _ ⟨i, ys, rfl, rfl, hi, kv6, cg6, o6, hnb, row6, hyl, hys⟩
    refine Wif_intro (fun hc6 => ?_) (fun hc6 => ?_)
    · have hil : (i : Int) < s.count := by simpa using hc6
      have hs36 := kv6.sz
      have hstep : ∀ n : Int, (n = s.frame ∧ ∃ j : Nat, j < i + 1 ∧ cnO (manyL x) (s.frame, (j : Int)) ≠ 1) ↔ (n = s.frame ∧ ∃ j : Nat, j < i ∧ cnO (manyL x) (s.frame, (j : Int)) ≠ 1) ∨ (n = s.frame ∧ cnO (manyL x) (s.frame, (i : Int)) ≠ 1) := by
        intro n
        constructor
        · rintro ⟨h1, j, h2, h3⟩
          rcases Nat.lt_succ_iff_lt_or_eq.1 h2 with hlt | rfl
          · exact .inl ⟨h1, j, hlt, h3⟩
          · exact .inr ⟨h1, h3⟩
        · rintro (⟨h1, j, h2, h3⟩ | ⟨h1, h3⟩)
          · exact ⟨h1, j, by omega, h3⟩
          · exact ⟨h1, i, by omega, h3⟩
      refine ⟨s.frame, by rw [o6.rd]; rfl, _, cg6.look (s.frame, (i : Int)), Wif_intro (fun hne => ?_) (fun heq => ?_)⟩
      · have hne : cnO (manyL x) (s.frame, (i : Int)) ≠ 1 := by
          intro e
          rw [e] at hne
          exact absurd hne (by decide)
        refine ⟨s.frame, by rw [o6.rd]; rfl, fun v7 f7 => ?_⟩
        obtain ⟨a', l', c', v8, happ, row8, k8, k8', hsn⟩ := row6.add4 kv6 f7 (by omega)
        have ho6 := o6.lt
        refine ⟨a', l', c', v8, happ, s.count.toNat - (i + 1), by omega, i + 1, ys ++ [s.frame], by rw [wi (by omega)]; rfl, rfl, by omega, k8, cg6.kx k8' fun hb => by have := row6.ge hb; omega, o6.kx k8' fun hb => hnb _ hb rfl, fun b hb => ?_, row8, by simp; omega, fun n => ?_⟩
        · rcases hsn with hsn | hsn
          · rw [hsn] at hb; exact hnb b hb
          · have := hsn b hb; omega
        · rw [List.mem_append, List.mem_singleton, hys n, hstep n]
          constructor
          · rintro ((g | g) | g)
            · exact .inl g
            · exact .inr (.inl g)
            · exact .inr (.inr ⟨g, hne⟩)
          · rintro (g | g | g)
            · exact .inl (.inl g)
            · exact .inl (.inr g)
            · exact .inr g.1
      · have heq : cnO (manyL x) (s.frame, (i : Int)) = 1 := by
          have : ((cnO (manyL x) (s.frame, (i : Int)) : Nat) : Int) = 1 := by simpa using heq
          omega
        refine ⟨s.count.toNat - (i + 1), by omega, i + 1, ys, by rw [wi (by omega)]; rfl, rfl, by omega, kv6, cg6, o6, hnb, row6, by omega, fun n => ?_⟩
        rw [hys n, hstep n]
        constructor
        · rintro (g | g)
          · exact .inl g
          · exact .inr (.inl g)
        · rintro (g | g | g)
          · exact .inl g
          · exact .inr g
          · exact absurd heq g.2
    · have hil : ¬ (i : Int) < s.count := by simpa using hc6
      refine ⟨x.slabs.length - (q + 1), by omega, q + 1, ys, by rw [wi (by omega)]; rfl, by omega, rfl, kv6, cg6, row6, by omega, hxs.step hsq fun n => ?_⟩
      rw [hys n]
      constructor
      · rintro (g | ⟨h1, j, h2, h3⟩)
        · exact .inl g
        · exact .inr ⟨h1, j, by omega, h3⟩
      · rintro (g | ⟨h1, j, h2, h3⟩)
        · exact .inl g
        · exact .inr ⟨h1, j, by omega, h3⟩
  · have hql : q = x.slabs.length := by simp at hcq; omega
    subst hql
    have hs3 := (hold K3).sz
    refine ⟨a, l, c, xs, rfl, hold (hK kv), ⟨row.1, ownsRow_base_a row.2 (by omega)⟩, by omega, fun n => ?_⟩
    rw [hxs.all n, ← hMD]
    exact Iff.rfl
end Go.Proofs.YtikjgeenhbnkkaaGreatDoor
set_option linter.unusedSimpArgs false
set_option linter.unusedVariables false
set_option maxRecDepth 100000
namespace Go.Proofs.YtikjgeenhbnkkaaGreatDoor
open Go Eng
structure Small (x : Pic) : Prop where
  free : x.free.length ≤ 10000
  held : (x.held.flatMap id).length ≤ 10000
  flight : x.flight.length ≤ 10000
  frames : x.frames.length ≤ 10000
  clocks : x.clocks.length ≤ 10000
  slots : x.slots.length ≤ 10000
  slabs : x.slabs.length ≤ 10000
  procs : x.procs.length ≤ 10000
  leaves : (x.procs.flatMap Proc.leaves).length ≤ 10000
  pages : (x.procs.flatMap Proc.pages).length ≤ 10000
  pinned : (x.procs.flatMap Proc.pinned).length ≤ 10000
  cl : ∀ c ∈ x.clocks, c.length ≤ 10000
  mags : x.mags.length ≤ 10000
  depots : x.depots.length ≤ 10000
  many : (manyL x).length ≤ 100000
theorem fm_bound {α β : Type} {f : α → List β} {K : Nat} : ∀ {L : List α}, (∀ a ∈ L, (f a).length ≤ K) → (L.flatMap f).length ≤ K * L.length
  | [], _ => by simp
  | a :: L, h => by
    rw [List.flatMap_cons, List.length_append, List.length_cons, Nat.mul_add, Nat.mul_one]
    have h1 := h a (by simp)
    have h2 := fm_bound (f := f) (K := K) (L := L) fun b hb => h b (by simp [hb])
    omega
theorem fm_mem_len {α β : Type} {f : α → List β} {L : List α} {a : α} (h : a ∈ L) : (f a).length ≤ (L.flatMap f).length := by
  induction L with
  | nil => cases h
  | cons b L ih =>
    rw [List.flatMap_cons, List.length_append]
    rcases List.mem_cons.1 h with rfl | h
    · omega
    · have := ih h; omega
theorem rise_facts {c : Nat → Int} {F : Int} : ∀ {last : Int} {ps : List Proc}, RiseP c F last ps → (∀ p ∈ ps, last < p.pid ∧ p.pid ≤ 8 ∧ ProcP c F p) ∧ (ps.map Proc.pid).Pairwise (· < ·)
  | _, [], _ => ⟨fun p hp => (by cases hp), List.Pairwise.nil⟩
  | last, p :: ps, h => by
    obtain ⟨⟨⟨h1, h2⟩, h3⟩, h4⟩ := h
    obtain ⟨g1, g2⟩ := rise_facts h4
    refine ⟨fun q hq => ?_, List.pairwise_cons.2 ⟨fun y hy => ?_, g2⟩⟩
    · rcases List.mem_cons.1 hq with rfl | hq
      · exact ⟨h1, h2, h3⟩
      · have := g1 q hq
        exact ⟨by omega, this.2⟩
    · obtain ⟨q, hq, rfl⟩ := List.mem_map.1 hy
      exact (g1 q hq).1
theorem ShapeP.total {x : Pic} (h : ShapeP x) : (x.marks.length : Int) = total x.c := h.2.1.marks
theorem ShapeP.tot {x : Pic} (h : ShapeP x) : 4 ≤ x.marks.length ∧ x.marks.length ≤ 1024 := by
  have h1 := total_rng h.1
  have h2 := h.total
  omega
theorem slb_frame {c : Nat → Int} (hm : MayP c) {s : Slab} (h : SlbP c s) : 0 ≤ s.frame ∧ s.frame < total c := by
  obtain ⟨⟨⟨i, _, hi, h1, h2⟩, _⟩, _⟩ := h
  have h0 := hm.1
  have g1 := hm.fst (k := i) (by omega)
  have g2 := fstF_mono hm (i := i + 1) (k := (c 0).toNat) (by omega) (by omega)
  have htE : _root_.Go.Proofs.YtikjgeenhbnkkaaGreatDoor.total c = fstF c (c 0).toNat := rfl
  omega
theorem slb_count {c : Nat → Int} {s : Slab} (h : SlbP c s) : 0 ≤ s.count ∧ s.count ≤ 256 := by
  obtain ⟨⟨_, hc, hcol, hcount⟩, _⟩ := h
  have : s.cls.toNat = 0 ∨ s.cls.toNat = 1 ∨ s.cls.toNat = 2 ∨ s.cls.toNat = 3 ∨ s.cls.toNat = 4 ∨ s.cls.toNat = 5 ∨ s.cls.toNat = 6 ∨ s.cls.toNat = 7 := by omega
  rcases this with e | e | e | e | e | e | e | e <;> rw [e] at hcount <;> simp [sz] at hcount <;> omega
theorem ShapeP.ct {x : Pic} (h : ShapeP x) (s : Small x) : CtOk x x.marks.length := by
  have htot := h.total
  have hto := h.tot
  obtain ⟨hm, hl, hnd, ht⟩ := h
  obtain ⟨t1, t2, t3, t4, t5, t6, t7, t8, t9, t10, t11⟩ := ht
  obtain ⟨r1, r2⟩ := rise_facts t9
  refine ⟨fun p hp => ?_, ?_, fun b hb => ⟨(t1 b hb).1, (t1 b hb).2.1⟩, fun p hp => ?_, ?_, fun p hp m hm' => ?_, by omega⟩
  · rw [htot]
    unfold addsP at hp
    simp only [List.mem_append] at hp
    rcases hp with (((hp | hp) | hp) | hp) | hp
    · obtain ⟨b, hb, hp⟩ := List.mem_flatMap.1 hp
      obtain ⟨i, hi, rfl⟩ := List.mem_map.1 hp
      have := t1 b hb
      obtain ⟨g1, g2, g3, g4, g5⟩ := this
      have hi : i < 2 ^ b.2.toNat := by simpa using hi
      have : ((2 ^ b.2.toNat : Nat) : Int) = (2 : Int) ^ b.2.toNat := by simp
      dsimp only
      omega
    · obtain ⟨l, hl', hp⟩ := List.mem_flatMap.1 hp
      obtain ⟨f, hf, rfl⟩ := List.mem_map.1 hp
      exact t2 l hl' f hf
    · obtain ⟨p', hp', hp⟩ := List.mem_flatMap.1 hp
      have hpr := (r1 p' hp').2.2
      rcases List.mem_cons.1 hp with rfl | hp
      · exact hpr.1
      · obtain ⟨l, hl', rfl⟩ := List.mem_map.1 hp
        exact hpr.2.1 l hl'
    · obtain ⟨o, ho, rfl⟩ := List.mem_map.1 hp
      exact (t10 o ho).1
    · obtain ⟨o, ho, rfl⟩ := List.mem_map.1 hp
      exact slb_frame hm (t8 o ho)
  · have h1 : (freeA x.free).length ≤ 1024 * x.free.length := fm_bound fun b hb => by
      rw [List.length_map, List.length_range]
      have := t1 b hb
      calc 2 ^ b.2.toNat ≤ 2 ^ 10 := Nat.pow_le_pow_right (by omega) (by have := this.2.1; omega)
        _ = 1024 := rfl
    have h2 : (heldA x.held).length = (x.held.flatMap id).length := by
      simp [heldA, List.length_flatMap]
    have h3 : (procA x.procs).length = x.procs.length + (x.procs.flatMap Proc.leaves).length := by
      clear r1 r2 t9 htot
      generalize x.procs = L
      induction L with
      | nil => rfl
      | cons a L ih =>
        unfold procA at *
        rw [List.flatMap_cons, List.flatMap_cons, List.length_append, List.length_append, ih]
        simp
        omega
    have h4 : (pageA x.frames).length = x.frames.length := by simp [pageA]
    have h5 : (slabA x.slabs).length = x.slabs.length := by simp [slabA]
    have := s.free; have := s.held; have := s.frames; have := s.slabs; have := s.procs; have := s.leaves
    unfold addsP
    simp only [List.length_append]
    omega
  · have := r1 p hp
    omega
  · exact r2.imp fun h => by omega
  · exact (r1 p hp).2.2.2.2.2 m hm' |>.1
end Go.Proofs.YtikjgeenhbnkkaaGreatDoor
