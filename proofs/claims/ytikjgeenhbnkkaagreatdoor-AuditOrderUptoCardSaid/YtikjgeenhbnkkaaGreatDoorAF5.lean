/-
  A part of a proof that a law of this seat returns true at every input. Conditions: those in each theorem.
-/
import Derived.Test.YtikjgeenhbnkkaaGreatDoorAF4
import Derived.Shelf.SlIterI.Nil
import Derived.Shelf.SlIterI.Collect
import Derived.Shelf.SortM.Plain
import Derived.Shelf.SortM.SortNone
import Derived.Shelf.Spec.SlicesGrow
import Derived.Test.YtikjgeenhbnkkaaGreatDoorProg
import Derived.Test.YtikjgeenhbnkkaaGreatDoorAF1
import Derived.Maps.Range
import Derived.Maps.Keyed
set_option linter.unusedSimpArgs false
set_option linter.unusedVariables false
set_option maxRecDepth 100000
namespace Go.Proofs.YtikjgeenhbnkkaaGreatDoor
open Go Eng
theorem pow_wrap {o : Int} (h : 0 ≤ o ∧ o ≤ 10) : IntKind.wrap .i64 (1 * 2 ^ min o.toNat 64) = ((2 ^ o.toNat : Nat) : Int) := by
  have : o.toNat ≤ 10 := by omega
  generalize o.toNat = n at *
  have : n = 0 ∨ n = 1 ∨ n = 2 ∨ n = 3 ∨ n = 4 ∨ n = 5 ∨ n = 6 ∨ n = 7 ∨ n = 8 ∨ n = 9 ∨ n = 10 := by omega
  rcases this with rfl | rfl | rfl | rfl | rfl | rfl | rfl | rfl | rfl | rfl | rfl <;> rfl
structure CtR (wP w w' : World) (x : Pic) (TB om sm pm n : Nat) : Prop where
  ex : ∃ (w0 : World) (Z : Nat → Prop) (O L Q : List (Int × Value)), Kept none' w w0 ∧ Ct w0 TB om sm pm n w' Z (addsP x) O L Q ∧ OwnM O x.frames ∧ SlabM L x.slabs ∧ Books wP w0 w' Z Q x.procs
theorem count_spec {wP w : World} {S : PicS} {x : Pic} {TB om sm pm k n : Nat} (hP : PicR wP S x) (kP : Kept none' wP w) (hnew : wP.heap.size ≤ TB ∧ wP.heap.size ≤ om ∧ wP.heap.size ≤ sm ∧ wP.heap.size ≤ pm)
    (sl : ∀ i, i < 13 → rd w k (94 + i) = some (S.v i)) (th : rd w k 107 = some (.slice (some ⟨TB, 0, none⟩) n n)) (ow : rd w k 108 = some (.map (some om))) (sb : rd w k 109 = some (.map (some sm))) (pr : rd w k 110 = some (.map (some pm)))
    (ne : k ≠ TB ∧ k ≠ om ∧ k ≠ sm ∧ k ≠ pm ∧ TB ≠ om ∧ TB ≠ sm ∧ TB ≠ pm ∧ om ≠ sm ∧ om ≠ pm ∧ sm ≠ pm) (oT : own w TB (List.replicate n (.slice none 0 0))) (mo : MapIs w om []) (ms : MapIs w sm []) (mp : MapIs w pm []) (ok : CtOk x n) (hsn : (x.slabs.map Slab.frame).Nodup) :
    Calls Tryz.prog 19 #[pt k] w fun e w' => e = .returned (.tuple #[]) ∧ CtR wP w w' x TB om sm pm n := by
  refine (vc19 (some ⟨k, 0, none⟩) w (fun v w' => v = .tuple #[] ∧ CtR wP w w' x TB om sm pm n) ?_).mono ?_
  rotate_left
  · rintro e w' ⟨v, rfl, rfl, hw⟩
    exact ⟨rfl, hw⟩
  unfold vcP19
  intro w0 e0
  have ob := own_alloc (c := [pt k]) e0
  have k0 : Kept none' w w0 := (Kept.refl _ _).al e0
  have hs0 : w0.heap.size = w.heap.size + 1 := by rw [e0]; simp only [World.alloc, Array.size_push]
  have hkw := rd_lt th
  have hTw := oT.lt
  have how := mo.lt
  have hsw := ms.lt
  have hpw := mp.lt
  have lk : LkIs w0 S TB om sm pm w.heap.size k n := ⟨fun i hi => k0.rd_some (sl i hi) id, k0.rd_some th id, k0.rd_some ow id, k0.rd_some sb id, k0.rd_some pr id, by rw [ob.rd]; rfl, by omega, by omega⟩
  have kP0 := kP.tr k0
  have hmm : om < w0.heap.size ∧ sm < w0.heap.size ∧ pm < w0.heap.size := lk.lt.2
  have c0 : Ct w0 TB om sm pm n w0 (Z0 w0 TB) [] [] [] [] := by
    refine ⟨Kept.refl _ _, ⟨⟨_, oT.k k0, by simp, fun i hi => ⟨none, 0, 0, by simp [hi], rfl, World.ownsRow_nil _ _ _ _, fun b hb => by cases hb⟩, fun i j u v b hu hv hub => ?_⟩, fun h => h.2 rfl, fun b h => h.1⟩, fun b hb hn => ⟨hb, hn⟩, mo.k k0, ms.k k0, mp.k k0⟩
    have : u = .slice none 0 0 := by
      have := List.mem_of_getElem? hu
      exact List.eq_of_mem_replicate this
    subst this
    cases hub
  have hPk : ∀ {w1 : World} {Z : Nat → Prop} {A : List (Int × Int)} {O L Q : List (Int × Value)}, Ct w0 TB om sm pm n w1 Z A O L Q → Kept none' wP w1 := fun c => own0 kP0 c.ke fun b hb => by omega
  obtain ⟨hin, hlen, hord, hpid, hnd, hpg, hbig⟩ := ok
  have hAl : (freeA x.free).length + (heldA x.held).length + (procA x.procs).length + (pageA x.frames).length + (slabA x.slabs).length ≤ 100000000 := by
    unfold addsP at hlen
    simp only [List.length_append] at hlen
    omega
  have hinF : ∀ p ∈ freeA x.free, 0 ≤ p.1 ∧ p.1 < n := fun p hp => hin p (by unfold addsP; simp only [List.mem_append]; exact .inl (.inl (.inl (.inl hp))))
  have hinH : ∀ p ∈ heldA x.held, 0 ≤ p.1 ∧ p.1 < n := fun p hp => hin p (by unfold addsP; simp only [List.mem_append]; exact .inl (.inl (.inl (.inr hp))))
  have hinR : ∀ p ∈ procA x.procs, 0 ≤ p.1 ∧ p.1 < n := fun p hp => hin p (by unfold addsP; simp only [List.mem_append]; exact .inl (.inl (.inr hp)))
  have hinG : ∀ p ∈ pageA x.frames, 0 ≤ p.1 ∧ p.1 < n := fun p hp => hin p (by unfold addsP; simp only [List.mem_append]; exact .inl (.inr hp))
  have hinS : ∀ p ∈ slabA x.slabs, 0 ≤ p.1 ∧ p.1 < n := fun p hp => hin p (by unfold addsP; simp only [List.mem_append]; exact .inr hp)
  refine ⟨some ⟨k, 0, none⟩, by rw [ob.rd]; rfl, Wif_yes rfl ⟨S.a 1, S.l 1, S.c 1, lk.sl 1 (by decide), fun m w' M => ∃ q : Nat, m = (q : Int) ∧ q ≤ x.free.length ∧ M = x.free.length - q ∧ Ct w0 TB om sm pm n w' (Z0 w0 TB) (freeA (x.free.take q)) [] [] [], ⟨x.free.length, 0, rfl, by omega, rfl, c0⟩, ?_⟩⟩
  rintro _ w1 _ ⟨q, rfl, hq, rfl, c1⟩
  have hsl := hP.free.k RPair.stab (hPk c1)
  have hll := hsl.len
  have hlm := hsl.lt63
  refine Wif_intro (fun hc => ?_) (fun hc => ?_)
  · have hql : q < x.free.length := by simp at hc; omega
    obtain ⟨b, hb⟩ : ∃ b, x.free[q]? = some b := ⟨x.free[q], List.getElem?_eq_getElem hql⟩
    obtain ⟨cs, _, hR, hr⟩ := hsl.el q b hb
    obtain rfl : cs = [vi b.1, vi b.2] := hR
    have hbm := List.mem_of_getElem? hb
    have hbo := hord b hbm
    refine Wif_yes (hsl.isp (by omega)) (Wif_yes (inB_of (by omega) (by omega)) ?_)
    rw [Int.toNat_natCast]
    refine ⟨b.1, b.2, ⟨hr 0 _ rfl, hr 1 _ rfl⟩, ?_⟩
    intro w2 e2
    have o2 := own_alloc (c := [vi 0, vi 0]) e2
    have k2 : Kept none' w1 w2 := (Kept.refl _ _).al e2
    have c2 := c1.al k2 e2
    refine ⟨⟨o2.wr (by decide), o2.wr (by decide)⟩, ?_⟩
    intro w3 e3
    have o3 : own w3 w1.heap.size [vi b.1, vi b.2] := o2.s2 e3
    have hge : w0.heap.size ≤ w1.heap.size := c1.ke.sz
    have k3 : Kept (· = w1.heap.size) w2 w3 := (Kept.refl _ _).s2 e3 (.inl rfl)
    have c3 := c2.kz k3 (fun b hb => ⟨.inr hb, by omega⟩) hmm
    have e1 : freeA (x.free.take (q + 1)) = freeA (x.free.take q) ++ (List.range (2 ^ b.2.toNat)).map fun (i : Nat) => (b.1 + (i : Int), (0 : Int)) := fm_take hb
    have hle := fm_len (f := fun b : Int × Int => (List.range (2 ^ b.2.toNat)).map fun (i : Nat) => (b.1 + (i : Int), (0 : Int))) x.free (q + 1)
    change (freeA (x.free.take (q + 1))).length ≤ (freeA x.free).length at hle
    rw [e1] at hle
    simp only [List.length_append, List.length_map, List.length_range] at hle
    refine ⟨b.2, by rw [o3.rd]; rfl, Wif_yes (by simpa using hbo.1) ⟨fun m w' M => ∃ i : Nat, m = (i : Int) ∧ i ≤ 2 ^ b.2.toNat ∧ M = 2 ^ b.2.toNat - i ∧ Ct w0 TB om sm pm n w' (fun y => Z0 w0 TB y ∨ y = w1.heap.size) (freeA (x.free.take q) ++ (List.range i).map fun (i : Nat) => (b.1 + (i : Int), (0 : Int))) [] [] [] ∧ own w' w1.heap.size [vi b.1, vi b.2], ⟨2 ^ b.2.toNat, 0, rfl, Nat.zero_le _, rfl, by simpa using c3, o3⟩, ?_⟩⟩
    rintro _ w4 _ ⟨i, rfl, hi, rfl, c4, o4⟩
    rw [pow_wrap hbo]
    refine Wif_intro (fun hc4 => ?_) (fun hc4 => ?_)
    · have hil : i < 2 ^ b.2.toNat := by
        have : (i : Int) < ((2 ^ b.2.toNat : Nat) : Int) := of_decide_eq_true hc4
        omega
      have hfm : (b.1 + (i : Int), (0 : Int)) ∈ freeA x.free := List.mem_flatMap.2 ⟨b, hbm, List.mem_map.2 ⟨i, by simpa using hil, rfl⟩⟩
      have hfr := hinF _ hfm
      dsimp only at hfr
      refine ⟨b.1, by rw [o4.rd]; rfl, ?_⟩
      rw [wi (by omega)]
      refine (lk.add c4 hfr (by simp only [List.length_append, List.length_map, List.length_range]; omega)).mono ?_
      rintro _ w5 ⟨rfl, c5, k5⟩
      refine ⟨rfl, 2 ^ b.2.toNat - (i + 1), by omega, i + 1, by rw [wi (by omega)]; rfl, by omega, rfl, ?_, o4.kx k5 fun h => h (.inr rfl)⟩
      rw [List.range_succ, List.map_append, ← List.append_assoc]
      exact c5
    · have hil : i = 2 ^ b.2.toNat := by
        have : ¬ (i : Int) < ((2 ^ b.2.toNat : Nat) : Int) := of_decide_eq_false hc4
        omega
      subst hil
      refine ⟨x.free.length - (q + 1), by omega, q + 1, by rw [wi (by omega)]; rfl, by omega, rfl, ?_⟩
      rw [e1]
      exact c4.weak (fun y hy => .inl hy) fun y h1 h2 => ⟨h1, h2⟩
  have hql : q = x.free.length := by simp at hc; omega
  subst hql
  rw [List.take_length] at c1
  clear hc hq hll hlm hsl
  -- held
  refine ⟨some ⟨k, 0, none⟩, lk.rb c1, Wif_yes rfl ⟨S.a 2, S.l 2, S.c 2, lk.rd c1 (lk.sl 2 (by decide)), fun m w' M => ∃ q : Nat, m = (q : Int) ∧ q ≤ x.held.length ∧ M = x.held.length - q ∧ Ct w0 TB om sm pm n w' (Z0 w0 TB) (freeA x.free ++ heldA (x.held.take q)) [] [] [], ⟨x.held.length, 0, rfl, by omega, rfl, by simpa [heldA] using c1⟩, ?_⟩⟩
  clear c1
  rintro _ w1 _ ⟨q, rfl, hq, rfl, c1⟩
  have hll := hP.held.len
  have hlm := hP.held.lt63
  refine Wif_intro (fun hc => ?_) (fun hc => ?_)
  · have hql : q < x.held.length := by simp at hc; omega
    obtain ⟨b, hb⟩ : ∃ b, x.held[q]? = some b := ⟨x.held[q], List.getElem?_eq_getElem hql⟩
    obtain ⟨cs, _, hR, hr⟩ := hP.held.el q b hb
    obtain ⟨ba, bl, bc, rfl, hbr⟩ := hR
    have hbm := List.mem_of_getElem? hb
    have hbl := hbr.len
    have hbm63 := hbr.lt63
    refine Wif_yes (hP.held.isp (by omega)) (Wif_yes (inB_of (by omega) (by omega)) ?_)
    rw [Int.toNat_natCast]
    have e1 : heldA (x.held.take (q + 1)) = heldA (x.held.take q) ++ b.map fun f => (f, (1 : Int)) := fm_take hb
    have hle := fm_len (f := fun l : List Int => l.map fun f => (f, (1 : Int))) x.held (q + 1)
    change (heldA (x.held.take (q + 1))).length ≤ (heldA x.held).length at hle
    rw [e1] at hle
    simp only [List.length_append, List.length_map] at hle
    refine ⟨ba, bl, bc, (hPk c1).rd_some (hr 0 _ rfl) id, fun m w' M => ∃ i : Nat, m = (i : Int) ∧ i ≤ b.length ∧ M = b.length - i ∧ Ct w0 TB om sm pm n w' (Z0 w0 TB) (freeA x.free ++ heldA (x.held.take q) ++ (b.take i).map fun f => (f, (1 : Int))) [] [] [], ⟨b.length, 0, rfl, Nat.zero_le _, rfl, by simpa using c1⟩, ?_⟩
    rintro _ w4 _ ⟨i, rfl, hi, rfl, c4⟩
    refine Wif_intro (fun hc4 => ?_) (fun hc4 => ?_)
    · have hil : i < b.length := by simp at hc4; omega
      obtain ⟨f, hf⟩ : ∃ f, b[i]? = some f := ⟨b[i], List.getElem?_eq_getElem hil⟩
      obtain ⟨cs', _, hR', hr'⟩ := (hbr.k RInt.stab (hPk c4)).el i f hf
      obtain rfl : cs' = [vi f] := hR'
      have hfm : (f, (1 : Int)) ∈ heldA x.held := List.mem_flatMap.2 ⟨b, hbm, List.mem_map.2 ⟨f, List.mem_of_getElem? hf, rfl⟩⟩
      have hfr := hinH _ hfm
      dsimp only at hfr
      refine Wif_yes (hbr.isp (by omega)) (Wif_yes (inB_of (by omega) (by omega)) ?_)
      rw [Int.toNat_natCast]
      refine ⟨f, hr' 0 _ rfl, ?_⟩
      refine (lk.add c4 hfr (by simp only [List.length_append, List.length_map, List.length_take]; omega)).mono ?_
      rintro _ w5 ⟨rfl, c5, k5⟩
      refine ⟨rfl, b.length - (i + 1), by omega, i + 1, by rw [wi (by omega)]; rfl, by omega, rfl, ?_⟩
      rw [List.take_add_one, hf, List.map_append, ← List.append_assoc]
      exact c5
    · have hil : i = b.length := by simp at hc4; omega
      subst hil
      refine ⟨x.held.length - (q + 1), by omega, q + 1, by rw [wi (by omega)]; rfl, by omega, rfl, ?_⟩
      rw [e1, ← List.append_assoc]
      rw [List.take_length] at c4
      exact c4
  have hql : q = x.held.length := by simp at hc; omega
  subst hql
  rw [List.take_length] at c1
  clear hc hq hll hlm
  exact procs_tail (K := fun v w' => v = .tuple #[] ∧ CtR wP w w' x TB om sm pm n) lk hP kP0 hnew hinR hinG hinS hbig hpid hnd hpg (by rw [List.length_append]; omega) hsn c1 fun w2 Z2 O2 L2 Q2 c2 h1 h2 h3 => ⟨rfl, ⟨w0, Z2, O2, L2, Q2, k0, c2, h1, h2, h3⟩⟩
end Go.Proofs.YtikjgeenhbnkkaaGreatDoor
/-
  DERIVED: THE SHELF's CONTRACTS AT THIS DUMP, IN PLAIN WORDS (tools/lay-plain.mjs out of 'S1r4.lean', which tools/lay-shelf.mjs wrote): THE SAME DECLARATIONS UNDER THE SAME NAMES: 'import', 'namespace', 'open', 'def', 'theorem' AND NOTHING ELSE: no command of the shelf's: FOR A HAND-IN. Each laying: the table of numbers ('.._ren') and one theorem, a field a fact of the dump's own or the kernel's comparison; each contract: ONE APPLICATION.
-/
namespace Go.Proofs
open Go.Shelf
def Tryz.keysA_ren : Go.Shelf.Ren := ⟨fun | 7 => 64 | 10 => 111 | n => n, fun | 23 => 99 | 26 => 3 | 3 => 3 | 28 => 138 | 0 => 0 | 27 => 137 | 33 => 105 | 4 => 4 | n => n, fun | n => n⟩
theorem Tryz.keysA : Go.Proofs.SlLaysZI.n7 Tryz.prog Tryz.keysA_ren := {
  mixed := by kernel_rfl
  f7 := ⟨Tryz.f64.name, by decide, Tryz.func64.trans (congrArg some (by kernel_rfl))⟩
  f10 := ⟨Tryz.f111.name, by decide, Tryz.func111.trans (congrArg some (by kernel_rfl))⟩
  t0 := Tryz.underlying0
  a0 := Tryz.isAgg0
  z0 := Tryz.sizeOf0
  v0 := Tryz.zeroValue0
  t4 := Tryz.underlying4
  a4 := Tryz.isAgg4
  z4 := Tryz.sizeOf4
  v4 := Tryz.zeroValue4
  t23 := Tryz.underlying99
  a23 := Tryz.isAgg99
  z23 := Tryz.sizeOf99
  v23 := Tryz.zeroValue99
  t26 := Tryz.underlying3
  a26 := Tryz.isAgg3
  z26 := Tryz.sizeOf3
  v26 := Tryz.zeroValue3
  t27 := Tryz.underlying137
  a27 := Tryz.isAgg137
  z27 := Tryz.sizeOf137
  v27 := Tryz.zeroValue137
  t28 := Tryz.underlying138
  a28 := Tryz.isAgg138
  z28 := Tryz.sizeOf138
  v28 := Tryz.zeroValue138
  t33 := Tryz.underlying105
  a33 := Tryz.isAgg105
  z33 := Tryz.sizeOf105
  v33 := Tryz.zeroValue105 }
def Tryz.collectA_ren : Go.Shelf.Ren := ⟨fun | 8 => 63 | 11 => 110 | n => n, fun | 26 => 3 | 28 => 138 | 24 => 31 | 0 => 0 | 33 => 105 | 4 => 4 | n => n, fun | n => n⟩
theorem Tryz.collectA : Go.Proofs.SlLaysZI.n8 Tryz.prog Tryz.collectA_ren := {
  mixed := by kernel_rfl
  f8 := ⟨Tryz.f63.name, by decide, Tryz.func63.trans (congrArg some (by kernel_rfl))⟩
  f11 := ⟨Tryz.f110.name, by decide, Tryz.func110.trans (congrArg some (by kernel_rfl))⟩
  t0 := Tryz.underlying0
  a0 := Tryz.isAgg0
  z0 := Tryz.sizeOf0
  v0 := Tryz.zeroValue0
  t24 := Tryz.underlying31
  a24 := Tryz.isAgg31
  z24 := Tryz.sizeOf31
  v24 := Tryz.zeroValue31
  t26 := Tryz.underlying3
  a26 := Tryz.isAgg3
  z26 := Tryz.sizeOf3
  v26 := Tryz.zeroValue3
  t28 := Tryz.underlying138
  a28 := Tryz.isAgg138
  z28 := Tryz.sizeOf138
  v28 := Tryz.zeroValue138
  i26 := by kernel_rfl }
def Tryz.sortedA_ren : Go.Shelf.Ren := ⟨fun | 6 => 69 | 8 => 63 | 9 => 28 | 11 => 110 | 13 => 74 | 12 => 73 | 23 => 124 | 24 => 125 | 14 => 115 | 15 => 116 | 16 => 117 | 17 => 118 | 18 => 119 | 19 => 120 | 20 => 121 | 21 => 122 | 22 => 123 | 25 => 141 | 26 => 142 | 27 => 143 | 28 => 144 | 29 => 145 | 30 => 146 | 31 => 150 | n => n, fun | 26 => 3 | 28 => 138 | 24 => 31 | 0 => 0 | 3 => 3 | 37 => 150 | 48 => 176 | 50 => 58 | 4 => 4 | 40 => 169 | 39 => 168 | 45 => 102 | 5 => 5 | 9 => 9 | 51 => 188 | 55 => 192 | 57 => 197 | 58 => 198 | 33 => 105 | n => n, fun | n => n⟩
theorem Tryz.sortedA : Go.Proofs.SlLaysZI.n6 Tryz.prog Tryz.sortedA_ren := {
  mixed := by kernel_rfl
  f6 := ⟨Tryz.f69.name, by decide, Tryz.func69.trans (congrArg some (by kernel_rfl))⟩
  f8 := ⟨Tryz.f63.name, by decide, Tryz.func63.trans (congrArg some (by kernel_rfl))⟩
  f11 := ⟨Tryz.f110.name, by decide, Tryz.func110.trans (congrArg some (by kernel_rfl))⟩
  t0 := Tryz.underlying0
  a0 := Tryz.isAgg0
  z0 := Tryz.sizeOf0
  v0 := Tryz.zeroValue0
  t24 := Tryz.underlying31
  a24 := Tryz.isAgg31
  z24 := Tryz.sizeOf31
  v24 := Tryz.zeroValue31
  t26 := Tryz.underlying3
  a26 := Tryz.isAgg3
  z26 := Tryz.sizeOf3
  v26 := Tryz.zeroValue3
  t28 := Tryz.underlying138
  a28 := Tryz.isAgg138
  z28 := Tryz.sizeOf138
  v28 := Tryz.zeroValue138
  i26 := by kernel_rfl }
def Tryz.sortA_ren : Go.Shelf.Ren := ⟨fun | 5 => 28 | 8 => 74 | 7 => 73 | 19 => 124 | 20 => 125 | 10 => 115 | 11 => 116 | 12 => 117 | 13 => 118 | 14 => 119 | 15 => 120 | 16 => 121 | 17 => 122 | 18 => 123 | 30 => 141 | 31 => 142 | 32 => 143 | 33 => 144 | 34 => 145 | 35 => 146 | 40 => 150 | n => n, fun | 23 => 31 | 25 => 3 | 3 => 3 | 32 => 150 | 22 => 31 | 0 => 0 | 44 => 176 | 46 => 58 | 4 => 4 | 36 => 169 | 35 => 168 | 41 => 102 | 5 => 5 | 9 => 9 | 53 => 188 | 57 => 192 | 63 => 197 | 64 => 198 | n => n, fun | n => n⟩
theorem Tryz.sortA : Go.Proofs.SlLaysM.n5 Tryz.prog Tryz.sortA_ren := {
  mixed := by kernel_rfl
  f5 := ⟨Tryz.f28.name, by decide, Tryz.func28.trans (congrArg some (by kernel_rfl))⟩
  f7 := ⟨Tryz.f73.name, by decide, Tryz.func73.trans (congrArg some (by kernel_rfl))⟩
  f8 := Tryz.func74.trans (congrArg some (by kernel_rfl))
  f10 := ⟨Tryz.f115.name, by decide, Tryz.func115.trans (congrArg some (by kernel_rfl))⟩
  f11 := ⟨Tryz.f116.name, by decide, Tryz.func116.trans (congrArg some (by kernel_rfl))⟩
  f12 := ⟨Tryz.f117.name, by decide, Tryz.func117.trans (congrArg some (by kernel_rfl))⟩
  f13 := ⟨Tryz.f118.name, by decide, Tryz.func118.trans (congrArg some (by kernel_rfl))⟩
  f14 := ⟨Tryz.f119.name, by decide, Tryz.func119.trans (congrArg some (by kernel_rfl))⟩
  f15 := ⟨Tryz.f120.name, by decide, Tryz.func120.trans (congrArg some (by kernel_rfl))⟩
  f16 := ⟨Tryz.f121.name, by decide, Tryz.func121.trans (congrArg some (by kernel_rfl))⟩
  f17 := ⟨Tryz.f122.name, by decide, Tryz.func122.trans (congrArg some (by kernel_rfl))⟩
  f18 := ⟨Tryz.f123.name, by decide, Tryz.func123.trans (congrArg some (by kernel_rfl))⟩
  f19 := Tryz.func124.trans (congrArg some (by kernel_rfl))
  f20 := Tryz.func125.trans (congrArg some (by kernel_rfl))
  f30 := ⟨Tryz.f141.name, by decide, Tryz.func141.trans (congrArg some (by kernel_rfl))⟩
  f31 := Tryz.func142.trans (congrArg some (by kernel_rfl))
  f32 := Tryz.func143.trans (congrArg some (by kernel_rfl))
  f33 := ⟨Tryz.f144.name, by decide, Tryz.func144.trans (congrArg some (by kernel_rfl))⟩
  f34 := ⟨Tryz.f145.name, by decide, Tryz.func145.trans (congrArg some (by kernel_rfl))⟩
  f35 := ⟨Tryz.f146.name, by decide, Tryz.func146.trans (congrArg some (by kernel_rfl))⟩
  f40 := ⟨Tryz.f150.name, by decide, Tryz.func150.trans (congrArg some (by kernel_rfl))⟩
  t0 := Tryz.underlying0
  a0 := Tryz.isAgg0
  z0 := Tryz.sizeOf0
  v0 := Tryz.zeroValue0
  t3 := Tryz.underlying3
  a3 := Tryz.isAgg3
  z3 := Tryz.sizeOf3
  v3 := Tryz.zeroValue3
  t4 := Tryz.underlying4
  a4 := Tryz.isAgg4
  z4 := Tryz.sizeOf4
  v4 := Tryz.zeroValue4
  t5 := Tryz.underlying5
  a5 := Tryz.isAgg5
  z5 := Tryz.sizeOf5
  v5 := Tryz.zeroValue5
  t9 := Tryz.underlying9
  a9 := Tryz.isAgg9
  z9 := Tryz.sizeOf9
  v9 := Tryz.zeroValue9
  t22 := Tryz.underlying31
  a22 := Tryz.isAgg31
  z22 := Tryz.sizeOf31
  v22 := Tryz.zeroValue31
  t23 := Tryz.underlying31
  a23 := Tryz.isAgg31
  z23 := Tryz.sizeOf31
  v23 := Tryz.zeroValue31
  t25 := Tryz.underlying3
  a25 := Tryz.isAgg3
  z25 := Tryz.sizeOf3
  v25 := Tryz.zeroValue3
  t32 := Tryz.underlying150
  a32 := Tryz.isAgg150
  z32 := Tryz.sizeOf150
  v32 := Tryz.zeroValue150
  t35 := Tryz.underlying168
  a35 := Tryz.isAgg168
  z35 := Tryz.sizeOf168
  v35 := Tryz.zeroValue168
  t36 := Tryz.underlying169
  a36 := Tryz.isAgg169
  z36 := Tryz.sizeOf169
  v36 := Tryz.zeroValue169
  t41 := Tryz.underlying102
  a41 := Tryz.isAgg102
  z41 := Tryz.sizeOf102
  v41 := Tryz.zeroValue102
  t44 := Tryz.underlying176
  a44 := Tryz.isAgg176
  z44 := Tryz.sizeOf176
  v44 := Tryz.zeroValue176
  t46 := Tryz.underlying58
  a46 := Tryz.isAgg58
  z46 := Tryz.sizeOf58
  v46 := Tryz.zeroValue58
  t53 := Tryz.underlying188
  a53 := Tryz.isAgg188
  z53 := Tryz.sizeOf188
  v53 := Tryz.zeroValue188
  t57 := Tryz.underlying192
  a57 := Tryz.isAgg192
  z57 := Tryz.sizeOf192
  v57 := Tryz.zeroValue192
  t63 := Tryz.underlying197
  a63 := Tryz.isAgg197
  z63 := Tryz.sizeOf197
  v63 := Tryz.zeroValue197
  t64 := Tryz.underlying198
  a64 := Tryz.isAgg198
  z64 := Tryz.sizeOf198
  v64 := Tryz.zeroValue198 }
def Tryz.growI_ren : Go.Shelf.Ren := ⟨fun | 4 => 109 | n => n, fun | 22 => 31 | 25 => 3 | 3 => 3 | 4 => 4 | 9 => 9 | 20 => 20 | 0 => 0 | n => n, fun | n => n⟩
theorem Tryz.growI : Go.Proofs.Lays8.n4 Tryz.prog Tryz.growI_ren := {
  mixed := by kernel_rfl
  f4 := ⟨Tryz.f109.name, by decide, Tryz.func109.trans (congrArg some (by kernel_rfl))⟩
  t0 := Tryz.underlying0
  a0 := Tryz.isAgg0
  z0 := Tryz.sizeOf0
  v0 := Tryz.zeroValue0
  t3 := Tryz.underlying3
  a3 := Tryz.isAgg3
  z3 := Tryz.sizeOf3
  v3 := Tryz.zeroValue3
  t4 := Tryz.underlying4
  a4 := Tryz.isAgg4
  z4 := Tryz.sizeOf4
  v4 := Tryz.zeroValue4
  t9 := Tryz.underlying9
  a9 := Tryz.isAgg9
  z9 := Tryz.sizeOf9
  v9 := Tryz.zeroValue9
  t20 := Tryz.underlying20
  a20 := Tryz.isAgg20
  z20 := Tryz.sizeOf20
  v20 := Tryz.zeroValue20
  t22 := Tryz.underlying31
  a22 := Tryz.isAgg31
  z22 := Tryz.sizeOf31
  v22 := Tryz.zeroValue31 }
def Tryz.growO_ren : Go.Shelf.Ren := ⟨fun | 4 => 114 | n => n, fun | 22 => 35 | 25 => 30 | 3 => 3 | 4 => 4 | 9 => 9 | 20 => 20 | 0 => 0 | n => n, fun | n => n⟩
theorem Tryz.growO : Go.Proofs.Lays8.n4 Tryz.prog Tryz.growO_ren := {
  mixed := by kernel_rfl
  f4 := ⟨Tryz.f114.name, by decide, Tryz.func114.trans (congrArg some (by kernel_rfl))⟩
  t0 := Tryz.underlying0
  a0 := Tryz.isAgg0
  z0 := Tryz.sizeOf0
  v0 := Tryz.zeroValue0
  t3 := Tryz.underlying3
  a3 := Tryz.isAgg3
  z3 := Tryz.sizeOf3
  v3 := Tryz.zeroValue3
  t4 := Tryz.underlying4
  a4 := Tryz.isAgg4
  z4 := Tryz.sizeOf4
  v4 := Tryz.zeroValue4
  t9 := Tryz.underlying9
  a9 := Tryz.isAgg9
  z9 := Tryz.sizeOf9
  v9 := Tryz.zeroValue9
  t20 := Tryz.underlying20
  a20 := Tryz.isAgg20
  z20 := Tryz.sizeOf20
  v20 := Tryz.zeroValue20
  t22 := Tryz.underlying35
  a22 := Tryz.isAgg35
  z22 := Tryz.sizeOf35
  v22 := Tryz.zeroValue35 }
end Go.Proofs
set_option linter.unusedSimpArgs false
set_option linter.unusedVariables false
set_option maxRecDepth 100000
namespace Go.Proofs.YtikjgeenhbnkkaaGreatDoor
open Go Eng
open Go.RowKit Go.Maps Go.Sort Go.Shelf
theorem heap_sortedV {w : World} {g n : Nat} {os : Array Obj} {cur : Array Value} {e : TypeId} {fr : Nat × Nat} (d : Array Int) (hb : w.heap[g]? = some (.cells cur e fr)) :
    (grow (putRow (Value.int .i64) (Sort.ahead w n) g 0 d) os).heap[g]? = some (.cells (putCells (Value.int .i64) 0 d cur) e fr) := by
  have hg : g < w.heap.size := (Array.getElem?_eq_some_iff.1 hb).1
  rw [heap_grow_old _ _ (by simpa using hg)]
  simp [putRow, mapBlock, Sort.ahead, Array.getElem?_modify, hb, onCells]
theorem grownBy_sortedV {w : World} {g n : Nat} {os : Array Obj} (d : Array Int) : w.grownBy (grow (putRow (Value.int .i64) (Sort.ahead w n) g 0 d) os) (some g) := by
  refine ⟨rfl, rfl, rfl, by simp, fun k hk hne => ?_⟩
  rw [heap_grow_old _ _ (by simpa using hk)]
  have : g ≠ k := fun e => hne (by rw [e])
  simp [putRow, mapBlock, Sort.ahead, Array.getElem?_modify, this]
theorem take_putCellsV (cur : Array Value) (F : Array Int) (h : F.size ≤ cur.size) : (putCells (Value.int .i64) 0 F cur).toList.take F.size = F.toList.map (Value.int .i64) := by
  apply List.ext_getElem?
  intro j
  by_cases hj : j < F.size
  · rw [List.getElem?_take_of_lt hj, Array.getElem?_toList]
    simp [putCells, hj, show j < cur.size by omega]
  · rw [List.getElem?_take_eq_none (by omega), List.getElem?_eq_none (by simp; omega)]
def sortI (xs : List Int) : List Int := xs.mergeSort fun x y => decide (x ≤ y)
theorem sort_row {w : World} {base : Nat} {a : Option Addr} {l c : Nat} {xs : List Int} (h : RowI w base a l c xs) (hl : xs.length ≤ 1000000000) :
    Calls Tryz.prog 28 #[.slice a l c] w fun e w' => e = .returned (.tuple #[]) ∧ RowI w' base a l c (sortI xs) ∧ Kept (fun b => (Value.slice a l c).ownBlock = some b) w w' := by
  obtain ⟨rfl, h⟩ := h
  rcases h.2 with ⟨h0, h1⟩ | ⟨g, cap, cur, hv, hb, hgg, hnc, hm, hsz, htk⟩
  · have hx0 : xs = [] := List.length_eq_zero_iff.1 h1
    subst hx0
    cases h0
    refine (AnyM.slices_Sort_int_none (ρ := Tryz.sortA_ren) Tryz.sortA none 0 w).mono ?_
    rintro e w' ⟨rfl, rfl⟩
    have e0 : sortI [] = [] := by simp [sortI]
    rw [e0]
    exact ⟨rfl, RowI.nil', Kept.refl _ _⟩
  · cases hv
    have hglt : g < w.heap.size := (Array.getElem?_eq_some_iff.1 hgg).1
    have hH : Holds (Value.int .i64) w g 0 xs.toArray := by
      intro j hj
      have hj' : j < xs.length := by simpa using hj
      refine ⟨?_, by simp [World.frozen?, hgg]⟩
      have h1 : (cur.toList.take (xs.length * 1))[j]? = (xs.map vi)[j]? := by rw [htk]
      rw [List.getElem?_take_of_lt (by omega)] at h1
      simp only [World.cell?, hgg, Nat.zero_add]
      simp only [Option.isSome_none, Bool.false_eq_true, if_false]
      rw [← Array.getElem?_toList, h1]
      simp [hj']
    refine (AnyM.slices_Sort_int (ρ := Tryz.sortA_ren) Tryz.sortA g 0 c xs w hH hglt (by omega)).mono ?_
    rintro e w' ⟨rfl, m, os, rfl⟩
    have hF : (sortI xs).toArray.size = xs.length := by simp [sortI]
    have hF' : (sortI xs).length = xs.length := by simp [sortI]
    refine ⟨rfl, ⟨hF'.symm, by simpa using hF', .inr ⟨g, c, _, rfl, hb, heap_sortedV _ hgg, hnc, hm, by simpa [putCells] using hsz, ?_⟩⟩, (Kept.grownBy (grownBy_sortedV _)).mono fun b _ h => by simpa [Value.ownBlock] using h⟩
    have := take_putCellsV cur (sortI xs).toArray (by rw [hF]; omega)
    rw [hF] at this
    simpa [sortI] using this
def keysR : Value → Option (DataW Unit × List MemPlace) := fun _ => some (.lit (.bool true), [])
theorem map_owns {P : Program} {kt : TypeId} (hk : P.underlying kt = some (.int .i64)) {w : World} {b : Nat} {m : List (Int × Value)} (h : MapIs w b m) (hs : m.length ≤ maxLen) :
    ∃ D, w.ownsMap P kt keysR b m.length D ∧ (intKeys D).Perm (m.map (·.1)) ∧ Maps.size D = m.length := by
  obtain ⟨es, c, h1, h2, h3⟩ := h.ex
  have hlen : es.size = m.length := by
    have := h3.length_eq
    simpa using this
  have hrd : ∀ x ∈ es.toList, ∃ k, x.key = .int .i64 k ∧ Go.WideElems.rd P kt keysR x = some (.int .i64 k, .lit (.bool true)) := by
    intro x hx
    have : enE x ∈ m.map enK := h3.mem_iff.1 (List.mem_map.2 ⟨x, hx, rfl⟩)
    obtain ⟨q, hq, hqe⟩ := List.mem_map.1 this
    have hxk : x.key = .int .i64 q.1 := (congrArg Prod.fst hqe).symm
    have hr := h.rg q hq
    refine ⟨q.1, hxk, ?_⟩
    unfold Go.WideElems.rd
    rw [hxk, keyOf_int_mk hk (by simp [Lit.wf, IntKind.min, IntKind.max, IntKind.signed, IntKind.bits]; omega)]
    rfl
  refine ⟨_, ⟨es, c, h1, ⟨by omega, h2, fun x hx => ?_⟩, by omega, rfl⟩, ?_, ?_⟩
  · obtain ⟨k, _, hr⟩ := hrd x hx
    exact ⟨_, hr⟩
  · show ((es.toList.map (Go.WideElems.rg P kt keysR)).foldr DataW.insert []).map (fun p => _root_.Go.intOf p.1) |>.Perm _
    refine ((Go.WideShapes.sorted_perm _).map _).trans ?_
    rw [List.map_map]
    have e1 : es.toList.map ((fun p => _root_.Go.intOf p.1) ∘ Go.WideElems.rg P kt keysR) = (es.toList.map enE).map fun q => match q.1 with | .int _ n => n | _ => 0 := by
      rw [List.map_map]
      refine List.map_congr_left fun x hx => ?_
      obtain ⟨k, hxk, hr⟩ := hrd x hx
      simp [Go.WideElems.rg, hr, hxk, _root_.Go.intOf, enE]
    rw [e1]
    refine (h3.map _).trans (List.Perm.of_eq ?_)
    rw [List.map_map]
    rfl
  · show ((es.toList.map (Go.WideElems.rg P kt keysR)).foldr DataW.insert []).length = _
    rw [(Go.WideShapes.sorted_perm _).length_eq, List.length_map]
    simpa using hlen
theorem keys_call (mb : Option Nat) (w : World) : Calls Tryz.prog 64 #[.map mb] w fun e w' => e = .returned (.func (.func 111) #[] #[.pointer (some ⟨w.heap.size, 0, none⟩)]) ∧ w' = w.alloc (.cells #[.map mb] 99) := by
  refine (callsIn_wide (n := 6)).1 ?_
  exact AnyZI.keys_in Tryz.keysA Fence.wide 6 trivial rfl mb w
theorem collect_keys {w : World} {b B : Nat} {m : List (Int × Value)} (h : MapIs w b m) (hs : m.length ≤ 1000000000) (hB : own w B [.map (some b)]) :
    Calls Tryz.prog 63 #[.func (.func 111) #[] #[.pointer (some ⟨B, 0, none⟩)]] w fun e w' => ∃ (a : Option Addr) (l c : Nat) (ks : List Int), e = .returned (.slice a l c) ∧ ks.Perm (m.map (·.1)) ∧ RowI w' w.heap.size a l c ks ∧ Kept none' w w' := by
  obtain ⟨D, hown, hperm, hsz⟩ := map_owns (P := Tryz.prog) (kt := 3) Tryz.underlying3 h (by unfold maxLen; omega)
  have hseq : SeqGives Fence.wide 4 Tryz.prog 111 #[.pointer (some ⟨B, 0, none⟩)] encZ (fun ss => ss.Perm (intKeys D)) (Maps.size D) w :=
    AnyZI.keys_gives (ρ := Tryz.keysA_ren) { Tryz.keysA with } Fence.wide _ trivial rfl (by omega) B b m.length D w hB.lt (by
      exact hB.rd 0) hown
  have cS := AnyZI.collect_in Tryz.collectA Fence.wide 6 trivial trivial rfl (by omega) 111 #[.pointer (some ⟨B, 0, none⟩)] trivial (enters_of Tryz.func111 (by kernel_rfl) rfl) _ _ (by rw [hsz]; unfold maxLen; omega) (by rw [hsz]; omega) w hseq
  change CallsIn _ _ Tryz.prog 63 _ _ _ at cS
  refine ((callsIn_wide (n := 6)).1 cS).mono ?_
  rintro e w' ⟨v, ss, rfl, hS, hrow, hnil, hb⟩
  have hv : ∃ a c, v = .slice a ss.length c := by
    rcases hrow.2 with ⟨rfl, h0⟩ | ⟨g, cap, cur, rfl, _⟩
    · exact ⟨none, 0, by rw [h0]⟩
    · exact ⟨_, _, rfl⟩
  obtain ⟨a, c, rfl⟩ := hv
  exact ⟨a, _, c, ss, rfl, hS.trans hperm, ⟨rfl, hrow⟩, ⟨hb.os, hb.tape, hb.output, hb.size, fun i hi _ => hb.block i hi⟩⟩
theorem len_map {P : Program} {mt kt et : TypeId} (ht : P.underlying mt = some (.map kt et)) (hk : P.underlying kt = some (.int .i64)) {w : World} {b : Nat} {m : List (Int × Value)} (h : MapIs w b m) (hs : m.length ≤ 1000000) {ty : TypeId} :
    lenIs P #[mt] ty (.map (some b)) m.length w := by
  obtain ⟨D, hown, _, hsz⟩ := map_owns hk h (by unfold maxLen; omega)
  have := hown.len ht ty
  rw [hsz] at this
  exact ⟨this⟩
end Go.Proofs.YtikjgeenhbnkkaaGreatDoor
