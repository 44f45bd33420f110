/-
  A part of a proof that a law of this seat returns true at every input. Conditions: those in each theorem.
-/
import Derived.Test.YtikjgeenhbnkkaaGreatDoorA0
import Derived.Test.YtikjgeenhbnkkaaGreatDoorAV1
set_option linter.unusedSimpArgs false
set_option linter.unusedVariables false
set_option maxRecDepth 100000
namespace Go.Proofs.YtikjgeenhbnkkaaGreatDoor
open Go Eng
def valC : List Value → Value
  | [u] => u
  | cs => .agg cs.toArray
theorem SlR.lt63 {α : Type} {R : Rd α} {s : Nat} {w : World} {a : Option Addr} {l c : Nat} {xs : List α} (h : SlR R s w a l c xs) : xs.length ≤ 9223372036854775807 := by
  have h1 := h.mx
  have h2 := h.lc
  have h3 := h.len
  unfold maxLen at h1
  omega

theorem all_int {X : Nat → Prop} {J : Nat → World → Prop} {B : Nat → World → Prop} {w : World} {a : Option Addr} {l c : Nat} {xs : List (Int)} {v : Value} (hv : v.cells = #[v]) (hX : ∀ x, X x → x < w.heap.size) (hR : ∀ w', Kept X w w' → SlR (RInt) 1 w' a l c xs) (h0 : ∀ w', Kept none' w w' → J 0 w') (hJ : ∀ i w1 w2, J i w1 → Kept none' w1 w2 → J i w2)
    (hp : ∀ (i : Nat) (x : Int) (w' : World) (cs : List Value), xs[i]? = some x → Kept X w w' → (RInt) w' cs x → J i w' → CallsV Tryz.prog v [valC cs] w' fun e w'' => ∃ b : Bool, e = .returned (.bool b) ∧ Kept X w' w'' ∧ (b = true → J (i + 1) w'') ∧ (b = false → B i w'')) :
    Calls Tryz.prog 36 #[.slice a l c, v] w fun r w' => ∃ b : Bool, r = .returned (.bool b) ∧ Kept X w w' ∧ (b = true → J xs.length w') ∧ (b = false → ∃ i, i < xs.length ∧ B i w') := by
  refine (vc36 a l c v w (fun u w' => ∃ b : Bool, u = .bool b ∧ Kept X w w' ∧ (b = true → J xs.length w') ∧ (b = false → ∃ i, i < xs.length ∧ B i w')) ?_).mono ?_
  · unfold vcP36
    rw [hv]
    intro w1 e1
    have ob1 := own_alloc (c := [v]) e1
    have k1 : Kept none' w w1 := (Kept.refl _ _).al e1
    refine ⟨fun n k w' M => ∃ i : Nat, k = (i : Int) ∧ i ≤ xs.length ∧ M = xs.length - i ∧ Kept X w w' ∧ own w' w.heap.size [v] ∧ J i w', ⟨xs.length, 0, rfl, by omega, rfl, k1.mono fun _ _ h => h.elim, ob1, h0 w1 k1⟩, ?_⟩
    rintro n _ w2 _ ⟨i, rfl, hi, rfl, k2, ob2, hj⟩
    have hs := hR w2 k2
    have hlen := hs.len
    have h63 := hs.lt63
    refine Wif_intro (fun hc => ?_) (fun hc => ?_)
    · have hil : i < xs.length := by simp at hc; omega
      obtain ⟨x, hx⟩ : ∃ x, xs[i]? = some x := ⟨xs[i], List.getElem?_eq_getElem hil⟩
      obtain ⟨cs, hcs, hRx, hr⟩ := hs.el i x hx
      have hq := hp i x w2 cs hx k2 hRx hj
      have hR2 := hRx
      refine Wif_yes (hs.isp (by omega)) (Wif_yes (inB_of (by omega) (by omega)) ?_)
      rw [Int.toNat_natCast]
      obtain rfl : cs = [vi x] := hRx
      refine ⟨_, hr 0 _ rfl, (vc83 _ (some ⟨w.heap.size, 0, none⟩) w2 (fun u w' => ∃ b : Bool, u = .bool (!b) ∧ Kept X w2 w' ∧ (b = true → J (i + 1) w') ∧ (b = false → B i w')) ?_).mono ?_⟩
      · unfold vcP83
        refine Wif_yes rfl ⟨v, by rw [show po (some ⟨w.heap.size, 0, none⟩) = 0 from rfl, show pb (some ⟨w.heap.size, 0, none⟩) = w.heap.size from rfl, ob2.rd]; rfl, CallsV.mono hq ?_⟩
        rintro e w3 ⟨b, rfl, k3, g1, g2⟩
        exact ⟨b, rfl, b, rfl, k3, g1, g2⟩
      · rintro e w3 ⟨u, rfl, b, rfl, k3, g1, g2⟩
        have K3 : Kept X w w3 := k2.trans k3 fun _ _ h => h
        refine ⟨!b, rfl, ?_⟩
        cases b with
        | true =>
          refine Wif_no rfl ⟨xs.length - (i + 1), by omega, i + 1, by rw [wi (by omega)]; rfl, by omega, rfl, K3, ob2.kx k3 fun h => by have := hX _ h; omega, g1 rfl⟩
        | false =>
          refine Wif_yes rfl ⟨false, by simp, K3, fun h => (by cases h), fun _ => ⟨i, hil, g2 rfl⟩⟩
    · have hie : i = xs.length := by simp at hc; omega
      subst hie
      exact ⟨true, rfl, k2, fun _ => hj, fun h => by cases h⟩
  · rintro e w' ⟨u, rfl, b, rfl, hw⟩
    exact ⟨b, rfl, hw⟩
theorem all_blk {X : Nat → Prop} {J : Nat → World → Prop} {B : Nat → World → Prop} {w : World} {a : Option Addr} {l c : Nat} {xs : List (Int × Int)} {v : Value} (hv : v.cells = #[v]) (hX : ∀ x, X x → x < w.heap.size) (hR : ∀ w', Kept X w w' → SlR (RPair) 2 w' a l c xs) (h0 : ∀ w', Kept none' w w' → J 0 w') (hJ : ∀ i w1 w2, J i w1 → Kept none' w1 w2 → J i w2)
    (hp : ∀ (i : Nat) (x : Int × Int) (w' : World) (cs : List Value), xs[i]? = some x → Kept X w w' → (RPair) w' cs x → J i w' → CallsV Tryz.prog v [valC cs] w' fun e w'' => ∃ b : Bool, e = .returned (.bool b) ∧ Kept X w' w'' ∧ (b = true → J (i + 1) w'') ∧ (b = false → B i w'')) :
    Calls Tryz.prog 39 #[.slice a l c, v] w fun r w' => ∃ b : Bool, r = .returned (.bool b) ∧ Kept X w w' ∧ (b = true → J xs.length w') ∧ (b = false → ∃ i, i < xs.length ∧ B i w') := by
  refine (vc39 a l c v w (fun u w' => ∃ b : Bool, u = .bool b ∧ Kept X w w' ∧ (b = true → J xs.length w') ∧ (b = false → ∃ i, i < xs.length ∧ B i w')) ?_).mono ?_
  · unfold vcP39
    rw [hv]
    intro w1 e1
    have ob1 := own_alloc (c := [v]) e1
    have k1 : Kept none' w w1 := (Kept.refl _ _).al e1
    refine ⟨fun n k w' M => ∃ i : Nat, k = (i : Int) ∧ i ≤ xs.length ∧ M = xs.length - i ∧ Kept X w w' ∧ own w' w.heap.size [v] ∧ J i w', ⟨xs.length, 0, rfl, by omega, rfl, k1.mono fun _ _ h => h.elim, ob1, h0 w1 k1⟩, ?_⟩
    rintro n _ w2 _ ⟨i, rfl, hi, rfl, k2, ob2, hj⟩
    have hs := hR w2 k2
    have hlen := hs.len
    have h63 := hs.lt63
    refine Wif_intro (fun hc => ?_) (fun hc => ?_)
    · have hil : i < xs.length := by simp at hc; omega
      obtain ⟨x, hx⟩ : ∃ x, xs[i]? = some x := ⟨xs[i], List.getElem?_eq_getElem hil⟩
      obtain ⟨cs, hcs, hRx, hr⟩ := hs.el i x hx
      have hq := hp i x w2 cs hx k2 hRx hj
      have hR2 := hRx
      refine Wif_yes (hs.isp (by omega)) (Wif_yes (inB_of (by omega) (by omega)) ?_)
      rw [Int.toNat_natCast]
      obtain rfl : cs = [vi x.1, vi x.2] := hRx
      refine ⟨_, _, ⟨hr 0 _ rfl, hr 1 _ rfl⟩, (vc85 _ _ (some ⟨w.heap.size, 0, none⟩) w2 (fun u w' => ∃ b : Bool, u = .bool (!b) ∧ Kept X w2 w' ∧ (b = true → J (i + 1) w') ∧ (b = false → B i w')) ?_).mono ?_⟩
      · unfold vcP85
        intro w3 e3
        have ox3 := own_alloc (c := [vi x.1, vi x.2]) e3
        have k23 : Kept none' w2 w3 := (Kept.refl _ _).al e3
        have hq3 := hp i x w3 _ hx (k2.tr k23) (RPair.stab _ _ _ _ hR2 k23) (hJ _ _ _ hj k23)
        refine Wif_yes rfl ⟨v, by rw [show po (some ⟨w.heap.size, 0, none⟩) = 0 from rfl, show pb (some ⟨w.heap.size, 0, none⟩) = w.heap.size from rfl, (ob2.k k23).rd]; rfl, _, _, ⟨by rw [ox3.rd]; rfl, by rw [ox3.rd]; rfl⟩, CallsV.mono hq3 ?_⟩
        rintro e w4 ⟨b, rfl, k4, g1, g2⟩
        exact ⟨b, rfl, b, rfl, (k23.mono fun _ _ h => h.elim).trans k4 fun _ _ h => h, g1, g2⟩
      · rintro e w3 ⟨u, rfl, b, rfl, k3, g1, g2⟩
        have K3 : Kept X w w3 := k2.trans k3 fun _ _ h => h
        refine ⟨!b, rfl, ?_⟩
        cases b with
        | true =>
          refine Wif_no rfl ⟨xs.length - (i + 1), by omega, i + 1, by rw [wi (by omega)]; rfl, by omega, rfl, K3, ob2.kx k3 fun h => by have := hX _ h; omega, g1 rfl⟩
        | false =>
          refine Wif_yes rfl ⟨false, by simp, K3, fun h => (by cases h), fun _ => ⟨i, hil, g2 rfl⟩⟩
    · have hie : i = xs.length := by simp at hc; omega
      subst hie
      exact ⟨true, rfl, k2, fun _ => hj, fun h => by cases h⟩
  · rintro e w' ⟨u, rfl, b, rfl, hw⟩
    exact ⟨b, rfl, hw⟩
theorem all_ints {X : Nat → Prop} {J : Nat → World → Prop} {B : Nat → World → Prop} {w : World} {a : Option Addr} {l c : Nat} {xs : List (List Int)} {v : Value} (hv : v.cells = #[v]) (hX : ∀ x, X x → x < w.heap.size) (hR : ∀ w', Kept X w w' → SlR (RL RInt 1) 1 w' a l c xs) (h0 : ∀ w', Kept none' w w' → J 0 w') (hJ : ∀ i w1 w2, J i w1 → Kept none' w1 w2 → J i w2)
    (hp : ∀ (i : Nat) (x : List Int) (w' : World) (cs : List Value), xs[i]? = some x → Kept X w w' → (RL RInt 1) w' cs x → J i w' → CallsV Tryz.prog v [valC cs] w' fun e w'' => ∃ b : Bool, e = .returned (.bool b) ∧ Kept X w' w'' ∧ (b = true → J (i + 1) w'') ∧ (b = false → B i w'')) :
    Calls Tryz.prog 40 #[.slice a l c, v] w fun r w' => ∃ b : Bool, r = .returned (.bool b) ∧ Kept X w w' ∧ (b = true → J xs.length w') ∧ (b = false → ∃ i, i < xs.length ∧ B i w') := by
  refine (vc40 a l c v w (fun u w' => ∃ b : Bool, u = .bool b ∧ Kept X w w' ∧ (b = true → J xs.length w') ∧ (b = false → ∃ i, i < xs.length ∧ B i w')) ?_).mono ?_
  · unfold vcP40
    rw [hv]
    intro w1 e1
    have ob1 := own_alloc (c := [v]) e1
    have k1 : Kept none' w w1 := (Kept.refl _ _).al e1
    refine ⟨fun n k w' M => ∃ i : Nat, k = (i : Int) ∧ i ≤ xs.length ∧ M = xs.length - i ∧ Kept X w w' ∧ own w' w.heap.size [v] ∧ J i w', ⟨xs.length, 0, rfl, by omega, rfl, k1.mono fun _ _ h => h.elim, ob1, h0 w1 k1⟩, ?_⟩
    rintro n _ w2 _ ⟨i, rfl, hi, rfl, k2, ob2, hj⟩
    have hs := hR w2 k2
    have hlen := hs.len
    have h63 := hs.lt63
    refine Wif_intro (fun hc => ?_) (fun hc => ?_)
    · have hil : i < xs.length := by simp at hc; omega
      obtain ⟨x, hx⟩ : ∃ x, xs[i]? = some x := ⟨xs[i], List.getElem?_eq_getElem hil⟩
      obtain ⟨cs, hcs, hRx, hr⟩ := hs.el i x hx
      have hq := hp i x w2 cs hx k2 hRx hj
      have hR2 := hRx
      refine Wif_yes (hs.isp (by omega)) (Wif_yes (inB_of (by omega) (by omega)) ?_)
      rw [Int.toNat_natCast]
      obtain ⟨a1, l1, c1, rfl, hx1⟩ := hRx
      refine ⟨_, _, _, hr 0 _ rfl, (vc87 _ _ _ (some ⟨w.heap.size, 0, none⟩) w2 (fun u w' => ∃ b : Bool, u = .bool (!b) ∧ Kept X w2 w' ∧ (b = true → J (i + 1) w') ∧ (b = false → B i w')) ?_).mono ?_⟩
      · unfold vcP87
        refine Wif_yes rfl ⟨v, by rw [show po (some ⟨w.heap.size, 0, none⟩) = 0 from rfl, show pb (some ⟨w.heap.size, 0, none⟩) = w.heap.size from rfl, ob2.rd]; rfl, CallsV.mono hq ?_⟩
        rintro e w3 ⟨b, rfl, k3, g1, g2⟩
        exact ⟨b, rfl, b, rfl, k3, g1, g2⟩
      · rintro e w3 ⟨u, rfl, b, rfl, k3, g1, g2⟩
        have K3 : Kept X w w3 := k2.trans k3 fun _ _ h => h
        refine ⟨!b, rfl, ?_⟩
        cases b with
        | true =>
          refine Wif_no rfl ⟨xs.length - (i + 1), by omega, i + 1, by rw [wi (by omega)]; rfl, by omega, rfl, K3, ob2.kx k3 fun h => by have := hX _ h; omega, g1 rfl⟩
        | false =>
          refine Wif_yes rfl ⟨false, by simp, K3, fun h => (by cases h), fun _ => ⟨i, hil, g2 rfl⟩⟩
    · have hie : i = xs.length := by simp at hc; omega
      subst hie
      exact ⟨true, rfl, k2, fun _ => hj, fun h => by cases h⟩
  · rintro e w' ⟨u, rfl, b, rfl, hw⟩
    exact ⟨b, rfl, hw⟩
theorem all_objs {X : Nat → Prop} {J : Nat → World → Prop} {B : Nat → World → Prop} {w : World} {a : Option Addr} {l c : Nat} {xs : List (List (Int × Int))} {v : Value} (hv : v.cells = #[v]) (hX : ∀ x, X x → x < w.heap.size) (hR : ∀ w', Kept X w w' → SlR (RL RPair 2) 1 w' a l c xs) (h0 : ∀ w', Kept none' w w' → J 0 w') (hJ : ∀ i w1 w2, J i w1 → Kept none' w1 w2 → J i w2)
    (hp : ∀ (i : Nat) (x : List (Int × Int)) (w' : World) (cs : List Value), xs[i]? = some x → Kept X w w' → (RL RPair 2) w' cs x → J i w' → CallsV Tryz.prog v [valC cs] w' fun e w'' => ∃ b : Bool, e = .returned (.bool b) ∧ Kept X w' w'' ∧ (b = true → J (i + 1) w'') ∧ (b = false → B i w'')) :
    Calls Tryz.prog 43 #[.slice a l c, v] w fun r w' => ∃ b : Bool, r = .returned (.bool b) ∧ Kept X w w' ∧ (b = true → J xs.length w') ∧ (b = false → ∃ i, i < xs.length ∧ B i w') := by
  refine (vc43 a l c v w (fun u w' => ∃ b : Bool, u = .bool b ∧ Kept X w w' ∧ (b = true → J xs.length w') ∧ (b = false → ∃ i, i < xs.length ∧ B i w')) ?_).mono ?_
  · unfold vcP43
    rw [hv]
    intro w1 e1
    have ob1 := own_alloc (c := [v]) e1
    have k1 : Kept none' w w1 := (Kept.refl _ _).al e1
    refine ⟨fun n k w' M => ∃ i : Nat, k = (i : Int) ∧ i ≤ xs.length ∧ M = xs.length - i ∧ Kept X w w' ∧ own w' w.heap.size [v] ∧ J i w', ⟨xs.length, 0, rfl, by omega, rfl, k1.mono fun _ _ h => h.elim, ob1, h0 w1 k1⟩, ?_⟩
    rintro n _ w2 _ ⟨i, rfl, hi, rfl, k2, ob2, hj⟩
    have hs := hR w2 k2
    have hlen := hs.len
    have h63 := hs.lt63
    refine Wif_intro (fun hc => ?_) (fun hc => ?_)
    · have hil : i < xs.length := by simp at hc; omega
      obtain ⟨x, hx⟩ : ∃ x, xs[i]? = some x := ⟨xs[i], List.getElem?_eq_getElem hil⟩
      obtain ⟨cs, hcs, hRx, hr⟩ := hs.el i x hx
      have hq := hp i x w2 cs hx k2 hRx hj
      have hR2 := hRx
      refine Wif_yes (hs.isp (by omega)) (Wif_yes (inB_of (by omega) (by omega)) ?_)
      rw [Int.toNat_natCast]
      obtain ⟨a1, l1, c1, rfl, hx1⟩ := hRx
      refine ⟨_, _, _, hr 0 _ rfl, (vc89 _ _ _ (some ⟨w.heap.size, 0, none⟩) w2 (fun u w' => ∃ b : Bool, u = .bool (!b) ∧ Kept X w2 w' ∧ (b = true → J (i + 1) w') ∧ (b = false → B i w')) ?_).mono ?_⟩
      · unfold vcP89
        refine Wif_yes rfl ⟨v, by rw [show po (some ⟨w.heap.size, 0, none⟩) = 0 from rfl, show pb (some ⟨w.heap.size, 0, none⟩) = w.heap.size from rfl, ob2.rd]; rfl, CallsV.mono hq ?_⟩
        rintro e w3 ⟨b, rfl, k3, g1, g2⟩
        exact ⟨b, rfl, b, rfl, k3, g1, g2⟩
      · rintro e w3 ⟨u, rfl, b, rfl, k3, g1, g2⟩
        have K3 : Kept X w w3 := k2.trans k3 fun _ _ h => h
        refine ⟨!b, rfl, ?_⟩
        cases b with
        | true =>
          refine Wif_no rfl ⟨xs.length - (i + 1), by omega, i + 1, by rw [wi (by omega)]; rfl, by omega, rfl, K3, ob2.kx k3 fun h => by have := hX _ h; omega, g1 rfl⟩
        | false =>
          refine Wif_yes rfl ⟨false, by simp, K3, fun h => (by cases h), fun _ => ⟨i, hil, g2 rfl⟩⟩
    · have hie : i = xs.length := by simp at hc; omega
      subst hie
      exact ⟨true, rfl, k2, fun _ => hj, fun h => by cases h⟩
  · rintro e w' ⟨u, rfl, b, rfl, hw⟩
    exact ⟨b, rfl, hw⟩
theorem all_obj {X : Nat → Prop} {J : Nat → World → Prop} {B : Nat → World → Prop} {w : World} {a : Option Addr} {l c : Nat} {xs : List (Int × Int)} {v : Value} (hv : v.cells = #[v]) (hX : ∀ x, X x → x < w.heap.size) (hR : ∀ w', Kept X w w' → SlR (RPair) 2 w' a l c xs) (h0 : ∀ w', Kept none' w w' → J 0 w') (hJ : ∀ i w1 w2, J i w1 → Kept none' w1 w2 → J i w2)
    (hp : ∀ (i : Nat) (x : Int × Int) (w' : World) (cs : List Value), xs[i]? = some x → Kept X w w' → (RPair) w' cs x → J i w' → CallsV Tryz.prog v [valC cs] w' fun e w'' => ∃ b : Bool, e = .returned (.bool b) ∧ Kept X w' w'' ∧ (b = true → J (i + 1) w'') ∧ (b = false → B i w'')) :
    Calls Tryz.prog 45 #[.slice a l c, v] w fun r w' => ∃ b : Bool, r = .returned (.bool b) ∧ Kept X w w' ∧ (b = true → J xs.length w') ∧ (b = false → ∃ i, i < xs.length ∧ B i w') := by
  refine (vc45 a l c v w (fun u w' => ∃ b : Bool, u = .bool b ∧ Kept X w w' ∧ (b = true → J xs.length w') ∧ (b = false → ∃ i, i < xs.length ∧ B i w')) ?_).mono ?_
  · unfold vcP45
    rw [hv]
    intro w1 e1
    have ob1 := own_alloc (c := [v]) e1
    have k1 : Kept none' w w1 := (Kept.refl _ _).al e1
    refine ⟨fun n k w' M => ∃ i : Nat, k = (i : Int) ∧ i ≤ xs.length ∧ M = xs.length - i ∧ Kept X w w' ∧ own w' w.heap.size [v] ∧ J i w', ⟨xs.length, 0, rfl, by omega, rfl, k1.mono fun _ _ h => h.elim, ob1, h0 w1 k1⟩, ?_⟩
    rintro n _ w2 _ ⟨i, rfl, hi, rfl, k2, ob2, hj⟩
    have hs := hR w2 k2
    have hlen := hs.len
    have h63 := hs.lt63
    refine Wif_intro (fun hc => ?_) (fun hc => ?_)
    · have hil : i < xs.length := by simp at hc; omega
      obtain ⟨x, hx⟩ : ∃ x, xs[i]? = some x := ⟨xs[i], List.getElem?_eq_getElem hil⟩
      obtain ⟨cs, hcs, hRx, hr⟩ := hs.el i x hx
      have hq := hp i x w2 cs hx k2 hRx hj
      have hR2 := hRx
      refine Wif_yes (hs.isp (by omega)) (Wif_yes (inB_of (by omega) (by omega)) ?_)
      rw [Int.toNat_natCast]
      obtain rfl : cs = [vi x.1, vi x.2] := hRx
      refine ⟨_, _, ⟨hr 0 _ rfl, hr 1 _ rfl⟩, (vc91 _ _ (some ⟨w.heap.size, 0, none⟩) w2 (fun u w' => ∃ b : Bool, u = .bool (!b) ∧ Kept X w2 w' ∧ (b = true → J (i + 1) w') ∧ (b = false → B i w')) ?_).mono ?_⟩
      · unfold vcP91
        intro w3 e3
        have ox3 := own_alloc (c := [vi x.1, vi x.2]) e3
        have k23 : Kept none' w2 w3 := (Kept.refl _ _).al e3
        have hq3 := hp i x w3 _ hx (k2.tr k23) (RPair.stab _ _ _ _ hR2 k23) (hJ _ _ _ hj k23)
        refine Wif_yes rfl ⟨v, by rw [show po (some ⟨w.heap.size, 0, none⟩) = 0 from rfl, show pb (some ⟨w.heap.size, 0, none⟩) = w.heap.size from rfl, (ob2.k k23).rd]; rfl, _, _, ⟨by rw [ox3.rd]; rfl, by rw [ox3.rd]; rfl⟩, CallsV.mono hq3 ?_⟩
        rintro e w4 ⟨b, rfl, k4, g1, g2⟩
        exact ⟨b, rfl, b, rfl, (k23.mono fun _ _ h => h.elim).trans k4 fun _ _ h => h, g1, g2⟩
      · rintro e w3 ⟨u, rfl, b, rfl, k3, g1, g2⟩
        have K3 : Kept X w w3 := k2.trans k3 fun _ _ h => h
        refine ⟨!b, rfl, ?_⟩
        cases b with
        | true =>
          refine Wif_no rfl ⟨xs.length - (i + 1), by omega, i + 1, by rw [wi (by omega)]; rfl, by omega, rfl, K3, ob2.kx k3 fun h => by have := hX _ h; omega, g1 rfl⟩
        | false =>
          refine Wif_yes rfl ⟨false, by simp, K3, fun h => (by cases h), fun _ => ⟨i, hil, g2 rfl⟩⟩
    · have hie : i = xs.length := by simp at hc; omega
      subst hie
      exact ⟨true, rfl, k2, fun _ => hj, fun h => by cases h⟩
  · rintro e w' ⟨u, rfl, b, rfl, hw⟩
    exact ⟨b, rfl, hw⟩
theorem all_objss {X : Nat → Prop} {J : Nat → World → Prop} {B : Nat → World → Prop} {w : World} {a : Option Addr} {l c : Nat} {xs : List (List (List (Int × Int)))} {v : Value} (hv : v.cells = #[v]) (hX : ∀ x, X x → x < w.heap.size) (hR : ∀ w', Kept X w w' → SlR (RL (RL RPair 2) 1) 1 w' a l c xs) (h0 : ∀ w', Kept none' w w' → J 0 w') (hJ : ∀ i w1 w2, J i w1 → Kept none' w1 w2 → J i w2)
    (hp : ∀ (i : Nat) (x : List (List (Int × Int))) (w' : World) (cs : List Value), xs[i]? = some x → Kept X w w' → (RL (RL RPair 2) 1) w' cs x → J i w' → CallsV Tryz.prog v [valC cs] w' fun e w'' => ∃ b : Bool, e = .returned (.bool b) ∧ Kept X w' w'' ∧ (b = true → J (i + 1) w'') ∧ (b = false → B i w'')) :
    Calls Tryz.prog 47 #[.slice a l c, v] w fun r w' => ∃ b : Bool, r = .returned (.bool b) ∧ Kept X w w' ∧ (b = true → J xs.length w') ∧ (b = false → ∃ i, i < xs.length ∧ B i w') := by
  refine (vc47 a l c v w (fun u w' => ∃ b : Bool, u = .bool b ∧ Kept X w w' ∧ (b = true → J xs.length w') ∧ (b = false → ∃ i, i < xs.length ∧ B i w')) ?_).mono ?_
  · unfold vcP47
    rw [hv]
    intro w1 e1
    have ob1 := own_alloc (c := [v]) e1
    have k1 : Kept none' w w1 := (Kept.refl _ _).al e1
    refine ⟨fun n k w' M => ∃ i : Nat, k = (i : Int) ∧ i ≤ xs.length ∧ M = xs.length - i ∧ Kept X w w' ∧ own w' w.heap.size [v] ∧ J i w', ⟨xs.length, 0, rfl, by omega, rfl, k1.mono fun _ _ h => h.elim, ob1, h0 w1 k1⟩, ?_⟩
    rintro n _ w2 _ ⟨i, rfl, hi, rfl, k2, ob2, hj⟩
    have hs := hR w2 k2
    have hlen := hs.len
    have h63 := hs.lt63
    refine Wif_intro (fun hc => ?_) (fun hc => ?_)
    · have hil : i < xs.length := by simp at hc; omega
      obtain ⟨x, hx⟩ : ∃ x, xs[i]? = some x := ⟨xs[i], List.getElem?_eq_getElem hil⟩
      obtain ⟨cs, hcs, hRx, hr⟩ := hs.el i x hx
      have hq := hp i x w2 cs hx k2 hRx hj
      have hR2 := hRx
      refine Wif_yes (hs.isp (by omega)) (Wif_yes (inB_of (by omega) (by omega)) ?_)
      rw [Int.toNat_natCast]
      obtain ⟨a1, l1, c1, rfl, hx1⟩ := hRx
      refine ⟨_, _, _, hr 0 _ rfl, (vc93 _ _ _ (some ⟨w.heap.size, 0, none⟩) w2 (fun u w' => ∃ b : Bool, u = .bool (!b) ∧ Kept X w2 w' ∧ (b = true → J (i + 1) w') ∧ (b = false → B i w')) ?_).mono ?_⟩
      · unfold vcP93
        refine Wif_yes rfl ⟨v, by rw [show po (some ⟨w.heap.size, 0, none⟩) = 0 from rfl, show pb (some ⟨w.heap.size, 0, none⟩) = w.heap.size from rfl, ob2.rd]; rfl, CallsV.mono hq ?_⟩
        rintro e w3 ⟨b, rfl, k3, g1, g2⟩
        exact ⟨b, rfl, b, rfl, k3, g1, g2⟩
      · rintro e w3 ⟨u, rfl, b, rfl, k3, g1, g2⟩
        have K3 : Kept X w w3 := k2.trans k3 fun _ _ h => h
        refine ⟨!b, rfl, ?_⟩
        cases b with
        | true =>
          refine Wif_no rfl ⟨xs.length - (i + 1), by omega, i + 1, by rw [wi (by omega)]; rfl, by omega, rfl, K3, ob2.kx k3 fun h => by have := hX _ h; omega, g1 rfl⟩
        | false =>
          refine Wif_yes rfl ⟨false, by simp, K3, fun h => (by cases h), fun _ => ⟨i, hil, g2 rfl⟩⟩
    · have hie : i = xs.length := by simp at hc; omega
      subst hie
      exact ⟨true, rfl, k2, fun _ => hj, fun h => by cases h⟩
  · rintro e w' ⟨u, rfl, b, rfl, hw⟩
    exact ⟨b, rfl, hw⟩
theorem all_slab {X : Nat → Prop} {J : Nat → World → Prop} {B : Nat → World → Prop} {w : World} {a : Option Addr} {l c : Nat} {xs : List (Slab)} {v : Value} (hv : v.cells = #[v]) (hX : ∀ x, X x → x < w.heap.size) (hR : ∀ w', Kept X w w' → SlR (RSlab) 7 w' a l c xs) (h0 : ∀ w', Kept none' w w' → J 0 w') (hJ : ∀ i w1 w2, J i w1 → Kept none' w1 w2 → J i w2)
    (hp : ∀ (i : Nat) (x : Slab) (w' : World) (cs : List Value), xs[i]? = some x → Kept X w w' → (RSlab) w' cs x → J i w' → CallsV Tryz.prog v [valC cs] w' fun e w'' => ∃ b : Bool, e = .returned (.bool b) ∧ Kept X w' w'' ∧ (b = true → J (i + 1) w'') ∧ (b = false → B i w'')) :
    Calls Tryz.prog 49 #[.slice a l c, v] w fun r w' => ∃ b : Bool, r = .returned (.bool b) ∧ Kept X w w' ∧ (b = true → J xs.length w') ∧ (b = false → ∃ i, i < xs.length ∧ B i w') := by
  refine (vc49 a l c v w (fun u w' => ∃ b : Bool, u = .bool b ∧ Kept X w w' ∧ (b = true → J xs.length w') ∧ (b = false → ∃ i, i < xs.length ∧ B i w')) ?_).mono ?_
  · unfold vcP49
    rw [hv]
    intro w1 e1
    have ob1 := own_alloc (c := [v]) e1
    have k1 : Kept none' w w1 := (Kept.refl _ _).al e1
    refine ⟨fun n k w' M => ∃ i : Nat, k = (i : Int) ∧ i ≤ xs.length ∧ M = xs.length - i ∧ Kept X w w' ∧ own w' w.heap.size [v] ∧ J i w', ⟨xs.length, 0, rfl, by omega, rfl, k1.mono fun _ _ h => h.elim, ob1, h0 w1 k1⟩, ?_⟩
    rintro n _ w2 _ ⟨i, rfl, hi, rfl, k2, ob2, hj⟩
    have hs := hR w2 k2
    have hlen := hs.len
    have h63 := hs.lt63
    refine Wif_intro (fun hc => ?_) (fun hc => ?_)
    · have hil : i < xs.length := by simp at hc; omega
      obtain ⟨x, hx⟩ : ∃ x, xs[i]? = some x := ⟨xs[i], List.getElem?_eq_getElem hil⟩
      obtain ⟨cs, hcs, hRx, hr⟩ := hs.el i x hx
      have hq := hp i x w2 cs hx k2 hRx hj
      have hR2 := hRx
      refine Wif_yes (hs.isp (by omega)) (Wif_yes (inB_of (by omega) (by omega)) ?_)
      rw [Int.toNat_natCast]
      obtain ⟨a1, l1, c1, a2, l2, c2, rfl, hx1, hx2⟩ := hRx
      refine ⟨_, _, _, _, _, _, _, _, _, _, _, ⟨hr 0 _ rfl, hr 1 _ rfl, hr 2 _ rfl, hr 3 _ rfl, hr 4 _ rfl, hr 5 _ rfl, hr 6 _ rfl⟩, (vc96 _ _ _ _ _ _ _ _ _ _ _ (some ⟨w.heap.size, 0, none⟩) w2 (fun u w' => ∃ b : Bool, u = .bool (!b) ∧ Kept X w2 w' ∧ (b = true → J (i + 1) w') ∧ (b = false → B i w')) ?_).mono ?_⟩
      · unfold vcP96
        intro w3 e3
        have ox3 := own_alloc (c := [vi x.node, vi x.cls, vi x.frame, vi x.colour, vi x.count, .slice a1 l1 c1, .slice a2 l2 c2]) e3
        have k23 : Kept none' w2 w3 := (Kept.refl _ _).al e3
        have hq3 := hp i x w3 _ hx (k2.tr k23) (RSlab.stab _ _ _ _ hR2 k23) (hJ _ _ _ hj k23)
        refine Wif_yes rfl ⟨v, by rw [show po (some ⟨w.heap.size, 0, none⟩) = 0 from rfl, show pb (some ⟨w.heap.size, 0, none⟩) = w.heap.size from rfl, (ob2.k k23).rd]; rfl, _, _, _, _, _, _, _, _, _, _, _, ⟨by rw [ox3.rd]; rfl, by rw [ox3.rd]; rfl, by rw [ox3.rd]; rfl, by rw [ox3.rd]; rfl, by rw [ox3.rd]; rfl, by rw [ox3.rd]; rfl, by rw [ox3.rd]; rfl⟩, CallsV.mono hq3 ?_⟩
        rintro e w4 ⟨b, rfl, k4, g1, g2⟩
        exact ⟨b, rfl, b, rfl, (k23.mono fun _ _ h => h.elim).trans k4 fun _ _ h => h, g1, g2⟩
      · rintro e w3 ⟨u, rfl, b, rfl, k3, g1, g2⟩
        have K3 : Kept X w w3 := k2.trans k3 fun _ _ h => h
        refine ⟨!b, rfl, ?_⟩
        cases b with
        | true =>
          refine Wif_no rfl ⟨xs.length - (i + 1), by omega, i + 1, by rw [wi (by omega)]; rfl, by omega, rfl, K3, ob2.kx k3 fun h => by have := hX _ h; omega, g1 rfl⟩
        | false =>
          refine Wif_yes rfl ⟨false, by simp, K3, fun h => (by cases h), fun _ => ⟨i, hil, g2 rfl⟩⟩
    · have hie : i = xs.length := by simp at hc; omega
      subst hie
      exact ⟨true, rfl, k2, fun _ => hj, fun h => by cases h⟩
  · rintro e w' ⟨u, rfl, b, rfl, hw⟩
    exact ⟨b, rfl, hw⟩
theorem all_proc {X : Nat → Prop} {J : Nat → World → Prop} {B : Nat → World → Prop} {w : World} {a : Option Addr} {l c : Nat} {xs : List (Proc)} {v : Value} (hv : v.cells = #[v]) (hX : ∀ x, X x → x < w.heap.size) (hR : ∀ w', Kept X w w' → SlR (RProc) 6 w' a l c xs) (h0 : ∀ w', Kept none' w w' → J 0 w') (hJ : ∀ i w1 w2, J i w1 → Kept none' w1 w2 → J i w2)
    (hp : ∀ (i : Nat) (x : Proc) (w' : World) (cs : List Value), xs[i]? = some x → Kept X w w' → (RProc) w' cs x → J i w' → CallsV Tryz.prog v [valC cs] w' fun e w'' => ∃ b : Bool, e = .returned (.bool b) ∧ Kept X w' w'' ∧ (b = true → J (i + 1) w'') ∧ (b = false → B i w'')) :
    Calls Tryz.prog 51 #[.slice a l c, v] w fun r w' => ∃ b : Bool, r = .returned (.bool b) ∧ Kept X w w' ∧ (b = true → J xs.length w') ∧ (b = false → ∃ i, i < xs.length ∧ B i w') := by
  refine (vc51 a l c v w (fun u w' => ∃ b : Bool, u = .bool b ∧ Kept X w w' ∧ (b = true → J xs.length w') ∧ (b = false → ∃ i, i < xs.length ∧ B i w')) ?_).mono ?_
  · unfold vcP51
    rw [hv]
    intro w1 e1
    have ob1 := own_alloc (c := [v]) e1
    have k1 : Kept none' w w1 := (Kept.refl _ _).al e1
    refine ⟨fun n k w' M => ∃ i : Nat, k = (i : Int) ∧ i ≤ xs.length ∧ M = xs.length - i ∧ Kept X w w' ∧ own w' w.heap.size [v] ∧ J i w', ⟨xs.length, 0, rfl, by omega, rfl, k1.mono fun _ _ h => h.elim, ob1, h0 w1 k1⟩, ?_⟩
    rintro n _ w2 _ ⟨i, rfl, hi, rfl, k2, ob2, hj⟩
    have hs := hR w2 k2
    have hlen := hs.len
    have h63 := hs.lt63
    refine Wif_intro (fun hc => ?_) (fun hc => ?_)
    · have hil : i < xs.length := by simp at hc; omega
      obtain ⟨x, hx⟩ : ∃ x, xs[i]? = some x := ⟨xs[i], List.getElem?_eq_getElem hil⟩
      obtain ⟨cs, hcs, hRx, hr⟩ := hs.el i x hx
      have hq := hp i x w2 cs hx k2 hRx hj
      have hR2 := hRx
      refine Wif_yes (hs.isp (by omega)) (Wif_yes (inB_of (by omega) (by omega)) ?_)
      rw [Int.toNat_natCast]
      obtain ⟨a1, l1, c1, a2, l2, c2, a3, l3, c3, a4, l4, c4, rfl, hx1, hx2, hx3, hx4⟩ := hRx
      refine ⟨_, _, _, _, _, _, _, _, _, _, _, _, _, _, ⟨hr 0 _ rfl, hr 1 _ rfl, hr 2 _ rfl, hr 3 _ rfl, hr 4 _ rfl, hr 5 _ rfl⟩, (vc101 _ _ _ _ _ _ _ _ _ _ _ _ _ _ (some ⟨w.heap.size, 0, none⟩) w2 (fun u w' => ∃ b : Bool, u = .bool (!b) ∧ Kept X w2 w' ∧ (b = true → J (i + 1) w') ∧ (b = false → B i w')) ?_).mono ?_⟩
      · unfold vcP101
        intro w3 e3
        have ox3 := own_alloc (c := [vi x.pid, vi x.root, .slice a1 l1 c1, .slice a2 l2 c2, .slice a3 l3 c3, .slice a4 l4 c4]) e3
        have k23 : Kept none' w2 w3 := (Kept.refl _ _).al e3
        have hq3 := hp i x w3 _ hx (k2.tr k23) (RProc.stab _ _ _ _ hR2 k23) (hJ _ _ _ hj k23)
        refine Wif_yes rfl ⟨v, by rw [show po (some ⟨w.heap.size, 0, none⟩) = 0 from rfl, show pb (some ⟨w.heap.size, 0, none⟩) = w.heap.size from rfl, (ob2.k k23).rd]; rfl, _, _, _, _, _, _, _, _, _, _, _, _, _, _, ⟨by rw [ox3.rd]; rfl, by rw [ox3.rd]; rfl, by rw [ox3.rd]; rfl, by rw [ox3.rd]; rfl, by rw [ox3.rd]; rfl, by rw [ox3.rd]; rfl⟩, CallsV.mono hq3 ?_⟩
        rintro e w4 ⟨b, rfl, k4, g1, g2⟩
        exact ⟨b, rfl, b, rfl, (k23.mono fun _ _ h => h.elim).trans k4 fun _ _ h => h, g1, g2⟩
      · rintro e w3 ⟨u, rfl, b, rfl, k3, g1, g2⟩
        have K3 : Kept X w w3 := k2.trans k3 fun _ _ h => h
        refine ⟨!b, rfl, ?_⟩
        cases b with
        | true =>
          refine Wif_no rfl ⟨xs.length - (i + 1), by omega, i + 1, by rw [wi (by omega)]; rfl, by omega, rfl, K3, ob2.kx k3 fun h => by have := hX _ h; omega, g1 rfl⟩
        | false =>
          refine Wif_yes rfl ⟨false, by simp, K3, fun h => (by cases h), fun _ => ⟨i, hil, g2 rfl⟩⟩
    · have hie : i = xs.length := by simp at hc; omega
      subst hie
      exact ⟨true, rfl, k2, fun _ => hj, fun h => by cases h⟩
  · rintro e w' ⟨u, rfl, b, rfl, hw⟩
    exact ⟨b, rfl, hw⟩
theorem all_own {X : Nat → Prop} {J : Nat → World → Prop} {B : Nat → World → Prop} {w : World} {a : Option Addr} {l c : Nat} {xs : List (Own)} {v : Value} (hv : v.cells = #[v]) (hX : ∀ x, X x → x < w.heap.size) (hR : ∀ w', Kept X w w' → SlR (ROwn) 3 w' a l c xs) (h0 : ∀ w', Kept none' w w' → J 0 w') (hJ : ∀ i w1 w2, J i w1 → Kept none' w1 w2 → J i w2)
    (hp : ∀ (i : Nat) (x : Own) (w' : World) (cs : List Value), xs[i]? = some x → Kept X w w' → (ROwn) w' cs x → J i w' → CallsV Tryz.prog v [valC cs] w' fun e w'' => ∃ b : Bool, e = .returned (.bool b) ∧ Kept X w' w'' ∧ (b = true → J (i + 1) w'') ∧ (b = false → B i w'')) :
    Calls Tryz.prog 52 #[.slice a l c, v] w fun r w' => ∃ b : Bool, r = .returned (.bool b) ∧ Kept X w w' ∧ (b = true → J xs.length w') ∧ (b = false → ∃ i, i < xs.length ∧ B i w') := by
  refine (vc52 a l c v w (fun u w' => ∃ b : Bool, u = .bool b ∧ Kept X w w' ∧ (b = true → J xs.length w') ∧ (b = false → ∃ i, i < xs.length ∧ B i w')) ?_).mono ?_
  · unfold vcP52
    rw [hv]
    intro w1 e1
    have ob1 := own_alloc (c := [v]) e1
    have k1 : Kept none' w w1 := (Kept.refl _ _).al e1
    refine ⟨fun n k w' M => ∃ i : Nat, k = (i : Int) ∧ i ≤ xs.length ∧ M = xs.length - i ∧ Kept X w w' ∧ own w' w.heap.size [v] ∧ J i w', ⟨xs.length, 0, rfl, by omega, rfl, k1.mono fun _ _ h => h.elim, ob1, h0 w1 k1⟩, ?_⟩
    rintro n _ w2 _ ⟨i, rfl, hi, rfl, k2, ob2, hj⟩
    have hs := hR w2 k2
    have hlen := hs.len
    have h63 := hs.lt63
    refine Wif_intro (fun hc => ?_) (fun hc => ?_)
    · have hil : i < xs.length := by simp at hc; omega
      obtain ⟨x, hx⟩ : ∃ x, xs[i]? = some x := ⟨xs[i], List.getElem?_eq_getElem hil⟩
      obtain ⟨cs, hcs, hRx, hr⟩ := hs.el i x hx
      have hq := hp i x w2 cs hx k2 hRx hj
      have hR2 := hRx
      refine Wif_yes (hs.isp (by omega)) (Wif_yes (inB_of (by omega) (by omega)) ?_)
      rw [Int.toNat_natCast]
      obtain rfl : cs = [vi x.n, vi x.pid, vi x.page] := hRx
      refine ⟨_, _, _, ⟨hr 0 _ rfl, hr 1 _ rfl, hr 2 _ rfl⟩, (vc103 _ _ _ (some ⟨w.heap.size, 0, none⟩) w2 (fun u w' => ∃ b : Bool, u = .bool (!b) ∧ Kept X w2 w' ∧ (b = true → J (i + 1) w') ∧ (b = false → B i w')) ?_).mono ?_⟩
      · unfold vcP103
        intro w3 e3
        have ox3 := own_alloc (c := [vi x.n, vi x.pid, vi x.page]) e3
        have k23 : Kept none' w2 w3 := (Kept.refl _ _).al e3
        have hq3 := hp i x w3 _ hx (k2.tr k23) (ROwn.stab _ _ _ _ hR2 k23) (hJ _ _ _ hj k23)
        refine Wif_yes rfl ⟨v, by rw [show po (some ⟨w.heap.size, 0, none⟩) = 0 from rfl, show pb (some ⟨w.heap.size, 0, none⟩) = w.heap.size from rfl, (ob2.k k23).rd]; rfl, _, _, _, ⟨by rw [ox3.rd]; rfl, by rw [ox3.rd]; rfl, by rw [ox3.rd]; rfl⟩, CallsV.mono hq3 ?_⟩
        rintro e w4 ⟨b, rfl, k4, g1, g2⟩
        exact ⟨b, rfl, b, rfl, (k23.mono fun _ _ h => h.elim).trans k4 fun _ _ h => h, g1, g2⟩
      · rintro e w3 ⟨u, rfl, b, rfl, k3, g1, g2⟩
        have K3 : Kept X w w3 := k2.trans k3 fun _ _ h => h
        refine ⟨!b, rfl, ?_⟩
        cases b with
        | true =>
          refine Wif_no rfl ⟨xs.length - (i + 1), by omega, i + 1, by rw [wi (by omega)]; rfl, by omega, rfl, K3, ob2.kx k3 fun h => by have := hX _ h; omega, g1 rfl⟩
        | false =>
          refine Wif_yes rfl ⟨false, by simp, K3, fun h => (by cases h), fun _ => ⟨i, hil, g2 rfl⟩⟩
    · have hie : i = xs.length := by simp at hc; omega
      subst hie
      exact ⟨true, rfl, k2, fun _ => hj, fun h => by cases h⟩
  · rintro e w' ⟨u, rfl, b, rfl, hw⟩
    exact ⟨b, rfl, hw⟩
theorem all_leaf {X : Nat → Prop} {J : Nat → World → Prop} {B : Nat → World → Prop} {w : World} {a : Option Addr} {l c : Nat} {xs : List (Int × Int)} {v : Value} (hv : v.cells = #[v]) (hX : ∀ x, X x → x < w.heap.size) (hR : ∀ w', Kept X w w' → SlR (RPair) 2 w' a l c xs) (h0 : ∀ w', Kept none' w w' → J 0 w') (hJ : ∀ i w1 w2, J i w1 → Kept none' w1 w2 → J i w2)
    (hp : ∀ (i : Nat) (x : Int × Int) (w' : World) (cs : List Value), xs[i]? = some x → Kept X w w' → (RPair) w' cs x → J i w' → CallsV Tryz.prog v [valC cs] w' fun e w'' => ∃ b : Bool, e = .returned (.bool b) ∧ Kept X w' w'' ∧ (b = true → J (i + 1) w'') ∧ (b = false → B i w'')) :
    Calls Tryz.prog 78 #[.slice a l c, v] w fun r w' => ∃ b : Bool, r = .returned (.bool b) ∧ Kept X w w' ∧ (b = true → J xs.length w') ∧ (b = false → ∃ i, i < xs.length ∧ B i w') := by
  refine (vc78 a l c v w (fun u w' => ∃ b : Bool, u = .bool b ∧ Kept X w w' ∧ (b = true → J xs.length w') ∧ (b = false → ∃ i, i < xs.length ∧ B i w')) ?_).mono ?_
  · unfold vcP78
    rw [hv]
    intro w1 e1
    have ob1 := own_alloc (c := [v]) e1
    have k1 : Kept none' w w1 := (Kept.refl _ _).al e1
    refine ⟨fun n k w' M => ∃ i : Nat, k = (i : Int) ∧ i ≤ xs.length ∧ M = xs.length - i ∧ Kept X w w' ∧ own w' w.heap.size [v] ∧ J i w', ⟨xs.length, 0, rfl, by omega, rfl, k1.mono fun _ _ h => h.elim, ob1, h0 w1 k1⟩, ?_⟩
    rintro n _ w2 _ ⟨i, rfl, hi, rfl, k2, ob2, hj⟩
    have hs := hR w2 k2
    have hlen := hs.len
    have h63 := hs.lt63
    refine Wif_intro (fun hc => ?_) (fun hc => ?_)
    · have hil : i < xs.length := by simp at hc; omega
      obtain ⟨x, hx⟩ : ∃ x, xs[i]? = some x := ⟨xs[i], List.getElem?_eq_getElem hil⟩
      obtain ⟨cs, hcs, hRx, hr⟩ := hs.el i x hx
      have hq := hp i x w2 cs hx k2 hRx hj
      have hR2 := hRx
      refine Wif_yes (hs.isp (by omega)) (Wif_yes (inB_of (by omega) (by omega)) ?_)
      rw [Int.toNat_natCast]
      obtain rfl : cs = [vi x.1, vi x.2] := hRx
      refine ⟨_, _, ⟨hr 0 _ rfl, hr 1 _ rfl⟩, (vc127 _ _ (some ⟨w.heap.size, 0, none⟩) w2 (fun u w' => ∃ b : Bool, u = .bool (!b) ∧ Kept X w2 w' ∧ (b = true → J (i + 1) w') ∧ (b = false → B i w')) ?_).mono ?_⟩
      · unfold vcP127
        intro w3 e3
        have ox3 := own_alloc (c := [vi x.1, vi x.2]) e3
        have k23 : Kept none' w2 w3 := (Kept.refl _ _).al e3
        have hq3 := hp i x w3 _ hx (k2.tr k23) (RPair.stab _ _ _ _ hR2 k23) (hJ _ _ _ hj k23)
        refine Wif_yes rfl ⟨v, by rw [show po (some ⟨w.heap.size, 0, none⟩) = 0 from rfl, show pb (some ⟨w.heap.size, 0, none⟩) = w.heap.size from rfl, (ob2.k k23).rd]; rfl, _, _, ⟨by rw [ox3.rd]; rfl, by rw [ox3.rd]; rfl⟩, CallsV.mono hq3 ?_⟩
        rintro e w4 ⟨b, rfl, k4, g1, g2⟩
        exact ⟨b, rfl, b, rfl, (k23.mono fun _ _ h => h.elim).trans k4 fun _ _ h => h, g1, g2⟩
      · rintro e w3 ⟨u, rfl, b, rfl, k3, g1, g2⟩
        have K3 : Kept X w w3 := k2.trans k3 fun _ _ h => h
        refine ⟨!b, rfl, ?_⟩
        cases b with
        | true =>
          refine Wif_no rfl ⟨xs.length - (i + 1), by omega, i + 1, by rw [wi (by omega)]; rfl, by omega, rfl, K3, ob2.kx k3 fun h => by have := hX _ h; omega, g1 rfl⟩
        | false =>
          refine Wif_yes rfl ⟨false, by simp, K3, fun h => (by cases h), fun _ => ⟨i, hil, g2 rfl⟩⟩
    · have hie : i = xs.length := by simp at hc; omega
      subst hie
      exact ⟨true, rfl, k2, fun _ => hj, fun h => by cases h⟩
  · rintro e w' ⟨u, rfl, b, rfl, hw⟩
    exact ⟨b, rfl, hw⟩
theorem all_mapped {X : Nat → Prop} {J : Nat → World → Prop} {B : Nat → World → Prop} {w : World} {a : Option Addr} {l c : Nat} {xs : List (Mapped)} {v : Value} (hv : v.cells = #[v]) (hX : ∀ x, X x → x < w.heap.size) (hR : ∀ w', Kept X w w' → SlR (RMapped) 3 w' a l c xs) (h0 : ∀ w', Kept none' w w' → J 0 w') (hJ : ∀ i w1 w2, J i w1 → Kept none' w1 w2 → J i w2)
    (hp : ∀ (i : Nat) (x : Mapped) (w' : World) (cs : List Value), xs[i]? = some x → Kept X w w' → (RMapped) w' cs x → J i w' → CallsV Tryz.prog v [valC cs] w' fun e w'' => ∃ b : Bool, e = .returned (.bool b) ∧ Kept X w' w'' ∧ (b = true → J (i + 1) w'') ∧ (b = false → B i w'')) :
    Calls Tryz.prog 80 #[.slice a l c, v] w fun r w' => ∃ b : Bool, r = .returned (.bool b) ∧ Kept X w w' ∧ (b = true → J xs.length w') ∧ (b = false → ∃ i, i < xs.length ∧ B i w') := by
  refine (vc80 a l c v w (fun u w' => ∃ b : Bool, u = .bool b ∧ Kept X w w' ∧ (b = true → J xs.length w') ∧ (b = false → ∃ i, i < xs.length ∧ B i w')) ?_).mono ?_
  · unfold vcP80
    rw [hv]
    intro w1 e1
    have ob1 := own_alloc (c := [v]) e1
    have k1 : Kept none' w w1 := (Kept.refl _ _).al e1
    refine ⟨fun n k w' M => ∃ i : Nat, k = (i : Int) ∧ i ≤ xs.length ∧ M = xs.length - i ∧ Kept X w w' ∧ own w' w.heap.size [v] ∧ J i w', ⟨xs.length, 0, rfl, by omega, rfl, k1.mono fun _ _ h => h.elim, ob1, h0 w1 k1⟩, ?_⟩
    rintro n _ w2 _ ⟨i, rfl, hi, rfl, k2, ob2, hj⟩
    have hs := hR w2 k2
    have hlen := hs.len
    have h63 := hs.lt63
    refine Wif_intro (fun hc => ?_) (fun hc => ?_)
    · have hil : i < xs.length := by simp at hc; omega
      obtain ⟨x, hx⟩ : ∃ x, xs[i]? = some x := ⟨xs[i], List.getElem?_eq_getElem hil⟩
      obtain ⟨cs, hcs, hRx, hr⟩ := hs.el i x hx
      have hq := hp i x w2 cs hx k2 hRx hj
      have hR2 := hRx
      refine Wif_yes (hs.isp (by omega)) (Wif_yes (inB_of (by omega) (by omega)) ?_)
      rw [Int.toNat_natCast]
      obtain rfl : cs = [vi x.page, .int .u8 x.kind, vi x.n] := hRx
      refine ⟨_, _, _, ⟨hr 0 _ rfl, hr 1 _ rfl, hr 2 _ rfl⟩, (vc128 _ _ _ (some ⟨w.heap.size, 0, none⟩) w2 (fun u w' => ∃ b : Bool, u = .bool (!b) ∧ Kept X w2 w' ∧ (b = true → J (i + 1) w') ∧ (b = false → B i w')) ?_).mono ?_⟩
      · unfold vcP128
        intro w3 e3
        have ox3 := own_alloc (c := [vi x.page, .int .u8 x.kind, vi x.n]) e3
        have k23 : Kept none' w2 w3 := (Kept.refl _ _).al e3
        have hq3 := hp i x w3 _ hx (k2.tr k23) (RMapped.stab _ _ _ _ hR2 k23) (hJ _ _ _ hj k23)
        refine Wif_yes rfl ⟨v, by rw [show po (some ⟨w.heap.size, 0, none⟩) = 0 from rfl, show pb (some ⟨w.heap.size, 0, none⟩) = w.heap.size from rfl, (ob2.k k23).rd]; rfl, _, _, _, ⟨by rw [ox3.rd]; rfl, by rw [ox3.rd]; rfl, by rw [ox3.rd]; rfl⟩, CallsV.mono hq3 ?_⟩
        rintro e w4 ⟨b, rfl, k4, g1, g2⟩
        exact ⟨b, rfl, b, rfl, (k23.mono fun _ _ h => h.elim).trans k4 fun _ _ h => h, g1, g2⟩
      · rintro e w3 ⟨u, rfl, b, rfl, k3, g1, g2⟩
        have K3 : Kept X w w3 := k2.trans k3 fun _ _ h => h
        refine ⟨!b, rfl, ?_⟩
        cases b with
        | true =>
          refine Wif_no rfl ⟨xs.length - (i + 1), by omega, i + 1, by rw [wi (by omega)]; rfl, by omega, rfl, K3, ob2.kx k3 fun h => by have := hX _ h; omega, g1 rfl⟩
        | false =>
          refine Wif_yes rfl ⟨false, by simp, K3, fun h => (by cases h), fun _ => ⟨i, hil, g2 rfl⟩⟩
    · have hie : i = xs.length := by simp at hc; omega
      subst hie
      exact ⟨true, rfl, k2, fun _ => hj, fun h => by cases h⟩
  · rintro e w' ⟨u, rfl, b, rfl, hw⟩
    exact ⟨b, rfl, hw⟩
theorem all_alive {X : Nat → Prop} {J : Nat → World → Prop} {B : Nat → World → Prop} {w : World} {a : Option Addr} {l c : Nat} {xs : List (Int × Int)} {v : Value} (hv : v.cells = #[v]) (hX : ∀ x, X x → x < w.heap.size) (hR : ∀ w', Kept X w w' → SlR (RAlive) 2 w' a l c xs) (h0 : ∀ w', Kept none' w w' → J 0 w') (hJ : ∀ i w1 w2, J i w1 → Kept none' w1 w2 → J i w2)
    (hp : ∀ (i : Nat) (x : Int × Int) (w' : World) (cs : List Value), xs[i]? = some x → Kept X w w' → (RAlive) w' cs x → J i w' → CallsV Tryz.prog v [valC cs] w' fun e w'' => ∃ b : Bool, e = .returned (.bool b) ∧ Kept X w' w'' ∧ (b = true → J (i + 1) w'') ∧ (b = false → B i w'')) :
    Calls Tryz.prog 98 #[.slice a l c, v] w fun r w' => ∃ b : Bool, r = .returned (.bool b) ∧ Kept X w w' ∧ (b = true → J xs.length w') ∧ (b = false → ∃ i, i < xs.length ∧ B i w') := by
  refine (vc98 a l c v w (fun u w' => ∃ b : Bool, u = .bool b ∧ Kept X w w' ∧ (b = true → J xs.length w') ∧ (b = false → ∃ i, i < xs.length ∧ B i w')) ?_).mono ?_
  · unfold vcP98
    rw [hv]
    intro w1 e1
    have ob1 := own_alloc (c := [v]) e1
    have k1 : Kept none' w w1 := (Kept.refl _ _).al e1
    refine ⟨fun n k w' M => ∃ i : Nat, k = (i : Int) ∧ i ≤ xs.length ∧ M = xs.length - i ∧ Kept X w w' ∧ own w' w.heap.size [v] ∧ J i w', ⟨xs.length, 0, rfl, by omega, rfl, k1.mono fun _ _ h => h.elim, ob1, h0 w1 k1⟩, ?_⟩
    rintro n _ w2 _ ⟨i, rfl, hi, rfl, k2, ob2, hj⟩
    have hs := hR w2 k2
    have hlen := hs.len
    have h63 := hs.lt63
    refine Wif_intro (fun hc => ?_) (fun hc => ?_)
    · have hil : i < xs.length := by simp at hc; omega
      obtain ⟨x, hx⟩ : ∃ x, xs[i]? = some x := ⟨xs[i], List.getElem?_eq_getElem hil⟩
      obtain ⟨cs, hcs, hRx, hr⟩ := hs.el i x hx
      have hq := hp i x w2 cs hx k2 hRx hj
      have hR2 := hRx
      refine Wif_yes (hs.isp (by omega)) (Wif_yes (inB_of (by omega) (by omega)) ?_)
      rw [Int.toNat_natCast]
      obtain rfl : cs = [vi x.1, .int .u64 x.2] := hRx
      refine ⟨_, _, ⟨hr 0 _ rfl, hr 1 _ rfl⟩, (vc136 _ _ (some ⟨w.heap.size, 0, none⟩) w2 (fun u w' => ∃ b : Bool, u = .bool (!b) ∧ Kept X w2 w' ∧ (b = true → J (i + 1) w') ∧ (b = false → B i w')) ?_).mono ?_⟩
      · unfold vcP136
        intro w3 e3
        have ox3 := own_alloc (c := [vi x.1, .int .u64 x.2]) e3
        have k23 : Kept none' w2 w3 := (Kept.refl _ _).al e3
        have hq3 := hp i x w3 _ hx (k2.tr k23) (RAlive.stab _ _ _ _ hR2 k23) (hJ _ _ _ hj k23)
        refine Wif_yes rfl ⟨v, by rw [show po (some ⟨w.heap.size, 0, none⟩) = 0 from rfl, show pb (some ⟨w.heap.size, 0, none⟩) = w.heap.size from rfl, (ob2.k k23).rd]; rfl, _, _, ⟨by rw [ox3.rd]; rfl, by rw [ox3.rd]; rfl⟩, CallsV.mono hq3 ?_⟩
        rintro e w4 ⟨b, rfl, k4, g1, g2⟩
        exact ⟨b, rfl, b, rfl, (k23.mono fun _ _ h => h.elim).trans k4 fun _ _ h => h, g1, g2⟩
      · rintro e w3 ⟨u, rfl, b, rfl, k3, g1, g2⟩
        have K3 : Kept X w w3 := k2.trans k3 fun _ _ h => h
        refine ⟨!b, rfl, ?_⟩
        cases b with
        | true =>
          refine Wif_no rfl ⟨xs.length - (i + 1), by omega, i + 1, by rw [wi (by omega)]; rfl, by omega, rfl, K3, ob2.kx k3 fun h => by have := hX _ h; omega, g1 rfl⟩
        | false =>
          refine Wif_yes rfl ⟨false, by simp, K3, fun h => (by cases h), fun _ => ⟨i, hil, g2 rfl⟩⟩
    · have hie : i = xs.length := by simp at hc; omega
      subst hie
      exact ⟨true, rfl, k2, fun _ => hj, fun h => by cases h⟩
  · rintro e w' ⟨u, rfl, b, rfl, hw⟩
    exact ⟨b, rfl, hw⟩
end Go.Proofs.YtikjgeenhbnkkaaGreatDoor
