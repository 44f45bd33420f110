/-
  A part of a proof that a law of this seat returns true at every input. Conditions: those in each theorem.
-/
import Derived.Test.YtikjgeenhbnkkaaGreatDoorAU2
import Derived.Test.YtikjgeenhbnkkaaGreatDoorAV1
set_option linter.unusedSimpArgs false
set_option linter.unusedVariables false
set_option maxRecDepth 100000
namespace Go.Proofs.YtikjgeenhbnkkaaGreatDoor
open Go Eng
theorem allP_int {P : Int → Prop} {w : World} {a : Option Addr} {l c : Nat} {xs : List (Int)} {v : Value} (hv : v.cells = #[v]) (hR : SlR (RInt) 1 w a l c xs)
    (hp : ∀ (x : Int) (w' : World) (cs : List Value), x ∈ xs → Kept none' w w' → (RInt) w' cs x → CallsV Tryz.prog v [valC cs] w' fun e w'' => ∃ b : Bool, e = .returned (.bool b) ∧ Kept none' w' w'' ∧ (b = true ↔ P x)) :
    Calls Tryz.prog 36 #[.slice a l c, v] w fun r w' => ∃ b : Bool, r = .returned (.bool b) ∧ Kept none' w w' ∧ (b = true ↔ ∀ x ∈ xs, P x) := by
  refine (all_int (X := none') (J := fun i _ => ∀ j x, j < i → xs[j]? = some x → P x) (B := fun i _ => ∃ x, xs[i]? = some x ∧ ¬ P x) hv (fun _ h => h.elim) (fun w' k => hR.k RInt.stab k) (fun _ _ j x h => absurd h (Nat.not_lt_zero _)) (fun _ _ _ h _ => h) ?_).mono ?_
  · intro i x w' cs hx k hr hj
    refine CallsV.mono (hp x w' cs (List.mem_of_getElem? hx) k hr) ?_
    rintro e w'' ⟨b, rfl, k2, hb⟩
    refine ⟨b, rfl, k2, fun h j y hji hy => ?_, fun h => ⟨x, hx, fun hP => by rw [hb.2 hP] at h; cases h⟩⟩
    rcases Nat.lt_succ_iff_lt_or_eq.1 hji with h1 | rfl
    · exact hj j y h1 hy
    · rw [hx] at hy; cases hy; exact hb.1 h
  · rintro e w' ⟨b, rfl, k, ht, hf⟩
    refine ⟨b, rfl, k, fun h x hx => ?_, fun h => ?_⟩
    · obtain ⟨j, hj, rfl⟩ := List.mem_iff_getElem.1 hx
      exact ht h j _ hj (List.getElem?_eq_getElem hj)
    · cases b with
      | true => rfl
      | false =>
        obtain ⟨i, hi, x, hx, hn⟩ := hf rfl
        exact absurd (h x (List.mem_of_getElem? hx)) hn
theorem allP_blk {P : Int × Int → Prop} {w : World} {a : Option Addr} {l c : Nat} {xs : List (Int × Int)} {v : Value} (hv : v.cells = #[v]) (hR : SlR (RPair) 2 w a l c xs)
    (hp : ∀ (x : Int × Int) (w' : World) (cs : List Value), x ∈ xs → Kept none' w w' → (RPair) w' cs x → CallsV Tryz.prog v [valC cs] w' fun e w'' => ∃ b : Bool, e = .returned (.bool b) ∧ Kept none' w' w'' ∧ (b = true ↔ P x)) :
    Calls Tryz.prog 39 #[.slice a l c, v] w fun r w' => ∃ b : Bool, r = .returned (.bool b) ∧ Kept none' w w' ∧ (b = true ↔ ∀ x ∈ xs, P x) := by
  refine (all_blk (X := none') (J := fun i _ => ∀ j x, j < i → xs[j]? = some x → P x) (B := fun i _ => ∃ x, xs[i]? = some x ∧ ¬ P x) hv (fun _ h => h.elim) (fun w' k => hR.k RPair.stab k) (fun _ _ j x h => absurd h (Nat.not_lt_zero _)) (fun _ _ _ h _ => h) ?_).mono ?_
  · intro i x w' cs hx k hr hj
    refine CallsV.mono (hp x w' cs (List.mem_of_getElem? hx) k hr) ?_
    rintro e w'' ⟨b, rfl, k2, hb⟩
    refine ⟨b, rfl, k2, fun h j y hji hy => ?_, fun h => ⟨x, hx, fun hP => by rw [hb.2 hP] at h; cases h⟩⟩
    rcases Nat.lt_succ_iff_lt_or_eq.1 hji with h1 | rfl
    · exact hj j y h1 hy
    · rw [hx] at hy; cases hy; exact hb.1 h
  · rintro e w' ⟨b, rfl, k, ht, hf⟩
    refine ⟨b, rfl, k, fun h x hx => ?_, fun h => ?_⟩
    · obtain ⟨j, hj, rfl⟩ := List.mem_iff_getElem.1 hx
      exact ht h j _ hj (List.getElem?_eq_getElem hj)
    · cases b with
      | true => rfl
      | false =>
        obtain ⟨i, hi, x, hx, hn⟩ := hf rfl
        exact absurd (h x (List.mem_of_getElem? hx)) hn
theorem allP_ints {P : List Int → Prop} {w : World} {a : Option Addr} {l c : Nat} {xs : List (List Int)} {v : Value} (hv : v.cells = #[v]) (hR : SlR (RL RInt 1) 1 w a l c xs)
    (hp : ∀ (x : List Int) (w' : World) (cs : List Value), x ∈ xs → Kept none' w w' → (RL RInt 1) w' cs x → CallsV Tryz.prog v [valC cs] w' fun e w'' => ∃ b : Bool, e = .returned (.bool b) ∧ Kept none' w' w'' ∧ (b = true ↔ P x)) :
    Calls Tryz.prog 40 #[.slice a l c, v] w fun r w' => ∃ b : Bool, r = .returned (.bool b) ∧ Kept none' w w' ∧ (b = true ↔ ∀ x ∈ xs, P x) := by
  refine (all_ints (X := none') (J := fun i _ => ∀ j x, j < i → xs[j]? = some x → P x) (B := fun i _ => ∃ x, xs[i]? = some x ∧ ¬ P x) hv (fun _ h => h.elim) (fun w' k => hR.k (RL.stab RInt.stab) k) (fun _ _ j x h => absurd h (Nat.not_lt_zero _)) (fun _ _ _ h _ => h) ?_).mono ?_
  · intro i x w' cs hx k hr hj
    refine CallsV.mono (hp x w' cs (List.mem_of_getElem? hx) k hr) ?_
    rintro e w'' ⟨b, rfl, k2, hb⟩
    refine ⟨b, rfl, k2, fun h j y hji hy => ?_, fun h => ⟨x, hx, fun hP => by rw [hb.2 hP] at h; cases h⟩⟩
    rcases Nat.lt_succ_iff_lt_or_eq.1 hji with h1 | rfl
    · exact hj j y h1 hy
    · rw [hx] at hy; cases hy; exact hb.1 h
  · rintro e w' ⟨b, rfl, k, ht, hf⟩
    refine ⟨b, rfl, k, fun h x hx => ?_, fun h => ?_⟩
    · obtain ⟨j, hj, rfl⟩ := List.mem_iff_getElem.1 hx
      exact ht h j _ hj (List.getElem?_eq_getElem hj)
    · cases b with
      | true => rfl
      | false =>
        obtain ⟨i, hi, x, hx, hn⟩ := hf rfl
        exact absurd (h x (List.mem_of_getElem? hx)) hn
theorem allP_objs {P : List (Int × Int) → Prop} {w : World} {a : Option Addr} {l c : Nat} {xs : List (List (Int × Int))} {v : Value} (hv : v.cells = #[v]) (hR : SlR (RL RPair 2) 1 w a l c xs)
    (hp : ∀ (x : List (Int × Int)) (w' : World) (cs : List Value), x ∈ xs → Kept none' w w' → (RL RPair 2) w' cs x → CallsV Tryz.prog v [valC cs] w' fun e w'' => ∃ b : Bool, e = .returned (.bool b) ∧ Kept none' w' w'' ∧ (b = true ↔ P x)) :
    Calls Tryz.prog 43 #[.slice a l c, v] w fun r w' => ∃ b : Bool, r = .returned (.bool b) ∧ Kept none' w w' ∧ (b = true ↔ ∀ x ∈ xs, P x) := by
  refine (all_objs (X := none') (J := fun i _ => ∀ j x, j < i → xs[j]? = some x → P x) (B := fun i _ => ∃ x, xs[i]? = some x ∧ ¬ P x) hv (fun _ h => h.elim) (fun w' k => hR.k (RL.stab RPair.stab) k) (fun _ _ j x h => absurd h (Nat.not_lt_zero _)) (fun _ _ _ h _ => h) ?_).mono ?_
  · intro i x w' cs hx k hr hj
    refine CallsV.mono (hp x w' cs (List.mem_of_getElem? hx) k hr) ?_
    rintro e w'' ⟨b, rfl, k2, hb⟩
    refine ⟨b, rfl, k2, fun h j y hji hy => ?_, fun h => ⟨x, hx, fun hP => by rw [hb.2 hP] at h; cases h⟩⟩
    rcases Nat.lt_succ_iff_lt_or_eq.1 hji with h1 | rfl
    · exact hj j y h1 hy
    · rw [hx] at hy; cases hy; exact hb.1 h
  · rintro e w' ⟨b, rfl, k, ht, hf⟩
    refine ⟨b, rfl, k, fun h x hx => ?_, fun h => ?_⟩
    · obtain ⟨j, hj, rfl⟩ := List.mem_iff_getElem.1 hx
      exact ht h j _ hj (List.getElem?_eq_getElem hj)
    · cases b with
      | true => rfl
      | false =>
        obtain ⟨i, hi, x, hx, hn⟩ := hf rfl
        exact absurd (h x (List.mem_of_getElem? hx)) hn
theorem allP_obj {P : Int × Int → Prop} {w : World} {a : Option Addr} {l c : Nat} {xs : List (Int × Int)} {v : Value} (hv : v.cells = #[v]) (hR : SlR (RPair) 2 w a l c xs)
    (hp : ∀ (x : Int × Int) (w' : World) (cs : List Value), x ∈ xs → Kept none' w w' → (RPair) w' cs x → CallsV Tryz.prog v [valC cs] w' fun e w'' => ∃ b : Bool, e = .returned (.bool b) ∧ Kept none' w' w'' ∧ (b = true ↔ P x)) :
    Calls Tryz.prog 45 #[.slice a l c, v] w fun r w' => ∃ b : Bool, r = .returned (.bool b) ∧ Kept none' w w' ∧ (b = true ↔ ∀ x ∈ xs, P x) := by
  refine (all_obj (X := none') (J := fun i _ => ∀ j x, j < i → xs[j]? = some x → P x) (B := fun i _ => ∃ x, xs[i]? = some x ∧ ¬ P x) hv (fun _ h => h.elim) (fun w' k => hR.k RPair.stab k) (fun _ _ j x h => absurd h (Nat.not_lt_zero _)) (fun _ _ _ h _ => h) ?_).mono ?_
  · intro i x w' cs hx k hr hj
    refine CallsV.mono (hp x w' cs (List.mem_of_getElem? hx) k hr) ?_
    rintro e w'' ⟨b, rfl, k2, hb⟩
    refine ⟨b, rfl, k2, fun h j y hji hy => ?_, fun h => ⟨x, hx, fun hP => by rw [hb.2 hP] at h; cases h⟩⟩
    rcases Nat.lt_succ_iff_lt_or_eq.1 hji with h1 | rfl
    · exact hj j y h1 hy
    · rw [hx] at hy; cases hy; exact hb.1 h
  · rintro e w' ⟨b, rfl, k, ht, hf⟩
    refine ⟨b, rfl, k, fun h x hx => ?_, fun h => ?_⟩
    · obtain ⟨j, hj, rfl⟩ := List.mem_iff_getElem.1 hx
      exact ht h j _ hj (List.getElem?_eq_getElem hj)
    · cases b with
      | true => rfl
      | false =>
        obtain ⟨i, hi, x, hx, hn⟩ := hf rfl
        exact absurd (h x (List.mem_of_getElem? hx)) hn
theorem allP_objss {P : List (List (Int × Int)) → Prop} {w : World} {a : Option Addr} {l c : Nat} {xs : List (List (List (Int × Int)))} {v : Value} (hv : v.cells = #[v]) (hR : SlR (RL (RL RPair 2) 1) 1 w a l c xs)
    (hp : ∀ (x : List (List (Int × Int))) (w' : World) (cs : List Value), x ∈ xs → Kept none' w w' → (RL (RL RPair 2) 1) w' cs x → CallsV Tryz.prog v [valC cs] w' fun e w'' => ∃ b : Bool, e = .returned (.bool b) ∧ Kept none' w' w'' ∧ (b = true ↔ P x)) :
    Calls Tryz.prog 47 #[.slice a l c, v] w fun r w' => ∃ b : Bool, r = .returned (.bool b) ∧ Kept none' w w' ∧ (b = true ↔ ∀ x ∈ xs, P x) := by
  refine (all_objss (X := none') (J := fun i _ => ∀ j x, j < i → xs[j]? = some x → P x) (B := fun i _ => ∃ x, xs[i]? = some x ∧ ¬ P x) hv (fun _ h => h.elim) (fun w' k => hR.k (RL.stab (RL.stab RPair.stab)) k) (fun _ _ j x h => absurd h (Nat.not_lt_zero _)) (fun _ _ _ h _ => h) ?_).mono ?_
  · intro i x w' cs hx k hr hj
    refine CallsV.mono (hp x w' cs (List.mem_of_getElem? hx) k hr) ?_
    rintro e w'' ⟨b, rfl, k2, hb⟩
    refine ⟨b, rfl, k2, fun h j y hji hy => ?_, fun h => ⟨x, hx, fun hP => by rw [hb.2 hP] at h; cases h⟩⟩
    rcases Nat.lt_succ_iff_lt_or_eq.1 hji with h1 | rfl
    · exact hj j y h1 hy
    · rw [hx] at hy; cases hy; exact hb.1 h
  · rintro e w' ⟨b, rfl, k, ht, hf⟩
    refine ⟨b, rfl, k, fun h x hx => ?_, fun h => ?_⟩
    · obtain ⟨j, hj, rfl⟩ := List.mem_iff_getElem.1 hx
      exact ht h j _ hj (List.getElem?_eq_getElem hj)
    · cases b with
      | true => rfl
      | false =>
        obtain ⟨i, hi, x, hx, hn⟩ := hf rfl
        exact absurd (h x (List.mem_of_getElem? hx)) hn
theorem allP_slab {P : Slab → Prop} {w : World} {a : Option Addr} {l c : Nat} {xs : List (Slab)} {v : Value} (hv : v.cells = #[v]) (hR : SlR (RSlab) 7 w a l c xs)
    (hp : ∀ (x : Slab) (w' : World) (cs : List Value), x ∈ xs → Kept none' w w' → (RSlab) w' cs x → CallsV Tryz.prog v [valC cs] w' fun e w'' => ∃ b : Bool, e = .returned (.bool b) ∧ Kept none' w' w'' ∧ (b = true ↔ P x)) :
    Calls Tryz.prog 49 #[.slice a l c, v] w fun r w' => ∃ b : Bool, r = .returned (.bool b) ∧ Kept none' w w' ∧ (b = true ↔ ∀ x ∈ xs, P x) := by
  refine (all_slab (X := none') (J := fun i _ => ∀ j x, j < i → xs[j]? = some x → P x) (B := fun i _ => ∃ x, xs[i]? = some x ∧ ¬ P x) hv (fun _ h => h.elim) (fun w' k => hR.k RSlab.stab k) (fun _ _ j x h => absurd h (Nat.not_lt_zero _)) (fun _ _ _ h _ => h) ?_).mono ?_
  · intro i x w' cs hx k hr hj
    refine CallsV.mono (hp x w' cs (List.mem_of_getElem? hx) k hr) ?_
    rintro e w'' ⟨b, rfl, k2, hb⟩
    refine ⟨b, rfl, k2, fun h j y hji hy => ?_, fun h => ⟨x, hx, fun hP => by rw [hb.2 hP] at h; cases h⟩⟩
    rcases Nat.lt_succ_iff_lt_or_eq.1 hji with h1 | rfl
    · exact hj j y h1 hy
    · rw [hx] at hy; cases hy; exact hb.1 h
  · rintro e w' ⟨b, rfl, k, ht, hf⟩
    refine ⟨b, rfl, k, fun h x hx => ?_, fun h => ?_⟩
    · obtain ⟨j, hj, rfl⟩ := List.mem_iff_getElem.1 hx
      exact ht h j _ hj (List.getElem?_eq_getElem hj)
    · cases b with
      | true => rfl
      | false =>
        obtain ⟨i, hi, x, hx, hn⟩ := hf rfl
        exact absurd (h x (List.mem_of_getElem? hx)) hn
theorem allP_proc {P : Proc → Prop} {w : World} {a : Option Addr} {l c : Nat} {xs : List (Proc)} {v : Value} (hv : v.cells = #[v]) (hR : SlR (RProc) 6 w a l c xs)
    (hp : ∀ (x : Proc) (w' : World) (cs : List Value), x ∈ xs → Kept none' w w' → (RProc) w' cs x → CallsV Tryz.prog v [valC cs] w' fun e w'' => ∃ b : Bool, e = .returned (.bool b) ∧ Kept none' w' w'' ∧ (b = true ↔ P x)) :
    Calls Tryz.prog 51 #[.slice a l c, v] w fun r w' => ∃ b : Bool, r = .returned (.bool b) ∧ Kept none' w w' ∧ (b = true ↔ ∀ x ∈ xs, P x) := by
  refine (all_proc (X := none') (J := fun i _ => ∀ j x, j < i → xs[j]? = some x → P x) (B := fun i _ => ∃ x, xs[i]? = some x ∧ ¬ P x) hv (fun _ h => h.elim) (fun w' k => hR.k RProc.stab k) (fun _ _ j x h => absurd h (Nat.not_lt_zero _)) (fun _ _ _ h _ => h) ?_).mono ?_
  · intro i x w' cs hx k hr hj
    refine CallsV.mono (hp x w' cs (List.mem_of_getElem? hx) k hr) ?_
    rintro e w'' ⟨b, rfl, k2, hb⟩
    refine ⟨b, rfl, k2, fun h j y hji hy => ?_, fun h => ⟨x, hx, fun hP => by rw [hb.2 hP] at h; cases h⟩⟩
    rcases Nat.lt_succ_iff_lt_or_eq.1 hji with h1 | rfl
    · exact hj j y h1 hy
    · rw [hx] at hy; cases hy; exact hb.1 h
  · rintro e w' ⟨b, rfl, k, ht, hf⟩
    refine ⟨b, rfl, k, fun h x hx => ?_, fun h => ?_⟩
    · obtain ⟨j, hj, rfl⟩ := List.mem_iff_getElem.1 hx
      exact ht h j _ hj (List.getElem?_eq_getElem hj)
    · cases b with
      | true => rfl
      | false =>
        obtain ⟨i, hi, x, hx, hn⟩ := hf rfl
        exact absurd (h x (List.mem_of_getElem? hx)) hn
theorem allP_own {P : Own → Prop} {w : World} {a : Option Addr} {l c : Nat} {xs : List (Own)} {v : Value} (hv : v.cells = #[v]) (hR : SlR (ROwn) 3 w a l c xs)
    (hp : ∀ (x : Own) (w' : World) (cs : List Value), x ∈ xs → Kept none' w w' → (ROwn) w' cs x → CallsV Tryz.prog v [valC cs] w' fun e w'' => ∃ b : Bool, e = .returned (.bool b) ∧ Kept none' w' w'' ∧ (b = true ↔ P x)) :
    Calls Tryz.prog 52 #[.slice a l c, v] w fun r w' => ∃ b : Bool, r = .returned (.bool b) ∧ Kept none' w w' ∧ (b = true ↔ ∀ x ∈ xs, P x) := by
  refine (all_own (X := none') (J := fun i _ => ∀ j x, j < i → xs[j]? = some x → P x) (B := fun i _ => ∃ x, xs[i]? = some x ∧ ¬ P x) hv (fun _ h => h.elim) (fun w' k => hR.k ROwn.stab k) (fun _ _ j x h => absurd h (Nat.not_lt_zero _)) (fun _ _ _ h _ => h) ?_).mono ?_
  · intro i x w' cs hx k hr hj
    refine CallsV.mono (hp x w' cs (List.mem_of_getElem? hx) k hr) ?_
    rintro e w'' ⟨b, rfl, k2, hb⟩
    refine ⟨b, rfl, k2, fun h j y hji hy => ?_, fun h => ⟨x, hx, fun hP => by rw [hb.2 hP] at h; cases h⟩⟩
    rcases Nat.lt_succ_iff_lt_or_eq.1 hji with h1 | rfl
    · exact hj j y h1 hy
    · rw [hx] at hy; cases hy; exact hb.1 h
  · rintro e w' ⟨b, rfl, k, ht, hf⟩
    refine ⟨b, rfl, k, fun h x hx => ?_, fun h => ?_⟩
    · obtain ⟨j, hj, rfl⟩ := List.mem_iff_getElem.1 hx
      exact ht h j _ hj (List.getElem?_eq_getElem hj)
    · cases b with
      | true => rfl
      | false =>
        obtain ⟨i, hi, x, hx, hn⟩ := hf rfl
        exact absurd (h x (List.mem_of_getElem? hx)) hn
theorem allP_leaf {P : Int × Int → Prop} {w : World} {a : Option Addr} {l c : Nat} {xs : List (Int × Int)} {v : Value} (hv : v.cells = #[v]) (hR : SlR (RPair) 2 w a l c xs)
    (hp : ∀ (x : Int × Int) (w' : World) (cs : List Value), x ∈ xs → Kept none' w w' → (RPair) w' cs x → CallsV Tryz.prog v [valC cs] w' fun e w'' => ∃ b : Bool, e = .returned (.bool b) ∧ Kept none' w' w'' ∧ (b = true ↔ P x)) :
    Calls Tryz.prog 78 #[.slice a l c, v] w fun r w' => ∃ b : Bool, r = .returned (.bool b) ∧ Kept none' w w' ∧ (b = true ↔ ∀ x ∈ xs, P x) := by
  refine (all_leaf (X := none') (J := fun i _ => ∀ j x, j < i → xs[j]? = some x → P x) (B := fun i _ => ∃ x, xs[i]? = some x ∧ ¬ P x) hv (fun _ h => h.elim) (fun w' k => hR.k RPair.stab k) (fun _ _ j x h => absurd h (Nat.not_lt_zero _)) (fun _ _ _ h _ => h) ?_).mono ?_
  · intro i x w' cs hx k hr hj
    refine CallsV.mono (hp x w' cs (List.mem_of_getElem? hx) k hr) ?_
    rintro e w'' ⟨b, rfl, k2, hb⟩
    refine ⟨b, rfl, k2, fun h j y hji hy => ?_, fun h => ⟨x, hx, fun hP => by rw [hb.2 hP] at h; cases h⟩⟩
    rcases Nat.lt_succ_iff_lt_or_eq.1 hji with h1 | rfl
    · exact hj j y h1 hy
    · rw [hx] at hy; cases hy; exact hb.1 h
  · rintro e w' ⟨b, rfl, k, ht, hf⟩
    refine ⟨b, rfl, k, fun h x hx => ?_, fun h => ?_⟩
    · obtain ⟨j, hj, rfl⟩ := List.mem_iff_getElem.1 hx
      exact ht h j _ hj (List.getElem?_eq_getElem hj)
    · cases b with
      | true => rfl
      | false =>
        obtain ⟨i, hi, x, hx, hn⟩ := hf rfl
        exact absurd (h x (List.mem_of_getElem? hx)) hn
theorem allP_mapped {P : Mapped → Prop} {w : World} {a : Option Addr} {l c : Nat} {xs : List (Mapped)} {v : Value} (hv : v.cells = #[v]) (hR : SlR (RMapped) 3 w a l c xs)
    (hp : ∀ (x : Mapped) (w' : World) (cs : List Value), x ∈ xs → Kept none' w w' → (RMapped) w' cs x → CallsV Tryz.prog v [valC cs] w' fun e w'' => ∃ b : Bool, e = .returned (.bool b) ∧ Kept none' w' w'' ∧ (b = true ↔ P x)) :
    Calls Tryz.prog 80 #[.slice a l c, v] w fun r w' => ∃ b : Bool, r = .returned (.bool b) ∧ Kept none' w w' ∧ (b = true ↔ ∀ x ∈ xs, P x) := by
  refine (all_mapped (X := none') (J := fun i _ => ∀ j x, j < i → xs[j]? = some x → P x) (B := fun i _ => ∃ x, xs[i]? = some x ∧ ¬ P x) hv (fun _ h => h.elim) (fun w' k => hR.k RMapped.stab k) (fun _ _ j x h => absurd h (Nat.not_lt_zero _)) (fun _ _ _ h _ => h) ?_).mono ?_
  · intro i x w' cs hx k hr hj
    refine CallsV.mono (hp x w' cs (List.mem_of_getElem? hx) k hr) ?_
    rintro e w'' ⟨b, rfl, k2, hb⟩
    refine ⟨b, rfl, k2, fun h j y hji hy => ?_, fun h => ⟨x, hx, fun hP => by rw [hb.2 hP] at h; cases h⟩⟩
    rcases Nat.lt_succ_iff_lt_or_eq.1 hji with h1 | rfl
    · exact hj j y h1 hy
    · rw [hx] at hy; cases hy; exact hb.1 h
  · rintro e w' ⟨b, rfl, k, ht, hf⟩
    refine ⟨b, rfl, k, fun h x hx => ?_, fun h => ?_⟩
    · obtain ⟨j, hj, rfl⟩ := List.mem_iff_getElem.1 hx
      exact ht h j _ hj (List.getElem?_eq_getElem hj)
    · cases b with
      | true => rfl
      | false =>
        obtain ⟨i, hi, x, hx, hn⟩ := hf rfl
        exact absurd (h x (List.mem_of_getElem? hx)) hn
theorem allP_alive {P : Int × Int → Prop} {w : World} {a : Option Addr} {l c : Nat} {xs : List (Int × Int)} {v : Value} (hv : v.cells = #[v]) (hR : SlR (RAlive) 2 w a l c xs)
    (hp : ∀ (x : Int × Int) (w' : World) (cs : List Value), x ∈ xs → Kept none' w w' → (RAlive) w' cs x → CallsV Tryz.prog v [valC cs] w' fun e w'' => ∃ b : Bool, e = .returned (.bool b) ∧ Kept none' w' w'' ∧ (b = true ↔ P x)) :
    Calls Tryz.prog 98 #[.slice a l c, v] w fun r w' => ∃ b : Bool, r = .returned (.bool b) ∧ Kept none' w w' ∧ (b = true ↔ ∀ x ∈ xs, P x) := by
  refine (all_alive (X := none') (J := fun i _ => ∀ j x, j < i → xs[j]? = some x → P x) (B := fun i _ => ∃ x, xs[i]? = some x ∧ ¬ P x) hv (fun _ h => h.elim) (fun w' k => hR.k RAlive.stab k) (fun _ _ j x h => absurd h (Nat.not_lt_zero _)) (fun _ _ _ h _ => h) ?_).mono ?_
  · intro i x w' cs hx k hr hj
    refine CallsV.mono (hp x w' cs (List.mem_of_getElem? hx) k hr) ?_
    rintro e w'' ⟨b, rfl, k2, hb⟩
    refine ⟨b, rfl, k2, fun h j y hji hy => ?_, fun h => ⟨x, hx, fun hP => by rw [hb.2 hP] at h; cases h⟩⟩
    rcases Nat.lt_succ_iff_lt_or_eq.1 hji with h1 | rfl
    · exact hj j y h1 hy
    · rw [hx] at hy; cases hy; exact hb.1 h
  · rintro e w' ⟨b, rfl, k, ht, hf⟩
    refine ⟨b, rfl, k, fun h x hx => ?_, fun h => ?_⟩
    · obtain ⟨j, hj, rfl⟩ := List.mem_iff_getElem.1 hx
      exact ht h j _ hj (List.getElem?_eq_getElem hj)
    · cases b with
      | true => rfl
      | false =>
        obtain ⟨i, hi, x, hx, hn⟩ := hf rfl
        exact absurd (h x (List.mem_of_getElem? hx)) hn
end Go.Proofs.YtikjgeenhbnkkaaGreatDoor
set_option linter.unusedVariables false
set_option maxRecDepth 100000
namespace Go.Proofs.YtikjgeenhbnkkaaGreatDoor
open Go Go.Eng
open Go.Value (slice)
/- (*byre/audit.shaper).frame -/
def vcP37 (s : Option Addr) (f : Int) (w : World) (K : Value → World → Prop) : Prop := gIf (isP s) (decide (f ≥ 0) = true) (∃ (x : Int), (decide (f ≥ 0) = true → rd w (pb s) (po s + 107) = some (.int .i64 x)) ∧ K (Value.bool (decide (f ≥ 0) && decide (f < x))) w)
theorem vcE37 (s : Option Addr) (f : Int) (w : World) (K : Value → World → Prop) : vcP37 s f w K = Eng.wBody Tryz.prog (Eng.handOf Tryz.prog [] 2) [] Tryz.f37 (Eng.bodyOf Tryz.f37) [Value.pointer s, Value.int .i64 f] w K := by kernel_rfl
theorem vc37 (s : Option Addr) (f : Int) (w : World) (K : Value → World → Prop) (h : vcP37 s f w K) : Calls Tryz.prog 37 #[Value.pointer s, Value.int .i64 f] w (fun e w' => ∃ v, e = .returned v ∧ K v w') := Eng.vc_of [] 2 [] Tryz.mixes Tryz.func37 (by kernel_rfl) (by kernel_rfl) (vcE37 s f w K) h
/- (*byre/audit.shaper).slot -/
def vcP42 (s : Option Addr) (n : Int) (w : World) (K : Value → World → Prop) : Prop := gIf (isP s) (decide (n ≥ 0) = true) (∃ (x : Int), (decide (n ≥ 0) = true → rd w (pb s) (po s + 90) = some (.int .i64 x)) ∧ K (Value.bool (decide (n ≥ 0) && decide (n < x))) w)
theorem vcE42 (s : Option Addr) (n : Int) (w : World) (K : Value → World → Prop) : vcP42 s n w K = Eng.wBody Tryz.prog (Eng.handOf Tryz.prog [] 2) [] Tryz.f42 (Eng.bodyOf Tryz.f42) [Value.pointer s, Value.int .i64 n] w K := by kernel_rfl
theorem vc42 (s : Option Addr) (n : Int) (w : World) (K : Value → World → Prop) (h : vcP42 s n w K) : Calls Tryz.prog 42 #[Value.pointer s, Value.int .i64 n] w (fun e w' => ∃ v, e = .returned v ∧ K v w') := Eng.vc_of [] 2 [] Tryz.mixes Tryz.func42 (by kernel_rfl) (by kernel_rfl) (vcE42 s n w K) h
/- byre/audit.page -/
def vcP54 (p : Int) (w : World) (K : Value → World → Prop) : Prop := K (Value.bool (decide (p ≥ 0) && decide (p < 1024))) w
theorem vcE54 (p : Int) (w : World) (K : Value → World → Prop) : vcP54 p w K = Eng.wBody Tryz.prog (Eng.handOf Tryz.prog [] 2) [] Tryz.f54 (Eng.bodyOf Tryz.f54) [Value.int .i64 p] w K := by kernel_rfl
theorem vc54 (p : Int) (w : World) (K : Value → World → Prop) (h : vcP54 p w K) : Calls Tryz.prog 54 #[Value.int .i64 p] w (fun e w' => ∃ v, e = .returned v ∧ K v w') := Eng.vc_of [] 2 [] Tryz.mixes Tryz.func54 (by kernel_rfl) (by kernel_rfl) (vcE54 p w K) h
/- (*byre/audit.shaper).object -/
def vcP46 (s : Option Addr) (o0 : Int) (o1 : Int) (w : World) (K : Value → World → Prop) : Prop := ∀ (w' : World), w' = World.alloc w (Obj.cells #[Value.int .i64 o0, Value.int .i64 o1] 113) → ∀ (w1 : World), w1 = World.drew w' → Wif (isP s) (∃ (x : Option Nat), rd w1 (pb s) (po s + 108) = some (.map x) ∧ ∃ (x_1 : Int), rd w1 w.heap.size 0 = some (.int .i64 x_1) ∧ ∃ (x_2 : Int) (x_3 : Bool), lookIs Tryz.prog 99 (Value.map x) (Value.int .i64 x_1) true (Value.tuple #[Value.int .i64 x_2, Value.bool x_3]) w1 ∧ ∃ (x : Int), (x_3 = true → rd w1 w.heap.size 1 = some (.int .i64 x)) ∧ ∃ (x_4 : Int), ((x_3 && decide (x ≥ 0)) = true → rd w1 w.heap.size 1 = some (.int .i64 x_4)) ∧ K (Value.bool (x_3 && decide (x ≥ 0) && decide (x_4 < x_2))) w1) False
theorem vcE46 (s : Option Addr) (o0 : Int) (o1 : Int) (w : World) (K : Value → World → Prop) : vcP46 s o0 o1 w K = Eng.wBody Tryz.prog (Eng.handOf Tryz.prog [] 2) [] Tryz.f46 (Eng.bodyOf Tryz.f46) [Value.pointer s, Value.agg #[Value.int .i64 o0, Value.int .i64 o1]] w K := by kernel_rfl
theorem vc46 (s : Option Addr) (o0 : Int) (o1 : Int) (w : World) (K : Value → World → Prop) (h : vcP46 s o0 o1 w K) : Calls Tryz.prog 46 #[Value.pointer s, Value.agg #[Value.int .i64 o0, Value.int .i64 o1]] w (fun e w' => ∃ v, e = .returned v ∧ K v w') := Eng.vc_of [] 2 [] Tryz.mixes Tryz.func46 (by kernel_rfl) (by kernel_rfl) (vcE46 s o0 o1 w K) h
/- (*byre/audit.shaper).lists -/
def vcP48 (s : Option Addr) (l : Option Addr) (lL : Nat) (lC : Nat) (w : World) (K : Value → World → Prop) : Prop := ∀ (w' : World), w' = World.alloc w (Obj.cells #[Value.pointer s] 98) → Wif ((↑lL : Int) == 8) (Calls Tryz.prog 43 #[slice l lL lC, Value.func (Fn.func 94) #[] #[Value.pointer (some (Addr.mk w.heap.size 0 none))]] w' fun (e : Ending) (w' : World) => ∃ (b : Bool), e = Ending.returned (Value.bool b) ∧ K (Value.bool b) w') (K (Value.bool false) w')
theorem vcE48 (s : Option Addr) (l : Option Addr) (lL : Nat) (lC : Nat) (w : World) (K : Value → World → Prop) : vcP48 s l lL lC w K = Eng.wBody Tryz.prog (Eng.handOf Tryz.prog [] 2) [] Tryz.f48 (Eng.bodyOf Tryz.f48) [Value.pointer s, slice l lL lC] w K := by kernel_rfl
theorem vc48 (s : Option Addr) (l : Option Addr) (lL : Nat) (lC : Nat) (w : World) (K : Value → World → Prop) (h : vcP48 s l lL lC w K) : Calls Tryz.prog 48 #[Value.pointer s, slice l lL lC] w (fun e w' => ∃ v, e = .returned v ∧ K v w') := Eng.vc_of [] 2 [] Tryz.mixes Tryz.func48 (by kernel_rfl) (by kernel_rfl) (vcE48 s l lL lC w K) h
/- (*byre/audit.shaper).process -/
def vcP34 (s : Option Addr) (p0 : Int) (p1 : Int) (p2 : Option Addr) (p2L : Nat) (p2C : Nat) (p3 : Option Addr) (p3L : Nat) (p3C : Nat) (p4 : Option Addr) (p4L : Nat) (p4C : Nat) (p5 : Option Addr) (p5L : Nat) (p5C : Nat) (w : World) (K : Value → World → Prop) : Prop := ∀ (w' : World), w' = World.alloc w (Obj.cells #[Value.pointer s] 98) → ∀ (w'_1 : World), w'_1 = World.alloc w' (Obj.cells #[Value.int .i64 p0, Value.int .i64 p1, slice p2 p2L p2C, slice p3 p3L p3C, slice p4 p4L p4C, slice p5 p5L p5C] 48) → ∃ (x : Option Addr), rd w'_1 w.heap.size 0 = some (.pointer x) ∧ ∃ (x_1 : Int), rd w'_1 w'.heap.size 1 = some (.int .i64 x_1) ∧ Calls Tryz.prog 37 #[Value.pointer x, Value.int .i64 x_1] w'_1 fun (e : Ending) (w'_2 : World) => ∃ (b : Bool), e = Ending.returned (Value.bool b) ∧ ∃ (x : Option Addr) (x_2 x_3 : Nat), (b = true → rd w'_2 w'.heap.size 2 = some (.slice x x_2 x_3)) ∧ Wif b (Calls Tryz.prog 78 #[slice x x_2 x_3, Value.func (Fn.func 79) #[] #[Value.pointer (some (Addr.mk w.heap.size 0 none))]] w'_2 fun (e : Ending) (w'_3 : World) => ∃ (b : Bool), e = Ending.returned (Value.bool b) ∧ ∃ (x : Option Addr) (x_4 x_5 : Nat), (b = true → rd w'_3 w'.heap.size 4 = some (.slice x x_4 x_5)) ∧ Wif b (Calls Tryz.prog 36 #[slice x x_4 x_5, Value.func (Fn.func 54) #[] #[]] w'_3 fun (e : Ending) (w'_4 : World) => ∃ (b : Bool), e = Ending.returned (Value.bool b) ∧ ∃ (x : Option Addr) (x_6 x_7 : Nat), (b = true → rd w'_4 w'.heap.size 3 = some (.slice x x_6 x_7)) ∧ Wif b (Calls Tryz.prog 80 #[slice x x_6 x_7, Value.func (Fn.func 81) #[] #[Value.pointer (some (Addr.mk w.heap.size 0 none))]] w'_4 fun (e : Ending) (w' : World) => ∃ (b : Bool), e = Ending.returned (Value.bool b) ∧ K (Value.bool b) w') (K (Value.bool false) w'_4)) (K (Value.bool false) w'_3)) (K (Value.bool false) w'_2)
theorem vcE34 (s : Option Addr) (p0 : Int) (p1 : Int) (p2 : Option Addr) (p2L : Nat) (p2C : Nat) (p3 : Option Addr) (p3L : Nat) (p3C : Nat) (p4 : Option Addr) (p4L : Nat) (p4C : Nat) (p5 : Option Addr) (p5L : Nat) (p5C : Nat) (w : World) (K : Value → World → Prop) : vcP34 s p0 p1 p2 p2L p2C p3 p3L p3C p4 p4L p4C p5 p5L p5C w K = Eng.wBody Tryz.prog (Eng.handOf Tryz.prog [] 2) [] Tryz.f34 (Eng.bodyOf Tryz.f34) [Value.pointer s, Value.agg #[Value.int .i64 p0, Value.int .i64 p1, slice p2 p2L p2C, slice p3 p3L p3C, slice p4 p4L p4C, slice p5 p5L p5C]] w K := by kernel_rfl
theorem vc34 (s : Option Addr) (p0 : Int) (p1 : Int) (p2 : Option Addr) (p2L : Nat) (p2C : Nat) (p3 : Option Addr) (p3L : Nat) (p3C : Nat) (p4 : Option Addr) (p4L : Nat) (p4C : Nat) (p5 : Option Addr) (p5L : Nat) (p5C : Nat) (w : World) (K : Value → World → Prop) (h : vcP34 s p0 p1 p2 p2L p2C p3 p3L p3C p4 p4L p4C p5 p5L p5C w K) : Calls Tryz.prog 34 #[Value.pointer s, Value.agg #[Value.int .i64 p0, Value.int .i64 p1, slice p2 p2L p2C, slice p3 p3L p3C, slice p4 p4L p4C, slice p5 p5L p5C]] w (fun e w' => ∃ v, e = .returned v ∧ K v w') := Eng.vc_of [] 2 [] Tryz.mixes Tryz.func34 (by kernel_rfl) (by kernel_rfl) (vcE34 s p0 p1 p2 p2L p2C p3 p3L p3C p4 p4L p4C p5 p5L p5C w K) h
/- (*byre/audit.shaper).slab -/
def vcP50 (s : Option Addr) (x0 : Int) (x1 : Int) (x2 : Int) (x3 : Int) (x4 : Int) (x5 : Option Addr) (x5L : Nat) (x5C : Nat) (x6 : Option Addr) (x6L : Nat) (x6C : Nat) (w : World) (K : Value → World → Prop) : Prop := ∀ (w' : World), w' = World.alloc w (Obj.cells #[Value.int .i64 x0, Value.int .i64 x1, Value.int .i64 x2, Value.int .i64 x3, Value.int .i64 x4, slice x5 x5L x5C, slice x6 x6L x6C] 55) → ∀ (w1 : World), w1 = World.drew w' → Wif (isP s) (∃ (x : Nat → Int), rdAll w1 (pb s) (po s) (runI .i64 x 0 94) ∧ ∃ (x_1 : Int), rd w1 w.heap.size 2 = some (.int .i64 x_1) ∧ Calls Tryz.prog 67 #[Value.agg (List.toArray (runI .i64 x 0 94)), Value.int .i64 x_1] w1 fun (e : Ending) (w' : World) => ∃ (n n_1 : Int), e = Ending.returned (Value.tuple #[Value.int .i64 n, Value.int .i64 n_1]) ∧ ∀ (w1 : World), w1 = World.drew w' → ∃ (x : Int), ((n_1 != 0) = false → rd w1 w.heap.size 0 = some (.int .i64 x)) ∧ ∃ (x_2 : Int), ((n_1 != 0 || x != n) = false → rd w1 w.heap.size 1 = some (.int .i64 x_2)) ∧ ∃ (x_3 : Int), ((n_1 != 0 || x != n || decide (x_2 < 0)) = false → rd w1 w.heap.size 1 = some (.int .i64 x_3)) ∧ ∃ (x_4 : Int), ((n_1 != 0 || x != n || decide (x_2 < 0) || decide (x_3 ≥ 8)) = false → rd w1 w.heap.size 3 = some (.int .i64 x_4)) ∧ ∃ (x_5 : Int), ((n_1 != 0 || x != n || decide (x_2 < 0) || decide (x_3 ≥ 8) || decide (x_4 < 0)) = false → rd w1 w.heap.size 3 = some (.int .i64 x_5)) ∧ ∃ (x_6 : Int), ((n_1 != 0 || x != n || decide (x_2 < 0) || decide (x_3 ≥ 8) || decide (x_4 < 0) || decide (x_5 > 256)) = false → rd w1 w.heap.size 4 = some (.int .i64 x_6)) ∧ ∃ (x_7 : Int), ((n_1 != 0 || x != n || decide (x_2 < 0) || decide (x_3 ≥ 8) || decide (x_4 < 0) || decide (x_5 > 256)) = false → rd w1 w.heap.size 3 = some (.int .i64 x_7)) ∧ ∃ (x_8 : Int), ((n_1 != 0 || x != n || decide (x_2 < 0) || decide (x_3 ≥ 8) || decide (x_4 < 0) || decide (x_5 > 256)) = false → rd w1 w.heap.size 1 = some (.int .i64 x_8)) ∧ gIf (inB x_8 8) ((n_1 != 0 || x != n || decide (x_2 < 0) || decide (x_3 ≥ 8) || decide (x_4 < 0) || decide (x_5 > 256)) = false) (∃ (x_9 : Int), ((n_1 != 0 || x != n || decide (x_2 < 0) || decide (x_3 ≥ 8) || decide (x_4 < 0) || decide (x_5 > 256)) = false → rd w1 0 (0 + Int.toNat x_8 * 1) = some (.int .i64 x_9)) ∧ gIf (x_9 != 0) ((n_1 != 0 || x != n || decide (x_2 < 0) || decide (x_3 ≥ 8) || decide (x_4 < 0) || decide (x_5 > 256)) = false) (Wif (n_1 != 0 || x != n || decide (x_2 < 0) || decide (x_3 ≥ 8) || decide (x_4 < 0) || decide (x_5 > 256) || x_6 != IntKind.wrap .i64 (Int.tdiv (IntKind.wrap .i64 (256 - x_7)) x_9)) (K (Value.bool false) w1) (∀ (w' : World), w' = World.alloc w1 (Obj.cells #[Value.nilFunc] 105) → wr w' w1.heap.size 0 ∧ ∀ (w'_1 : World), w'_1 = st w' w1.heap.size 0 (Value.func (Fn.func 97) #[] #[Value.pointer (some (Addr.mk w.heap.size 0 none))]) → ∃ (x : Option Addr) (x_10 x_11 : Nat), rd w'_1 w.heap.size 5 = some (.slice x x_10 x_11) ∧ ∃ (x_12 : Value), rd w'_1 w1.heap.size 0 = some x_12 ∧ Calls Tryz.prog 36 #[slice x x_10 x_11, x_12] w'_1 fun (e : Ending) (w' : World) => ∃ (b : Bool), e = Ending.returned (Value.bool b) ∧ ∃ (x : Option Addr) (x_13 x_14 : Nat), (b = true → rd w' w.heap.size 6 = some (.slice x x_13 x_14)) ∧ Wif b (Calls Tryz.prog 98 #[slice x x_13 x_14, Value.func (Fn.func 99) #[] #[Value.pointer (some (Addr.mk w1.heap.size 0 none))]] w' fun (e : Ending) (w' : World) => ∃ (b : Bool), e = Ending.returned (Value.bool b) ∧ K (Value.bool b) w') (K (Value.bool false) w'))))) False
theorem vcE50 (s : Option Addr) (x0 : Int) (x1 : Int) (x2 : Int) (x3 : Int) (x4 : Int) (x5 : Option Addr) (x5L : Nat) (x5C : Nat) (x6 : Option Addr) (x6L : Nat) (x6C : Nat) (w : World) (K : Value → World → Prop) : vcP50 s x0 x1 x2 x3 x4 x5 x5L x5C x6 x6L x6C w K = Eng.wBody Tryz.prog (Eng.handOf Tryz.prog [] 2) [] Tryz.f50 (Eng.bodyOf Tryz.f50) [Value.pointer s, Value.agg #[Value.int .i64 x0, Value.int .i64 x1, Value.int .i64 x2, Value.int .i64 x3, Value.int .i64 x4, slice x5 x5L x5C, slice x6 x6L x6C]] w K := by kernel_rfl
theorem vc50 (s : Option Addr) (x0 : Int) (x1 : Int) (x2 : Int) (x3 : Int) (x4 : Int) (x5 : Option Addr) (x5L : Nat) (x5C : Nat) (x6 : Option Addr) (x6L : Nat) (x6C : Nat) (w : World) (K : Value → World → Prop) (h : vcP50 s x0 x1 x2 x3 x4 x5 x5L x5C x6 x6L x6C w K) : Calls Tryz.prog 50 #[Value.pointer s, Value.agg #[Value.int .i64 x0, Value.int .i64 x1, Value.int .i64 x2, Value.int .i64 x3, Value.int .i64 x4, slice x5 x5L x5C, slice x6 x6L x6C]] w (fun e w' => ∃ v, e = .returned v ∧ K v w') := Eng.vc_of [] 2 [] Tryz.mixes Tryz.func50 (by kernel_rfl) (by kernel_rfl) (vcE50 s x0 x1 x2 x3 x4 x5 x5L x5C x6 x6L x6C w K) h
end Go.Proofs.YtikjgeenhbnkkaaGreatDoor
