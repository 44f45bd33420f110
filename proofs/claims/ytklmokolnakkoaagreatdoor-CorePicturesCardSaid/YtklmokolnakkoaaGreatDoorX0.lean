/-
  A part of a proof that a law of this seat returns true at every input. Conditions: those in each theorem.
-/
import Derived.Test.YtklmokolnakkoaaGreatDoorB0
import Derived.Test.YtklmokolnakkoaaGreatDoorEngS
import Derived.Test.YtklmokolnakkoaaGreatDoorEngT
set_option linter.unusedSimpArgs false
set_option linter.unusedVariables false
namespace Go.Eng
open Go
structure At (F : Nat → Prop) (φ : World → Prop) (w : World) : Prop where
  lt : ∀ x, F x → x < w.heap.size
  go : ∀ w', Kept (fun b => ¬ F b) w w' → φ w'
theorem At.now {F : Nat → Prop} {φ : World → Prop} {w : World} (h : At F φ w) : φ w := h.go w (Kept.refl _ _)
theorem At.kx {F X : Nat → Prop} {φ : World → Prop} {w w' : World} (h : At F φ w) (k : Kept X w w') (hx : ∀ x, X x → F x → False) : At F φ w' :=
  ⟨fun x hx => Nat.lt_of_lt_of_le (h.lt x hx) k.sz, fun w'' k2 => h.go w'' ((k.mono fun b _ hb hf => hx b hb hf).trans k2 fun _ _ h => h)⟩
theorem At.k {F : Nat → Prop} {φ : World → Prop} {w w' : World} (h : At F φ w) (k : Kept none' w w') : At F φ w' := h.kx k fun _ e => e.elim
theorem At.mono {F G : Nat → Prop} {φ : World → Prop} {w : World} (h : At F φ w) (hf : ∀ x, F x → G x) (hg : ∀ x, G x → x < w.heap.size) : At G φ w :=
  ⟨hg, fun w' k => h.go w' (k.mono fun b _ hb hx => hb (hf b hx))⟩
theorem At.imp {F : Nat → Prop} {φ ψ : World → Prop} {w : World} (h : At F φ w) (hi : ∀ w', φ w' → ψ w') : At F ψ w := ⟨h.lt, fun w' k => hi w' (h.go w' k)⟩
theorem At.and {F G : Nat → Prop} {φ ψ : World → Prop} {w : World} (h : At F φ w) (h2 : At G ψ w) : At (fun x => F x ∨ G x) (fun w => φ w ∧ ψ w) w :=
  ⟨fun x hx => hx.elim (h.lt x) (h2.lt x), fun w' k => ⟨h.go w' (k.mono fun b _ hb hx => hb (.inl hx)), h2.go w' (k.mono fun b _ hb hx => hb (.inr hx))⟩⟩
def rng (w w' : World) : Nat → Prop := fun x => w.heap.size ≤ x ∧ x < w'.heap.size
theorem okm_of {s : Nat} {n : Int} (h0 : 0 ≤ n) (h : (s : Int) * n ≤ 281474976710656) (h2 : n ≤ 9223372036854775807) : okMk s n n = true := by simp [okMk]; omega
structure ElT (P : Program) (S T : TypeId) (s : Nat) : Prop where
  sl : P.underlying S = some (.slice T)
  ex : ∃ (i : TypeInfo) (z : Value), P.info? T = some i ∧ i.zero = some z ∧ i.size = s ∧ z.cells.size = s ∧ i.bytes ≤ 1000
  pos : 0 < s
structure Makes (P : Program) (mk : Value) (n s : Nat) (w0 : World) (R : Ending → List Value → Prop) (J : (Nat → Prop) → Nat → List Value → World → Prop) : Prop where
  st : ∀ F i vs w w' X, J F i vs w → Kept X w w' → (∀ x, X x → F x → False) → J F i vs w'
  run : ∀ F i vs w, i < n → J F i vs w → Kept none' w0 w → (∀ x, F x → w0.heap.size ≤ x ∧ x < w.heap.size) → CallsV P mk [.int .i64 i] w fun e w' => ∃ cs : List Value, R e cs ∧ cs.length = s ∧ (∀ u ∈ cs, u.oneCell' = true) ∧ Kept none' w w' ∧ J (fun x => F x ∨ rng w w' x) (i + 1) (vs ++ cs) w'
theorem callsV_mono {P : Program} {v : Value} {args : List Value} {w : World} {R R' : Ending → World → Prop} (h : CallsV P v args w R) (hr : ∀ e w', R e w' → R' e w') : CallsV P v args w R' := by
  obtain ⟨f, a, c, h1, h2, h3⟩ := h
  exact ⟨f, a, c, h1, h2, h3.mono hr⟩
def SevP (P : Program) (S T : TypeId) (R : Ending → List Value → Prop) (n : Int) (mk : Value) (w : World) (K : Value → World → Prop) : Prop :=
  ∃ (I : Option Addr → Nat → Nat → Int → World → Nat → Prop), (∃ (n : Nat), I none 0 0 0 w n) ∧
    ∀ (a : Option Addr) (l c : Nat) (n_1 : Int) (w' : World) (n_2 : Nat), I a l c n_1 w' n_2 →
      Wif (decide (n_1 < n))
        (CallsV P mk [Value.int IntKind.i64 n_1] w' fun (e : Ending) (w' : World) => ∃ cs : List Value, R e cs ∧
          ∀ (w1 : World), w1 = World.alloc w' (Obj.cells cs.toArray T) → ∃ (a_1 : Option Addr) (l_1 c_1 : Nat) (w2 : World),
            appIs P #[S, S] S (Value.slice a l c) (Value.slice (some (Addr.mk (Array.size (World.heap w')) 0 none)) 1 1) (Value.slice a_1 l_1 c_1) w1 w2 ∧
              ∃ (m : Nat), Nat.succ m ≤ n_2 ∧ I a_1 l_1 c_1 (IntKind.wrap IntKind.i64 (n_1 + 1)) w2 m)
        (K (Value.slice a l c) w')
def SevK (T : TypeId) (s : Nat) (J : (Nat → Prop) → Nat → List Value → World → Prop) (n : Nat) (w0 : World) (v : Value) (w' : World) : Prop :=
  ∃ (a : Option Addr) (c : Nat) (F : Nat → Prop) (vs : List Value), v = .slice a n c ∧ Kept none' w0 w' ∧ w'.ownsRow w0.heap.size T s (.slice a n c) n vs ∧ J F n vs w' ∧
      (∀ x, F x → w0.heap.size ≤ x ∧ x < w'.heap.size) ∧ ∀ g, (Value.slice a n c).ownBlock = some g → ¬ F g
theorem sev_ok {P : Program} {S T : TypeId} {s : Nat} (hT : ElT P S T s) {R : Ending → List Value → Prop} {n : Nat} (hn : n ≤ 1000000) {mk : Value} {w0 : World} {J : (Nat → Prop) → Nat → List Value → World → Prop} (hm : Makes P mk n s w0 R J) (h0 : J (fun _ => False) 0 [] w0) :
    SevP P S T R n mk w0 (SevK T s J n w0) := by
  obtain ⟨i, z, hi, hz, hsz, hzs, hby⟩ := hT.ex
  refine ⟨fun a l c k w' m => ∃ (q : Nat) (F : Nat → Prop) (vs : List Value), k = q ∧ q = l ∧ q ≤ n ∧ m = n - q ∧ Kept none' w0 w' ∧ w'.ownsRow w0.heap.size T s (.slice a q c) q vs ∧ J F q vs w' ∧
      (∀ x, F x → w0.heap.size ≤ x ∧ x < w'.heap.size) ∧ ∀ g, (Value.slice a q c).ownBlock = some g → ¬ F g,
    ⟨n, 0, fun _ => False, [], rfl, rfl, Nat.zero_le _, rfl, Kept.refl _ _, World.ownsRow_nil _ _ _ _, h0, fun x hx => hx.elim, fun g _ hx => hx⟩, ?_⟩
  rintro a l c _ w1 _ ⟨q, F, vs, rfl, e0, hq, rfl, k1, row1, j1, f1, g1⟩
  subst e0
  refine Wif_intro (fun hc => ?_) (fun hc => ?_)
  · have hqn : q < n := by simp at hc; omega
    refine callsV_mono (hm.run F q vs w1 hqn j1 k1 f1) ?_
    rintro e w2 ⟨cs, hR, hlen, hone, k2, j2⟩
    refine ⟨cs, hR, fun w3 e3 => ?_⟩
    have k3 : Kept none' w2 w3 := (Kept.refl _ _).al e3
    have row3 := ownsRow_kx row1 (k2.tr k3) (fun _ _ _ _ => id)
    have hs1 := k1.sz
    have hs2 := k2.sz
    have hs3 := k3.sz
    obtain ⟨a', l', c', w4, happ, rfl, row4, k4, hb4⟩ := app_any (P := P) (t := S) (e := T) (i := i) (z := z) (size := s) hT.sl hi hz hsz hzs hT.pos row3 (own_alloc e3) (m := 1) (off := 0) (c := 1) (news := cs) (by simp [List.take_of_length_le (Nat.le_of_eq hlen)]) (by omega) hone (by omega) hby (by omega)
    have f2 : ∀ x, (F x ∨ rng w1 w2 x) → w0.heap.size ≤ x ∧ x < w2.heap.size := fun x hx => hx.elim (fun h => ⟨(f1 x h).1, by have := (f1 x h).2; omega⟩) (fun h => ⟨by have := h.1; omega, h.2⟩)
    have g2 : ∀ g, (Value.slice a q c).ownBlock = some g → ¬ (F g ∨ rng w1 w2 g) := fun g hg hx => hx.elim (g1 g hg) fun h => by have := (row1.lt g hg).2; have := h.1; omega
    refine ⟨a', _, c', w4, happ, n - (q + 1), by omega, q + 1, _, _, by rw [wi (by omega)]; rfl, rfl, hqn, rfl, ?_, row4, hm.st _ _ _ _ _ _ (hm.st _ _ _ _ _ _ j2 k3 fun _ e => e.elim) k4 (fun x e hx => g2 x e hx), fun x hx => ⟨(f2 x hx).1, ?_⟩, fun g hg hx => ?_⟩
    · exact ((k1.tr k2).tr k3).trans k4 fun b hb e => by have := (row1.lt b e).1; omega
    · have := (f2 x hx).2; have := k4.sz; omega
    · rcases hb4 with e | e
      · rw [e] at hg; exact g2 g hg hx
      · have := e g hg; have := (f2 g hx).2; omega
  · have : q = n := by simp at hc; omega
    subst this
    exact ⟨a, c, F, vs, rfl, k1, row1, j1, f1, g1⟩
theorem Wif_mono {b : Bool} {x y x' y' : Prop} (h : Wif b x y) (hx : x → x') (hy : y → y') : Wif b x' y' := by
  cases b
  · exact hy h
  · exact hx h
end Go.Eng
set_option linter.unusedSimpArgs false
set_option linter.unusedVariables false
set_option maxRecDepth 100000
namespace Go.Proofs.YtklmokolnakkoaaGreatDoor
open Go Go.Eng
def RPtr (e : Ending) (cs : List Value) : Prop := ∃ p : Option Addr, e = .returned (.pointer p) ∧ cs = [.pointer p]
def RSl (e : Ending) (cs : List Value) : Prop := ∃ (a : Option Addr) (l c : Nat), e = .returned (.slice a l c) ∧ cs = [.slice a l c]
def RU64 (e : Ending) (cs : List Value) : Prop := ∃ x : Int, e = .returned (.int .u64 x) ∧ cs = [.int .u64 x]
def RI64 (e : Ending) (cs : List Value) : Prop := ∃ x : Int, e = .returned (.int .i64 x) ∧ cs = [.int .i64 x]
def RMk (e : Ending) (cs : List Value) : Prop := ∃ x0 x1 x2 x3 x4 : Int, e = .returned (.agg #[.int .u8 x0, .int .i64 x1, .int .i64 x2, .int .i64 x3, .int .i64 x4]) ∧ cs = [.int .u8 x0, .int .i64 x1, .int .i64 x2, .int .i64 x3, .int .i64 x4]
theorem elT {S T : TypeId} {z : Value} {s : Nat} (hs : Tryz.prog.underlying S = some (.slice T)) (h : (Tryz.prog.info? T).map (fun i => (i.zero, i.size, decide (i.bytes ≤ 1000))) = some (some z, s, true)) (hz : z.cells.size = s) (h0 : 0 < s) : ElT Tryz.prog S T s := by
  cases hi : Tryz.prog.info? T with
  | none => rw [hi] at h; cases h
  | some i =>
    rw [hi] at h
    simp at h
    exact ⟨hs, ⟨i, z, hi, h.1, h.2.1, hz, h.2.2⟩, h0⟩
theorem elT39 : ElT Tryz.prog 42 114 1 := elT (z := .pointer none) Tryz.underlying42 (by kernel_rfl) rfl (by decide)
theorem sev39 {n : Nat} (hn : n ≤ 1000000) {mk : Value} {w0 : World} {J : (Nat → Prop) → Nat → List Value → World → Prop} (hm : Makes Tryz.prog mk n 1 w0 RPtr J) (h0 : J (fun _ => False) 0 [] w0) :
    Calls Tryz.prog 39 #[.int .i64 n, mk] w0 fun e w' => ∃ (a : Option Addr) (c : Nat) (F : Nat → Prop) (vs : List Value), e = .returned (.slice a n c) ∧ Kept none' w0 w' ∧ w'.ownsRow w0.heap.size 114 1 (.slice a n c) n vs ∧ J F n vs w' ∧
      (∀ x, F x → w0.heap.size ≤ x ∧ x < w'.heap.size) ∧ ∀ g, (Value.slice a n c).ownBlock = some g → ¬ F g := by
  obtain ⟨I, i0, i1⟩ := sev_ok elT39 hn hm h0
  have hv : vcP39 n mk w0 (SevK 114 1 J n w0) := ⟨I, i0, fun a l c k w' m hi => Wif_mono (i1 a l c k w' m hi) (fun hc => callsV_mono hc fun e w2 ⟨cs, ⟨p, he, hcs⟩, hx⟩ => ⟨p, he, by subst hcs; exact hx⟩) id⟩
  refine (vc39 n mk w0 _ hv).mono ?_
  rintro e w' ⟨v, rfl, a, c, F, vs, rfl, h⟩
  exact ⟨a, c, F, vs, rfl, h⟩
theorem elT44 : ElT Tryz.prog 57 56 1 := elT (z := .pointer none) Tryz.underlying57 (by kernel_rfl) rfl (by decide)
theorem sev44 {n : Nat} (hn : n ≤ 1000000) {mk : Value} {w0 : World} {J : (Nat → Prop) → Nat → List Value → World → Prop} (hm : Makes Tryz.prog mk n 1 w0 RPtr J) (h0 : J (fun _ => False) 0 [] w0) :
    Calls Tryz.prog 44 #[.int .i64 n, mk] w0 fun e w' => ∃ (a : Option Addr) (c : Nat) (F : Nat → Prop) (vs : List Value), e = .returned (.slice a n c) ∧ Kept none' w0 w' ∧ w'.ownsRow w0.heap.size 56 1 (.slice a n c) n vs ∧ J F n vs w' ∧
      (∀ x, F x → w0.heap.size ≤ x ∧ x < w'.heap.size) ∧ ∀ g, (Value.slice a n c).ownBlock = some g → ¬ F g := by
  obtain ⟨I, i0, i1⟩ := sev_ok elT44 hn hm h0
  have hv : vcP44 n mk w0 (SevK 56 1 J n w0) := ⟨I, i0, fun a l c k w' m hi => Wif_mono (i1 a l c k w' m hi) (fun hc => callsV_mono hc fun e w2 ⟨cs, ⟨p, he, hcs⟩, hx⟩ => ⟨p, he, by subst hcs; exact hx⟩) id⟩
  refine (vc44 n mk w0 _ hv).mono ?_
  rintro e w' ⟨v, rfl, a, c, F, vs, rfl, h⟩
  exact ⟨a, c, F, vs, rfl, h⟩
theorem elT49 : ElT Tryz.prog 59 58 1 := elT (z := .pointer none) Tryz.underlying59 (by kernel_rfl) rfl (by decide)
theorem sev49 {n : Nat} (hn : n ≤ 1000000) {mk : Value} {w0 : World} {J : (Nat → Prop) → Nat → List Value → World → Prop} (hm : Makes Tryz.prog mk n 1 w0 RPtr J) (h0 : J (fun _ => False) 0 [] w0) :
    Calls Tryz.prog 49 #[.int .i64 n, mk] w0 fun e w' => ∃ (a : Option Addr) (c : Nat) (F : Nat → Prop) (vs : List Value), e = .returned (.slice a n c) ∧ Kept none' w0 w' ∧ w'.ownsRow w0.heap.size 58 1 (.slice a n c) n vs ∧ J F n vs w' ∧
      (∀ x, F x → w0.heap.size ≤ x ∧ x < w'.heap.size) ∧ ∀ g, (Value.slice a n c).ownBlock = some g → ¬ F g := by
  obtain ⟨I, i0, i1⟩ := sev_ok elT49 hn hm h0
  have hv : vcP49 n mk w0 (SevK 58 1 J n w0) := ⟨I, i0, fun a l c k w' m hi => Wif_mono (i1 a l c k w' m hi) (fun hc => callsV_mono hc fun e w2 ⟨cs, ⟨p, he, hcs⟩, hx⟩ => ⟨p, he, by subst hcs; exact hx⟩) id⟩
  refine (vc49 n mk w0 _ hv).mono ?_
  rintro e w' ⟨v, rfl, a, c, F, vs, rfl, h⟩
  exact ⟨a, c, F, vs, rfl, h⟩
theorem elT54 : ElT Tryz.prog 128 130 1 := elT (z := .pointer none) Tryz.underlying128 (by kernel_rfl) rfl (by decide)
theorem sev54 {n : Nat} (hn : n ≤ 1000000) {mk : Value} {w0 : World} {J : (Nat → Prop) → Nat → List Value → World → Prop} (hm : Makes Tryz.prog mk n 1 w0 RPtr J) (h0 : J (fun _ => False) 0 [] w0) :
    Calls Tryz.prog 54 #[.int .i64 n, mk] w0 fun e w' => ∃ (a : Option Addr) (c : Nat) (F : Nat → Prop) (vs : List Value), e = .returned (.slice a n c) ∧ Kept none' w0 w' ∧ w'.ownsRow w0.heap.size 130 1 (.slice a n c) n vs ∧ J F n vs w' ∧
      (∀ x, F x → w0.heap.size ≤ x ∧ x < w'.heap.size) ∧ ∀ g, (Value.slice a n c).ownBlock = some g → ¬ F g := by
  obtain ⟨I, i0, i1⟩ := sev_ok elT54 hn hm h0
  have hv : vcP54 n mk w0 (SevK 130 1 J n w0) := ⟨I, i0, fun a l c k w' m hi => Wif_mono (i1 a l c k w' m hi) (fun hc => callsV_mono hc fun e w2 ⟨cs, ⟨p, he, hcs⟩, hx⟩ => ⟨p, he, by subst hcs; exact hx⟩) id⟩
  refine (vc54 n mk w0 _ hv).mono ?_
  rintro e w' ⟨v, rfl, a, c, F, vs, rfl, h⟩
  exact ⟨a, c, F, vs, rfl, h⟩
theorem elT42 : ElT Tryz.prog 43 57 1 := elT (z := .slice none 0 0) Tryz.underlying43 (by kernel_rfl) rfl (by decide)
theorem sev42 {n : Nat} (hn : n ≤ 1000000) {mk : Value} {w0 : World} {J : (Nat → Prop) → Nat → List Value → World → Prop} (hm : Makes Tryz.prog mk n 1 w0 RSl J) (h0 : J (fun _ => False) 0 [] w0) :
    Calls Tryz.prog 42 #[.int .i64 n, mk] w0 fun e w' => ∃ (a : Option Addr) (c : Nat) (F : Nat → Prop) (vs : List Value), e = .returned (.slice a n c) ∧ Kept none' w0 w' ∧ w'.ownsRow w0.heap.size 57 1 (.slice a n c) n vs ∧ J F n vs w' ∧
      (∀ x, F x → w0.heap.size ≤ x ∧ x < w'.heap.size) ∧ ∀ g, (Value.slice a n c).ownBlock = some g → ¬ F g := by
  obtain ⟨I, i0, i1⟩ := sev_ok elT42 hn hm h0
  have hv : vcP42 n mk w0 (SevK 57 1 J n w0) := ⟨I, i0, fun a l c k w' m hi => Wif_mono (i1 a l c k w' m hi) (fun hc => callsV_mono hc fun e w2 ⟨cs, ⟨a1, l1, c1, he, hcs⟩, hx⟩ => ⟨a1, l1, c1, he, by subst hcs; exact hx⟩) id⟩
  refine (vc42 n mk w0 _ hv).mono ?_
  rintro e w' ⟨v, rfl, a, c, F, vs, rfl, h⟩
  exact ⟨a, c, F, vs, rfl, h⟩
theorem elT47 : ElT Tryz.prog 44 59 1 := elT (z := .slice none 0 0) Tryz.underlying44 (by kernel_rfl) rfl (by decide)
theorem sev47 {n : Nat} (hn : n ≤ 1000000) {mk : Value} {w0 : World} {J : (Nat → Prop) → Nat → List Value → World → Prop} (hm : Makes Tryz.prog mk n 1 w0 RSl J) (h0 : J (fun _ => False) 0 [] w0) :
    Calls Tryz.prog 47 #[.int .i64 n, mk] w0 fun e w' => ∃ (a : Option Addr) (c : Nat) (F : Nat → Prop) (vs : List Value), e = .returned (.slice a n c) ∧ Kept none' w0 w' ∧ w'.ownsRow w0.heap.size 59 1 (.slice a n c) n vs ∧ J F n vs w' ∧
      (∀ x, F x → w0.heap.size ≤ x ∧ x < w'.heap.size) ∧ ∀ g, (Value.slice a n c).ownBlock = some g → ¬ F g := by
  obtain ⟨I, i0, i1⟩ := sev_ok elT47 hn hm h0
  have hv : vcP47 n mk w0 (SevK 59 1 J n w0) := ⟨I, i0, fun a l c k w' m hi => Wif_mono (i1 a l c k w' m hi) (fun hc => callsV_mono hc fun e w2 ⟨cs, ⟨a1, l1, c1, he, hcs⟩, hx⟩ => ⟨a1, l1, c1, he, by subst hcs; exact hx⟩) id⟩
  refine (vc47 n mk w0 _ hv).mono ?_
  rintro e w' ⟨v, rfl, a, c, F, vs, rfl, h⟩
  exact ⟨a, c, F, vs, rfl, h⟩
theorem elT52 : ElT Tryz.prog 45 128 1 := elT (z := .slice none 0 0) Tryz.underlying45 (by kernel_rfl) rfl (by decide)
theorem sev52 {n : Nat} (hn : n ≤ 1000000) {mk : Value} {w0 : World} {J : (Nat → Prop) → Nat → List Value → World → Prop} (hm : Makes Tryz.prog mk n 1 w0 RSl J) (h0 : J (fun _ => False) 0 [] w0) :
    Calls Tryz.prog 52 #[.int .i64 n, mk] w0 fun e w' => ∃ (a : Option Addr) (c : Nat) (F : Nat → Prop) (vs : List Value), e = .returned (.slice a n c) ∧ Kept none' w0 w' ∧ w'.ownsRow w0.heap.size 128 1 (.slice a n c) n vs ∧ J F n vs w' ∧
      (∀ x, F x → w0.heap.size ≤ x ∧ x < w'.heap.size) ∧ ∀ g, (Value.slice a n c).ownBlock = some g → ¬ F g := by
  obtain ⟨I, i0, i1⟩ := sev_ok elT52 hn hm h0
  have hv : vcP52 n mk w0 (SevK 128 1 J n w0) := ⟨I, i0, fun a l c k w' m hi => Wif_mono (i1 a l c k w' m hi) (fun hc => callsV_mono hc fun e w2 ⟨cs, ⟨a1, l1, c1, he, hcs⟩, hx⟩ => ⟨a1, l1, c1, he, by subst hcs; exact hx⟩) id⟩
  refine (vc52 n mk w0 _ hv).mono ?_
  rintro e w' ⟨v, rfl, a, c, F, vs, rfl, h⟩
  exact ⟨a, c, F, vs, rfl, h⟩
theorem elT67 : ElT Tryz.prog 49 51 1 := elT (z := .slice none 0 0) Tryz.underlying49 (by kernel_rfl) rfl (by decide)
theorem sev67 {n : Nat} (hn : n ≤ 1000000) {mk : Value} {w0 : World} {J : (Nat → Prop) → Nat → List Value → World → Prop} (hm : Makes Tryz.prog mk n 1 w0 RSl J) (h0 : J (fun _ => False) 0 [] w0) :
    Calls Tryz.prog 67 #[.int .i64 n, mk] w0 fun e w' => ∃ (a : Option Addr) (c : Nat) (F : Nat → Prop) (vs : List Value), e = .returned (.slice a n c) ∧ Kept none' w0 w' ∧ w'.ownsRow w0.heap.size 51 1 (.slice a n c) n vs ∧ J F n vs w' ∧
      (∀ x, F x → w0.heap.size ≤ x ∧ x < w'.heap.size) ∧ ∀ g, (Value.slice a n c).ownBlock = some g → ¬ F g := by
  obtain ⟨I, i0, i1⟩ := sev_ok elT67 hn hm h0
  have hv : vcP67 n mk w0 (SevK 51 1 J n w0) := ⟨I, i0, fun a l c k w' m hi => Wif_mono (i1 a l c k w' m hi) (fun hc => callsV_mono hc fun e w2 ⟨cs, ⟨a1, l1, c1, he, hcs⟩, hx⟩ => ⟨a1, l1, c1, he, by subst hcs; exact hx⟩) id⟩
  refine (vc67 n mk w0 _ hv).mono ?_
  rintro e w' ⟨v, rfl, a, c, F, vs, rfl, h⟩
  exact ⟨a, c, F, vs, rfl, h⟩
theorem elT70 : ElT Tryz.prog 50 147 1 := elT (z := .slice none 0 0) Tryz.underlying50 (by kernel_rfl) rfl (by decide)
theorem sev70 {n : Nat} (hn : n ≤ 1000000) {mk : Value} {w0 : World} {J : (Nat → Prop) → Nat → List Value → World → Prop} (hm : Makes Tryz.prog mk n 1 w0 RSl J) (h0 : J (fun _ => False) 0 [] w0) :
    Calls Tryz.prog 70 #[.int .i64 n, mk] w0 fun e w' => ∃ (a : Option Addr) (c : Nat) (F : Nat → Prop) (vs : List Value), e = .returned (.slice a n c) ∧ Kept none' w0 w' ∧ w'.ownsRow w0.heap.size 147 1 (.slice a n c) n vs ∧ J F n vs w' ∧
      (∀ x, F x → w0.heap.size ≤ x ∧ x < w'.heap.size) ∧ ∀ g, (Value.slice a n c).ownBlock = some g → ¬ F g := by
  obtain ⟨I, i0, i1⟩ := sev_ok elT70 hn hm h0
  have hv : vcP70 n mk w0 (SevK 147 1 J n w0) := ⟨I, i0, fun a l c k w' m hi => Wif_mono (i1 a l c k w' m hi) (fun hc => callsV_mono hc fun e w2 ⟨cs, ⟨a1, l1, c1, he, hcs⟩, hx⟩ => ⟨a1, l1, c1, he, by subst hcs; exact hx⟩) id⟩
  refine (vc70 n mk w0 _ hv).mono ?_
  rintro e w' ⟨v, rfl, a, c, F, vs, rfl, h⟩
  exact ⟨a, c, F, vs, rfl, h⟩
theorem elT81 : ElT Tryz.prog 66 50 1 := elT (z := .slice none 0 0) Tryz.underlying66 (by kernel_rfl) rfl (by decide)
theorem sev81 {n : Nat} (hn : n ≤ 1000000) {mk : Value} {w0 : World} {J : (Nat → Prop) → Nat → List Value → World → Prop} (hm : Makes Tryz.prog mk n 1 w0 RSl J) (h0 : J (fun _ => False) 0 [] w0) :
    Calls Tryz.prog 81 #[.int .i64 n, mk] w0 fun e w' => ∃ (a : Option Addr) (c : Nat) (F : Nat → Prop) (vs : List Value), e = .returned (.slice a n c) ∧ Kept none' w0 w' ∧ w'.ownsRow w0.heap.size 50 1 (.slice a n c) n vs ∧ J F n vs w' ∧
      (∀ x, F x → w0.heap.size ≤ x ∧ x < w'.heap.size) ∧ ∀ g, (Value.slice a n c).ownBlock = some g → ¬ F g := by
  obtain ⟨I, i0, i1⟩ := sev_ok elT81 hn hm h0
  have hv : vcP81 n mk w0 (SevK 50 1 J n w0) := ⟨I, i0, fun a l c k w' m hi => Wif_mono (i1 a l c k w' m hi) (fun hc => callsV_mono hc fun e w2 ⟨cs, ⟨a1, l1, c1, he, hcs⟩, hx⟩ => ⟨a1, l1, c1, he, by subst hcs; exact hx⟩) id⟩
  refine (vc81 n mk w0 _ hv).mono ?_
  rintro e w' ⟨v, rfl, a, c, F, vs, rfl, h⟩
  exact ⟨a, c, F, vs, rfl, h⟩
theorem elT57 : ElT Tryz.prog 46 134 1 := elT (z := .int .u64 0) Tryz.underlying46 (by kernel_rfl) rfl (by decide)
theorem sev57 {n : Nat} (hn : n ≤ 1000000) {mk : Value} {w0 : World} {J : (Nat → Prop) → Nat → List Value → World → Prop} (hm : Makes Tryz.prog mk n 1 w0 RU64 J) (h0 : J (fun _ => False) 0 [] w0) :
    Calls Tryz.prog 57 #[.int .i64 n, mk] w0 fun e w' => ∃ (a : Option Addr) (c : Nat) (F : Nat → Prop) (vs : List Value), e = .returned (.slice a n c) ∧ Kept none' w0 w' ∧ w'.ownsRow w0.heap.size 134 1 (.slice a n c) n vs ∧ J F n vs w' ∧
      (∀ x, F x → w0.heap.size ≤ x ∧ x < w'.heap.size) ∧ ∀ g, (Value.slice a n c).ownBlock = some g → ¬ F g := by
  obtain ⟨I, i0, i1⟩ := sev_ok elT57 hn hm h0
  have hv : vcP57 n mk w0 (SevK 134 1 J n w0) := ⟨I, i0, fun a l c k w' m hi => Wif_mono (i1 a l c k w' m hi) (fun hc => callsV_mono hc fun e w2 ⟨cs, ⟨x, he, hcs⟩, hx⟩ => ⟨x, he, by subst hcs; exact hx⟩) id⟩
  refine (vc57 n mk w0 _ hv).mono ?_
  rintro e w' ⟨v, rfl, a, c, F, vs, rfl, h⟩
  exact ⟨a, c, F, vs, rfl, h⟩
theorem elT59 : ElT Tryz.prog 51 3 1 := elT (z := .int .i64 0) Tryz.underlying51 (by kernel_rfl) rfl (by decide)
theorem sev59 {n : Nat} (hn : n ≤ 1000000) {mk : Value} {w0 : World} {J : (Nat → Prop) → Nat → List Value → World → Prop} (hm : Makes Tryz.prog mk n 1 w0 RI64 J) (h0 : J (fun _ => False) 0 [] w0) :
    Calls Tryz.prog 59 #[.int .i64 n, mk] w0 fun e w' => ∃ (a : Option Addr) (c : Nat) (F : Nat → Prop) (vs : List Value), e = .returned (.slice a n c) ∧ Kept none' w0 w' ∧ w'.ownsRow w0.heap.size 3 1 (.slice a n c) n vs ∧ J F n vs w' ∧
      (∀ x, F x → w0.heap.size ≤ x ∧ x < w'.heap.size) ∧ ∀ g, (Value.slice a n c).ownBlock = some g → ¬ F g := by
  obtain ⟨I, i0, i1⟩ := sev_ok elT59 hn hm h0
  have hv : vcP59 n mk w0 (SevK 3 1 J n w0) := ⟨I, i0, fun a l c k w' m hi => Wif_mono (i1 a l c k w' m hi) (fun hc => callsV_mono hc fun e w2 ⟨cs, ⟨x, he, hcs⟩, hx⟩ => ⟨x, he, by subst hcs; exact hx⟩) id⟩
  refine (vc59 n mk w0 _ hv).mono ?_
  rintro e w' ⟨v, rfl, a, c, F, vs, rfl, h⟩
  exact ⟨a, c, F, vs, rfl, h⟩
theorem elT62 : ElT Tryz.prog 61 85 5 := elT (z := .agg #[.int .u8 0, .int .i64 0, .int .i64 0, .int .i64 0, .int .i64 0]) Tryz.underlying61 (by kernel_rfl) rfl (by decide)
theorem sev62 {n : Nat} (hn : n ≤ 1000000) {mk : Value} {w0 : World} {J : (Nat → Prop) → Nat → List Value → World → Prop} (hm : Makes Tryz.prog mk n 5 w0 RMk J) (h0 : J (fun _ => False) 0 [] w0) :
    Calls Tryz.prog 62 #[.int .i64 n, mk] w0 fun e w' => ∃ (a : Option Addr) (c : Nat) (F : Nat → Prop) (vs : List Value), e = .returned (.slice a n c) ∧ Kept none' w0 w' ∧ w'.ownsRow w0.heap.size 85 5 (.slice a n c) n vs ∧ J F n vs w' ∧
      (∀ x, F x → w0.heap.size ≤ x ∧ x < w'.heap.size) ∧ ∀ g, (Value.slice a n c).ownBlock = some g → ¬ F g := by
  obtain ⟨I, i0, i1⟩ := sev_ok elT62 hn hm h0
  have hv : vcP62 n mk w0 (SevK 85 5 J n w0) := ⟨I, i0, fun a l c k w' m hi => Wif_mono (i1 a l c k w' m hi) (fun hc => callsV_mono hc fun e w2 ⟨cs, ⟨x0, x1, x2, x3, x4, he, hcs⟩, hx⟩ => ⟨x0, x1, x2, x3, x4, he, by subst hcs; exact hx⟩) id⟩
  refine (vc62 n mk w0 _ hv).mono ?_
  rintro e w' ⟨v, rfl, a, c, F, vs, rfl, h⟩
  exact ⟨a, c, F, vs, rfl, h⟩
end Go.Proofs.YtklmokolnakkoaaGreatDoor
