/-
  Part V of an engine: lists that grow, rows of bytes, append and clear. Proved: what these do to a block that is owned. Conditions: those in each theorem.
-/
import Derived.Test.YtklmokolnakkoaaGreatDoorEngU
import Derived.Lib.SliceRun
namespace Go.Eng
set_option linter.unusedSimpArgs false
set_option linter.unusedVariables false

def upd {α : Type} (f : Nat → α) (i : Nat) (v : α) : Nat → α := fun j => if j = i then v else f j
@[simp] theorem upd_same {α : Type} (f : Nat → α) (i : Nat) (v : α) : upd f i v i = v := by simp [upd]
theorem upd_ne {α : Type} (f : Nat → α) {i j : Nat} (v : α) (h : j ≠ i) : upd f i v j = f j := by simp [upd, h]

theorem own.kx {X : Nat → Prop} {w w1 : World} {b : Nat} {cs : List Value} (h : own w b cs) (k : Kept X w w1) (hx : ¬ X b) : own w1 b cs := h.kept k hx
theorem Kept.weak {X Y : Nat → Prop} {w w1 : World} (h : Kept X w w1) (hx : ∀ b, X b → Y b ∨ w.heap.size ≤ b) : Kept Y w w1 :=
  h.mono fun b hb hxb => (hx b hxb).resolve_right (by omega)
theorem Kept.go {X Y : Nat → Prop} {w0 w w1 : World} (h : Kept X w0 w) (h2 : Kept Y w w1) (hy : ∀ b, Y b → X b ∨ w0.heap.size ≤ b) : Kept X w0 w1 :=
  h.trans h2 fun b hb hyb => (hy b hyb).resolve_right (by omega)

theorem setRow_own {w : World} {B : Nat} {cs ds : List Value} (h : own w B cs) : own (w.setRow B ds.toArray) B ds := by
  obtain ⟨t, h⟩ := h
  exact ⟨t, by simp [World.setRow, Array.getElem?_modify, h]⟩
theorem setRow_kept (w : World) (B : Nat) (cs : Array Value) : Kept (· = B) w (w.setRow B cs) := by
  refine ⟨rfl, rfl, rfl, by simp [World.setRow], fun b hb hn => ?_⟩
  have hne : B ≠ b := fun e => hn e.symm
  simp [World.setRow, Array.getElem?_modify, hne]

theorem clr_own {P : Program} {t e ty : TypeId} {z : Value} (ht : P.underlying t = some (.slice e)) (hv : ∀ w, (zeroValue e).run P w = .ok z w) (hz : z.cells = #[z]) (h1 : z.oneCell' = true)
    {w : World} {B : Nat} {cs : List Value} (h : own w B cs) (o n c : Nat) (hn : o + n ≤ cs.length) :
    ∃ w', clrIs P #[t] ty (.slice (some ⟨B, o, none⟩) n c) w w' ∧ own w' B (cs.take o ++ List.replicate n z ++ cs.drop (o + n)) ∧ Kept (· = B) w w' := by
  cases n with
  | zero =>
    refine ⟨w, ⟨by simp [Builtin.clear_, run_underlying ht]⟩, ?_, Kept.refl _ _⟩
    simpa using h
  | succ m =>
    have hzc : (Builtin.zeroCells z.cells (m + 1)).toList = List.replicate (m + 1) z := by
      rw [hz]
      simp [Builtin.zeroCells]
      apply List.ext_getElem
      · simp
      · intro i h1 h2
        simp [Nat.mod_one]
    obtain ⟨et, hB⟩ := h
    have hst := run_storeCells_at P B o et (List.replicate (m + 1) z) 0 cs.toArray w hB (by simpa using hn) (by intro v hv'; rw [List.eq_of_mem_replicate hv']; exact h1)
    simp only [Nat.add_zero, List.length_replicate] at hst
    refine ⟨_, ⟨?_⟩, setRow_own ⟨et, hB⟩, setRow_kept _ _ _⟩
    simp [Builtin.clear_, run_underlying ht, hv, hzc, hst]

theorem app_own {P : Program} {base : Nat} {t ty e : TypeId} {i : TypeInfo} {z : Value} {size : Nat} (ht : P.underlying t = some (.slice e)) (hi : P.info? e = some i) (hz : i.zero = some z)
    (hsize : i.size = size) (hzs : z.cells.size = size) (hsz : 0 < size)
    {w : World} {v : Value} {n : Nat} {xs : List Value} (ho : w.ownsRow base e size v n xs) {X m c off : Nat} {news ys : List Value} (hx : own w X ys) (hys : (ys.drop off).take (m * size) = news) (hl : news.length = m * size)
    (h1 : ∀ u ∈ news, u.oneCell' = true) (h63 : n + m ≤ 1000000) (hby : i.bytes ≤ 1000000) (hbase : base ≤ w.heap.size) :
    ∃ a l c' w', appIs P #[t, t] ty v (.slice (some ⟨X, off, none⟩) m c) (.slice a l c') w w' ∧ l = n + m ∧ w'.ownsRow base e size (.slice a l c') (n + m) (xs ++ news) ∧ Kept (fun b => v.ownBlock = some b) w w' := by
  have hnews : ∀ j u, news[j]? = some u → w.cell? ((⟨X, off, none⟩ : Addr).add j) = some u := by
    intro j u hu
    have hadd : (⟨X, off, none⟩ : Addr).add j = ⟨X, off + j, none⟩ := by unfold Addr.add; split <;> simp_all
    rw [hadd]
    have := hx.rd (off + j)
    unfold rd at this
    rw [this]
    rw [← hys, List.getElem?_take] at hu
    split at hu
    · simpa using hu
    · cases hu
  have hmul : (n + m) * i.bytes ≤ 1000000 * 1000000 := Nat.mul_le_mul h63 hby
  obtain ⟨v', w', hr, hown, hg, _⟩ := run_append_own (P := P) w base t ty e i z size i.bytes ht hi hz hsize rfl hzs hsz v n xs ho ⟨X, off, none⟩ m c news hl hnews h1 (by simp only [maxLen]; omega) (by omega) hbase
  have hsl : ∃ a c', v' = .slice a (n + m) c' := by
    rcases hown.2 with ⟨rfl, h0⟩ | ⟨g, cap, cur, rfl, _⟩
    · exact ⟨none, 0, by rw [h0]⟩
    · exact ⟨_, _, rfl⟩
  obtain ⟨a, c', rfl⟩ := hsl
  exact ⟨a, n + m, c', w', ⟨hr⟩, rfl, hown, Kept.grownBy hg⟩
theorem ownsRow_kx {X : Nat → Prop} {w w' : World} {base e size n : Nat} {v : Value} {xs : List Value} (h : w.ownsRow base e size v n xs) (k : Kept X w w') (hx : ∀ b, base ≤ b → b < w.heap.size → v.ownBlock = some b → ¬ X b) : w'.ownsRow base e size v n xs := by
  refine ⟨h.1, ?_⟩
  rcases h.2 with hn | ⟨g, cap, cur, rfl, hb, hgg, rest⟩
  · exact .inl hn
  · have hl := (Array.getElem?_eq_some_iff.1 hgg).1
    exact .inr ⟨g, cap, cur, rfl, hb, (k.blk g hl (hx g hb hl rfl)).trans hgg, rest⟩
theorem ownsRow_own {w : World} {base e size n l c : Nat} {a : Option Addr} {xs : List Value} (h : w.ownsRow base e size (.slice a l c) n xs) :
    l = n ∧ ((a = none ∧ n = 0 ∧ c = 0) ∨ ∃ g cs, a = some ⟨g, 0, none⟩ ∧ base ≤ g ∧ own w g cs ∧ cs.take (n * size) = xs ∧ n ≤ c ∧ cs.length = c * size) := by
  rcases h.2 with ⟨hv, h0⟩ | ⟨g, cap, cur, hv, hb, hgg, hnc, hm, hsz, htk⟩
  · cases hv
    exact ⟨h0.symm, .inl ⟨rfl, h0, rfl⟩⟩
  · cases hv
    exact ⟨rfl, .inr ⟨g, cur.toList, rfl, hb, ⟨e, by simpa using hgg⟩, htk, hnc, by simpa using hsz⟩⟩

theorem offA_0 {B n bc : Nat} (h : n < bc) : offA (some ⟨B, 0, none⟩) bc n 1 = some ⟨B, n, none⟩ := by
  have hadd : (⟨B, 0, none⟩ : Addr).add n = ⟨B, n, none⟩ := by unfold Addr.add; split <;> simp_all
  unfold offA
  rw [if_neg (by omega), Nat.mul_one, Option.map_some, hadd]
def bytes (w : World) (B : Nat) (f : Nat → Int) : Prop := ∃ cs, own w B cs ∧ 256 ≤ cs.length ∧ ∀ i, i < 256 → cs[i]? = some (.int .u8 (f i))
theorem bytes.rd {w : World} {B : Nat} {f : Nat → Int} (h : bytes w B f) {i : Nat} (hi : i < 256) : Eng.rd w B i = some (.int .u8 (f i)) := by
  obtain ⟨cs, ho, _, hf⟩ := h
  rw [ho.rd]; exact hf i hi
theorem bytes.wr {w : World} {B : Nat} {f : Nat → Int} (h : bytes w B f) {i : Nat} (hi : i < 256) : Eng.wr w B i := by
  obtain ⟨cs, ho, hl, hf⟩ := h
  exact ho.wr (by omega)
theorem bytes.s1 {w w1 : World} {B : Nat} {f : Nat → Int} (h : bytes w B f) {o : Nat} {v : Int} (e : w1 = st w B o (.int .u8 v)) : bytes w1 B (upd f o v) := by
  obtain ⟨cs, ho, hl, hf⟩ := h
  refine ⟨_, ho.s1 e, by simpa using hl, fun i hi => ?_⟩
  rw [List.getElem?_set]
  by_cases h : o = i
  · subst h
    have : o < cs.length := by omega
    simp [this]
  · rw [if_neg h, hf i hi, upd_ne _ _ (fun e => h e.symm)]
theorem bytes.kx {X : Nat → Prop} {w w1 : World} {B : Nat} {f : Nat → Int} (h : bytes w B f) (k : Kept X w w1) (hx : ¬ X B) : bytes w1 B f := by
  obtain ⟨cs, ho, r⟩ := h
  exact ⟨cs, ho.kx k hx, r⟩
theorem bytes.k {w w1 : World} {B : Nat} {f : Nat → Int} (h : bytes w B f) (k : Kept none' w w1) : bytes w1 B f := h.kx k id
theorem bytes.al {w w1 : World} {B : Nat} {f : Nat → Int} {x : Obj} (h : bytes w B f) (e : w1 = w.alloc x) : bytes w1 B f := by
  obtain ⟨cs, ho, r⟩ := h
  exact ⟨cs, ho.al e, r⟩
theorem bytes.dr {w w1 : World} {B : Nat} {f : Nat → Int} (h : bytes w B f) (e : w1 = w.drew) : bytes w1 B f := by
  obtain ⟨cs, ho, r⟩ := h
  exact ⟨cs, ho.dr e, r⟩
theorem bytes.n1 {w w1 : World} {B b o : Nat} {v : Value} {f : Nat → Int} (h : bytes w B f) (e : w1 = st w b o v) (hn : B ≠ b) : bytes w1 B f := by
  obtain ⟨cs, ho, r⟩ := h
  exact ⟨cs, ho.n1 e hn, r⟩
theorem bytes.lt {w : World} {B : Nat} {f : Nat → Int} (h : bytes w B f) : B < w.heap.size := by
  obtain ⟨cs, ho, r⟩ := h
  exact ho.lt
theorem bytes.congr {w : World} {B : Nat} {f g : Nat → Int} (h : bytes w B f) (e : ∀ i, i < 256 → f i = g i) : bytes w B g := by
  obtain ⟨cs, ho, hl, hf⟩ := h
  exact ⟨cs, ho, hl, fun i hi => by rw [hf i hi, e i hi]⟩
def blanked (f : Nat → Int) (a n : Nat) : Nat → Int := fun j => if a ≤ j ∧ j < a + n then 0 else f j
theorem bytes.clr {P : Program} {t e ty : TypeId} (ht : P.underlying t = some (.slice e)) (hv : ∀ w, (zeroValue e).run P w = .ok (.int .u8 0) w)
    {w : World} {B : Nat} {f : Nat → Int} (h : bytes w B f) (o n c : Nat) (hn : o + n ≤ 256) :
    ∃ w', clrIs P #[t] ty (.slice (some ⟨B, o, none⟩) n c) w w' ∧ bytes w' B (blanked f o n) ∧ Kept (· = B) w w' := by
  obtain ⟨cs, ho, hl, hf⟩ := h
  obtain ⟨w', hc, ho', hk⟩ := clr_own (ty := ty) ht hv rfl rfl ho o n c (by omega)
  refine ⟨w', hc, ⟨_, ho', by simp; omega, fun i hi => ?_⟩, hk⟩
  have h1 : (cs.take o).length = o := by simp; omega
  unfold blanked
  by_cases ha : i < o
  · rw [List.append_assoc, List.getElem?_append_left (by omega), List.getElem?_take, if_pos ha, hf i hi, if_neg (by omega)]
  · by_cases hb : i < o + n
    · rw [List.getElem?_append_left (by simp; omega), List.getElem?_append_right (by omega), List.getElem?_replicate, if_pos (by omega), if_pos (by omega)]
    · rw [List.getElem?_append_right (by simp; omega), List.getElem?_drop, if_neg (by omega), ← hf i hi]
      congr 1
      simp; omega
end Go.Eng
