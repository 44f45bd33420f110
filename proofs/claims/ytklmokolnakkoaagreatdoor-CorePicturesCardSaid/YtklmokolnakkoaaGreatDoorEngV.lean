/-
  Part V of an engine: lists that grow, rows of bytes, append and clear. Proved: what these do to a block that is owned. Conditions: those in each theorem.
-/
import Derived.Test.YtklmokolnakkoaaGreatDoorEngU
import Derived.Lib.SliceRun
namespace Go.Eng
set_option linter.unusedSimpArgs false
set_option linter.unusedVariables false

def upd {α : Type} (f : Nat → α) (i : Nat) (v : α) : Nat → α := fun j => if j = i then v else f j
@[simp] theorem upd_same {α : Type} (f : Nat → α) (i : Nat) (v : α) : upd f i v i = v := by simp [upd]
theorem upd_ne {α : Type} (f : Nat → α) {i j : Nat} (v : α) (h : j ≠ i) : upd f i v j = f j := by simp [upd, h]

theorem own.kx {X : Nat → Prop} {w w1 : World} {b : Nat} {cs : List Value} (h : own w b cs) (k : Kept X w w1) (hx : ¬ X b) : own w1 b cs := h.kept k hx
theorem setRow_own {w : World} {B : Nat} {cs ds : List Value} (h : own w B cs) : own (w.setRow B ds.toArray) B ds := by
  obtain ⟨t, h⟩ := h
  exact ⟨t, by simp [World.setRow, Array.getElem?_modify, h]⟩
theorem setRow_kept (w : World) (B : Nat) (cs : Array Value) : Kept (· = B) w (w.setRow B cs) := by
  refine ⟨rfl, rfl, rfl, by simp [World.setRow], fun b hb hn => ?_⟩
  have hne : B ≠ b := fun e => hn e.symm
  simp [World.setRow, Array.getElem?_modify, hne]

theorem app_own {P : Program} {base : Nat} {t ty e : TypeId} {i : TypeInfo} {z : Value} {size : Nat} (ht : P.underlying t = some (.slice e)) (hi : P.info? e = some i) (hz : i.zero = some z)
    (hsize : i.size = size) (hzs : z.cells.size = size) (hsz : 0 < size)
    {w : World} {v : Value} {n : Nat} {xs : List Value} (ho : w.ownsRow base e size v n xs) {X m c off : Nat} {news ys : List Value} (hx : own w X ys) (hys : (ys.drop off).take (m * size) = news) (hl : news.length = m * size)
    (h1 : ∀ u ∈ news, u.oneCell' = true) (h63 : n + m ≤ 1000000) (hby : i.bytes ≤ 1000000) (hbase : base ≤ w.heap.size) :
    ∃ a l c' w', appIs P #[t, t] ty v (.slice (some ⟨X, off, none⟩) m c) (.slice a l c') w w' ∧ l = n + m ∧ w'.ownsRow base e size (.slice a l c') (n + m) (xs ++ news) ∧ Kept (fun b => v.ownBlock = some b) w w' := by
  have hnews : ∀ j u, news[j]? = some u → w.cell? ((⟨X, off, none⟩ : Addr).add j) = some u := by
    intro j u hu
    have hadd : (⟨X, off, none⟩ : Addr).add j = ⟨X, off + j, none⟩ := by unfold Addr.add; split <;> simp_all
    rw [hadd]
    have := hx.rd (off + j)
    unfold rd at this
    rw [this]
    rw [← hys, List.getElem?_take] at hu
    split at hu
    · simpa using hu
    · cases hu
  have hmul : (n + m) * i.bytes ≤ 1000000 * 1000000 := Nat.mul_le_mul h63 hby
  obtain ⟨v', w', hr, hown, hg, _⟩ := run_append_own (P := P) w base t ty e i z size i.bytes ht hi hz hsize rfl hzs hsz v n xs ho ⟨X, off, none⟩ m c news hl hnews h1 (by simp only [maxLen]; omega) (by omega) hbase
  have hsl : ∃ a c', v' = .slice a (n + m) c' := by
    rcases hown.2 with ⟨rfl, h0⟩ | ⟨g, cap, cur, rfl, _⟩
    · exact ⟨none, 0, by rw [h0]⟩
    · exact ⟨_, _, rfl⟩
  obtain ⟨a, c', rfl⟩ := hsl
  exact ⟨a, n + m, c', w', ⟨hr⟩, rfl, hown, Kept.grownBy hg⟩
theorem ownsRow_kx {X : Nat → Prop} {w w' : World} {base e size n : Nat} {v : Value} {xs : List Value} (h : w.ownsRow base e size v n xs) (k : Kept X w w') (hx : ∀ b, base ≤ b → b < w.heap.size → v.ownBlock = some b → ¬ X b) : w'.ownsRow base e size v n xs := by
  refine ⟨h.1, ?_⟩
  rcases h.2 with hn | ⟨g, cap, cur, rfl, hb, hgg, rest⟩
  · exact .inl hn
  · have hl := (Array.getElem?_eq_some_iff.1 hgg).1
    exact .inr ⟨g, cap, cur, rfl, hb, (k.blk g hl (hx g hb hl rfl)).trans hgg, rest⟩
theorem ownsRow_own {w : World} {base e size n l c : Nat} {a : Option Addr} {xs : List Value} (h : w.ownsRow base e size (.slice a l c) n xs) :
    l = n ∧ ((a = none ∧ n = 0 ∧ c = 0) ∨ ∃ g cs, a = some ⟨g, 0, none⟩ ∧ base ≤ g ∧ own w g cs ∧ cs.take (n * size) = xs ∧ n ≤ c ∧ cs.length = c * size) := by
  rcases h.2 with ⟨hv, h0⟩ | ⟨g, cap, cur, hv, hb, hgg, hnc, hm, hsz, htk⟩
  · cases hv
    exact ⟨h0.symm, .inl ⟨rfl, h0, rfl⟩⟩
  · cases hv
    exact ⟨rfl, .inr ⟨g, cur.toList, rfl, hb, ⟨e, by simpa using hgg⟩, htk, hnc, by simpa using hsz⟩⟩

def bytes (w : World) (B : Nat) (f : Nat → Int) : Prop := ∃ cs, own w B cs ∧ 256 ≤ cs.length ∧ ∀ i, i < 256 → cs[i]? = some (.int .u8 (f i))
end Go.Eng
