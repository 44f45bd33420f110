/-
  Part N of an engine: slices that are read, and append from any of them. Proved: what these do. Conditions: those in each theorem.
-/
import Derived.Test.YtklmokolnakkoaaGreatDoorEngM
import Derived.Laws.OwnMore
set_option linter.unusedVariables false
set_option linter.unusedSimpArgs false
namespace Go.Eng
open Go.RowKit

structure Src (w : World) (a : Option Addr) (l c : Nat) (xs : List Value) : Prop where
  nil : a = none → l = 0 ∧ c = 0
  ptr : 0 < xs.length → ∃ X off, a = some ⟨X, off, none⟩ ∧ ∀ (j : Nat) u, xs[j]? = some u → rd w X (off + j) = some u
theorem addr_add (X off j : Nat) : (⟨X, off, none⟩ : Addr).add j = ⟨X, off + j, none⟩ := by unfold Addr.add; split <;> simp_all
theorem Src.kx {X : Nat → Prop} {w w' : World} {a : Option Addr} {l c : Nat} {xs : List Value} (h : Src w a l c xs) (k : Kept X w w') (hx : ∀ b, b < w.heap.size → X b → pb a ≠ b) : Src w' a l c xs := by
  refine ⟨h.nil, fun hl => ?_⟩
  obtain ⟨Y, off, e, hr⟩ := h.ptr hl
  refine ⟨Y, off, e, fun j u hj => ?_⟩
  have h1 := hr j u hj
  exact k.rd_some h1 fun hX => hx Y (rd_lt h1) hX (by rw [e]; rfl)
theorem Src.k {w w' : World} {a : Option Addr} {l c : Nat} {xs : List Value} (h : Src w a l c xs) (k : Kept none' w w') : Src w' a l c xs := h.kx k (fun _ _ h => h.elim)
theorem Src.rd {w : World} {a : Option Addr} {l c : Nat} {xs : List Value} (h : Src w a l c xs) {j : Nat} {u : Value} (hj : xs[j]? = some u) : Eng.rd w (pb a) (po a + j) = some u := by
  have hl : 0 < xs.length := by have := (List.getElem?_eq_some_iff.1 hj).1; omega
  obtain ⟨Y, off, rfl, hr⟩ := h.ptr hl
  exact hr j u hj
theorem Src.isp {w : World} {a : Option Addr} {l c : Nat} {xs : List Value} (h : Src w a l c xs) (hl : 0 < xs.length) : isP a = true := by
  obtain ⟨Y, off, rfl, _⟩ := h.ptr hl
  rfl
theorem Src.of_row {w : World} {base e size n l c : Nat} {a : Option Addr} {xs : List Value} (h : w.ownsRow base e size (.slice a l c) n xs) : Src w a l c xs := by
  obtain ⟨hl, hh⟩ := ownsRow_own h
  rcases hh with ⟨rfl, h0, hc⟩ | ⟨g, cs, rfl, hb, ho, htk, _, _⟩
  · refine ⟨fun _ => ⟨by omega, hc⟩, fun hx => ?_⟩
    have := h.1
    rw [h0, Nat.zero_mul] at this
    omega
  · refine ⟨fun h => (by cases h), fun _ => ⟨g, 0, rfl, fun j u hj => ?_⟩⟩
    rw [ho.rd, Nat.zero_add]
    rw [← htk, List.getElem?_take] at hj
    split at hj
    · exact hj
    · cases hj
theorem Src.nil' {w : World} : Src w none 0 0 [] := ⟨fun _ => ⟨rfl, rfl⟩, fun h => absurd h (Nat.lt_irrefl _)⟩
theorem Src.of_own {w : World} {X off l c : Nat} {cs xs : List Value} (h : own w X cs) (hx : ∀ (j : Nat) u, xs[j]? = some u → cs[off + j]? = some u) : Src w (some ⟨X, off, none⟩) l c xs :=
  ⟨fun h => (by cases h), fun _ => ⟨X, off, rfl, fun j u hj => by rw [h.rd]; exact hx j u hj⟩⟩
theorem app {P : Program} {base : Nat} {t ty e : TypeId} {i : TypeInfo} {z : Value} {size : Nat} (ht : P.underlying t = some (.slice e)) (hi : P.info? e = some i) (hz : i.zero = some z)
    (hsize : i.size = size) (hzs : z.cells.size = size) (hsz : 0 < size)
    {w : World} {da : Option Addr} {dl dc : Nat} {xs : List Value} (ho : w.ownsRow base e size (.slice da dl dc) dl xs) {a : Option Addr} {l c : Nat} {news : List Value} (hs : Src w a l c news) (hl : news.length = l * size)
    (h1 : ∀ u ∈ news, u.oneCell' = true) (h63 : dl + l ≤ 1000000) (hby : i.bytes ≤ 1000000) (hbase : base ≤ w.heap.size) :
    ∃ a' c' w', appIs P #[t, t] ty (.slice da dl dc) (.slice a l c) (.slice a' (dl + l) c') w w' ∧ w'.ownsRow base e size (.slice a' (dl + l) c') (dl + l) (xs ++ news) ∧ Kept (fun b => (Value.slice da dl dc).ownBlock = some b) w w' := by
  cases a with
  | none =>
    obtain ⟨rfl, rfl⟩ := hs.nil rfl
    have hn : news = [] := List.eq_nil_of_length_eq_zero (by rw [hl, Nat.zero_mul])
    subst hn
    exact ⟨da, dc, w, ⟨run_append_owned_none w base t ty e i size ht hi _ _ _ ho⟩, by simpa using ho, Kept.refl _ _⟩
  | some x =>
    have hnews : ∀ j u, news[j]? = some u → w.cell? (x.add j) = some u := by
      intro j u hj
      obtain ⟨X, off, e, hr⟩ := hs.ptr (by have := (List.getElem?_eq_some_iff.1 hj).1; omega)
      cases e
      rw [addr_add]
      exact hr j u hj
    have hmul : (dl + l) * i.bytes ≤ 1000000 * 1000000 := Nat.mul_le_mul h63 hby
    obtain ⟨v', w', hr, hown, hg, _⟩ := run_append_own (P := P) w base t ty e i z size i.bytes ht hi hz hsize rfl hzs hsz _ dl xs ho x l c news hl hnews h1 (by simp only [maxLen]; omega) (by omega) hbase
    have hsl : ∃ a c', v' = .slice a (dl + l) c' := by
      rcases hown.2 with ⟨rfl, h0⟩ | ⟨g, cap, cur, rfl, _⟩
      · exact ⟨none, 0, by rw [h0]⟩
      · exact ⟨_, _, rfl⟩
    obtain ⟨a', c', rfl⟩ := hsl
    exact ⟨a', c', w', ⟨hr⟩, hown, Kept.grownBy hg⟩
end Go.Eng
