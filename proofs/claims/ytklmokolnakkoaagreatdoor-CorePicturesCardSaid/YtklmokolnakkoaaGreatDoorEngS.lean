/-
  A part of a proof that a law of this seat returns true at every input. Conditions: those in each theorem.
-/
import Derived.Test.YtklmokolnakkoaaGreatDoorEngR
namespace Go.Eng
set_option linter.unusedSimpArgs false
set_option linter.unusedVariables false
theorem app_any {P : Program} {base : Nat} {t e : TypeId} {i : TypeInfo} {z : Value} {size : Nat} (ht : P.underlying t = some (.slice e)) (hi : P.info? e = some i) (hz : i.zero = some z)
    (hsize : i.size = size) (hzs : z.cells.size = size) (hsz : 0 < size)
    {w : World} {v : Value} {n : Nat} {xs : List Value} (ho : w.ownsRow base e size v n xs) {X m c off : Nat} {news ys : List Value} (hx : own w X ys) (hys : (ys.drop off).take (m * size) = news) (hl : news.length = m * size)
    (h1 : ∀ u ∈ news, u.oneCell' = true) (h63 : n + m ≤ 1000000000) (hby : i.bytes ≤ 1000) (hbase : base ≤ w.heap.size) :
    ∃ a l c' w', appIs P #[t, t] t v (.slice (some ⟨X, off, none⟩) m c) (.slice a l c') w w' ∧ l = n + m ∧ w'.ownsRow base e size (.slice a l c') (n + m) (xs ++ news) ∧ Kept (fun b => v.ownBlock = some b) w w' ∧
      ((Value.slice a l c').ownBlock = v.ownBlock ∨ ∀ g, (Value.slice a l c').ownBlock = some g → w.heap.size ≤ g) := by
  have hnews : ∀ j u, news[j]? = some u → w.cell? ((⟨X, off, none⟩ : Addr).add j) = some u := by
    intro j u hu
    have hadd : (⟨X, off, none⟩ : Addr).add j = ⟨X, off + j, none⟩ := by unfold Addr.add; split <;> simp_all
    rw [hadd]
    have := hx.rd (off + j)
    unfold rd at this
    rw [this]
    rw [← hys, List.getElem?_take] at hu
    split at hu
    · simpa using hu
    · cases hu
  have hmul : (n + m) * i.bytes ≤ 1000000000 * 1000 := Nat.mul_le_mul h63 hby
  have key : ∀ (base' : Nat) (v : Value) (xs : List Value), w.ownsRow base' e size v n xs → base' ≤ w.heap.size → ∃ a l c' w', appIs P #[t, t] t v (.slice (some ⟨X, off, none⟩) m c) (.slice a l c') w w' ∧ l = n + m ∧ w'.ownsRow base' e size (.slice a l c') (n + m) (xs ++ news) ∧ Kept (fun b => v.ownBlock = some b) w w' := by
    intro base' v xs ho hb
    obtain ⟨v', w', hr, hown, hg, _⟩ := run_append_own (P := P) w base' t t e i z size i.bytes ht hi hz hsize rfl hzs hsz v n xs ho ⟨X, off, none⟩ m c news hl hnews h1 (by simp only [maxLen]; omega) (by omega) hb
    have hsl : ∃ a c', v' = .slice a (n + m) c' := by
      rcases hown.2 with ⟨rfl, h0⟩ | ⟨g, cap, cur, rfl, _⟩
      · exact ⟨none, 0, by rw [h0]⟩
      · exact ⟨_, _, rfl⟩
    obtain ⟨a, c', rfl⟩ := hsl
    exact ⟨a, n + m, c', w', ⟨hr⟩, rfl, hown, Kept.grownBy hg⟩
  obtain ⟨a, l, c', w', happ, hl', row, k⟩ := key base v xs ho hbase
  refine ⟨a, l, c', w', happ, hl', row, k, ?_⟩
  have det : ∀ {v1 v2 : Value} {w1 w2 : World}, appIs P #[t, t] t v (.slice (some ⟨X, off, none⟩) m c) v1 w w1 → appIs P #[t, t] t v (.slice (some ⟨X, off, none⟩) m c) v2 w w2 → v1 = v2 := fun h1 h2 => by
    have := h1.run.symm.trans h2.run
    cases this
    rfl
  rcases ho.2 with ⟨rfl, rfl⟩ | ⟨g, cap, cur, rfl, hbg, hg, hnc, hcm, hcs, htake⟩
  · have hxs : xs = [] := List.eq_nil_of_length_eq_zero (by simpa using ho.1)
    subst hxs
    obtain ⟨a2, l2, c2, w2, happ2, _, row2, _⟩ := key w.heap.size _ _ (World.ownsRow_nil w w.heap.size e size) (Nat.le_refl _)
    have e := det happ happ2
    right
    intro g hg
    rw [e] at hg
    obtain ⟨hh, _⟩ := row2.lt g hg
    exact hh
  · by_cases hroom : n + m ≤ cap
    · left
      have hfit : n * i.size + news.length ≤ cur.size := by rw [hl, hcs, hsize, ← Nat.add_mul]; exact Nat.mul_le_mul_right _ hroom
      have hr := run_append_room (P := P) w t t e i ht hi g n cap cur hg ⟨X, off, none⟩ m c news (by rw [hsize]; exact hl) hnews h1 hroom hfit
      have e := det happ ⟨hr⟩
      rw [e]; rfl
    · right
      have holds : ∀ j u, xs[j]? = some u → w.cell? ((⟨g, 0, none⟩ : Addr).add j) = some u := ho.cells (g := g) rfl
      have hr := run_append_grow (P := P) w t t e i _ ht hi hz ⟨g, 0, none⟩ n cap xs (by rw [hsize]; exact ho.1) holds ⟨X, off, none⟩ m c news (by rw [hsize]; exact hl) hnews (by omega) (by omega) (growslice_fits (by omega) (by omega))
      have e := det happ ⟨hr⟩
      intro g' hg'
      rw [e] at hg'
      cases hg'
      exact Nat.le_refl _
end Go.Eng
