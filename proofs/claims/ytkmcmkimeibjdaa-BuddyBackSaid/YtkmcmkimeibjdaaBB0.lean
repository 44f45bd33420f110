/-
  A part of a proof that a law of this seat returns true at every input. Conditions: those in each theorem.
-/
import Derived.Test.YtkmcmkimeibjdaaBN2
namespace Go.Proofs.Ytkmcmkimeibjdaa
open Go Eng
set_option linter.unusedSimpArgs false
set_option linter.unusedVariables false
set_option maxRecDepth 100000
/-- append to a row that is owned: the same block, or a new one -/
theorem app_blk2 {w : World} {base : Nat} {v : Value} {n : Nat} {xs : List Value} (ho : w.ownsRow base 58 2 v n xs) {X m c off : Nat} {ys news : List Value} (hx : own w X ys) (hys : (ys.drop off).take (m * 2) = news) (hl : news.length = m * 2)
    (h1 : ∀ u ∈ news, u.oneCell' = true) (h63 : n + m ≤ 1000000) (hbase : base ≤ w.heap.size) :
    ∃ a l c' w', appIs Try.prog #[56, 56] 56 v (.slice (some ⟨X, off, none⟩) m c) (.slice a l c') w w' ∧ l = n + m ∧ w'.ownsRow base 58 2 (.slice a l c') (n + m) (xs ++ news) ∧ Kept (fun b => v.ownBlock = some b) w w' ∧
      ((Value.slice a l c').ownBlock = v.ownBlock ∨ ∀ g, (Value.slice a l c').ownBlock = some g → w.heap.size ≤ g) := by
  obtain ⟨a, l, c', w', happ, hl', row, k⟩ := app_blk ho hx hys hl h1 h63 hbase
  refine ⟨a, l, c', w', happ, hl', row, k, ?_⟩
  have det : ∀ {v1 v2 : Value} {w1 w2 : World}, appIs Try.prog #[56, 56] 56 v (.slice (some ⟨X, off, none⟩) m c) v1 w w1 → appIs Try.prog #[56, 56] 56 v (.slice (some ⟨X, off, none⟩) m c) v2 w w2 → v1 = v2 := fun h1 h2 => by
    have := h1.run.symm.trans h2.run
    cases this
    rfl
  have hi := info_blk
  cases hii : Try.prog.info? 58 with
  | none => rw [hii] at hi; cases hi
  | some i =>
  rw [hii] at hi
  simp at hi
  have hnews : ∀ j u, news[j]? = some u → w.cell? ((⟨X, off, none⟩ : Addr).add j) = some u := by
    intro j u hu
    have hadd : (⟨X, off, none⟩ : Addr).add j = ⟨X, off + j, none⟩ := by unfold Addr.add; split <;> simp_all
    rw [hadd]
    have := hx.rd (off + j)
    unfold rd at this
    rw [this]
    rw [← hys, List.getElem?_take] at hu
    split at hu
    · simpa using hu
    · cases hu
  rcases ho.2 with ⟨rfl, rfl⟩ | ⟨g, cap, cur, rfl, hbg, hg, hnc, hcm, hcs, htake⟩
  · have hxs : xs = [] := List.eq_nil_of_length_eq_zero (by simpa using ho.1)
    subst hxs
    obtain ⟨a2, l2, c2, w2, happ2, _, row2, _⟩ := app_blk (World.ownsRow_nil w w.heap.size 58 2) hx hys hl h1 h63 (Nat.le_refl _)
    have e := det happ happ2
    right
    intro g hg
    rw [e] at hg
    obtain ⟨hh, _⟩ := row2.lt g hg
    exact hh
  · by_cases hroom : n + m ≤ cap
    · left
      have hfit : n * i.size + news.length ≤ cur.size := by rw [hl, hcs, hi.2.1, ← Nat.add_mul]; exact Nat.mul_le_mul_right _ hroom
      have hr := run_append_room (P := Try.prog) w 56 56 58 i Try.underlying56 hii g n cap cur hg ⟨X, off, none⟩ m c news (by rw [hi.2.1]; exact hl) hnews h1 hroom hfit
      have e := det happ ⟨hr⟩
      rw [e]; rfl
    · right
      have holds : ∀ j u, xs[j]? = some u → w.cell? ((⟨g, 0, none⟩ : Addr).add j) = some u := ho.cells (g := g) rfl
      have hr := run_append_grow (P := Try.prog) w 56 56 58 i _ Try.underlying56 hii hi.1 ⟨g, 0, none⟩ n cap xs (by rw [hi.2.1]; exact ho.1) holds ⟨X, off, none⟩ m c news (by rw [hi.2.1]; exact hl) hnews (by omega) (by omega) (growslice_fits (by omega) (by rw [hi.2.2]; omega))
      have e := det happ ⟨hr⟩
      intro g' hg'
      rw [e] at hg'
      cases hg'
      exact Nat.le_refl _
end Go.Proofs.Ytkmcmkimeibjdaa
