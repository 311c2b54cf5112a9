/- BestShare, plain: no share costs less. -/
import Derived.Test.YtillmnhhkhjpkaaSf5
import Derived.Test.YtillmnhhkhjpkaaSd6
set_option linter.unusedVariables false
set_option linter.unusedSimpArgs false
namespace Go.Proofs.Ytillmnhhkhjpkaa
open Go.RowKit

theorem mem_allS {k : Nat} : ∀ (d : Nat) (ss : List Nat), ss.length = d → (∀ s ∈ ss, s < k) → ss ∈ allS k d
  | 0, ss, hl, _ => by
    have : ss = [] := List.eq_nil_of_length_eq_zero hl
    subst this
    simp [allS]
  | d + 1, [], hl, _ => by simp at hl
  | d + 1, s :: ss, hl, h => by
    rw [allS, List.mem_flatMap]
    exact ⟨s, List.mem_range.2 (h s List.mem_cons_self), List.mem_map.2 ⟨ss, mem_allS d ss (by simpa using hl) fun x hx => h x (List.mem_cons_of_mem _ hx), rfl⟩⟩
theorem upd_min : ∀ (xs : List (Int × List Nat)) (S : Best) (s : Int × List Nat), xs.foldl upd S = some s → (∀ x ∈ xs, s.1 ≤ x.1) ∧ ∀ t, S = some t → s.1 ≤ t.1
  | [], S, s, h => ⟨by simp, fun t ht => by
    rw [List.foldl_nil, ht] at h
    injection h with h
    rw [h]; exact Int.le_refl _⟩
  | x :: xs, S, s, h => by
    rw [List.foldl_cons] at h
    obtain ⟨h1, h2⟩ := upd_min xs _ s h
    have hx : s.1 ≤ x.1 ∧ ∀ t, S = some t → s.1 ≤ t.1 := by
      cases S with
      | none => exact ⟨h2 x rfl, fun t ht => by cases ht⟩
      | some u =>
        by_cases hlt : x.1 < u.1
        · have := h2 x (if_pos hlt)
          exact ⟨this, fun t ht => by injection ht with ht; rw [← ht]; omega⟩
        · have := h2 u (if_neg hlt)
          exact ⟨by omega, fun t ht => by injection ht with ht; rw [← ht]; exact this⟩
    exact ⟨fun y hy => by
      rcases List.mem_cons.1 hy with rfl | hy
      · exact hx.1
      · exact h1 y hy, hx.2⟩
theorem best_le {cars : List Int} {cs : List CallT} (h : okS cars cs = true) (ss : List Nat) (hl : ss.length = cs.length) (hs : ∀ s ∈ ss, s < cars.length) : gCost cars cs (bestS cars cs) ≤ gCost cars cs ss := by
  obtain ⟨⟨k1, -, -⟩, -, -⟩ := okS_iff.1 h
  have h1 := srch_ref (k := cars.length) (by omega) (cs.map prC) (flt0 cars)
  rw [srch_all] at h1
  have h2 := (upd_min _ _ _ h1).1 (((flt0 cars).run (cs.map prC) ss).cost, [] ++ ss) (List.mem_map.2 ⟨ss, mem_allS _ _ (by rw [hl, List.length_map]) hs, rfl⟩)
  rw [bestS, if_pos h]
  rw [List.length_map] at h2
  exact h2
theorem gCost_pos (cars : List Int) (cs : List CallT) (ss : List Nat) : 0 ≤ gCost cars cs ss := by
  have h := run_cost (cs.map prC) ss (flt0 cars)
  have h0 : (flt0 cars).cost = 0 := by simp [Flt.cost, flt0]
  rw [h0] at h
  exact h
theorem refB_len (g : List Nat → Int) (k d : Nat) : ∀ N, (refB g k d N).length = d
  | 0 => by simp [refB, dgs]
  | N + 1 => by
    rw [refB]
    split
    · simp [dgs]
    · exact refB_len g k d N
theorem bestS_fits {cars : List Int} {cs : List CallT} (h : bestS cars cs ≠ []) : okS cars cs = true ∧ (bestS cars cs).length = cs.length ∧ 0 < cs.length ∧ ∀ s ∈ bestS cars cs, s < cars.length := by
  by_cases hok : okS cars cs = true
  · obtain ⟨⟨k1, -, -⟩, -, -⟩ := okS_iff.1 hok
    have e : bestS cars cs = refB (gCost cars cs) cars.length cs.length (cars.length ^ cs.length) := if_pos hok
    have hl : (bestS cars cs).length = cs.length := by rw [e]; exact refB_len _ _ _ _
    refine ⟨hok, hl, ?_, by rw [e]; exact refB_lt (by omega) _⟩
    rw [← hl]
    exact List.length_pos_iff.2 h
  · exact absurd (if_neg hok) h
end Go.Proofs.Ytillmnhhkhjpkaa
