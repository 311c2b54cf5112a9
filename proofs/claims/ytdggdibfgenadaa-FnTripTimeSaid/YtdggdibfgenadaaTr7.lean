/- The law TripTime: what it needs in plain words. -/
import Derived.Test.YtdggdibfgenadaaTr3
set_option linter.unusedVariables false
set_option linter.unusedSimpArgs false
namespace Go.Proofs.Ytdggdibfgenadaa
open Go.RowKit

theorem stopsU_mono {xs ys : List Int} (h : ∀ a ∈ xs, a ∈ ys) (f : Nat) : stopsU xs f ≤ stopsU ys f := by
  induction f with
  | zero => exact Int.le_refl _
  | succ f ih =>
    unfold stopsU
    by_cases h1 : ((f + 1 : Nat) : Int) ∈ xs
    · rw [if_pos h1, if_pos (h _ h1)]; omega
    · rw [if_neg h1]
      split <;> omega
theorem mostU_mono {xs ys : List Int} (h : ∀ a ∈ xs, a ∈ ys) (f : Nat) : mostU xs f ≤ mostU ys f := by
  induction f with
  | zero => exact Int.le_refl _
  | succ f ih =>
    have hb := mostU_le xs f
    unfold mostU
    by_cases h1 : ((f + 1 : Nat) : Int) ∈ xs
    · rw [if_pos h1, if_pos (h _ h1)]; omega
    · rw [if_neg h1]
      split <;> omega
theorem tripN_mono {xs ys : List Int} (h : ∀ a ∈ xs, a ∈ ys) : tripN xs ≤ tripN ys := by
  have h1 := stopsU_mono h 15
  have h2 := mostU_mono h 15
  unfold tripN
  omega
theorem tripN_congr {xs ys : List Int} (h1 : ∀ a ∈ xs, a ∈ ys) (h2 : ∀ a ∈ ys, a ∈ xs) : tripN xs = tripN ys :=
  Int.le_antisymm (tripN_mono h1) (tripN_mono h2)

theorem trip_twice {xs : List Int} {x : Int} (h : tripOk xs = true) (hl : xs.length < 12) (hx : x ∈ xs) : tripF (xs ++ [x]) = tripF xs := by
  have hs : ∀ a ∈ xs ++ [x], a ∈ xs := fun a ha => by
    rcases List.mem_append.1 ha with h' | h'
    · exact h'
    · simp at h'; exact h' ▸ hx
  have h2 := tripOk_of h (ys := xs ++ [x]) (by simp; omega) hs
  rw [tripF_ok h, tripF_ok h2]
  exact tripN_congr hs fun a ha => List.mem_append.2 (.inl ha)
theorem trip_back {xs : List Int} (h : tripOk xs = true) : tripF xs.reverse = tripF xs := by
  have hs : ∀ a ∈ xs.reverse, a ∈ xs := fun a ha => List.mem_reverse.1 ha
  have h2 := tripOk_of h (ys := xs.reverse) (by have := (tripOk_all h).1; simpa using this) hs
  rw [tripF_ok h, tripF_ok h2]
  exact tripN_congr hs fun a ha => List.mem_reverse.2 ha
theorem trip_more {xs : List Int} (h : tripOk xs = true) (hl : xs.length < 12) : tripF xs ≤ tripF (xs ++ [15]) := by
  have h0 := (tripOk_all h).2
  have h2 : tripOk (xs ++ [15]) = true := by
    simp only [tripOk, Bool.and_eq_true, decide_eq_true_eq, allB, List.all_eq_true, inB]
    refine ⟨by simp; omega, fun y hy => ?_⟩
    rcases List.mem_append.1 hy with h' | h'
    · exact h0 y h'
    · simp at h'; subst h'; decide
  rw [tripF_ok h, tripF_ok h2]
  exact tripN_mono fun a ha => List.mem_append.2 (.inl ha)
theorem rev_at {xs : List Int} {m k : Nat} {x : Int} (hl : xs.length = m) (hk : k < m) (h : xs[m - 1 - k]? = some x) : xs.reverse[k]? = some x := by
  rw [List.getElem?_reverse (by omega), hl]; exact h
end Go.Proofs.Ytdggdibfgenadaa
