/- Seconds of green, plain. -/
import Derived.Test.YtckohbjgogbfaaaQr4
set_option linter.unusedVariables false
set_option linter.unusedSimpArgs false
namespace Go.Proofs.Ytckohbjgogbfaaa
open Go.RowKit

theorem fitsB_pw {t : List (List Int)} {ph : List Int} (h : fitsB t ph = true) : ph.Pairwise (· < ·) := by
  rw [fitsB_yes (fitsB_ok h)] at h
  simp only [ascB, Bool.and_eq_true, decide_eq_true_eq] at h
  exact h.1.1
/-- Seconds of green among the first k. -/
def gtUp (t : List (List Int)) (ss : List (List Int × Int)) (x : Int) : Nat → Int
  | 0 => 0
  | k + 1 => gtUp t ss x k + (if x ∈ greenN t ss k then 1 else 0)
theorem gtUp_bd (t : List (List Int)) (ss : List (List Int × Int)) (x : Int) (k : Nat) : 0 ≤ gtUp t ss x k ∧ gtUp t ss x k ≤ k := by
  induction k with
  | zero => exact ⟨Int.le_refl _, Int.le_refl _⟩
  | succ k ih =>
    unfold gtUp
    split <;> omega
/-- What GreenTime returns. -/
def gtF (t : List (List Int)) (ss : List (List Int × Int)) (x : Int) : Int :=
  if planB t ss = true ∧ 0 ≤ x ∧ x < t.length then gtUp t ss x (cycN t ss).toNat else -1
end Go.Proofs.Ytckohbjgogbfaaa
