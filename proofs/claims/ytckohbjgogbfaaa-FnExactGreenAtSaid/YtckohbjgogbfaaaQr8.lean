/- Seconds without green, plain. -/
import Derived.Test.YtckohbjgogbfaaaQr7
set_option linter.unusedVariables false
set_option linter.unusedSimpArgs false
namespace Go.Proofs.Ytckohbjgogbfaaa
open Go.RowKit

/-- The longest red and the red under way, after k seconds of cycles of N. -/
def lrUp (t : List (List Int)) (ss : List (List Int × Int)) (x : Int) (N : Nat) : Nat → Int × Int
  | 0 => (0, 0)
  | k + 1 => if x ∈ greenN t ss ((k % N : Nat) : Int) then ((lrUp t ss x N k).1, 0) else (max (lrUp t ss x N k).1 ((lrUp t ss x N k).2 + 1), (lrUp t ss x N k).2 + 1)
theorem lrUp_bd (t : List (List Int)) (ss : List (List Int × Int)) (x : Int) (N k : Nat) : 0 ≤ (lrUp t ss x N k).2 ∧ (lrUp t ss x N k).2 ≤ (k : Int) ∧ 0 ≤ (lrUp t ss x N k).1 ∧ (lrUp t ss x N k).1 ≤ k := by
  induction k with
  | zero => simp [lrUp]
  | succ k ih =>
    obtain ⟨h1, h2, h3, h4⟩ := ih
    unfold lrUp
    split
    · exact ⟨Int.le_refl _, by omega, h3, by omega⟩
    · refine ⟨?_, ?_, ?_, ?_⟩ <;> dsimp only <;> omega
/-- What LongestRed returns. -/
def lrF (t : List (List Int)) (ss : List (List Int × Int)) (x : Int) : Int :=
  if planB t ss = true ∧ 0 ≤ x ∧ x < t.length then min (lrUp t ss x (cycN t ss).toNat (2 * (cycN t ss).toNat)).1 (cycN t ss) else -1
end Go.Proofs.Ytckohbjgogbfaaa
