/- GreenTime of the reference, walked. -/
import Derived.Test.YtckohbjgogbfaaaQr6
set_option linter.unusedVariables false
set_option linter.unusedSimpArgs false
namespace Go.Proofs.Ytckohbjgogbfaaa
open Go.RowKit

theorem greenN_len {t : List (List Int)} {ss : List (List Int × Int)} {s : Int} (h : ∀ s ∈ ss, s.1.length ≤ 1048576) : (greenN t ss s).length ≤ 1048576 := by
  refine Nat.le_trans greenK_len ?_
  simp only [phAt, List.getD_eq_getElem?_getD]
  cases hk : ss[stg t ss s (ss.length - 1)]? with
  | none => simp
  | some x => simpa using h x (List.mem_of_getElem? hk)
end Go.Proofs.Ytckohbjgogbfaaa
