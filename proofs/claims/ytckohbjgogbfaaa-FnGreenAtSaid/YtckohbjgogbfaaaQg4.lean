/- DrawValidPlan and DrawCycleOf, walked. -/
import Derived.Test.YtckohbjgogbfaaaQg3
set_option linter.unusedVariables false
set_option linter.unusedSimpArgs false
namespace Go.Proofs.Ytckohbjgogbfaaa
open Go.RowKit

end Go.Proofs.Ytckohbjgogbfaaa
