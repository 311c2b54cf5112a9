/- DrawValidPlan and DrawCycleOf, walked. -/
import Derived.Test.YtpfdhggejnbpbaaQg3
set_option linter.unusedVariables false
set_option linter.unusedSimpArgs false
namespace Go.Proofs.Ytpfdhggejnbpbaa
open Go.RowKit

end Go.Proofs.Ytpfdhggejnbpbaa
