/- GreenTime of the program, walked. -/
import Derived.Test.YtckohbjgogbfaaaQr5
set_option linter.unusedVariables false
set_option linter.unusedSimpArgs false
namespace Go.Proofs.Ytckohbjgogbfaaa
open Go.RowKit

end Go.Proofs.Ytckohbjgogbfaaa
