/- The run of the examples of the law MonNone. -/
import Derived.Test.YtfchbkmegicfoaaGreatExTab
set_option linter.unusedSimpArgs false
set_option linter.unusedVariables false
namespace Go.Proofs.YtfchbkmegicfoaaGreat

set_option maxRecDepth 100000 in
theorem lives_run : Ex.isTrue (Ex.ex Tryz.prog (Ex.tabOf Tryz.prog Ex.NT0) Ex.S0 100000 (.call 12 [] none) .nil) = true := by decide +kernel

end Go.Proofs.YtfchbkmegicfoaaGreat
