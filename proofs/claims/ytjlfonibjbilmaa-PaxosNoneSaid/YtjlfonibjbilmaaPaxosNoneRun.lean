/- The run of the law PaxosNone, whatever its arguments. -/
import Derived.Test.YtjlfonibjbilmaaExTab
set_option linter.unusedSimpArgs false
set_option linter.unusedVariables false
namespace Go.Proofs.Ytjlfonibjbilmaa

set_option maxRecDepth 100000 in
theorem paxosNone_run : Ex.isTrue (Ex.ex Try.prog (Ex.tabOf Try.prog Ex.NT0) Ex.S0 100000 (.call 4 [.agg ((List.range' 0 46).map .ext)] none) []) = true := by decide +kernel

end Go.Proofs.Ytjlfonibjbilmaa
