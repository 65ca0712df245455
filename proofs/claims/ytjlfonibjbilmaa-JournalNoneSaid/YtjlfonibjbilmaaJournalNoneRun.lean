/- The run of the law JournalNone, whatever its arguments. -/
import Derived.Test.YtjlfonibjbilmaaExTab
set_option linter.unusedSimpArgs false
set_option linter.unusedVariables false
namespace Go.Proofs.Ytjlfonibjbilmaa

set_option maxRecDepth 100000 in
theorem journalNone_run : Ex.isTrue (Ex.ex Try.prog (Ex.tabOf Try.prog Ex.NT0) Ex.S0 100000 (.call 3 [.ext 0, .ext 1] none) []) = true := by decide +kernel

end Go.Proofs.Ytjlfonibjbilmaa
