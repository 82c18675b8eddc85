/- The closed facts of the row of BarcodeCountsMatch, each by the kernel. -/
import Derived.Test.YtdcjibjldfjllaaGreatRows
import Derived.WalkKit
import Derived.ProofKit
set_option linter.unusedVariables false
set_option linter.unusedSimpArgs false
namespace Go.Proofs.YtdcjibjldfjllaaGreat.barcodeCountsMatch

theorem closedC : joinedFacts Tryz.pinned.checked.prog 12 Tryz.f12 Rows.barcodeCountsMatchSpec Rows.barcodeCountsMatchRow = true := by kernel_rfl
theorem namedC : Tryz.pinned.checked.prog.funcNamed Rows.barcodeCountsMatchRow.func = some 12 := by kernel_rfl

end Go.Proofs.YtdcjibjldfjllaaGreat.barcodeCountsMatch
