/- The closed facts of the row of BarcodeChangesMatch, each by the kernel. -/
import Derived.Test.YtdcjibjldfjllaaGreatRows
import Derived.WalkKit
import Derived.ProofKit
set_option linter.unusedVariables false
set_option linter.unusedSimpArgs false
namespace Go.Proofs.YtdcjibjldfjllaaGreat.barcodeChangesMatch

theorem closedC : joinedFacts Tryz.pinned.checked.prog 9 Tryz.f9 Rows.barcodeChangesMatchSpec Rows.barcodeChangesMatchRow = true := by kernel_rfl
theorem namedC : Tryz.pinned.checked.prog.funcNamed Rows.barcodeChangesMatchRow.func = some 9 := by kernel_rfl

end Go.Proofs.YtdcjibjldfjllaaGreat.barcodeChangesMatch
