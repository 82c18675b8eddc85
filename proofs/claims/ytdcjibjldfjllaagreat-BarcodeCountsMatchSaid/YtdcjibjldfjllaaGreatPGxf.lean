/- Helpers of the proof, joined: Each Each2 Each3. -/
import Derived.Test.YtdcjibjldfjllaaGreatPGr
import Derived.Test.YtdcjibjldfjllaaGreatPGxe
import Derived.Test.YtdcjibjldfjllaaGreatPGxa
set_option linter.unusedVariables false
set_option linter.unusedSimpArgs false
/- barcode.each over Ratio.Add. -/
namespace Go.Proofs.YtdcjibjldfjllaaGreat
open Go.RowKit

end Go.Proofs.YtdcjibjldfjllaaGreat

/- barcode.each over Ratio.Mul. -/
namespace Go.Proofs.YtdcjibjldfjllaaGreat
open Go.RowKit

end Go.Proofs.YtdcjibjldfjllaaGreat

/- barcode.each: the change of a bar. -/
namespace Go.Proofs.YtdcjibjldfjllaaGreat
open Go.RowKit

end Go.Proofs.YtdcjibjldfjllaaGreat
