/- Helpers of the proof, joined: Vl2 LwCl Rk2. -/
import Derived.Test.YtdcjibjldfjllaaGreatPGt
import Derived.Test.YtdcjibjldfjllaaGreatPGs
import Derived.Test.YtdcjibjldfjllaaGreatPGq
import Derived.Test.YtdcjibjldfjllaaGreatPGa
set_option linter.unusedVariables false
set_option linter.unusedSimpArgs false
/- Clip and Rank on bars of numbers. -/
namespace Go.Proofs.YtdcjibjldfjllaaGreat
open Go.RowKit

theorem chgAll_pure {φs : List Chg} (f : Bar → Bar) (keep : Bar → Bool) : ∀ (bs out : List Bar), (∀ b ∈ bs, runChg φs b = (f b, keep b, 0)) →
    chgAll φs out bs = (isort ltB (out ++ ((bs.filter keep).map f).filter (fun b => decide (cmpT (byt b.x) (byt b.y) < 0))), 0)
  | [], out, _ => by simp [chgAll]
  | b :: bs, out, h => by
    rw [chgAll, h b (by simp)]
    have ih := fun o => chgAll_pure f keep bs o (fun b hb => h b (by simp [hb]))
    by_cases hk : keep b = true
    · by_cases hc : cmpT (byt (f b).x) (byt (f b).y) < 0
      · simp [hk, hc, ih]
      · simp [hk, hc, ih]
    · simp [hk, ih]

end Go.Proofs.YtdcjibjldfjllaaGreat

/- BarcodeClips: the walk. -/
namespace Go.Proofs.YtdcjibjldfjllaaGreat
open Go.RowKit

end Go.Proofs.YtdcjibjldfjllaaGreat

/- What a row's opened integer gives the walk. -/
namespace Go.Proofs.YtdcjibjldfjllaaGreat
open Go.RowKit

theorem int_of_wf {n : Int} (h : (Lit.int .i64 n).wf = true) : -9223372036854775808 ≤ n ∧ n ≤ 9223372036854775807 := by
  have h2 : IntKind.min .i64 ≤ n ∧ n ≤ IntKind.max .i64 := by simpa [Lit.wf] using h
  have e1 : IntKind.min .i64 = -9223372036854775808 := by decide
  have e2 : IntKind.max .i64 = 9223372036854775807 := by decide
  omega

end Go.Proofs.YtdcjibjldfjllaaGreat
