/- Helpers of the proof, joined: Vl3 Vl4. -/
import Derived.Test.YtdcjibjldfjllaaGreatPGu
import Derived.Test.YtdcjibjldfjllaaGreatPGxg
import Derived.Test.YtdcjibjldfjllaaGreatPGq
set_option linter.unusedVariables false
set_option linter.unusedSimpArgs false
/- Bars of numbers over an increasing function: shifts and factors. -/
namespace Go.Proofs.YtdcjibjldfjllaaGreat
open Go.RowKit

theorem add_tl {a q : Rat} {k m : Nat} (ha : tlQ a ≤ k) (hq : tlQ q ≤ m) : tlQ (a + q) ≤ k + m + 2 := by
  have h1 := tlQ_le (a + q)
  have h2 := dlQ_add a q
  have h3 := dlQ_le a
  have h4 := dlQ_le q
  omega
/-- The sum of the lengths of a dimension's bars that die. -/
def stepV (acc : Rat) (v : VB) : Rat := match v.e with
  | none => acc
  | some r => acc + r - v.q
def totV (l : List VB) : Rat := l.foldl stepV 0
theorem sumB_enc (l : List VB) : sumB (l.map VB.enc) = totV l := by
  unfold sumB totV
  rw [List.foldl_map]
  congr 1
  funext acc v
  unfold sumStep stepV
  show (if isInf (byt (tE v.e)) = true then acc else acc + valR (byt (tE v.e)) - valR (byt (tE (some v.q)))) = _
  cases he : v.e with
  | none => rw [byt_tE]; rfl
  | some r =>
    rw [byt_tE, byt_tE]
    show (if isInf (rtx r) = true then acc else acc + valR (rtx r) - valR (rtx v.q)) = _
    rw [isInf_rtx, valR_rtx, valR_rtx, if_neg (by simp)]
end Go.Proofs.YtdcjibjldfjllaaGreat

/- Bars of numbers: what Shift, Scale and Total answer on them. -/
namespace Go.Proofs.YtdcjibjldfjllaaGreat
open Go.RowKit

end Go.Proofs.YtdcjibjldfjllaaGreat
