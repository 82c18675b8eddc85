/- Helpers of the proof, joined: Shf Shc. -/
import Derived.Test.YtdcjibjldfjllaaGreatPGxf
import Derived.Laws.EntriesVeiled
set_option linter.unusedVariables false
set_option linter.unusedSimpArgs false
/- barcode.Shift. -/
namespace Go.Proofs.YtdcjibjldfjllaaGreat
open Go.RowKit

theorem chk_ok : ∀ (p : Option Bar) (l : List Bar), chkFrom p l = 0 → ∀ b ∈ l, validB b = true
  | _, [], _, b, hb => by cases hb
  | p, x :: l, h, b, hb => by
    unfold chkFrom at h
    split at h
    · cases h
    · rename_i h1
      split at h
      · cases h
      · rcases List.mem_cons.1 hb with rfl | hb
        · cases hv : validB b with
          | true => rfl
          | false => exact absurd (Or.inl hv) h1
        · exact chk_ok _ l h b hb
theorem check_okBar {l : List Bar} (h : checkB l = 0) (hf : ∀ b ∈ l, b.fit) : ∀ b ∈ l, okBar b := by
  intro b hb
  have hv : validB b = true := by
    unfold checkB at h
    split at h
    · cases h
    · exact chk_ok _ l h b hb
  unfold validB at hv
  simp only [Bool.and_eq_true] at hv
  exact ⟨hf b hb, hv.1.1.2, hv.1.2⟩

end Go.Proofs.YtdcjibjldfjllaaGreat

/- barcode.Scale. -/
namespace Go.Proofs.YtdcjibjldfjllaaGreat
open Go.RowKit

end Go.Proofs.YtdcjibjldfjllaaGreat
