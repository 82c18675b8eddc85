/- Helpers of the proof, joined: Cm0 Cm1 Cm2 Cm3. -/
import Derived.Test.YtdcjibjldfjllaaGreatPGo
import Derived.Test.YtdcjibjldfjllaaGreatPGyc
import Derived.Test.YtdcjibjldfjllaaGreatPGxh
import Derived.Test.YtdcjibjldfjllaaGreatPGxb
set_option linter.unusedVariables false
set_option linter.unusedSimpArgs false
/- A bar in a block of its own, beside a row of bars. -/
namespace Go.Proofs.YtdcjibjldfjllaaGreat
open Go.RowKit

/-- A bar's block, the bars so far. -/
def RT (w0 w : World) (gb : Nat) (b : Bar) (v : Value) (l : List Bar) : Prop :=
  w.heap[gb]? = some (.cells #[.int .i64 b.d, .string b.x, .string b.y] 94 (0, 0)) ∧ OwnS w0 w rBar 94 v l ∧ w0.heap.size ≤ gb ∧ v.ownBlock ≠ some gb
section
variable {w0 w w1 : World} {gb : Nat} {b : Bar} {v : Value} {l : List Bar}
theorem RT.past (h : RT w0 w gb b v l) (hp : Past w w1) : RT w0 w1 gb b v l :=
  ⟨(hp.block gb (Array.getElem?_eq_some_iff.1 h.1).1).trans h.1, h.2.1.past hp, h.2.2⟩
theorem RT.c2 (h : RT w0 w gb b v l) : w.cell? ⟨gb, 2, none⟩ = some (.string b.y) := by rw [Lib.cell_of_heap h.1]; rfl
theorem RT.f (h : RT w0 w gb b v l) (j : Nat) : w.frozen? ⟨gb, j, none⟩ = false := Lib.frozen_of_heap h.1 j
end

end Go.Proofs.YtdcjibjldfjllaaGreat

/- torusref20.Length, Longer, Affine, Clip on bars of numbers. -/
namespace Go.Proofs.YtdcjibjldfjllaaGreat
open Go.RowKit

/-- Its dimension is small, its ends are no longer than 1000. -/
def VB.okM (v : VB) : Prop := 0 ≤ v.d ∧ v.d ≤ 4 ∧ tlE (some v.q) ≤ 1000 ∧ tlE v.e ≤ 1000
theorem VB.okM.L {v : VB} (h : v.okM) : v.okL := ⟨h.1, h.2.1, Nat.le_trans h.2.2.1 (by decide), Nat.le_trans h.2.2.2 (by decide)⟩
theorem tlQ_sub {a b : Rat} {k m : Nat} (ha : tlQ a ≤ k) (hb : tlQ b ≤ m) : tlQ (a - b) ≤ k + m + 3 := by
  have e : a - b = a + -b := Rat.sub_eq_add_neg a b
  rw [e]
  exact Nat.le_trans (add_tl ha (Nat.le_trans (tlQ_neg b) (Nat.succ_le_succ hb))) (by omega)
theorem inf_some (q : Rat) : ((tE (some q)).toList == [105, 110, 102]) = false := by
  rw [inf_eq, byt_tE]
  exact isInf_rtx q
theorem inf_none : ((tE none).toList == [105, 110, 102]) = true := by
  rw [inf_eq, byt_tE]; rfl

theorem filter_take {α : Type} {l : List α} {i : Nat} {v : α} (p : α → Bool) (h : i < l.length) (hv : l[i] = v) : (l.take (i + 1)).filter p = (l.take i).filter p ++ if p v = true then [v] else [] := by
  rw [List.take_succ_eq_append_getElem h, hv, List.filter_append]
  congr 1
  rw [List.filter_cons]
  split <;> rfl
end Go.Proofs.YtdcjibjldfjllaaGreat

/- torusref20.Affine, Clip on bars of numbers. -/
namespace Go.Proofs.YtdcjibjldfjllaaGreat
open Go.RowKit

theorem tE_sizeM {e : Option Rat} (h : tlE e ≤ 1000) : (tE e).size ≤ 2001 := by
  cases e with
  | none => decide
  | some q =>
    have := tQ_size q
    have h' : tlQ q ≤ 1000 := h
    show (tQ q).size ≤ 2001
    omega

end Go.Proofs.YtdcjibjldfjllaaGreat

/- torusref20.Clip on bars of numbers. -/
namespace Go.Proofs.YtdcjibjldfjllaaGreat
open Go.RowKit

end Go.Proofs.YtdcjibjldfjllaaGreat
