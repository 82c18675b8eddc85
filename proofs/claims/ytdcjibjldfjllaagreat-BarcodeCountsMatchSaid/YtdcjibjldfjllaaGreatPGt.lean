/- Helpers of the proof, joined: Vl1 LwRT. -/
import Derived.Test.YtdcjibjldfjllaaGreatPGo
import Derived.Test.YtdcjibjldfjllaaGreatPGp
import Derived.Test.YtdcjibjldfjllaaGreatPGs
import Derived.Test.YtdcjibjldfjllaaGreatPGq
set_option linter.unusedVariables false
set_option linter.unusedSimpArgs false
/- Bars of numbers: what their texts are worth. -/
namespace Go.Proofs.YtdcjibjldfjllaaGreat
open Go.RowKit

theorem byt_tE (e : Option Rat) : byt (tE e) = etx e := by
  cases e with
  | none => rfl
  | some q => exact byt_tQ q
theorem dlen_le_tlen (z : Int) : dlen z ≤ tlen z := by
  unfold dlen tlen dtx
  by_cases h : z = 0
  · subst h
    rw [show dgt (0 : Int).natAbs = [] from (dgt_nil 0).2 rfl]
    simp
  · rw [if_neg h]
    split <;> simp
theorem long_short {q : Rat} (h : tlQ q ≤ 1000) : longQ q = false := by
  have h1 := dlen_le_tlen q.num
  have h2 := dlen_le_tlen (q.den : Int)
  unfold tlQ at h
  unfold longQ
  simp only [Bool.or_eq_false_iff, decide_eq_false_iff_not]
  omega
theorem okV_rtx {q : Rat} (h : tlQ q ≤ 1000) : okV (rtx q) = true := by
  unfold okV
  rw [okR_rtx, valR_rtx, long_short h]
  rfl
theorem okE_etx {e : Option Rat} (h : tlE e ≤ 1000) : okE (etx e) = true := by
  cases e with
  | none => decide
  | some q =>
    unfold okE
    show (isInf (rtx q) || okV (rtx q)) = true
    rw [okV_rtx h]
    simp
theorem eV_etx (e : Option Rat) : eV (etx e) = e := by
  cases e with
  | none => decide
  | some q => exact eV_rtx q
theorem cmpT_enc {e f : Option Rat} (he : tlE e ≤ 1000) (hf : tlE f ≤ 1000) : cmpT (byt (tE e)) (byt (tE f)) = cmpE e f := by
  unfold cmpT
  rw [byt_tE, byt_tE, okE_etx he, okE_etx hf, eV_etx, eV_etx]
  rfl
theorem tE_size {e : Option Rat} (h : tlE e ≤ 100) : (tE e).size ≤ 201 := by
  cases e with
  | none => decide
  | some q =>
    have := tQ_size q
    have h' : tlQ q ≤ 100 := h
    show (tQ q).size ≤ 201
    omega
theorem VB.ok.fit {v : VB} (h : v.ok) : v.enc.fit := by
  have h1 := tE_size h.2.2.1
  have h2 := tE_size h.2.2.2
  exact ⟨by show (tE (some v.q)).size ≤ _; omega, by show (tE v.e).size ≤ _; omega⟩
theorem tE_inj {e f : Option Rat} (h : tE e = tE f) : e = f := by
  rw [← eV_etx e, ← eV_etx f, ← byt_tE, ← byt_tE, h]
theorem cmpZ_sign (a b : Int) : (cmpZ a b < 0 ↔ a < b) ∧ (cmpZ a b = 0 ↔ a = b) := by
  unfold cmpZ
  split
  · constructor <;> constructor <;> intro h <;> omega
  · split
    · constructor <;> constructor <;> intro h <;> omega
    · constructor <;> constructor <;> intro h <;> omega
theorem ltV_false (a b : VB) : ltV b a = false ↔ a.d < b.d ∨ a.d = b.d ∧ (cmpE (some a.q) (some b.q) < 0 ∨ cmpE (some a.q) (some b.q) = 0 ∧ cmpE a.e b.e ≤ 0) := by
  unfold ltV
  rw [decide_eq_false_iff_not]
  unfold cmpV
  have h1 := cmpE_neg (some a.q) (some b.q)
  have h2 := cmpE_neg a.e b.e
  by_cases hd : b.d = a.d
  · rw [if_neg (show ¬ b.d ≠ a.d by simp [hd])]
    by_cases hq : cmpE (some b.q) (some a.q) = 0
    · rw [if_neg (show ¬ cmpE (some b.q) (some a.q) ≠ 0 by simp [hq])]; omega
    · rw [if_pos (show cmpE (some b.q) (some a.q) ≠ 0 from hq)]; omega
  · rw [if_pos hd]; omega
theorem cmpE_lt_le {e f g : Option Rat} (h : cmpE e f < 0) (k : cmpE f g ≤ 0) : cmpE e g < 0 := by
  have h1 := cmpE_trans (show cmpE e f ≤ 0 by omega) k
  rcases Int.lt_or_le (cmpE e g) 0 with h2 | h2
  · exact h2
  · have h3 := cmpE_eq.1 (show cmpE e g = 0 by omega)
    subst h3
    have := cmpE_neg e f
    omega
theorem cmpE_le_lt {e f g : Option Rat} (h : cmpE e f ≤ 0) (k : cmpE f g < 0) : cmpE e g < 0 := by
  have h1 := cmpE_trans h (show cmpE f g ≤ 0 by omega)
  rcases Int.lt_or_le (cmpE e g) 0 with h2 | h2
  · exact h2
  · have h3 := cmpE_eq.1 (show cmpE e g = 0 by omega)
    subst h3
    have := cmpE_neg e f
    omega
theorem cmpV_trans : ∀ a b c : VB, ltV b a = false → ltV c b = false → ltV c a = false := by
  intro a b c h k
  rw [ltV_false] at h k ⊢
  rcases h with h | ⟨h, h'⟩
  · rcases k with k | ⟨k, _⟩ <;> exact .inl (by omega)
  · rcases k with k | ⟨k, k'⟩
    · exact .inl (by omega)
    · refine .inr ⟨by omega, ?_⟩
      rcases h' with h' | ⟨h', h''⟩
      · rcases k' with k' | ⟨k', _⟩
        · exact .inl (cmpE_lt_le h' (by omega))
        · exact .inl (cmpE_lt_le h' (by omega))
      · rcases k' with k' | ⟨k', k''⟩
        · exact .inl (cmpE_le_lt (by omega) k')
        · have e1 := cmpE_eq.1 h'
          have e2 := cmpE_eq.1 k'
          exact .inr ⟨by rw [e1, e2, cmpE_self], cmpE_trans h'' k''⟩
theorem cmpV_asym : ∀ a b : VB, ltV a b = true → ltV b a = false := by
  intro a b h
  rw [ltV_false]
  have h' := of_decide_eq_true (show decide (cmpV a b < 0) = true from h)
  unfold cmpV at h'
  by_cases hd : a.d = b.d
  · rw [if_neg (show ¬ a.d ≠ b.d by simp [hd])] at h'
    by_cases hq : cmpE (some a.q) (some b.q) = 0
    · rw [if_neg (show ¬ cmpE (some a.q) (some b.q) ≠ 0 by simp [hq])] at h'; omega
    · rw [if_pos (show cmpE (some a.q) (some b.q) ≠ 0 from hq)] at h'; omega
  · rw [if_pos hd] at h'; omega
theorem sortV_good {l : List VB} (h : ∀ v ∈ l, v.ok) : (∀ v ∈ sortV l, v.ok ∧ live v = true) ∧ Asc ltV (sortV l) ∧ (sortV l).length ≤ l.length := by
  refine ⟨fun v hv => ?_, isort_ord cmpV_trans cmpV_asym _, ?_⟩
  · have := List.mem_filter.1 ((isort_perm _ _).mem_iff.1 hv)
    exact ⟨h v this.1, this.2⟩
  · unfold sortV
    rw [isort_length]
    exact List.length_filter_le _ _
theorem fitV_good (xs : List Int) (most : Nat) : (∀ v ∈ fitV xs most, v.ok ∧ live v = true) ∧ Asc ltV (fitV xs most) ∧ (fitV xs most).length ≤ most := by
  have h := sortV_good (l := fitRaw xs (min (xs.length / 3) most)) fitRaw_ok
  refine ⟨h.1, h.2.1, ?_⟩
  have := h.2.2
  rw [fitRaw_len] at this
  unfold fitV
  omega

end Go.Proofs.YtdcjibjldfjllaaGreat

/- BarcodeRoundTrip: the walk. -/
namespace Go.Proofs.YtdcjibjldfjllaaGreat
open Go.RowKit

end Go.Proofs.YtdcjibjldfjllaaGreat
