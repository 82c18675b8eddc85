/- Helpers of the proof, joined: Cm4 Cm5 Cm6 Cm7 Cm8. -/
import Derived.Test.YtdcjibjldfjllaaGreatPGyc
import Derived.Test.YtdcjibjldfjllaaGreatPGxg
import Derived.Shelf.Spec.SlicesGrow
import Derived.Test.YtdcjibjldfjllaaGreatPGr
import Derived.Test.YtdcjibjldfjllaaGreatPGyb
import Derived.Test.YtdcjibjldfjllaaGreatPGxa
import Derived.Test.YtdcjibjldfjllaaGreatPGn
import Derived.Test.YtdcjibjldfjllaaGreatPGyh
set_option linter.unusedVariables false
set_option linter.unusedSimpArgs false
/- slices.Grow of nothing, slices.Concat of two rows of bars; barcode.Merge. -/
namespace Go.Proofs.YtdcjibjldfjllaaGreat
open Go.RowKit Go.Shelf

end Go.Proofs.YtdcjibjldfjllaaGreat

/- barcode.Longer. -/
namespace Go.Proofs.YtdcjibjldfjllaaGreat
open Go.RowKit

theorem lenQ_sub (q r : Rat) : lenQ (q - r) ≤ lenQ q + lenQ r + 1 := by
  rw [Rat.sub_eq_add_neg]
  have := lenQ_add q (-r)
  rw [lenQ_neg] at this
  exact this
end Go.Proofs.YtdcjibjldfjllaaGreat

/- barcode.Clip at any length. -/
namespace Go.Proofs.YtdcjibjldfjllaaGreat
open Go.RowKit

theorem ChgOk.two {w0 : World} {f : Value} {φ : Chg} (h : ChgOk w0 f φ) (hk : ∀ b, okBar b → okV (byt (φ b).1.x) = true ∧ okE (byt (φ b).1.y) = true) : ChgOk2 w0 f φ okBar okBar := by
  obtain ⟨k, caps, hf, he, hc⟩ := h
  refine ⟨k, caps, hf, he, fun w g b hp hg hb hfz hok => ?_⟩
  refine (hc w g b hp hg hb hfz hok.1).mono fun e w' ⟨h1, h2, h3, h4, h5⟩ => ⟨h1, h2, h3, fun _ => ⟨h4, hk b hok⟩, h5⟩
end Go.Proofs.YtdcjibjldfjllaaGreat

/- Changes of bars of numbers: what they answer, ends up to 1000. -/
namespace Go.Proofs.YtdcjibjldfjllaaGreat
open Go.RowKit

theorem enc_ltM {a b : VB} (ha : a.okM) (hb : b.okM) : ltB a.enc b.enc = ltV a b := by
  unfold ltB ltV
  apply decide_eq_decide.2
  have e1 : cmpB a.enc b.enc = orI (cmpZ a.d b.d) (orI (cmpE (some a.q) (some b.q)) (cmpE a.e b.e)) := by
    unfold cmpB
    show orI (cmpZ a.d b.d) (orI (cmpT (byt (tE (some a.q))) (byt (tE (some b.q)))) (cmpT (byt (tE a.e)) (byt (tE b.e)))) = _
    rw [cmpT_enc ha.2.2.1 hb.2.2.1, cmpT_enc ha.2.2.2 hb.2.2.2]
  rw [e1]
  unfold cmpV orI
  have hz := cmpZ_sign a.d b.d
  by_cases hd : a.d = b.d
  · rw [if_pos (hz.2.2 hd), if_neg (show ¬ a.d ≠ b.d by simp [hd])]
    by_cases hq : cmpE (some a.q) (some b.q) = 0
    · rw [if_pos hq, if_neg (show ¬ cmpE (some a.q) (some b.q) ≠ 0 by simp [hq])]
    · rw [if_neg hq, if_pos (show cmpE (some a.q) (some b.q) ≠ 0 from hq)]
  · rw [if_neg (fun h => hd (hz.2.1 h)), if_pos hd, hz.1]
    omega
theorem isort_encM {l : List VB} (h : ∀ v ∈ l, v.okM) : isort ltB (l.map VB.enc) = (isort ltV l).map VB.enc :=
  isort_map_on VB.okM (fun a b ha hb => enc_ltM ha hb) l h
theorem live_encM {v : VB} (h : v.okM) : decide (cmpT (byt v.enc.x) (byt v.enc.y) < 0) = live v := by
  show decide (cmpT (byt (tE (some v.q))) (byt (tE v.e)) < 0) = _
  rw [cmpT_enc h.2.2.1 h.2.2.2]; rfl
theorem filter_liveM : ∀ {l : List VB}, (∀ v ∈ l, v.okM) → (l.map VB.enc).filter (fun b => decide (cmpT (byt b.x) (byt b.y) < 0)) = (l.filter live).map VB.enc
  | [], _ => rfl
  | v :: l, h => by
    rw [List.map_cons, List.filter_cons, live_encM (h v (by simp)), filter_liveM fun u hu => h u (by simp [hu]), List.filter_cons]
    split <;> rfl
/-- What is sorted behind a change. -/
theorem sort_encM {l : List VB} (h : ∀ v ∈ l, v.okM) : isort ltB ((l.map VB.enc).filter (fun b => decide (cmpT (byt b.x) (byt b.y) < 0))) = (sortV l).map VB.enc := by
  rw [filter_liveM h, isort_encM fun v hv => h v (List.mem_filter.1 hv).1]
  rfl
/-- Bars in order stay as they are. -/
theorem sortV_id {l : List VB} (h : ∀ v ∈ l, live v = true) (ha : Asc ltV l) : sortV l = l := by
  unfold sortV
  rw [List.filter_eq_self.2 h, isort_of_ord ha]

/-- Bars that pass the check: their numbers, in order. -/
theorem chk_asc : ∀ (l : List Bar) (p : Option Bar), chkFrom p l = 0 → (∀ a, p = some a → validB a = true) → Asc ltV (l.map decB) ∧ ∀ a, p = some a → ∀ b ∈ l, ltV (decB b) (decB a) = false
  | [], p, _, _ => ⟨List.Pairwise.nil, fun a _ b hb => by cases hb⟩
  | x :: l, p, h, hp => by
    unfold chkFrom at h
    split at h
    · cases h
    · rename_i h1
      split at h
      · cases h
      · rename_i h2
        have hx : validB x = true := by
          cases hv : validB x with
          | true => rfl
          | false => exact absurd (Or.inl hv) h1
        obtain ⟨i1, i2⟩ := chk_asc l (some x) h (fun a ha => by injection ha with ha; rw [← ha]; exact hx)
        refine ⟨?_, fun a ha b hb => ?_⟩
        · show List.Pairwise _ (decB x :: l.map decB)
          refine List.Pairwise.cons (fun y hy => ?_) i1
          obtain ⟨b, hb, rfl⟩ := List.mem_map.1 hy
          exact i2 x rfl b hb
        · subst ha
          have hxa : ltV (decB x) (decB a) = false := by
            rw [← dec_lt hx (hp a rfl)]
            cases hh : ltB x a with
            | false => rfl
            | true => exact absurd hh h2
          rcases List.mem_cons.1 hb with rfl | hb
          · exact hxa
          · exact cmpV_trans _ _ _ hxa (i2 x rfl b hb)

theorem dec_live {b : Bar} (hv : validB b = true) (hs : sameEnds b = false) (hf : b.x.size ≤ 1000000 ∧ b.y.size ≤ 1000000) : live (decB b) = true := by
  have hd := (decB_ok hv hf).1
  have hle : cmpT (byt b.x) (byt b.y) ≤ 0 := by
    unfold validB at hv
    simp only [Bool.and_eq_true, decide_eq_true_eq] at hv
    exact hv.2
  rw [← live_dec hv, decide_eq_true_eq]
  have hne : cmpT (byt b.x) (byt b.y) ≠ 0 := by
    intro h0
    obtain ⟨⟨h1, h2⟩, h3⟩ := valid_ends hv
    have e : cmpT (byt b.x) (byt b.y) = cmpE (eV (byt b.x)) (eV (byt b.y)) := by
      unfold cmpT
      rw [h1, h2]; rfl
    rw [e] at h0
    have h5 := cmpE_eq.1 h0
    have e1 := (tE_of_ok h1).1
    have e2 := (tE_of_ok h2).1
    have : b.x = b.y := by rw [e1, e2, h5]
    unfold sameEnds at hs
    rw [this] at hs
    simp at hs
  omega

/-- Bars that pass the check, with short texts, as numbers. -/
theorem chk_all {bs : List Bar} (h : checkB bs = 0) (hf : ∀ b ∈ bs, b.x.size ≤ 201 ∧ b.y.size ≤ 201) :
    (bs.map decB).map VB.enc = bs ∧ (∀ v ∈ bs.map decB, (0 ≤ v.d ∧ v.d ≤ 4 ∧ tlE (some v.q) ≤ 202 ∧ tlE v.e ≤ 202) ∧ live v = true) ∧ Asc ltV (bs.map decB) := by
  obtain ⟨_, hc⟩ := checkB_ok h
  have hv := chkFrom_valid hc
  have hf2 : ∀ b ∈ bs, b.x.size ≤ 1000000 ∧ b.y.size ≤ 1000000 := fun b hb => by have := hf b hb; omega
  refine ⟨enc_dec (fun b hb => (hv b hb).1) hf2, fun v h' => ?_, (chk_asc bs none hc (fun a ha => by cases ha)).1⟩
  obtain ⟨b, hb, rfl⟩ := List.mem_map.1 h'
  obtain ⟨h1, h2⟩ := hv b hb
  have hd := validB_dim h1
  obtain ⟨⟨k1, k2⟩, k3⟩ := valid_ends h1
  have l1 := (tE_of_ok k1).2
  have l2 := (tE_of_ok k2).2
  rw [k3] at l1
  have := hf b hb
  exact ⟨⟨hd.1, hd.2, Nat.le_trans l1 (by omega), Nat.le_trans l2 (by omega)⟩, dec_live h1 h2 (hf2 b hb)⟩

end Go.Proofs.YtdcjibjldfjllaaGreat

/- What the law of the changes compares, at a list of bars. -/
namespace Go.Proofs.YtdcjibjldfjllaaGreat
open Go.RowKit

theorem okV_num {s : ByteArray} (h : okV (byt s) = true) : s = tE (some (valR (byt s))) ∧ tlQ (valR (byt s)) ≤ s.size + 1 := by
  have o : okE (byt s) = true := by unfold okE; rw [h]; simp
  obtain ⟨e, l⟩ := tE_of_ok o
  have hi : eV (byt s) = some (valR (byt s)) := by
    unfold eV
    have : isInf (byt s) = false := by
      cases hi : isInf (byt s) with
      | false => rfl
      | true =>
        have e := (isInf_iff _).1 hi
        rw [e] at h
        exact absurd h (by decide)
    rw [this]; rfl
  rw [hi] at e l
  exact ⟨e, l⟩

section
variable {A B : Option Addr} {n c m d : Nat} {bs ks : List Bar} {s t : ByteArray} {w : World}

end

end Go.Proofs.YtdcjibjldfjllaaGreat
