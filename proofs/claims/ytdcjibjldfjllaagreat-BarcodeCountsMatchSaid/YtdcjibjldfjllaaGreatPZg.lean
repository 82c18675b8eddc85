/- What the law of the counts compares, at a list of bars. -/
import Derived.Test.YtdcjibjldfjllaaGreatPGyi
import Derived.Test.YtdcjibjldfjllaaGreatPCt1
import Derived.Test.YtdcjibjldfjllaaGreatPZb
import Derived.Test.YtdcjibjldfjllaaGreatPZf
import Derived.Test.YtdcjibjldfjllaaGreatPGxh
set_option linter.unusedVariables false
set_option linter.unusedSimpArgs false
namespace Go.Proofs.YtdcjibjldfjllaaGreat
open Go.RowKit

section
variable {bs : List Bar} {d : Int} {s t : ByteArray}

theorem dim_bad (h : checkB bs ≠ 0) : dimB bs d = ([], checkB bs) := by unfold dimB; rw [if_pos h]
theorem dim_arg (h : checkB bs = 0) (hd : d < 0 ∨ 4 < d) : dimB bs d = ([], 1) := by unfold dimB; rw [h, if_neg (by simp), if_pos hd]
theorem rank_err (h : (dimB bs d).2 ≠ 0) : rankB bs d s t = (0, (dimB bs d).2) := by unfold rankB; rw [if_pos h]
theorem total_err (h : (dimB bs d).2 ≠ 0) : totalB bs d = (⟨#[]⟩, (dimB bs d).2) := by unfold totalB; rw [if_pos h]

/-- The bars of a dimension. -/
def ofD (vs : List VB) (d : Int) : List VB := vs.filter fun v => v.d == d
theorem dim_encC (h : checkB bs = 0) (hf : ∀ b ∈ bs, b.x.size ≤ 201 ∧ b.y.size ≤ 201) (hd : 0 ≤ d ∧ d ≤ 4) : dimB bs d = ((ofD (bs.map decB) d).map VB.enc, 0) := by
  obtain ⟨e1, k1, k2⟩ := chk_all h hf
  obtain ⟨l, hl⟩ : ∃ l, bs.map decB = l := ⟨_, rfl⟩
  rw [hl] at e1 k1 k2 ⊢
  unfold dimB
  rw [h, if_neg (by simp), if_neg (by omega)]
  subst e1
  rw [chgAll_pure (fun b => b) (fun b => b.d == d) _ _ (fun b hb => by
    show (if (0 : Int) ≠ 0 then (b, false, 0) else if (b.d == d) = false then (b, false, 0) else (b, true, 0)) = (b, (b.d == d), (0 : Int))
    rw [if_neg (by simp)]
    by_cases hl : (b.d == d) = false
    · rw [if_pos hl, hl]
    · rw [if_neg hl]
      have hl2 : (b.d == d) = true := by simpa using hl
      rw [hl2]), List.map_id', List.nil_append]
  have hM : ∀ v ∈ l, v.okM := fun v hv' => by
    have hk := (k1 v hv').1
    exact ⟨hk.1, hk.2.1, Nat.le_trans hk.2.2.1 (by decide), Nat.le_trans hk.2.2.2 (by decide)⟩
  have e2 : (l.map VB.enc).filter (fun b => b.d == d) = (ofD l d).map VB.enc := by
    rw [List.filter_map]; rfl
  rw [e2, sort_encM, sortV_id]
  · intro v h'; exact (k1 v (List.mem_filter.1 h').1).2
  · exact k2.sublist List.filter_sublist
  · intro v h'; exact hM v (List.mem_filter.1 h').1

theorem cov_eq {v : VB} (hv : v.okM) {p q : Rat} (hp : tlQ p ≤ 1000) (hq : tlQ q ≤ 1000) (hpq : cmpE (some p) (some q) ≤ 0) : covB (tE (some p)) (tE (some q)) v.enc = (covV p v && covV q v) := by
  unfold covB covV
  show (decide (cmpT (byt (tE (some v.q))) (byt (tE (some p))) ≤ 0) && decide (cmpT (byt (tE (some q))) (byt (tE v.e)) < 0)) = _
  rw [cmpT_enc (f := some p) hv.2.2.1 hp, cmpT_enc (e := some q) hq hv.2.2.2]
  by_cases h1 : cmpE (some v.q) (some p) ≤ 0
  · by_cases h2 : cmpE (some q) v.e < 0
    · have h3 : cmpE (some p) v.e < 0 := cmpE_le_ltC hpq h2
      have h4 : cmpE (some v.q) (some q) ≤ 0 := cmpE_trans h1 hpq
      rw [decide_eq_true h1, decide_eq_true h2, decide_eq_true h3, decide_eq_true h4]; rfl
    · rw [decide_eq_false h2]; simp
  · rw [decide_eq_false h1]; simp
theorem count_eq {vs : List VB} (hv : ∀ v ∈ vs, v.okM) {p q : Rat} (hp : tlQ p ≤ 1000) (hq : tlQ q ≤ 1000) (hpq : cmpE (some p) (some q) ≤ 0) :
    ((ofD vs d).map VB.enc).countP (covB (tE (some p)) (tE (some q))) = vs.countP (rankV d p q) := by
  unfold ofD
  rw [List.countP_map, List.countP_filter]
  apply List.countP_congr
  intro v hv'
  show ((covB (tE (some p)) (tE (some q)) v.enc && (v.d == d)) = true) ↔ (rankV d p q v) = true
  rw [cov_eq (hv v hv') hp hq hpq]
  unfold rankV
  rw [Bool.and_comm]
theorem covN_rnk {vs : List VB} (hv : ∀ v ∈ vs, v.okM) {r : Rat} (hr : tlQ r ≤ 1000) : covN (ofD vs d) (some r) = rnkN vs d (some r) := by
  unfold covN rnkN
  rw [count_eq hv hr hr (by rw [cmpE_self]; exact Int.le_refl _)]

/-- Bars that pass the check: what is known of their numbers. -/
theorem dec_okM (h : checkB bs = 0) (hf : ∀ b ∈ bs, b.x.size ≤ 201 ∧ b.y.size ≤ 201) : ∀ v ∈ bs.map decB, v.okM ∧ tlE (some v.q) ≤ 202 ∧ tlE v.e ≤ 202 := fun v hv' => by
  have hk := ((chk_all h hf).2.1 v hv').1
  exact ⟨⟨hk.1, hk.2.1, Nat.le_trans hk.2.2.1 (by decide), Nat.le_trans hk.2.2.2 (by decide)⟩, hk.2.2⟩

theorem rank_no (h : (dimB bs d).2 = 0) (hv : okV (byt s) = false ∨ okV (byt t) = false ∨ 0 < cmpT (byt s) (byt t)) : rankB bs d s t = (0, 1) := by
  unfold rankB
  rw [h, if_neg (by simp), if_pos hv]
theorem rank_yes (h : checkB bs = 0) (hf : ∀ b ∈ bs, b.x.size ≤ 201 ∧ b.y.size ≤ 201) (hd : 0 ≤ d ∧ d ≤ 4) (hs : s.size ≤ 200) (ht : t.size ≤ 200) (h1 : okV (byt s) = true) (h2 : okV (byt t) = true) (h3 : ¬ 0 < cmpT (byt s) (byt t)) :
    rankB bs d s t = ((((bs.map decB).countP (rankV d (valR (byt s)) (valR (byt t))) : Nat) : Int), 0) := by
  have hD := dim_encC h hf hd
  unfold rankB
  rw [hD, if_neg (by simp), if_neg (by rintro (h' | h' | h'); exact absurd (h1.symm.trans h') (by simp); exact absurd (h2.symm.trans h') (by simp); exact h3 h')]
  obtain ⟨e1, l1⟩ := okV_num h1
  obtain ⟨e2, l2⟩ := okV_num h2
  have l1' : tlQ (valR (byt s)) ≤ 1000 := Nat.le_trans l1 (by omega)
  have l2' : tlQ (valR (byt t)) ≤ 1000 := Nat.le_trans l2 (by omega)
  have hc : cmpT (byt s) (byt t) = cmpE (some (valR (byt s))) (some (valR (byt t))) := by
    conv => lhs; rw [e1, e2]
    exact cmpT_enc (e := some (valR (byt s))) (f := some (valR (byt t))) l1' l2'
  have h4 := count_eq (vs := bs.map decB) (d := d) (fun v hv => (dec_okM h hf v hv).1) l1' l2' (by omega)
  rw [← e1, ← e2] at h4
  show (((((ofD (bs.map decB) d).map VB.enc).countP (covB s t) : Nat) : Int), (0 : Int)) = _
  rw [h4]

theorem total_ok (h : checkB bs = 0) (hf : ∀ b ∈ bs, b.x.size ≤ 201 ∧ b.y.size ≤ 201) (hd : 0 ≤ d ∧ d ≤ 4) :
    totalB bs d = if longQ (totV (ofD (bs.map decB) d)) = true then (⟨#[]⟩, 3) else (tE (some (totV (ofD (bs.map decB) d))), 0) := by
  unfold totalB
  rw [dim_encC h hf hd, if_neg (by simp)]
  show (if longQ (sumB ((ofD (bs.map decB) d).map VB.enc)) = true then _ else (txt (rtx (sumB ((ofD (bs.map decB) d).map VB.enc))), (0 : Int))) = _
  rw [sumB_enc]
  rfl

theorem sum_bd : ∀ (l : List Bar) (K : Nat) (q : Rat), (∀ b ∈ l, b.x.size ≤ 201 ∧ b.y.size ≤ 201) → lenQ q ≤ K → lenQ (l.foldl sumStep q) ≤ K + 406 * l.length
  | [], K, q, _, h => by simpa using h
  | b :: l, K, q, hf, h => by
    rw [List.foldl_cons, List.length_cons]
    have hb := hf b (by simp)
    have h1 : lenQ (sumStep q b) ≤ K + 406 := by
      unfold sumStep
      split
      · omega
      · have a1 := lenQ_sub (q + valR (byt b.y)) (valR (byt b.x))
        have a2 := lenQ_add q (valR (byt b.y))
        have a3 := lenQ_valR (byt b.y)
        have a4 := lenQ_valR (byt b.x)
        rw [byt_length] at a3 a4
        omega
    have h2 := sum_bd l (K + 406) (sumStep q b) (fun b hb => hf b (by simp [hb])) h1
    omega
theorem lenQ_zero : lenQ 0 ≤ 1 := by decide +kernel
theorem sum_bd2 {l : List Bar} (hf : ∀ b ∈ l, b.x.size ≤ 201 ∧ b.y.size ≤ 201) (hn : l.length ≤ 1000) : (∀ i, i ≤ l.length → lenQ (sumB (l.take i)) < 8589934592) ∧ ∀ i (h : i < l.length), lenQ (sumB (l.take i) + valR (byt (l[i]).y)) < 8589934592 := by
  have h1 : ∀ i, i ≤ l.length → lenQ (sumB (l.take i)) ≤ 1 + 406 * 1000 := fun i hi => by
    have h2 := sum_bd (l.take i) 1 0 (fun b hb => hf b (List.mem_of_mem_take hb)) lenQ_zero
    rw [List.length_take] at h2
    unfold sumB
    exact Nat.le_trans h2 (by omega)
  refine ⟨fun i hi => by have := h1 i hi; omega, fun i hi => ?_⟩
  have h2 := h1 i (by omega)
  have h3 := lenQ_add (sumB (l.take i)) (valR (byt (l[i]).y))
  have h4 := lenQ_valR (byt (l[i]).y)
  rw [byt_length] at h4
  have := (hf l[i] (List.getElem_mem hi)).2
  omega
theorem dim_sizes (hf : ∀ b ∈ bs, b.x.size ≤ 201 ∧ b.y.size ≤ 201) (hn : bs.length ≤ 40) : (∀ b ∈ (dimB bs d).1, b.x.size ≤ 201 ∧ b.y.size ≤ 201) ∧ (dimB bs d).1.length ≤ 1000 := by
  by_cases h : checkB bs = 0
  · by_cases hd : 0 ≤ d ∧ d ≤ 4
    · rw [dim_encC h hf hd]
      refine ⟨fun b hb => ?_, ?_⟩
      · obtain ⟨v, hv, rfl⟩ := List.mem_map.1 hb
        have hv' := (List.mem_filter.1 hv).1
        refine hf _ ?_
        rw [← (chk_all h hf).1]
        exact List.mem_map_of_mem hv'
      · rw [List.length_map]
        have h1 : (ofD (bs.map decB) d).length ≤ (bs.map decB).length := List.length_filter_le ..
        rw [List.length_map] at h1
        show (ofD (bs.map decB) d).length ≤ 1000
        omega
    · rw [dim_arg h (by omega)]
      exact ⟨fun b hb => (by cases hb), by simp⟩
  · rw [dim_bad h]
    exact ⟨fun b hb => (by cases hb), by simp⟩

/-- The bars of a dimension, whatever they are, as numbers. -/
theorem dim_vs (hf : ∀ b ∈ bs, b.x.size ≤ 201 ∧ b.y.size ≤ 201) (hn : bs.length ≤ 40) : ∃ us : List VB, (dimB bs d).1 = us.map VB.enc ∧ us.length ≤ 1000 ∧ (∀ v ∈ us, tlE (some v.q) ≤ 1000 ∧ tlE v.e ≤ 1000) ∧ ((dimB bs d).2 ≠ 0 → us = []) ∧ (checkB bs = 0 → 0 ≤ d ∧ d ≤ 4 → us = ofD (bs.map decB) d) := by
  by_cases h : checkB bs = 0
  · by_cases hd : 0 ≤ d ∧ d ≤ 4
    · refine ⟨ofD (bs.map decB) d, by rw [dim_encC h hf hd], ?_, fun v hv => ?_, fun he => absurd (by rw [dim_encC h hf hd]) he, fun _ _ => rfl⟩
      · have h1 : (ofD (bs.map decB) d).length ≤ (bs.map decB).length := List.length_filter_le ..
        rw [List.length_map] at h1
        omega
      · have hk := (dec_okM h hf v (List.mem_filter.1 hv).1).1
        exact hk.2.2
    · refine ⟨[], by rw [dim_arg h (by omega)]; rfl, by simp, fun v hv => (by cases hv), fun _ => rfl, fun _ h' => absurd h' hd⟩
  · refine ⟨[], by rw [dim_bad h]; rfl, by simp, fun v hv => (by cases hv), fun _ => rfl, fun h' => absurd h' h⟩
end

end Go.Proofs.YtdcjibjldfjllaaGreat

namespace Go.Proofs.YtdcjibjldfjllaaGreat
open Go.RowKit

theorem step_tl (K : Nat) (acc : Rat) (v : VB) (h : tlQ acc ≤ K) (hv : tlE (some v.q) ≤ 202 ∧ tlE v.e ≤ 202) : tlQ (stepV acc v) ≤ K + 409 := by
  cases hve : v.e with
  | none =>
    have : stepV acc v = acc := by unfold stepV; rw [hve]
    rw [this]; omega
  | some r =>
    rw [stepV_eq acc v r hve]
    rw [hve] at hv
    have h1 := tlQ_sub (a := r) (b := v.q) (k := 202) (m := 202) hv.2 hv.1
    have h2 := add_tl (a := acc) (q := r - v.q) h h1
    exact Nat.le_trans h2 (by omega)
theorem tot_tl : ∀ (l : List VB) (K : Nat) (acc : Rat), (∀ v ∈ l, tlE (some v.q) ≤ 202 ∧ tlE v.e ≤ 202) → tlQ acc ≤ K → tlQ (l.foldl stepV acc) ≤ K + 409 * l.length
  | [], K, acc, _, h => by simpa using h
  | v :: l, K, acc, hv, h => by
    rw [List.foldl_cons, List.length_cons]
    have h1 := step_tl K acc v h (hv v (by simp))
    have h2 := tot_tl l (K + 409) (stepV acc v) (fun u hu => hv u (by simp [hu])) h1
    omega

section
variable {A : Option Addr} {n c : Nat} {bs : List Bar} {d : Int} {s t : ByteArray} {w : World}

theorem cmpT_self (h : okV (byt s) = true) (hs : s.size ≤ 200) : cmpT (byt s) (byt s) = 0 := by
  obtain ⟨e1, l1⟩ := okV_num h
  rw [e1]
  have := cmpT_enc (e := some (valR (byt s))) (f := some (valR (byt s))) (Nat.le_trans l1 (by omega)) (Nat.le_trans l1 (by omega))
  rw [this, cmpE_self]

theorem rank_call (hx : Rows w rBar A n c bs) (h : checkB bs = 0) (hf : ∀ b ∈ bs, b.x.size ≤ 201 ∧ b.y.size ≤ 201) (hd : 0 ≤ d ∧ d ≤ 4) (hs : s.size ≤ 200) (ht : t.size ≤ 200) (hn : n ≤ 40) (h1 : okV (byt s) = true) (h2 : okV (byt t) = true) (h3 : ¬ 0 < cmpT (byt s) (byt t)) :
    (rankB bs d s t).2 = 0 ∧ Calls Tryz.prog 59 #[.slice A n c, .int .i64 d, .string s, .string t] w fun e w' => Past w w' ∧ e = .returned (.int .i64 (rankB bs d s t).1) := by
  obtain ⟨e1, l1⟩ := okV_num h1
  obtain ⟨e2, l2⟩ := okV_num h2
  rw [rank_yes h hf hd hs ht h1 h2 h3]
  refine ⟨rfl, ?_⟩
  have := ref_rank A n c (bs.map decB) d (valR (byt s)) (valR (byt t)) w (by rw [(chk_all h hf).1]; exact hx) (fun v hv => (dec_okM h hf v hv).1.L) (Nat.le_trans l1 (by omega)) (Nat.le_trans l2 (by omega)) (by omega)
  rw [← e1, ← e2] at this
  exact this

theorem curve_call (hx : Rows w rBar A n c bs) (h : checkB bs = 0) (hf : ∀ b ∈ bs, b.x.size ≤ 201 ∧ b.y.size ≤ 201) (hn : n ≤ 40) :
    Calls Tryz.prog 55 #[.slice A n c, .int .i64 d] w fun e w' => Past w w' ∧ ∃ A2 c2 A3 c3, e = .returned (.tuple #[.slice A2 (curL (ofD (bs.map decB) d)).length c2, .slice A3 (curL (ofD (bs.map decB) d)).length c3]) ∧
      Rows w' rTx A2 (curL (ofD (bs.map decB) d)).length c2 ((curL (ofD (bs.map decB) d)).map tE) ∧ RInts w' .i64 A3 (curL (ofD (bs.map decB) d)).length c3 ((curL (ofD (bs.map decB) d)).map (covN (ofD (bs.map decB) d))) := by
  refine (ref_curve A n c (bs.map decB) d w (by rw [(chk_all h hf).1]; exact hx) (fun v hv => (dec_okM h hf v hv).1) (by omega)).mono ?_
  rintro e w' ⟨hp, A2, c2, A3, c3, rfl, h2, h3⟩
  refine ⟨hp, A2, c2, A3, c3, rfl, h2, ?_⟩
  have e1 : (curL ((bs.map decB).filter fun v => v.d == d)).map (rnkN (bs.map decB) d) = (curL (ofD (bs.map decB) d)).map (covN (ofD (bs.map decB) d)) := by
    apply List.map_congr_left
    intro e he
    obtain ⟨r, rfl⟩ := endsL_some (curL_mem.1 he)
    have hr : tlE (some r) ≤ 1000 := endsL_ok (vs := ofD (bs.map decB) d) (fun v hv => (dec_okM h hf v (List.mem_filter.1 hv).1).1.2.2) _ (curL_mem.1 he)
    exact (covN_rnk (fun v hv => (dec_okM h hf v hv).1) hr).symm
  rw [e1] at h3
  exact h3

theorem total_call (hx : Rows w rBar A n c bs) (h : checkB bs = 0) (hf : ∀ b ∈ bs, b.x.size ≤ 201 ∧ b.y.size ≤ 201) (hn : n ≤ 40) :
    Calls Tryz.prog 56 #[.slice A n c, .int .i64 d] w fun e w' => Past w w' ∧ e = .returned (.string (tE (some (totV (ofD (bs.map decB) d))))) :=
  ref_total A n c (bs.map decB) d w (by rw [(chk_all h hf).1]; exact hx) (fun v hv => (dec_okM h hf v hv).2) (by omega)

theorem total_long (h : checkB bs = 0) (hf : ∀ b ∈ bs, b.x.size ≤ 201 ∧ b.y.size ≤ 201) (hn : bs.length ≤ 40) :
    Calls Tryz.prog 58 #[.string (tE (some (totV (ofD (bs.map decB) d))))] w fun e w' => Past w w' ∧ e = .returned (.bool (longQ (totV (ofD (bs.map decB) d)))) := by
  have h1 := tot_tl (ofD (bs.map decB) d) 2 0 (fun v hv => (dec_okM h hf v (List.mem_filter.1 hv).1).2) zero_tl2
  have h2 : (ofD (bs.map decB) d).length ≤ (bs.map decB).length := List.length_filter_le ..
  rw [List.length_map] at h2
  have h3 := tQ_size (totV (ofD (bs.map decB) d))
  have h4 : (tE (some (totV (ofD (bs.map decB) d)))).size ≤ 1000000000 := by
    show (tQ _).size ≤ _
    have h5 : tlQ (totV (ofD (bs.map decB) d)) ≤ 2 + 409 * (ofD (bs.map decB) d).length := h1
    omega
  have := ref_longT (tE (some (totV (ofD (bs.map decB) d)))) w h4
  rw [byt_tE] at this
  have e : longT (etx (some (totV (ofD (bs.map decB) d)))) = longQ (totV (ofD (bs.map decB) d)) := longT_rtx _
  rw [e] at this
  exact this

theorem dim_call (hx : Rows w rBar A n c bs) (h : checkB bs = 0) (hf : ∀ b ∈ bs, b.x.size ≤ 201 ∧ b.y.size ≤ 201) (hd : 0 ≤ d ∧ d ≤ 4) (hn : n ≤ 40) :
    Calls Tryz.prog 57 #[.slice A n c, .int .i64 d] w fun e w' => Past w w' ∧ ∃ v, e = .returned v ∧ OwnS w w' rBar 94 v (dimB bs d).1 := by
  rw [dim_encC h hf hd]
  exact ref_dim A n c (bs.map decB) d w (by rw [(chk_all h hf).1]; exact hx) (by omega)
end

end Go.Proofs.YtdcjibjldfjllaaGreat
