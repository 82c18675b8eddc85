/- Helpers of the proof, joined: Rat1 Rat2. -/
import Derived.Test.YtdcjibjldfjllaaGreatPGh
import Derived.Test.YtdcjibjldfjllaaGreatPGa
set_option linter.unusedVariables false
set_option linter.unusedSimpArgs false
/- ratio.read. -/
namespace Go.Proofs.YtdcjibjldfjllaaGreat
open Go.RowKit

theorem lenQ_valR (l : List Int) : lenQ (valR l) ≤ l.length + 1 := by
  have h1 : len 1 = 1 := len_one
  have h0 : len 0 = 0 := by unfold len; simp [dg_nil]
  have hb := bef_le 47 l
  have ha : (aft 47 l).length ≤ l.length := by unfold aft; rw [List.length_drop]; omega
  unfold valR
  by_cases h : okR l = true
  · rw [if_pos h]
    unfold ratV
    by_cases hm : (47 : Int) ∈ l
    · rw [if_pos hm]
      unfold okR at h
      rw [if_pos hm] at h
      simp only [Bool.and_eq_true, decide_eq_true_eq, beq_iff_eq] at h
      obtain ⟨⟨⟨⟨o1, o2⟩, _⟩, hp⟩, hg⟩ := h
      have e0 : (intV (aft 47 l)).toNat ≠ 0 := by omega
      have e1 : (intV (aft 47 l)).toNat = (intV (aft 47 l)).natAbs := by omega
      unfold lenQ
      rw [Rat.num_mkRat, Rat.den_mkRat, if_neg e0, if_neg e0, e1, Nat.gcd_comm, hg, Int.natCast_one, Int.ediv_one, Nat.div_one]
      have e2 : (((intV (aft 47 l)).natAbs : Nat) : Int) = intV (aft 47 l) := by omega
      rw [e2]
      have := len_intV o1
      have := len_intV o2
      omega
    · rw [if_neg hm]
      unfold okR at h
      rw [if_neg hm] at h
      unfold lenQ
      rw [Rat.num_intCast, Rat.den_intCast, Int.natCast_one, h1]
      have := len_intV h
      omega
  · rw [if_neg h]
    unfold lenQ
    rw [show (0 : Rat).num = 0 from rfl, show (0 : Rat).den = 1 from rfl, Int.natCast_one, h1, h0]
    omega

/-- Whether a text is a rational number of the document. -/
def okV (l : List Int) : Bool := okR l && !longQ (valR l)
def AnsQV (l : List Int) (w : World) (e : Ending) (w' : World) : Prop := ∃ v, e = .returned (.tuple #[v, .bool (okV l)]) ∧ AnsR (valR l) w (.returned v) w'

set_option maxRecDepth 100000 in
set_option maxHeartbeats 8000000 in
theorem ratio_read (s : ByteArray) (w : World) (hs : s.size ≤ 100000000) :
    Calls Tryz.prog 128 #[.string s] w (AnsQV (byt s) w) := by
  obtain ⟨l, hl⟩ : ∃ l, byt s = l := ⟨_, rfl⟩
  have HLEN : Hid (lenQ (valR l) < 8589934592) := by
    have h := lenQ_valR l
    rw [← hl] at h ⊢
    rw [byt_length] at h
    unfold Hid
    omega
  have HS := Lib.hid hs
  have HL := Lib.hid hl
  rw [hl]
  clear hs hl
  obtain ⟨q, hq⟩ : ∃ q, valR l = q := ⟨_, rfl⟩
  have HQ := Lib.hid hq
  rw [hq] at HLEN
  clear hq
  obtain ⟨wb, hwb⟩ : ∃ wb, (w.alloc (.cells #[.bool false, .slice none 0 0, .bool false, .slice none 0 0] 131)) = wb := ⟨_, rfl⟩
  have HB : Hid ((wb.cell? ⟨w.heap.size, 0, none⟩ = some (.bool false) ∧ wb.frozen? ⟨w.heap.size, 0, none⟩ = false) ∧ (wb.cell? ⟨w.heap.size, 1, none⟩ = some (.slice none 0 0) ∧ wb.frozen? ⟨w.heap.size, 1, none⟩ = false) ∧ (wb.cell? ⟨w.heap.size, 2, none⟩ = some (.bool false) ∧ wb.frozen? ⟨w.heap.size, 2, none⟩ = false) ∧ (wb.cell? ⟨w.heap.size, 3, none⟩ = some (.slice none 0 0) ∧ wb.frozen? ⟨w.heap.size, 3, none⟩ = false)) := by rw [← hwb]; simp [go_sem, Hid]
  have HPB : Hid (Past w wb) := by rw [← hwb]; exact (Past.refl _).alloc _
  have HWB := Lib.hid hwb
  clear hwb
  obtain ⟨o, ho⟩ : ∃ o, okR l = o := ⟨_, rfl⟩
  have HO := Lib.hid ho
  clear ho
  go_enter Tryz.func128, Tryz.ntmps128
  go_wp2_with fail
  rw [HWB.out]
  refine (num_readRat s _ HS.out).mono ?_
  rintro e w1 ⟨v, rfl, hp1, s1, A1, n1, c1, t1, B1, m1, d1, hv, hr1⟩
  injection hv with hv
  subst hv
  rw [HL.out, HO.out]
  rw [HL.out, HQ.out] at hr1
  have HR1 := Lib.hid hr1
  have HP1 := Lib.hid hp1
  clear hp1 hr1
  have hbs : w.heap.size < w1.heap.size := World.block_lt_of_cell? w1 _ (HP1.out.cell HB.out.1.1)
  cases o with
  | false =>
    have HNO : Hid (okV l = false) := by unfold okV; rw [HO.out]; rfl
    go_wp2_with fail
    obtain ⟨wc, hwc⟩ : ∃ wc, (w1.alloc (.cells #[.bool s1, .slice A1 n1 c1, .bool t1, .slice B1 m1 d1] 131)) = wc := ⟨_, rfl⟩
    have HC0 : Hid (wc.cell? ⟨w1.heap.size, 0, none⟩ = some (.bool s1) ∧ wc.cell? ⟨w1.heap.size, 1, none⟩ = some (.slice A1 n1 c1) ∧ wc.cell? ⟨w1.heap.size, 2, none⟩ = some (.bool t1) ∧ wc.cell? ⟨w1.heap.size, 3, none⟩ = some (.slice B1 m1 d1)) := by rw [← hwc]; simp [go_sem, Hid]
    have HPC : Hid (Past wb wc) := by rw [← hwc]; exact HP1.out.alloc _
    have HR2 : Hid (RQ wc s1 A1 n1 c1 t1 B1 m1 d1 q) := by rw [← hwc]; exact HR1.out.past ((Past.refl _).alloc _)
    rw [hwc]
    have HWC := Lib.hid hwc
    clear hwc
    obtain ⟨r0, g0⟩ := HPC.out.free HB.out.1.1 HB.out.1.2
    obtain ⟨r1, g1⟩ := HPC.out.free HB.out.2.1.1 HB.out.2.1.2
    obtain ⟨r2, g2⟩ := HPC.out.free HB.out.2.2.1.1 HB.out.2.2.1.2
    obtain ⟨r3, g3⟩ := HPC.out.free HB.out.2.2.2.1 HB.out.2.2.2.2
    have PD : Hid (Past wc wc.drew) := (Past.refl wc).drew
    refine wp_region_held_drew (S := (fun w' => w'.cell? ⟨w1.heap.size, 0, none⟩ = some (.bool s1) ∧ w'.cell? ⟨w1.heap.size, 1, none⟩ = some (.slice A1 n1 c1) ∧ w'.cell? ⟨w1.heap.size, 2, none⟩ = some (.bool t1) ∧ w'.cell? ⟨w1.heap.size, 3, none⟩ = some (.slice B1 m1 d1))) (by kernel_rfl) ?_ (fun hHeld => ?_)
    · try dsimp only
      (first | assumption | (refine keep4 PD ?_; exact HC0.out) | (refine keepst4r ?_ ?_ ?_ ?_ (by assumption) <;> (dsimp only; omega)))
    refine wpAnyH_take (i := 0) (v := ?_) rfl (by kernel_rfl) (by kernel_rfl) (by kernel_rfl) (fun _ _ _ h => h) (Or.inl ⟨by rfl, ?_⟩) (by assumption) ?_
    rotate_left
    · intro w hSw
      try dsimp only at hSw
      go_simp
      try with_reducible rfl
    try simp only [Act.put, List.getElem_toArray, List.getElem_cons_succ, List.getElem_cons_zero, List.setIfInBounds_toArray, List.set_cons_zero, List.set_cons_succ]
    refine wpAnyH_take (i := 1) (v := ?_) rfl (by kernel_rfl) (by kernel_rfl) (by kernel_rfl) (fun _ _ _ h => h) (Or.inl ⟨by rfl, ?_⟩) (by assumption) ?_
    rotate_left
    · intro w hSw
      try dsimp only at hSw
      go_simp
      try with_reducible rfl
    try simp only [Act.put, List.getElem_toArray, List.getElem_cons_succ, List.getElem_cons_zero, List.setIfInBounds_toArray, List.set_cons_zero, List.set_cons_succ]
    refine wpAnyH_take (i := 2) (v := ?_) rfl (by kernel_rfl) (by kernel_rfl) (by kernel_rfl) (fun _ _ _ h => h) (Or.inl ⟨by rfl, ?_⟩) (by assumption) ?_
    rotate_left
    · intro w hSw
      try dsimp only at hSw
      go_simp
      try with_reducible rfl
    try simp only [Act.put, List.getElem_toArray, List.getElem_cons_succ, List.getElem_cons_zero, List.setIfInBounds_toArray, List.set_cons_zero, List.set_cons_succ]
    refine wpAnyH_take (i := 3) (v := undef) rfl (by kernel_rfl) (by kernel_rfl) (by kernel_rfl) (fun _ _ _ h => h) (Or.inr ⟨by rfl, rfl⟩) (by assumption) ?_
    try simp only [Act.put, List.getElem_toArray, List.getElem_cons_succ, List.getElem_cons_zero, List.setIfInBounds_toArray, List.set_cons_zero, List.set_cons_succ]
    refine wpAnyH_take (i := 4) (v := undef) rfl (by kernel_rfl) (by kernel_rfl) (by kernel_rfl) (fun _ _ _ h => h) (Or.inr ⟨by rfl, rfl⟩) (by assumption) ?_
    try simp only [Act.put, List.getElem_toArray, List.getElem_cons_succ, List.getElem_cons_zero, List.setIfInBounds_toArray, List.set_cons_zero, List.set_cons_succ]
    refine wpAnyH_take (i := 5) (v := undef) rfl (by kernel_rfl) (by kernel_rfl) (by kernel_rfl) (fun _ _ _ h => h) (Or.inr ⟨by rfl, rfl⟩) (by assumption) ?_
    try simp only [Act.put, List.getElem_toArray, List.getElem_cons_succ, List.getElem_cons_zero, List.setIfInBounds_toArray, List.set_cons_zero, List.set_cons_succ]
    refine wpAnyH_take (i := 6) (v := ?_) rfl (by kernel_rfl) (by kernel_rfl) (by kernel_rfl) (fun _ _ _ h => h) (Or.inl ⟨by rfl, ?_⟩) (by assumption) ?_
    rotate_left
    · intro w hSw
      try dsimp only at hSw
      go_simp
      try with_reducible rfl
    try simp only [Act.put, List.getElem_toArray, List.getElem_cons_succ, List.getElem_cons_zero, List.setIfInBounds_toArray, List.set_cons_zero, List.set_cons_succ]
    refine wpAnyH_ready (rs := [7]) (by kernel_rfl) (by simp) ?_
    refine AllReadyH.cons rfl (fun K hK => ?_) AllReadyH.nil
    go_simp
    refine hK.out _ _ ?_ (fun hHeld => ?_)
    · try dsimp only
      (first | assumption | (refine keep4 PD ?_; exact HC0.out) | (refine keepst4r ?_ ?_ ?_ ?_ (by assumption) <;> (dsimp only; omega)))
    clear hK K
    try simp only [Act.put, List.getElem_toArray, List.getElem_cons_succ, List.getElem_cons_zero, List.setIfInBounds_toArray, List.set_cons_zero, List.set_cons_succ]
    refine wpAnyH_take (i := 8) (v := ?_) rfl (by kernel_rfl) (by kernel_rfl) (by kernel_rfl) (fun _ _ _ h => h) (Or.inl ⟨by rfl, ?_⟩) (by assumption) ?_
    rotate_left
    · intro w hSw
      try dsimp only at hSw
      go_simp
      try with_reducible rfl
    try simp only [Act.put, List.getElem_toArray, List.getElem_cons_succ, List.getElem_cons_zero, List.setIfInBounds_toArray, List.set_cons_zero, List.set_cons_succ]
    refine wpAnyH_done (by kernel_rfl) ?_ _
    all_goals (
      go_wp2
      refine bodyPost_ret (v := .tuple #[.agg #[.bool s1, .slice A1 n1 c1, .bool t1, .slice B1 m1 d1], .bool false]) (by simp [results, Tryz.results128, go_sem, r0, r1, r2, r3]) rfl ?_
      exact ⟨_, by rw [HNO.out], by rw [HQ.out]; exact AnsR.store (b := w.heap.size) (HR2.out.past PD.out) HPB.out (HPC.out.trans PD.out) (by omega) (by simp [r0]) (by simp [r1]) (by simp [r2]) (by simp [r3]) _ _ _ _⟩)
  | true =>
    have HNO : Hid (okV l = !longQ q) := by unfold okV; rw [HO.out, HQ.out]; rfl
    go_wp2_with fail
    obtain ⟨wc, hwc⟩ : ∃ wc, (w1.alloc (.cells #[.bool s1, .slice A1 n1 c1, .bool t1, .slice B1 m1 d1] 131)) = wc := ⟨_, rfl⟩
    have HC0 : Hid (wc.cell? ⟨w1.heap.size, 0, none⟩ = some (.bool s1) ∧ wc.cell? ⟨w1.heap.size, 1, none⟩ = some (.slice A1 n1 c1) ∧ wc.cell? ⟨w1.heap.size, 2, none⟩ = some (.bool t1) ∧ wc.cell? ⟨w1.heap.size, 3, none⟩ = some (.slice B1 m1 d1)) := by rw [← hwc]; simp [go_sem, Hid]
    have HPC : Hid (Past wb wc) := by rw [← hwc]; exact HP1.out.alloc _
    have HR2 : Hid (RQ wc s1 A1 n1 c1 t1 B1 m1 d1 q) := by rw [← hwc]; exact HR1.out.past ((Past.refl _).alloc _)
    rw [hwc]
    have HWC := Lib.hid hwc
    clear hwc
    have PD : Hid (Past wc wc.drew) := (Past.refl wc).drew
    refine wp_region_held_drew (S := (fun w' => w'.cell? ⟨w1.heap.size, 0, none⟩ = some (.bool s1) ∧ w'.cell? ⟨w1.heap.size, 1, none⟩ = some (.slice A1 n1 c1) ∧ w'.cell? ⟨w1.heap.size, 2, none⟩ = some (.bool t1) ∧ w'.cell? ⟨w1.heap.size, 3, none⟩ = some (.slice B1 m1 d1))) (by kernel_rfl) ?_ (fun hHeld => ?_)
    · try dsimp only
      (first | assumption | (refine keep4 hp2 ?_; assumption) | (refine keep4 PD ?_; exact HC0.out) | (refine keepst4r ?_ ?_ ?_ ?_ (by assumption) <;> (dsimp only; omega)))
    refine wpAnyH_take (i := 0) (v := ?_) rfl (by kernel_rfl) (by kernel_rfl) (by kernel_rfl) (fun _ _ _ h => h) (Or.inl ⟨by rfl, ?_⟩) (by assumption) ?_
    rotate_left
    · intro w hSw
      try dsimp only at hSw
      go_simp
      try with_reducible rfl
    try simp only [Act.put, List.getElem_toArray, List.getElem_cons_succ, List.getElem_cons_zero, List.setIfInBounds_toArray, List.set_cons_zero, List.set_cons_succ]
    refine wpAnyH_take (i := 1) (v := ?_) rfl (by kernel_rfl) (by kernel_rfl) (by kernel_rfl) (fun _ _ _ h => h) (Or.inl ⟨by rfl, ?_⟩) (by assumption) ?_
    rotate_left
    · intro w hSw
      try dsimp only at hSw
      go_simp
      try with_reducible rfl
    try simp only [Act.put, List.getElem_toArray, List.getElem_cons_succ, List.getElem_cons_zero, List.setIfInBounds_toArray, List.set_cons_zero, List.set_cons_succ]
    refine wpAnyH_take (i := 2) (v := ?_) rfl (by kernel_rfl) (by kernel_rfl) (by kernel_rfl) (fun _ _ _ h => h) (Or.inl ⟨by rfl, ?_⟩) (by assumption) ?_
    rotate_left
    · intro w hSw
      try dsimp only at hSw
      go_simp
      try with_reducible rfl
    try simp only [Act.put, List.getElem_toArray, List.getElem_cons_succ, List.getElem_cons_zero, List.setIfInBounds_toArray, List.set_cons_zero, List.set_cons_succ]
    refine wpAnyH_take (i := 3) (v := ?_) rfl (by kernel_rfl) (by kernel_rfl) (by kernel_rfl) (fun _ _ _ h => h) (Or.inl ⟨by rfl, ?_⟩) (by assumption) ?_
    rotate_left
    · intro w hSw
      try dsimp only at hSw
      go_simp
      try with_reducible rfl
    try simp only [Act.put, List.getElem_toArray, List.getElem_cons_succ, List.getElem_cons_zero, List.setIfInBounds_toArray, List.set_cons_zero, List.set_cons_succ]
    refine wpAnyH_ready (rs := [4]) (by kernel_rfl) (by simp) ?_
    refine AllReadyH.cons rfl (fun K hK => ?_) AllReadyH.nil
    go_simp
    (go_at_call 97; ((with_reducible refine (ratio_long _ _ _ _ _ _ _ _ q _ (HR2.out.past PD.out) HLEN.out).mono ?_)); rintro e w2 ⟨hp2, rfl⟩; obtain ⟨r0, g0⟩ := ((HPC.out.trans PD.out).trans hp2).free HB.out.1.1 HB.out.1.2; obtain ⟨r1, g1⟩ := ((HPC.out.trans PD.out).trans hp2).free HB.out.2.1.1 HB.out.2.1.2; obtain ⟨r2, g2⟩ := ((HPC.out.trans PD.out).trans hp2).free HB.out.2.2.1.1 HB.out.2.2.1.2; obtain ⟨r3, g3⟩ := ((HPC.out.trans PD.out).trans hp2).free HB.out.2.2.2.1 HB.out.2.2.2.2)
    refine hK.out _ _ ?_ (fun hHeld => ?_)
    · try dsimp only
      (first | assumption | (refine keep4 hp2 ?_; assumption) | (refine keep4 PD ?_; exact HC0.out) | (refine keepst4r ?_ ?_ ?_ ?_ (by assumption) <;> (dsimp only; omega)))
    clear hK K
    try simp only [Act.put, List.getElem_toArray, List.getElem_cons_succ, List.getElem_cons_zero, List.setIfInBounds_toArray, List.set_cons_zero, List.set_cons_succ]
    refine wpAnyH_take (i := 5) (v := ?_) rfl (by kernel_rfl) (by kernel_rfl) (by kernel_rfl) (fun _ _ _ h => h) (Or.inl ⟨by rfl, ?_⟩) (by assumption) ?_
    rotate_left
    · intro w hSw
      try dsimp only at hSw
      go_simp
      try with_reducible rfl
    try simp only [Act.put, List.getElem_toArray, List.getElem_cons_succ, List.getElem_cons_zero, List.setIfInBounds_toArray, List.set_cons_zero, List.set_cons_succ]
    refine wpAnyH_take (i := 6) (v := ?_) rfl (by kernel_rfl) (by kernel_rfl) (by kernel_rfl) (fun _ _ _ h => h) (Or.inl ⟨by rfl, ?_⟩) (by assumption) ?_
    rotate_left
    · intro w hSw
      try dsimp only at hSw
      go_simp
      try with_reducible rfl
    try simp only [Act.put, List.getElem_toArray, List.getElem_cons_succ, List.getElem_cons_zero, List.setIfInBounds_toArray, List.set_cons_zero, List.set_cons_succ]
    refine wpAnyH_ready (rs := [7]) (by kernel_rfl) (by simp) ?_
    refine AllReadyH.cons rfl (fun K hK => ?_) AllReadyH.nil
    go_simp
    refine hK.out _ _ ?_ (fun hHeld => ?_)
    · try dsimp only
      (first | assumption | (refine keep4 hp2 ?_; assumption) | (refine keep4 PD ?_; exact HC0.out) | (refine keepst4r ?_ ?_ ?_ ?_ (by assumption) <;> (dsimp only; omega)))
    clear hK K
    try simp only [Act.put, List.getElem_toArray, List.getElem_cons_succ, List.getElem_cons_zero, List.setIfInBounds_toArray, List.set_cons_zero, List.set_cons_succ]
    refine wpAnyH_take (i := 8) (v := ?_) rfl (by kernel_rfl) (by kernel_rfl) (by kernel_rfl) (fun _ _ _ h => h) (Or.inl ⟨by rfl, ?_⟩) (by assumption) ?_
    rotate_left
    · intro w hSw
      try dsimp only at hSw
      go_simp
      try with_reducible rfl
    try simp only [Act.put, List.getElem_toArray, List.getElem_cons_succ, List.getElem_cons_zero, List.setIfInBounds_toArray, List.set_cons_zero, List.set_cons_succ]
    refine wpAnyH_done (by kernel_rfl) ?_ _
    all_goals (
      go_wp2
      refine bodyPost_ret (v := .tuple #[.agg #[.bool s1, .slice A1 n1 c1, .bool t1, .slice B1 m1 d1], .bool (!longQ q)]) (by simp [results, Tryz.results128, go_sem, r0, r1, r2, r3]) rfl ?_
      exact ⟨_, by rw [HNO.out], by rw [HQ.out]; exact AnsR.store (b := w.heap.size) ((HR2.out.past PD.out).past hp2) HPB.out ((HPC.out.trans PD.out).trans hp2) (by omega) (by simp [r0]) (by simp [r1]) (by simp [r2]) (by simp [r3]) _ _ _ _⟩)

end Go.Proofs.YtdcjibjldfjllaaGreat

/- ratio.Valid, End. -/
namespace Go.Proofs.YtdcjibjldfjllaaGreat
open Go.RowKit

set_option maxRecDepth 100000 in
set_option maxHeartbeats 2000000 in
theorem ratio_valid (s : ByteArray) (w : World) (hs : s.size ≤ 100000000) :
    Calls Tryz.prog 72 #[.string s] w fun e w' => Past w w' ∧ e = .returned (.bool (okV (byt s))) := by
  have HS := Lib.hid hs
  clear hs
  go_enter Tryz.func72, Tryz.ntmps72
  go_wp2_with fail
  refine (ratio_read s _ HS.out).mono ?_
  rintro e w1 ⟨v, rfl, hp1, s1, A1, n1, c1, t1, B1, m1, d1, hv, hr1⟩
  injection hv with hv
  subst hv
  go_wp2
  go_ret
  exact ⟨hp1.alloc _, rfl⟩

/-- Whether a text is infinity; whether it is an end. -/
def isInf (l : List Int) : Bool := decide (l = [105, 110, 102])
def okE (l : List Int) : Bool := isInf l || okV l
theorem toList_inj {s t : ByteArray} (h : s.toList = t.toList) : s = t := by
  rw [Lib.toList_data, Lib.toList_data] at h
  cases s; cases t
  simp only at h
  rw [Array.toList_inj.1 h]
theorem inf_eq (s : ByteArray) : (s.toList == [105, 110, 102]) = isInf (byt s) := by
  unfold isInf
  rw [show (s.toList == [105, 110, 102]) = decide (s.toList = [105, 110, 102]) from by rw [Bool.eq_iff_iff]; simp]
  refine decide_eq_decide.2 ⟨fun h => by rw [byt_of_toList, h]; rfl, fun h => ?_⟩
  have e : byt s = byt (⟨#[105, 110, 102]⟩ : ByteArray) := h.trans rfl
  rw [byt_inj e, Lib.toList_data]

set_option maxRecDepth 100000 in
set_option maxHeartbeats 2000000 in
theorem ratio_end (s : ByteArray) (w : World) (hs : s.size ≤ 100000000) :
    Calls Tryz.prog 73 #[.string s] w fun e w' => Past w w' ∧ e = .returned (.bool (okE (byt s))) := by
  have HS := Lib.hid hs
  clear hs
  have HI := inf_eq s
  obtain ⟨b, hb⟩ : ∃ b, isInf (byt s) = b := ⟨_, rfl⟩
  rw [hb] at HI
  have HB := Lib.hid hb
  clear hb
  cases b with
  | true =>
    have HE : Hid (okE (byt s) = true) := by unfold okE; rw [HB.out]; rfl
    go_enter Tryz.func73, Tryz.ntmps73
    go_wp2_with fail
    go_ret
    exact ⟨Past.refl w, by rw [HE.out]; rfl⟩
  | false =>
    have HE : Hid (okE (byt s) = okV (byt s)) := by unfold okE; rw [HB.out]; rfl
    go_enter Tryz.func73, Tryz.ntmps73
    go_wp2_with fail
    refine (ratio_valid s _ HS.out).mono ?_
    rintro e w1 ⟨hp1, rfl⟩
    go_wp2
    go_ret
    exact ⟨hp1, by rw [HE.out]; rfl⟩

end Go.Proofs.YtdcjibjldfjllaaGreat
