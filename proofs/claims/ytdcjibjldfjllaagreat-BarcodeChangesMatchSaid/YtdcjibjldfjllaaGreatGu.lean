/- Helpers of the proof, joined: Vl2 LwCl Rk2. -/
import Derived.Test.YtdcjibjldfjllaaGreatGt
import Derived.Test.YtdcjibjldfjllaaGreatGs
import Derived.Test.YtdcjibjldfjllaaGreatGq
import Derived.Test.YtdcjibjldfjllaaGreatGa
set_option linter.unusedVariables false
set_option linter.unusedSimpArgs false
/- Clip and Rank on bars of numbers. -/
namespace Go.Proofs.YtdcjibjldfjllaaGreat
open Go.RowKit

theorem chgAll_pure {φs : List Chg} (f : Bar → Bar) (keep : Bar → Bool) : ∀ (bs out : List Bar), (∀ b ∈ bs, runChg φs b = (f b, keep b, 0)) →
    chgAll φs out bs = (isort ltB (out ++ ((bs.filter keep).map f).filter (fun b => decide (cmpT (byt b.x) (byt b.y) < 0))), 0)
  | [], out, _ => by simp [chgAll]
  | b :: bs, out, h => by
    rw [chgAll, h b (by simp)]
    have ih := fun o => chgAll_pure f keep bs o (fun b hb => h b (by simp [hb]))
    by_cases hk : keep b = true
    · by_cases hc : cmpT (byt (f b).x) (byt (f b).y) < 0
      · simp [hk, hc, ih]
      · simp [hk, hc, ih]
    · simp [hk, ih]

theorem isort_enc {l : List VB} (h : ∀ v ∈ l, v.ok) : isort ltB (l.map VB.enc) = (isort ltV l).map VB.enc := by
  obtain ⟨l', rfl⟩ : ∃ l' : List { v : VB // v.ok }, l = l'.map Subtype.val := ⟨l.attach.map fun v => ⟨v.1, h v.1 v.2⟩, by rw [List.map_map]; exact (List.attach_map_subtype_val l).symm⟩
  rw [List.map_map, isort_map (f := VB.enc ∘ Subtype.val) (lt' := fun a b => ltV a.1 b.1) (fun a b => enc_lt a.2 b.2), isort_map (f := Subtype.val) (lt := ltV) (lt' := fun a b => ltV a.1 b.1) (fun _ _ => rfl), List.map_map]

theorem cmpT_ok {e f : Option Rat} (he : tlE e ≤ 100) (hf : tlE f ≤ 100) : cmpT (byt (tE e)) (byt (tE f)) = cmpE e f :=
  cmpT_enc (Nat.le_trans he (by decide)) (Nat.le_trans hf (by decide))

theorem filter_live {l : List VB} (h : ∀ v ∈ l, v.ok) : (l.map VB.enc).filter (fun b => decide (cmpT (byt b.x) (byt b.y) < 0)) = (l.filter live).map VB.enc := by
  induction l with
  | nil => rfl
  | cons v l ih =>
    have hv := h v (by simp)
    have e : decide (cmpT (byt v.enc.x) (byt v.enc.y) < 0) = live v := by
      show decide (cmpT (byt (tE (some v.q))) (byt (tE v.e)) < 0) = _
      rw [cmpT_ok hv.2.2.1 hv.2.2.2]; rfl
    rw [List.map_cons, List.filter_cons, e, List.filter_cons, ih fun u hu => h u (by simp [hu])]
    split <;> rfl

theorem dim_enc {l : List VB} (hv : ∀ v ∈ l, v.ok ∧ live v = true) (ha : Asc ltV l) (hl : l.length ≤ 2048) {d : Int} (h0 : 0 ≤ d) (h4 : d ≤ 4) :
    dimB (l.map VB.enc) d = ((l.filter fun v => v.d == d).map VB.enc, 0) := by
  have hf : (l.map VB.enc).filter (fun b => b.d == d) = (l.filter fun v => v.d == d).map VB.enc := by rw [List.filter_map]; rfl
  unfold dimB
  rw [check_enc hv ha hl, if_neg (by simp), if_neg (by omega), chgAll_pure id (fun b => b.d == d) _ _ (fun b _ => ?_)]
  · rw [List.nil_append, List.map_id, hf, filter_live fun v hm => (hv v (List.mem_filter.1 hm).1).1, List.filter_eq_self.2 fun v hm => (hv v (List.mem_filter.1 hm).1).2,
      isort_enc fun v hm => (hv v (List.mem_filter.1 hm).1).1, isort_of_ord (ha.sublist List.filter_sublist)]
  · show runChg [dimChg d] b = _
    unfold runChg dimChg
    by_cases hb : b.d == d
    · simp [hb, runChg]
    · simp [hb]

/-- How many bars of a dimension cover both values. -/
def cntV (l : List VB) (d : Int) (p q : Rat) : Nat := l.countP fun v => v.d == d && (decide (cmpE (some v.q) (some p) ≤ 0) && decide (cmpE (some q) v.e < 0))

theorem cov_enc {v : VB} (h : v.ok) {p q : Rat} (hp : tlQ p ≤ 100) (hq : tlQ q ≤ 100) : covB (tE (some p)) (tE (some q)) v.enc = (decide (cmpE (some v.q) (some p) ≤ 0) && decide (cmpE (some q) v.e < 0)) := by
  unfold covB
  show (decide (cmpT (byt (tE (some v.q))) (byt (tE (some p))) ≤ 0) && decide (cmpT (byt (tE (some q))) (byt (tE v.e)) < 0)) = _
  rw [cmpT_ok (f := some p) h.2.2.1 hp, cmpT_ok (e := some q) hq h.2.2.2]

theorem okV_tE {p : Rat} (hp : tlQ p ≤ 100) : okV (byt (tE (some p))) = true := by rw [byt_tE]; exact okV_rtx (Nat.le_trans hp (by decide))
theorem okE_tE {e : Option Rat} (he : tlE e ≤ 100) : okE (byt (tE e)) = true := by rw [byt_tE]; exact okE_etx (Nat.le_trans he (by decide))

theorem rank_enc {l : List VB} (hv : ∀ v ∈ l, v.ok ∧ live v = true) (ha : Asc ltV l) (hl : l.length ≤ 2048) {d : Int} (h0 : 0 ≤ d) (h4 : d ≤ 4) {p q : Rat} (hp : tlQ p ≤ 100) (hq : tlQ q ≤ 100) (hpq : cmpE (some p) (some q) ≤ 0) :
    rankB (l.map VB.enc) d (tE (some p)) (tE (some q)) = (((cntV l d p q : Nat) : Int), 0) := by
  unfold rankB
  rw [dim_enc hv ha hl h0 h4, if_neg (by simp), okV_tE hp, okV_tE hq, cmpT_ok (e := some p) (f := some q) hp hq, if_neg (by simp; omega)]
  congr 2
  show List.countP (covB (tE (some p)) (tE (some q))) ((l.filter fun v => v.d == d).map VB.enc) = _
  rw [List.countP_map, List.countP_filter]
  unfold cntV
  refine List.countP_congr fun v hm => ?_
  rw [Bool.and_comm]
  show (v.d == d && covB (tE (some p)) (tE (some q)) v.enc) = true ↔ _
  rw [cov_enc (hv v hm).1 hp hq]

theorem cnt_mono {l : List VB} {d : Int} {p q p' q' : Rat} (h1 : cmpE (some p) (some p') ≤ 0) (h2 : cmpE (some q') (some q) ≤ 0) : cntV l d p q ≤ cntV l d p' q' := by
  unfold cntV
  refine List.countP_mono_left fun v _ h => ?_
  simp only [Bool.and_eq_true, decide_eq_true_eq, beq_iff_eq] at h ⊢
  exact ⟨h.1, cmpE_trans h.2.1 h1, cmpE_le_lt h2 h.2.2⟩

/-- A bar, clipped. -/
def clipV (p q : Rat) (v : VB) : VB := ⟨v.d, if cmpE (some v.q) (some p) < 0 then p else v.q, minE v.e (some q)⟩

theorem clipV_ok {v : VB} (h : v.ok) {p q : Rat} (hp : tlQ p ≤ 100) (hq : tlQ q ≤ 100) : (clipV p q v).ok := by
  refine ⟨h.1, h.2.1, ?_, ?_⟩
  · show tlQ (if cmpE (some v.q) (some p) < 0 then p else v.q) ≤ 100
    split
    · exact hp
    · exact h.2.2.1
  · show tlE (minE v.e (some q)) ≤ 100
    unfold minE
    split
    · exact hq
    · exact h.2.2.2

theorem maxT_enc {a b : Rat} (ha : tlQ a ≤ 100) (hb : tlQ b ≤ 100) : txt (maxT (byt (tE (some a))) (byt (tE (some b)))) = tE (some (if cmpE (some a) (some b) < 0 then b else a)) := by
  unfold maxT
  rw [okE_tE (e := some a) ha, okE_tE (e := some b) hb, byt_tE, byt_tE, eV_etx, eV_etx]
  show txt (if cmpE (some a) (some b) < 0 then etx (some b) else etx (some a)) = _
  split <;> rfl
theorem minT_enc {e f : Option Rat} (he : tlE e ≤ 100) (hf : tlE f ≤ 100) : txt (minT (byt (tE e)) (byt (tE f))) = tE (minE e f) := by
  unfold minT
  rw [okE_tE he, okE_tE hf, byt_tE, byt_tE, eV_etx, eV_etx]
  rfl

theorem clip_enc {l : List VB} (hv : ∀ v ∈ l, v.ok ∧ live v = true) (ha : Asc ltV l) (hl : l.length ≤ 2048) {p q : Rat} (hp : tlQ p ≤ 100) (hq : tlQ q ≤ 100) (hpq : cmpE (some p) (some q) ≤ 0) :
    clipB (l.map VB.enc) (tE (some p)) (tE (some q)) = ((sortV (l.map (clipV p q))).map VB.enc, 0) := by
  unfold clipB
  rw [check_enc hv ha hl, if_neg (by simp), okV_tE hp, okE_tE (e := some q) hq, cmpT_ok (e := some p) (f := some q) hp hq, if_neg (by simp; omega)]
  rw [chgAll_pure (fun b => ⟨b.d, txt (maxT (byt b.x) (byt (tE (some p)))), txt (minT (byt b.y) (byt (tE (some q))))⟩) (fun _ => true) _ _ (fun b _ => by simp [runChg, clip1, clip2])]
  have hm : ((l.map VB.enc).filter fun _ => true).map (fun b : Bar => (⟨b.d, txt (maxT (byt b.x) (byt (tE (some p)))), txt (minT (byt b.y) (byt (tE (some q))))⟩ : Bar)) = (l.map (clipV p q)).map VB.enc := by
    rw [List.filter_eq_self.2 (fun _ _ => rfl), List.map_map, List.map_map]
    refine List.map_congr_left fun v hm => ?_
    have h := (hv v hm).1
    show (⟨v.d, txt (maxT (byt (tE (some v.q))) (byt (tE (some p)))), txt (minT (byt (tE v.e)) (byt (tE (some q))))⟩ : Bar) = _
    rw [maxT_enc h.2.2.1 hp, minT_enc h.2.2.2 (f := some q) hq]
    rfl
  have hok : ∀ v ∈ l.map (clipV p q), v.ok := by
    intro v h
    obtain ⟨u, hu, rfl⟩ := List.mem_map.1 h
    exact clipV_ok (hv u hu).1 hp hq
  rw [hm, List.nil_append, filter_live hok, isort_enc fun v h => hok v (List.mem_filter.1 h).1]
  rfl

theorem clip_good {l : List VB} (hv : ∀ v ∈ l, v.ok ∧ live v = true) {p q : Rat} (hp : tlQ p ≤ 100) (hq : tlQ q ≤ 100) :
    (∀ v ∈ sortV (l.map (clipV p q)), v.ok ∧ live v = true) ∧ Asc ltV (sortV (l.map (clipV p q))) ∧ (sortV (l.map (clipV p q))).length ≤ l.length := by
  have hok : ∀ v ∈ l.map (clipV p q), v.ok := by
    intro v h
    obtain ⟨u, hu, rfl⟩ := List.mem_map.1 h
    exact clipV_ok (hv u hu).1 hp hq
  have h := sortV_good hok
  rw [List.length_map] at h
  exact h

theorem clip_low (v : VB) (p q x : Rat) : cmpE (some (clipV p q v).q) (some x) ≤ 0 ↔ cmpE (some v.q) (some x) ≤ 0 ∧ cmpE (some p) (some x) ≤ 0 := by
  show cmpE (some (if cmpE (some v.q) (some p) < 0 then p else v.q)) (some x) ≤ 0 ↔ _
  split
  · rename_i h
    exact ⟨fun k => ⟨cmpE_trans (show cmpE (some v.q) (some p) ≤ 0 by omega) k, k⟩, fun k => k.2⟩
  · rename_i h
    have h' : cmpE (some p) (some v.q) ≤ 0 := by rw [cmpE_neg]; omega
    exact ⟨fun k => ⟨k, cmpE_trans h' k⟩, fun k => k.1⟩
theorem clip_high (v : VB) (p q x : Rat) : cmpE (some x) (clipV p q v).e < 0 ↔ cmpE (some x) v.e < 0 ∧ cmpE (some x) (some q) < 0 := by
  show cmpE (some x) (minE v.e (some q)) < 0 ↔ _
  unfold minE
  split
  · rename_i h
    exact ⟨fun k => ⟨cmpE_lt_le k (by omega), k⟩, fun k => k.2⟩
  · rename_i h
    have h' : cmpE v.e (some q) ≤ 0 := by rw [cmpE_neg]; omega
    exact ⟨fun k => ⟨k, cmpE_lt_le k h'⟩, fun k => k.1⟩

theorem clip_cnt (l : List VB) (d : Int) (p q x : Rat) : cntV (sortV (l.map (clipV p q))) d x x = if cmpE (some p) (some x) ≤ 0 ∧ cmpE (some x) (some q) < 0 then cntV l d x x else 0 := by
  unfold cntV sortV
  rw [(isort_perm _ _).countP_eq, List.countP_filter, List.countP_map]
  split
  · rename_i h
    refine List.countP_congr fun v _ => ?_
    have h1 := clip_low v p q x
    have h2 := clip_high v p q x
    simp only [Function.comp, Bool.and_eq_true, decide_eq_true_eq, beq_iff_eq, live]
    rw [h1, h2, show (clipV p q v).d = v.d from rfl]
    refine ⟨fun k => ⟨k.1.1, k.1.2.1.1, k.1.2.2.1⟩, fun k => ⟨⟨k.1, ⟨k.2.1, h.1⟩, k.2.2, h.2⟩, ?_⟩⟩
    exact cmpE_le_lt (h1.2 ⟨k.2.1, h.1⟩) (h2.2 ⟨k.2.2, h.2⟩)
  · rename_i h
    rw [List.countP_eq_zero]
    intro v _
    have h1 := clip_low v p q x
    have h2 := clip_high v p q x
    simp only [Function.comp, Bool.and_eq_true, decide_eq_true_eq, beq_iff_eq]
    rw [h1, h2]
    exact fun k => h ⟨k.1.2.1.2, k.1.2.2.2⟩

end Go.Proofs.YtdcjibjldfjllaaGreat

/- BarcodeClips: the walk. -/
namespace Go.Proofs.YtdcjibjldfjllaaGreat
open Go.RowKit

theorem small_tl (n : Int) : tlQ (smallQ n) ≤ 100 := small_bd n
theorem fr_small' (n : Int) (w : World) (h : -9223372036854775808 ≤ n ∧ n ≤ 9223372036854775807) :
    Calls Tryz.prog 23 #[.int .i64 n] w fun r w' => Past w w' ∧ r = .returned (.string (tE (some (smallQ n)))) := fr_small n w h.1 h.2

set_option maxRecDepth 100000 in
set_option maxHeartbeats 8000000 in
theorem law_clips (A : Option Addr) (n c : Nat) (xs : List Int) (fr up t : Int) (w : World) (hx : RInts w .i64 A n c xs) (hr : ∀ x ∈ xs, -9223372036854775808 ≤ x ∧ x ≤ 9223372036854775807)
    (h1 : -9223372036854775808 ≤ fr ∧ fr ≤ 9223372036854775807) (h2 : -9223372036854775808 ≤ up ∧ up ≤ 9223372036854775807) (h3 : -9223372036854775808 ≤ t ∧ t ≤ 9223372036854775807) :
    Calls Tryz.prog 4 #[.slice A n c, .int .i64 fr, .int .i64 up, .int .i64 t] w fun e w' => Past w w' ∧ e = .returned (.bool true) := by
  have HX := Lib.hid hx
  have HR := Lib.hid hr
  have H1 := Lib.hid h1
  have H2 := Lib.hid h2
  have H3 := Lib.hid h3
  clear hx hr h1 h2 h3
  obtain ⟨g1, g2, g3⟩ := fitV_good xs 12
  obtain ⟨l, hl⟩ : ∃ l, fitV xs 12 = l := ⟨_, rfl⟩
  rw [hl] at g1 g2 g3
  have HLF := Lib.hid hl
  have G1 := Lib.hid g1
  have G2 := Lib.hid g2
  have G3 := Lib.hid g3
  have HFIT : Hid (∀ b ∈ l.map VB.enc, b.fit) := by
    intro b hb
    obtain ⟨v, hv, rfl⟩ := List.mem_map.1 hb
    exact (g1 v hv).1.fit
  obtain ⟨bs, hbs⟩ : ∃ bs, l.map VB.enc = bs := ⟨_, rfl⟩
  have HBL : Hid (bs.length < 20) := by rw [← hbs]; unfold Hid; rw [List.length_map]; omega
  rw [hbs] at HFIT
  have HBS := Lib.hid hbs
  clear hl g1 g2 g3 hbs
  obtain ⟨a, ha⟩ : ∃ a, smallQ fr = a := ⟨_, rfl⟩
  obtain ⟨b, hb⟩ : ∃ a, smallQ up = a := ⟨_, rfl⟩
  obtain ⟨x, hxx⟩ : ∃ a, smallQ t = a := ⟨_, rfl⟩
  have TA : Hid (tlQ a ≤ 100) := by rw [← ha]; exact small_tl _
  have TB : Hid (tlQ b ≤ 100) := by rw [← hb]; exact small_tl _
  have TX : Hid (tlQ x ≤ 100) := by rw [← hxx]; exact small_tl _
  have HA := Lib.hid ha
  have HB := Lib.hid hb
  have HXX := Lib.hid hxx
  have TXS : Hid ((tE (some x)).size ≤ 100000000) := Nat.le_trans (tE_size (e := some x) TX.out) (by decide)
  clear ha hb hxx
  go_enter Tryz.func4, Tryz.ntmps4
  go_wp2_with fail
  refine (law_awake _).mono ?_
  rintro e w1 ⟨hp1, rfl⟩
  have HP1 := Lib.hid hp1
  clear hp1
  go_wp2_with fail
  refine (ref_fit A n c 12 xs _ (HX.out.past HP1.out) HR.out (by decide)).mono ?_
  rintro e w2 ⟨hp2, v2, rfl, ho2⟩
  rw [HLF.out, HBS.out] at ho2
  obtain ⟨A2, c2, rfl, hr2⟩ := ho2.reads
  have HR2 := Lib.hid hr2
  have HP2 : Hid (Past w w2) := HP1.out.trans hp2
  clear hp2 ho2 hr2
  go_wp2_with fail
  refine (fr_small' fr _ H1.out).mono ?_
  rintro e w3 ⟨hp3, rfl⟩
  rw [HA.out]
  go_wp2_with fail
  refine (fr_small' up _ H2.out).mono ?_
  rintro e w4 ⟨hp4, rfl⟩
  rw [HB.out]
  go_wp2_with fail
  refine (fr_small' t _ H3.out).mono ?_
  rintro e w5 ⟨hp5, rfl⟩
  rw [HXX.out]
  go_wp2_with fail
  refine (fr_compare (some a) (some b) _ (Nat.le_trans TA.out (by decide)) (Nat.le_trans TB.out (by decide))).mono ?_
  rintro e w6 ⟨hp6, rfl⟩
  have HP6 : Hid (Past w2 w6) := ((hp3.trans hp4).trans hp5).trans hp6
  clear hp3 hp4 hp5 hp6
  obtain ⟨cv, hcv⟩ : ∃ x, cmpE (some a) (some b) = x := ⟨_, rfl⟩
  rw [hcv]
  have HPQ : ∃ p q, (if 0 < cv then b else a) = p ∧ (if 0 < cv then a else b) = q ∧ Hid (tlQ p ≤ 100) ∧ Hid (tlQ q ≤ 100) ∧ Hid (cmpE (some p) (some q) ≤ 0) := by
    by_cases h : 0 < cv
    · refine ⟨b, a, by simp [h], by simp [h], TB, TA, ?_⟩
      unfold Hid
      rw [cmpE_neg]; omega
    · refine ⟨a, b, by simp [h], by simp [h], TA, TB, ?_⟩
      unfold Hid
      omega
  obtain ⟨p, q, hpe, hqe, TP, TQ, HPQ⟩ := HPQ
  clear hcv TA TB HA HB
  by_cases hgt : 0 < cv
  all_goals (
    first | rw [if_pos hgt] at hpe hqe | rw [if_neg hgt] at hpe hqe
    have hpe' := hpe.symm
    have hqe' := hqe.symm
    clear hpe hqe
    subst hpe'
    subst hqe'
    obtain ⟨k1, k2, k3⟩ := clip_good G1.out TP.out TQ.out
    have hce := clip_enc G1.out G2.out (by have := G3.out; omega) TP.out TQ.out HPQ.out
    have hcnt : ∀ d, cntV (sortV (l.map (clipV p q))) d x x = if cmpE (some p) (some x) ≤ 0 ∧ cmpE (some x) (some q) < 0 then cntV l d x x else 0 := fun d => clip_cnt l d p q x
    obtain ⟨lc, hlc⟩ : ∃ lc, sortV (l.map (clipV p q)) = lc := ⟨_, rfl⟩
    rw [hlc] at k1 k2 k3 hce hcnt
    have K1 := Lib.hid k1
    have K2 := Lib.hid k2
    have HCNT := Lib.hid hcnt
    have K3 : Hid (lc.length ≤ 12) := by have := G3.out; unfold Hid; omega
    have HFC : Hid (∀ b ∈ lc.map VB.enc, b.fit) := by
      intro b hb
      obtain ⟨v, hv, rfl⟩ := List.mem_map.1 hb
      exact (k1 v hv).1.fit
    have hck := check_enc k1 k2 (by have := K3.out; omega)
    have hle : (lc.map VB.enc).length ≤ bs.length := by rw [← HBS.out, List.length_map, List.length_map]; exact k3
    obtain ⟨cs, hcs⟩ : ∃ cs, lc.map VB.enc = cs := ⟨_, rfl⟩
    rw [hcs] at hce HFC hck hle
    rw [HBS.out] at hce
    have HCS := Lib.hid hcs
    have HCE := Lib.hid hce
    have HCK := Lib.hid hck
    have HCL : Hid (cs.length < 20) := by have := HBL.out; unfold Hid; omega
    have hlt : ¬ (bs.length < cs.length) := by omega
    clear k1 k2 k3 hce hlc hcnt hcs hck hle
    go_wp2_with fail
    refine (bar_clip A2 bs.length c2 bs (tE (some p)) (tE (some q)) _ (HR2.out.past HP6.out) HFIT.out (Nat.le_trans (tE_size (e := some p) TP.out) (by decide)) (Nat.le_trans (tE_size (e := some q) TQ.out) (by decide)) HBL.out).mono ?_
    rintro e w7 ⟨hp7, v7, rfl, ho7, -⟩
    rw [HCE.out]
    rw [HCE.out] at ho7
    obtain ⟨A7, c7, rfl, hr7⟩ := ho7.reads
    have HR7 : Hid (Rows w7 rBar A7 cs.length c7 cs) := hr7
    have HP7 : Hid (Past w2 w7) := HP6.out.trans hp7
    clear hp7 ho7 hr7
    go_wp2_with fail
    refine (bar_check A7 cs.length c7 cs _ HR7.out HFC.out).mono ?_
    rintro e w8 ⟨hp8, rfl⟩
    rw [HCK.out]
    have HP8 : Hid (Past w w8) := (HP2.out.trans HP7.out).trans hp8
    have HR8 : Hid (Rows w8 rBar A2 bs.length c2 bs) := HR2.out.past (HP7.out.trans hp8)
    have HC8 : Hid (Rows w8 rBar A7 cs.length c7 cs) := HR7.out.past hp8
    clear hp8
    go_wp2_with fail
    go_loopg [15] 3 (fun gg dv wr => ∃ i : Nat, dv = .int .i64 i ∧ i ≤ 3 ∧ Hid (gg = 3 - i) ∧ Hid (Past w8 wr))
    case atStart => exact ⟨0, rfl, by omega, rfl, Past.refl _⟩
    case round =>
      obtain ⟨i, rfl, hi, HG, HPR⟩ := hrel
      by_cases hin : i < 3
      · have HK1 : Hid (rankB bs i (tE (some x)) (tE (some x)) = (((cntV l i x x : Nat) : Int), 0)) := by
          have h := rank_enc (d := i) G1.out G2.out (by have := G3.out; omega) (by omega) (by omega) TX.out TX.out (by rw [cmpE_self]; omega)
          rw [HBS.out] at h
          exact h
        have HK2 : Hid (rankB cs i (tE (some x)) (tE (some x)) = (((cntV lc i x x : Nat) : Int), 0)) := by
          have h := rank_enc (d := i) K1.out K2.out (by have := K3.out; omega) (by omega) (by omega) TX.out TX.out (by rw [cmpE_self]; omega)
          rw [HCS.out] at h
          exact h
        obtain ⟨cq, hcq⟩ : ∃ z, cntV lc i x x = z := ⟨_, rfl⟩
        have HK3 : Hid (cq = if cmpE (some p) (some x) ≤ 0 ∧ cmpE (some x) (some q) < 0 then cntV l i x x else 0) := by rw [← hcq]; exact HCNT.out i
        rw [hcq] at HK2
        clear hcq
        have zi : (i : Int) < 3 := by omega
        go_wp2_with fail
        refine (bar_betti A2 bs.length c2 bs i (tE (some x)) _ (HR8.out.past HPR.out) HFIT.out TXS.out HBL.out).mono ?_
        rintro e w9 ⟨hp9, rfl⟩
        rw [HK1.out]
        go_wp2_with fail
        refine (bar_betti A7 cs.length c7 cs i (tE (some x)) _ ((HC8.out.past HPR.out).past hp9) HFC.out TXS.out HCL.out).mono ?_
        rintro e w10 ⟨hp10, rfl⟩
        rw [HK2.out]
        have HP10 : Hid (Past w8 w10) := (HPR.out.trans hp9).trans hp10
        clear hp9 hp10
        go_wp2_with fail
        refine (fr_compare (some p) (some x) _ (Nat.le_trans TP.out (by decide)) (Nat.le_trans TX.out (by decide))).mono ?_
        rintro e w11 ⟨hp11, rfl⟩
        obtain ⟨cu, hcu⟩ : ∃ z, cmpE (some p) (some x) = z := ⟨_, rfl⟩
        rw [hcu]
        rw [hcu] at HK3
        by_cases hu : cu ≤ 0
        · go_wp2_with fail
          refine (fr_compare (some x) (some q) _ (Nat.le_trans TX.out (by decide)) (Nat.le_trans TQ.out (by decide))).mono ?_
          rintro e w12 ⟨hp12, rfl⟩
          obtain ⟨cz, hcz⟩ : ∃ z, cmpE (some x) (some q) = z := ⟨_, rfl⟩
          rw [hcz]
          rw [hcz] at HK3
          have HPZ := Lib.hid ((HP10.out.trans hp11).trans hp12)
          clear hp11 hp12
          by_cases hz : cz < 0
          · have e := HK3.out
            rw [if_pos ⟨hu, hz⟩] at e
            clear HK3
            subst e
            go_wp2
            go_roundg (3 - (i + 1))
            case measure => have := HG.out; omega
            case rel => exact ⟨i + 1, by go_num, by omega, by unfold Hid; omega, HPZ.out⟩
          · have e := HK3.out
            rw [if_neg (fun h => hz h.2)] at e
            clear HK3
            subst e
            go_wp2
            go_roundg (3 - (i + 1))
            case measure => have := HG.out; omega
            case rel => exact ⟨i + 1, by go_num, by omega, by unfold Hid; omega, HPZ.out⟩
        · have e := HK3.out
          rw [if_neg (fun h => hu h.1)] at e
          clear HK3
          subst e
          have HPZ := Lib.hid (HP10.out.trans hp11)
          clear hp11
          go_wp2
          go_roundg (3 - (i + 1))
          case measure => have := HG.out; omega
          case rel => exact ⟨i + 1, by go_num, by omega, by unfold Hid; omega, HPZ.out⟩
      · go_wp2
        go_ret
        exact ⟨HP8.out.trans HPR.out, rfl⟩)

end Go.Proofs.YtdcjibjldfjllaaGreat

/- What a row's opened integer gives the walk. -/
namespace Go.Proofs.YtdcjibjldfjllaaGreat
open Go.RowKit

theorem int_of_wf {n : Int} (h : (Lit.int .i64 n).wf = true) : -9223372036854775808 ≤ n ∧ n ≤ 9223372036854775807 := by
  have h2 : IntKind.min .i64 ≤ n ∧ n ≤ IntKind.max .i64 := by simpa [Lit.wf] using h
  have e1 : IntKind.min .i64 = -9223372036854775808 := by decide
  have e2 : IntKind.max .i64 = 9223372036854775807 := by decide
  omega

end Go.Proofs.YtdcjibjldfjllaaGreat
