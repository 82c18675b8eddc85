/- Helpers of the proof, joined: Va7 Va8 Va9 Va10 Va11 Va12 Va13. -/
import Derived.Test.YtdcjibjldfjllaaGreatGya
import Derived.Test.YtdcjibjldfjllaaGreatGp
import Derived.Test.YtdcjibjldfjllaaGreatGm
import Derived.Test.YtdcjibjldfjllaaGreatGxe
import Derived.Test.YtdcjibjldfjllaaGreatGt
set_option linter.unusedVariables false
set_option linter.unusedSimpArgs false
/- The reference's Cmp of any two valid bars; a valid bar as a dimension and two numbers. -/
namespace Go.Proofs.YtdcjibjldfjllaaGreat
open Go.RowKit

/-- Its dimension is small, its ends are no longer than 10^7. -/
def VB.okL (v : VB) : Prop := 0 ≤ v.d ∧ v.d ≤ 4 ∧ tlE (some v.q) ≤ 10000000 ∧ tlE v.e ≤ 10000000
/-- The dimension and the numbers of a bar. -/
def decB (b : Bar) : VB := ⟨b.d, valR (byt b.x), eV (byt b.y)⟩

theorem decB_ok {b : Bar} (h : validB b = true) (hf : b.x.size ≤ 1000000 ∧ b.y.size ≤ 1000000) : (decB b).enc = b ∧ (decB b).okL := by
  obtain ⟨d, x, y⟩ := b
  unfold validB at h
  simp only [Bool.and_eq_true, decide_eq_true_eq] at h
  obtain ⟨⟨⟨⟨h1, h2⟩, h3⟩, h4⟩, _⟩ := h
  have hx : okE (byt x) = true := by unfold okE; rw [h3]; simp
  obtain ⟨e2, l2⟩ := tE_of_ok h4
  have hr : okR (byt x) = true := by unfold okV at h3; rw [Bool.and_eq_true] at h3; exact h3.1
  have e1 : x = tQ (valR (byt x)) := by
    apply byt_inj
    rw [byt_tQ]
    exact rtx_valR hr
  have l1 := tlQ_size (valR (byt x))
  rw [← e1] at l1
  simp only at hf
  refine ⟨?_, h1, h2, ?_, ?_⟩
  · unfold VB.enc decB
    simp only
    rw [← e2]
    exact congrArg (fun z => Bar.mk d z y) e1.symm
  · show tlQ _ ≤ _
    exact Nat.le_trans l1 (by omega)
  · show tlE _ ≤ _
    exact Nat.le_trans l2 (by omega)

set_option maxRecDepth 100000 in
set_option maxHeartbeats 4000000 in
theorem ref_cmpL (a b : VB) (w : World) (ha : a.okL) (hb : b.okL) :
    Calls Tryz.prog 64 #[.agg #[.int .i64 a.d, .string (tE (some a.q)), .string (tE a.e)], .agg #[.int .i64 b.d, .string (tE (some b.q)), .string (tE b.e)]] w fun e w' => Past w w' ∧ e = .returned (.int .i64 (cmpV a b)) := by
  obtain ⟨d, q, e⟩ := a
  obtain ⟨d', q', e'⟩ := b
  have HQ := Lib.hid (fr_compare (some q) (some q'))
  have HE := Lib.hid (fr_compare e e')
  have HB : Hid ((tlE (some q) ≤ 10000000 ∧ tlE (some q') ≤ 10000000) ∧ tlE e ≤ 10000000 ∧ tlE e' ≤ 10000000) := ⟨⟨ha.2.2.1, hb.2.2.1⟩, ha.2.2.2, hb.2.2.2⟩
  have p0 : 0 ≤ d := ha.1
  have p1 : d ≤ 4 := ha.2.1
  have p2 : 0 ≤ d' := hb.1
  have p3 : d' ≤ 4 := hb.2.1
  have HCV : Hid (cmpV ⟨d, q, e⟩ ⟨d', q', e'⟩ = if d ≠ d' then d - d' else if cmpE (some q) (some q') ≠ 0 then cmpE (some q) (some q') else cmpE e e') := rfl
  clear ha hb
  dsimp only
  generalize tE (some q) = x at *
  generalize tE (some q') = x' at *
  generalize tE e = y at *
  generalize tE e' = y' at *
  have HK : Hid ((((w.alloc (.cells #[.int .i64 d, .string x, .string y] 94)).alloc (.cells #[.int .i64 d', .string x', .string y'] 94)).cell? ⟨w.heap.size, 2, none⟩ = some (.string y)) ∧ (((w.alloc (.cells #[.int .i64 d, .string x, .string y] 94)).alloc (.cells #[.int .i64 d', .string x', .string y'] 94)).cell? ⟨w.heap.size + 1, 2, none⟩ = some (.string y'))) := by unfold Hid; simp [go_sem]
  by_cases hd : d = d'
  · have hdb : (d != d') = false := by simp [hd]
    obtain ⟨c1, hc1⟩ : ∃ c, cmpE (some q) (some q') = c := ⟨_, rfl⟩
    have HC1 := Lib.hid hc1
    by_cases h1 : c1 = 0
    · have h1b : (c1 != 0) = false := by simp [h1]
      have HR : Hid (cmpV ⟨d, q, e⟩ ⟨d', q', e'⟩ = cmpE e e') := by show _ = _; rw [HCV.out, if_neg (by simp [hd]), hc1, if_neg (by simp [h1])]
      clear hd hc1 h1
      go_enter Tryz.func64, Tryz.ntmps64
      go_wp2_with fail
      refine (HQ.out _ HB.out.1.1 HB.out.1.2).mono ?_
      rintro e w1 ⟨hp1, rfl⟩
      rw [HC1.out]
      have k1 := hp1.cell HK.out.1
      have k2 := hp1.cell HK.out.2
      go_wp2_with fail
      refine (HE.out _ HB.out.2.1 HB.out.2.2).mono ?_
      rintro e w2 ⟨hp2, rfl⟩
      go_wp2
      go_ret
      exact ⟨((((Past.refl _).alloc _).alloc _).trans hp1).trans hp2, by rw [HR.out]; rfl⟩
    · have h1b : (c1 != 0) = true := by simp [h1]
      have HR : Hid (cmpV ⟨d, q, e⟩ ⟨d', q', e'⟩ = c1) := by show _ = _; rw [HCV.out, if_neg (by simp [hd]), hc1, if_pos h1]
      clear hd hc1 h1
      go_enter Tryz.func64, Tryz.ntmps64
      go_wp2_with fail
      refine (HQ.out _ HB.out.1.1 HB.out.1.2).mono ?_
      rintro e w1 ⟨hp1, rfl⟩
      rw [HC1.out]
      go_wp2
      go_ret
      exact ⟨(((Past.refl _).alloc _).alloc _).trans hp1, by rw [HR.out]; rfl⟩
  · have hdb : (d != d') = true := by simp [hd]
    have HR : Hid (cmpV ⟨d, q, e⟩ ⟨d', q', e'⟩ = d - d') := by show _ = _; rw [HCV.out, if_pos hd]
    go_enter Tryz.func64, Tryz.ntmps64
    go_wp2
    go_ret
    exact ⟨((Past.refl _).alloc _).alloc _, by rw [HR.out]; rfl⟩

end Go.Proofs.YtdcjibjldfjllaaGreat

/- The laws' bound on bars: how many, and how long their ends are. -/
namespace Go.Proofs.YtdcjibjldfjllaaGreat
open Go.RowKit

/-- An end of a bar has more than 200 bytes. -/
def wideB (b : Bar) : Bool := decide (200 < b.x.size) || decide (200 < b.y.size)
def longB (l : List Bar) (m : Int) : Bool := decide (m < l.length) || l.any wideB

set_option maxRecDepth 100000 in
set_option maxHeartbeats 4000000 in
theorem law_long (A : Option Addr) (n c : Nat) (bs : List Bar) (m : Int) (w : World) (hx : Rows w rBar A n c bs) (hm : m ≤ 1000000) :
    Calls Tryz.prog 14 #[.slice A n c, .int .i64 m] w fun e w' => Past w w' ∧ e = .returned (.bool (longB bs m)) := by
  have HX := Lib.hid hx
  have HL := Lib.hid hx.len
  clear hx
  by_cases hbig : m < (n : Int)
  · have HR : Hid (longB bs m = true) := by unfold longB; rw [HL.out, decide_eq_true hbig]; exact rfl
    go_enter Tryz.func14, Tryz.ntmps14
    go_wp2
    go_ret
    exact ⟨Past.refl _, by rw [HR.out]; rfl⟩
  · have HR : Hid (longB bs m = (bs.drop 0).any wideB) := by unfold longB; rw [HL.out, decide_eq_false hbig, List.drop_zero]; exact Bool.false_or _
    go_enter Tryz.func14, Tryz.ntmps14
    go_wp2_with fail
    go_loopw [13] (fun iv w' => ∃ i : Nat, i ≤ n ∧ iv = .int .i64 i ∧ Hid (longB bs m = (bs.drop i).any wideB) ∧ Hid (Past w w')) (fun iv _ => n - (intOf iv).toNat)
    case atStart => exact ⟨0, Nat.zero_le _, rfl, HR, Past.refl _⟩
    case round =>
      obtain ⟨i, hi, rfl, HO, HP⟩ := hrel
      by_cases hin : i < n
      · have hil : i < bs.length := by have := HL.out; omega
        obtain ⟨b1, o1, rfl, hc1⟩ := HX.out.bar (by omega)
        have hbi := (hc1 i hil).past HP.out
        have HS : Hid ((bs.drop i).any wideB = (wideB bs[i] || (bs.drop (i + 1)).any wideB)) := by unfold Hid; rw [List.drop_eq_getElem_cons hil, List.any_cons]
        generalize bs[i] = b at *
        obtain ⟨d, x, y⟩ := b
        have e0 : wr.cell? ⟨b1, o1 + i * 3, none⟩ = some (.int .i64 d) := hbi.1
        have e1 : wr.cell? ⟨b1, o1 + i * 3 + 1, none⟩ = some (.string x) := hbi.2.1
        have e2 : wr.cell? ⟨b1, o1 + i * 3 + 2, none⟩ = some (.string y) := hbi.2.2
        clear hc1 hbi
        by_cases h1 : (200 : Int) < (x.size : Int)
        · have HV : Hid (longB bs m = true) := by
            rw [HO.out, HS.out]
            unfold wideB
            rw [decide_eq_true (by simp only; omega)]
            exact rfl
          have hb1 : decide ((200 : Int) < (x.size : Int)) = true := decide_eq_true h1
          clear h1
          go_wp2
          go_ret
          exact ⟨HP.out.alloc _, by rw [HV.out]; rfl⟩
        · have hb1 : decide ((200 : Int) < (x.size : Int)) = false := decide_eq_false h1
          by_cases h2 : (200 : Int) < (y.size : Int)
          · have HV : Hid (longB bs m = true) := by
              rw [HO.out, HS.out]
              unfold wideB
              rw [decide_eq_true (p := 200 < y.size) (by omega), Bool.or_true]
              exact rfl
            have hb2 : decide ((200 : Int) < (y.size : Int)) = true := decide_eq_true h2
            clear h1 h2
            go_wp2
            go_ret
            exact ⟨HP.out.alloc _, by rw [HV.out]; rfl⟩
          · have HV : Hid (longB bs m = (bs.drop (i + 1)).any wideB) := by
              rw [HO.out, HS.out]
              unfold wideB
              rw [decide_eq_false (p := 200 < y.size) (by omega), decide_eq_false (p := 200 < x.size) (by omega)]
              exact rfl
            have hb2 : decide ((200 : Int) < (y.size : Int)) = false := decide_eq_false h2
            clear h1 h2
            go_wp2
            go_roundw
            case rel => exact ⟨i + 1, by omega, by go_num, HV, HP.out.alloc _⟩
            case measure => simp [intOf]; omega
      · have HV : Hid (longB bs m = false) := by
          rw [HO.out, List.drop_eq_nil_of_le (by have := HL.out; omega)]
          exact rfl
        go_wp2
        go_ret
        exact ⟨HP.out, by rw [HV.out]; rfl⟩

end Go.Proofs.YtdcjibjldfjllaaGreat

/- The reference's Sorted on valid bars with ends of any length. -/
namespace Go.Proofs.YtdcjibjldfjllaaGreat
open Go.RowKit

set_option maxRecDepth 100000 in
set_option maxHeartbeats 4000000 in
theorem ref_sortedL (A : Option Addr) (n c : Nat) (vs : List VB) (w : World) (hx : Rows w rBar A n c (vs.map VB.enc)) (hok : ∀ v ∈ vs, v.okL) (hn : n ≤ 1000000) :
    Calls Tryz.prog 44 #[.slice A n c] w fun e w' => Past w w' ∧ ∃ v, e = .returned v ∧ OwnS w w' rBar 94 v ((sortV vs).map VB.enc) := by
  have HX := Lib.hid hx
  have HL : Hid (vs.length = n) := by have := hx.len; rw [List.length_map] at this; exact this
  have HOK := Lib.hid hok
  clear hx hok
  go_enter Tryz.func44, Tryz.ntmps44
  go_wp2_with fail
  go_loopg [3, 4] n (fun gg ov iv wr => ∃ (i : Nat) (vo : Value), vo = ov ∧ iv = .int .i64 i ∧ i ≤ n ∧ Hid (gg = n - i) ∧ Hid (OwnS w wr rBar 94 vo ((sortV (vs.take i)).map VB.enc)))
  case atStart => exact ⟨0, _, rfl, rfl, Nat.zero_le _, rfl, OwnS.nil (Past.refl _) _ _⟩
  case round =>
    obtain ⟨i, vo, hvo, rfl, hi, HG, HO⟩ := hrel
    subst hvo
    by_cases hin : i < n
    · have hil : i < vs.length := by have := HL.out; omega
      obtain ⟨v, hve⟩ : ∃ v, vs[i] = v := ⟨_, rfl⟩
      have HVK : Hid v.okL := by rw [← hve]; exact HOK.out _ (List.getElem_mem hil)
      obtain ⟨b1, o1, rfl, hc1⟩ := HX.out.bar (by omega)
      have hbi := (hc1 i (by rw [List.length_map]; exact hil)).past HO.out.2
      rw [List.getElem_map, hve] at hbi
      have HFT := Lib.hid (flt_take hil hve)
      have e0 : wr.cell? ⟨b1, o1 + i * 3, none⟩ = some (.int .i64 v.d) := hbi.1
      have e1 : wr.cell? ⟨b1, o1 + i * 3 + 1, none⟩ = some (.string (tE (some v.q))) := hbi.2.1
      have e2 : wr.cell? ⟨b1, o1 + i * 3 + 2, none⟩ = some (.string (tE v.e)) := hbi.2.2
      have HE := Lib.hid (And.intro e0 (And.intro e1 e2))
      clear hc1 hbi hve
      have PD : Hid (Past wr wr.drew) := (Past.refl wr).drew
      have H2 : Hid (wr.cell? ⟨b1, o1 + i * 3 + 1, none⟩ = some (.string (tE (some v.q))) ∧ wr.cell? ⟨b1, o1 + i * 3 + 2, none⟩ = some (.string (tE v.e))) := ⟨e1, e2⟩
      clear e0 e1 e2
      have HS1 : Hid (tlE (some v.q) ≤ 10000000) := HVK.out.2.2.1
      have HS2 : Hid (tlE v.e ≤ 10000000) := HVK.out.2.2.2
      have z1 : (i : Int) < (n : Int) := by omega
      go_wp2_with fail
      go_region_held3 (fun w' => w'.cell? ⟨b1, o1 + i * 3 + 1, none⟩ = some (.string (tE (some v.q))) ∧ w'.cell? ⟨b1, o1 + i * 3 + 2, none⟩ = some (.string (tE v.e))) (first | (refine keep2 hp2 ?_; assumption) | (refine keep2 PD ?_; exact H2.out))
        (first
          | (go_at_call 24; ((with_reducible refine (fr_compare (some v.q) v.e _ HS1.out HS2.out).mono ?_)); rintro e w2 ⟨hp2, rfl⟩))
      have HPP := Lib.hid (PD.out.trans hp2)
      obtain ⟨cv, hcv⟩ : ∃ c, cmpE (some v.q) v.e = c := ⟨_, rfl⟩
      rw [hcv]
      have HCV := Lib.hid hcv
      clear hcv hp2
      have k0 := HPP.out.cell HE.out.1
      have k1 := HPP.out.cell HE.out.2.1
      have k2 := HPP.out.cell HE.out.2.2
      have HO2 := Lib.hid (HO.out.past HPP.out)
      by_cases hlt : 0 ≤ cv
      · have HSS : Hid (sortV (vs.take (i + 1)) = sortV (vs.take i)) := by
          have hl : live v = false := decide_eq_false (by rw [HCV.out]; omega)
          show _ = _
          unfold sortV
          rw [HFT.out, hl]
          simp
        go_wp2_with fail
        go_roundg (n - (i + 1))
        case measure => have := HG.out; omega
        case rel => exact ⟨i + 1, _, rfl, by go_num, by omega, rfl, by rw [HSS.out]; exact HO2.out⟩
      · have hlv : live v = true := decide_eq_true (by rw [HCV.out]; omega)
        obtain ⟨P, hP⟩ : ∃ P, sortV (vs.take i) = P := ⟨_, rfl⟩
        have HSS : Hid (sortV (vs.take (i + 1)) = insR ltV v P) := by
          show _ = _
          unfold sortV at hP ⊢
          rw [HFT.out, hlv, if_pos rfl, isort_snoc, hP]
        have hPm : ∀ u ∈ P, u.okL := fun u hu => HOK.out u (by
          rw [← hP] at hu
          unfold sortV at hu
          exact List.mem_of_mem_take (List.mem_filter.1 ((isort_perm _ _).mem_iff.1 hu)).1)
        have hPl : P.length ≤ i := by
          rw [← hP]
          unfold sortV
          rw [isort_length]
          refine Nat.le_trans (List.length_filter_le _ _) ?_
          rw [List.length_take]; omega
        rw [hP] at HO2
        have HPM := Lib.hid hPm
        clear hPm hP hlv
        obtain ⟨nP, hnP⟩ : ∃ k, P.length = k := ⟨_, rfl⟩
        rw [hnP] at hPl
        have HNP := Lib.hid hnP
        clear hnP
        have HL3 : Hid ((P.map VB.enc ++ [v.enc]).length = nP + 1) := by show _ = _; rw [List.length_append, List.length_map, HNP.out]; rfl
        go_wp2_with (first | (at_builtin; refine wpList_appS el_bar (HO2.out.alloc _) rfl rfl rfl ⟨_, 0, none⟩ _ v.enc rfl (cell_newS rBar _ _ _ _ _ (by simp [go_sem]) rfl) ?_ ?_; (rw [List.length_map, HNP.out]; omega); intro v3 w3 hown3 hp3; obtain ⟨g, cg, rfl, -, -, -, -, -, -⟩ := hown3.form (by rw [HL3.out]; omega); rw [HL3.out] at hown3 ⊢; have HO3 := Lib.hid hown3; clear hown3 hp3))
        have HS : Hid (OwnS w w3 rBar 94 (.slice (some ⟨g, 0, none⟩) (nP + 1) cg) ((onWay P v nP []).map VB.enc)) := by
          have h1 := HO3.out
          have e : P.map VB.enc ++ [v.enc] = (onWay P v nP []).map VB.enc := by rw [← HNP.out, onWay_start]; simp
          rw [e] at h1
          exact h1
        clear k0 k1 k2 z1
        go_loopg [5] nP (fun gj jv wx => ∃ j : Nat, jv = .int .i64 j ∧ j ≤ nP ∧ Hid (gj = j) ∧ Hid (slot ltV v P j = slot ltV v P nP) ∧ Hid (OwnS w wx rBar 94 (.slice (some ⟨g, 0, none⟩) (nP + 1) cg) ((onWay P v j []).map VB.enc)))
        case atStart => exact ⟨nP, by go_num, Nat.le_refl _, rfl, rfl, HS⟩
        case round =>
          clear HS HO3 HO2 HO
          obtain ⟨j, rfl, hji, HGJ, HSL, HS⟩ := hrel
          by_cases hj0 : j = 0
          · subst hj0
            have HN : Hid (onWay P v 0 [] = sortV (vs.take (i + 1))) := by
              show _ = _
              rw [HSS.out]
              have := onWay_end ltV P v 0 [] (by rw [HNP.out]; exact HSL.out) rfl
              rw [List.append_nil] at this
              exact this
            go_wp2
            go_quiet (fail)
            go_wp2
            go_roundg (n - (i + 1))
            case measure => have := HG.out; omega
            case rel => exact ⟨i + 1, _, rfl, by go_num, by omega, rfl, by rw [← HN.out]; exact ⟨HS.out.1, HS.out.2.drewN _⟩⟩
          · obtain ⟨k, rfl⟩ : ∃ k, j = k + 1 := ⟨j - 1, by omega⟩
            have hkP : k < P.length := by have := HNP.out; omega
            obtain ⟨u, hue⟩ : ∃ b, P[k] = b := ⟨_, rfl⟩
            have hfu : u.okL := HPM.out u (by rw [← hue]; exact List.getElem_mem hkP)
            have hbx := HS.out.barAt (y := v.enc) (j := k + 1) (by rw [List.getElem?_map, onWay_at (by omega)]; rfl)
            have hbp := HS.out.barAt (j := k) (y := u.enc) (by rw [List.getElem?_map, onWay_before hkP, hue]; rfl)
            have hst : slot ltV v P (k + 1) = if ltV v u = true then slot ltV v P k else k + 1 := by
              rw [slot, List.getElem?_eq_getElem hkP, hue]
            have HST := Lib.hid hst
            have HFU := Lib.hid hfu
            have HUE := Lib.hid hue
            clear hst hfu hue
            have e0 : wr.cell? ⟨g, (k + 1) * 3, none⟩ = some (.int .i64 v.d) := hbx.1.1
            have e1 : wr.cell? ⟨g, (k + 1) * 3 + 1, none⟩ = some (.string (tE (some v.q))) := hbx.1.2.1
            have e2 : wr.cell? ⟨g, (k + 1) * 3 + 2, none⟩ = some (.string (tE v.e)) := hbx.1.2.2
            have g0 : wr.cell? ⟨g, k * 3, none⟩ = some (.int .i64 u.d) := hbp.1.1
            have g1 : wr.cell? ⟨g, k * 3 + 1, none⟩ = some (.string (tE (some u.q))) := hbp.1.2.1
            have g2 : wr.cell? ⟨g, k * 3 + 2, none⟩ = some (.string (tE u.e)) := hbp.1.2.2
            clear hbx hbp
            have H6 : Hid (wr.cell? ⟨g, (k + 1) * 3, none⟩ = some (.int .i64 v.d) ∧ wr.cell? ⟨g, (k + 1) * 3 + 1, none⟩ = some (.string (tE (some v.q))) ∧ wr.cell? ⟨g, (k + 1) * 3 + 2, none⟩ = some (.string (tE v.e)) ∧ wr.cell? ⟨g, k * 3, none⟩ = some (.int .i64 u.d) ∧ wr.cell? ⟨g, k * 3 + 1, none⟩ = some (.string (tE (some u.q))) ∧ wr.cell? ⟨g, k * 3 + 2, none⟩ = some (.string (tE u.e))) := ⟨e0, e1, e2, g0, g1, g2⟩
            clear e0 e1 e2 g0 g1 g2
            have z1 : (k : Int) < (nP : Int) + 1 := by omega
            have z2 : IntKind.i64.wrap (k : Int) = (k : Int) := by rw [IntKind.wrap_i64]; omega
            have z3 : (k : Int) + 1 < (nP : Int) + 1 := by omega
            have z4 : (0 : Int) ≤ (k : Int) + 1 := by omega
            have z5 : ((k : Int) + 1).toNat = k + 1 := by omega
            have z6 : k < nP + 1 := by omega
            have PD : Hid (Past wr wr.drew) := (Past.refl wr).drew
            go_wp2_with fail
            go_region_held3 (fun w' => w'.cell? ⟨g, (k + 1) * 3, none⟩ = some (.int .i64 v.d) ∧ w'.cell? ⟨g, (k + 1) * 3 + 1, none⟩ = some (.string (tE (some v.q))) ∧ w'.cell? ⟨g, (k + 1) * 3 + 2, none⟩ = some (.string (tE v.e)) ∧ w'.cell? ⟨g, k * 3, none⟩ = some (.int .i64 u.d) ∧ w'.cell? ⟨g, k * 3 + 1, none⟩ = some (.string (tE (some u.q))) ∧ w'.cell? ⟨g, k * 3 + 2, none⟩ = some (.string (tE u.e))) (first | (refine keep6 hp2 ?_; assumption) | (refine keep6 PD ?_; exact H6.out))
              (first
                | (go_at_call 64; ((with_reducible refine (ref_cmpL v u _ HVK.out HFU.out).mono ?_)); rintro e w2 ⟨hp2, rfl⟩))
            have HPQ := Lib.hid (PD.out.trans hp2)
            have h6 := keep6 HPQ.out H6.out
            have q0 := h6.1
            have q1 := h6.2.1
            have q2 := h6.2.2.1
            have q3 := h6.2.2.2.1
            have q4 := h6.2.2.2.2.1
            have q5 := h6.2.2.2.2.2
            clear h6
            obtain ⟨dv, hdv⟩ : ∃ c, cmpV v u = c := ⟨_, rfl⟩
            rw [hdv]
            have HDV := Lib.hid hdv
            clear hdv
            by_cases hlt : dv < 0
            · have HLT : Hid (ltV v u = true) := decide_eq_true (by rw [HDV.out]; exact hlt)
              have HS2 : Hid (OwnS w w2 rBar 94 (.slice (some ⟨g, 0, none⟩) (nP + 1) cg) ((onWay P v (k + 1) []).map VB.enc)) := HS.out.past HPQ.out
              have hfr := (HS2.out.barAt (y := v.enc) (j := k + 1) (by rw [List.getElem?_map, onWay_at (by omega)]; rfl)).2
              have f0 := hfr ((k + 1) * 3)
              have f1 := hfr ((k + 1) * 3 + 1)
              have f2 := hfr ((k + 1) * 3 + 2)
              have f3 := hfr (k * 3)
              have f4 := hfr (k * 3 + 1)
              have f5 := hfr (k * 3 + 2)
              clear hfr
              go_wp2_with fail
              go_region
              all_goals go_wp2_with fail
              have HFIN : Hid (OwnS w (setBar (setBar w2 g ((k + 1) * 3) u.enc) g (k * 3) v.enc) rBar 94 (.slice (some ⟨g, 0, none⟩) (nP + 1) cg) ((onWay P v k []).map VB.enc)) := by
                have hl := onWay_length P v (k + 1) [] (by omega)
                have h1 := (HS2.out.setBar (j := k + 1) (by rw [List.length_map]; omega) u.enc).setBar (j := k) (by rw [List.length_set, List.length_map]; omega) v.enc
                rw [← List.map_set, ← List.map_set, ← HUE.out, onWay_step hkP, HUE.out] at h1
                exact h1
              go_roundg k
              case measure => have := HGJ.out; omega
              case rel => exact ⟨k, rfl, by omega, rfl, by show _ = _; rw [← HSL.out, HST.out, HLT.out]; rfl, HFIN.out.past (Past.refl _).drew⟩
            · have HLT : Hid (ltV v u = false) := decide_eq_false (by rw [HDV.out]; exact hlt)
              have HN : Hid (onWay P v (k + 1) [] = sortV (vs.take (i + 1))) := by
                show _ = _
                rw [HSS.out]
                have := onWay_end ltV P v (k + 1) [] (by rw [HNP.out]; exact HSL.out) (by rw [HST.out, HLT.out]; rfl)
                rw [List.append_nil] at this
                exact this
              go_wp2
              go_roundg (n - (i + 1))
              case measure => have := HG.out; omega
              case rel => exact ⟨i + 1, _, rfl, by go_num, by omega, rfl, by rw [← HN.out]; exact HS.out.past HPQ.out⟩
    · have HN : Hid (sortV (vs.take i) = sortV vs) := by show _ = _; rw [List.take_of_length_le (by have := HL.out; omega)]
      go_wp2
      go_ret
      exact ⟨HO.out.2, _, rfl, by rw [← HN.out]; exact HO.out⟩

end Go.Proofs.YtdcjibjldfjllaaGreat

/- The reference's Normal on any bars. -/
namespace Go.Proofs.YtdcjibjldfjllaaGreat
open Go.RowKit

theorem all_step {l : List Bar} {i : Nat} (h : i < l.length) : (l.drop i).all validB = (validB l[i] && (l.drop (i + 1)).all validB) := by
  rw [List.drop_eq_getElem_cons h, List.all_cons]

theorem dec_back {bs : List Bar} (h : bs.all validB = true) (hf : ∀ b ∈ bs, b.x.size ≤ 1000000 ∧ b.y.size ≤ 1000000) : (bs.map decB).map VB.enc = bs ∧ ∀ v ∈ bs.map decB, v.okL := by
  have hv := List.all_eq_true.1 h
  refine ⟨?_, ?_⟩
  · rw [List.map_map]
    conv => rhs; rw [← List.map_id bs]
    apply List.map_congr_left
    intro b hb
    exact (decB_ok (hv b hb) (hf b hb)).1
  · intro v hv2
    obtain ⟨b, hb, rfl⟩ := List.mem_map.1 hv2
    exact (decB_ok (hv b hb) (hf b hb)).2

set_option maxRecDepth 100000 in
set_option maxHeartbeats 4000000 in
theorem ref_normal (A : Option Addr) (n c : Nat) (bs : List Bar) (w : World) (hx : Rows w rBar A n c bs) (hf : ∀ b ∈ bs, b.x.size ≤ 1000000 ∧ b.y.size ≤ 1000000) (hn : n ≤ 2048) :
    Calls Tryz.prog 30 #[.slice A n c] w fun e w' => Past w w' ∧ ((bs.all validB = false ∧ e = .returned (.tuple #[.slice none 0 0, .int .i64 1])) ∨ (bs.all validB = true ∧ ∃ v w0, e = .returned (.tuple #[v, .int .i64 0]) ∧ Past w w0 ∧ OwnS w0 w' rBar 94 v ((sortV (bs.map decB)).map VB.enc))) := by
  have HX := Lib.hid hx
  have HL := Lib.hid hx.len
  have HF := Lib.hid hf
  clear hx hf
  have hb : ¬ (2048 : Int) < (n : Int) := by omega
  go_enter Tryz.func30, Tryz.ntmps30
  go_wp2_with fail
  go_loopw [4] (fun iv w' => ∃ i : Nat, i ≤ n ∧ iv = .int .i64 i ∧ Hid (bs.all validB = (bs.drop i).all validB) ∧ Hid (Past w w')) (fun iv _ => n - (intOf iv).toNat)
  case atStart => exact ⟨0, Nat.zero_le _, rfl, by rw [List.drop_zero]; exact rfl, Past.refl _⟩
  case round =>
    obtain ⟨i, hi, rfl, HO, HP⟩ := hrel
    by_cases hin : i < n
    · have hil : i < bs.length := by have := HL.out; omega
      obtain ⟨b1, o1, rfl, hc1⟩ := HX.out.bar (by omega)
      have hbi := (hc1 i hil).past HP.out
      have HS := Lib.hid (all_step hil)
      have HB := Lib.hid (HF.out _ (List.getElem_mem hil))
      generalize bs[i] = b at *
      obtain ⟨d, x, y⟩ := b
      have e0 : wr.cell? ⟨b1, o1 + i * 3, none⟩ = some (.int .i64 d) := hbi.1
      have e1 : wr.cell? ⟨b1, o1 + i * 3 + 1, none⟩ = some (.string x) := hbi.2.1
      have e2 : wr.cell? ⟨b1, o1 + i * 3 + 2, none⟩ = some (.string y) := hbi.2.2
      clear hc1 hbi
      have C := Lib.hid (fun w => ref_barValid ⟨d, x, y⟩ w HB.out)
      generalize validB ⟨d, x, y⟩ = q at *
      cases q
      · have HV : Hid (bs.all validB = false) := by rw [HO.out, HS.out]; exact Bool.false_and _
        go_wp2_with fail
        refine (C.out _).mono ?_
        rintro e w1 ⟨hp1, rfl⟩
        go_wp2
        go_ret2
        exact ⟨HP.out.trans hp1, .inl ⟨HV.out, rfl⟩⟩
      · have HV : Hid (bs.all validB = (bs.drop (i + 1)).all validB) := by rw [HO.out, HS.out]; exact Bool.true_and _
        go_wp2_with fail
        refine (C.out _).mono ?_
        rintro e w1 ⟨hp1, rfl⟩
        go_wp2
        go_roundw
        case rel => exact ⟨i + 1, by omega, by go_num, HV, HP.out.trans hp1⟩
        case measure => simp [intOf]; omega
    · have HV : Hid (bs.all validB = true) := by
        rw [HO.out, List.drop_eq_nil_of_le (by have := HL.out; omega)]
        exact rfl
      have HD := Lib.hid (dec_back HV.out HF.out)
      go_wp2_with fail
      refine (ref_sortedL _ _ _ (bs.map decB) _ (by rw [HD.out.1]; exact HX.out.past HP.out) HD.out.2 (by omega)).mono ?_
      rintro e w1 ⟨hp1, v, rfl, hv⟩
      go_wp2
      go_ret2
      exact ⟨HP.out.trans hp1, .inr ⟨HV.out, v, _, rfl, HP.out, hv⟩⟩

end Go.Proofs.YtdcjibjldfjllaaGreat

/- barcode.Normal's change of a bar: none, if it is valid. -/
namespace Go.Proofs.YtdcjibjldfjllaaGreat
open Go.RowKit

theorem Past.frozenAt {w w1 : World} {g : Nat} (h : Past w w1) (hg : g < w.heap.size) (j : Nat) : w1.frozen? ⟨g, j, none⟩ = w.frozen? ⟨g, j, none⟩ := by
  unfold World.frozen?
  rw [h.block g hg]

def normChg : Chg := fun b => (b, validB b, if validB b then 0 else 1)

set_option maxRecDepth 100000 in
set_option maxHeartbeats 4000000 in
theorem norm_chg (w0 : World) (G' : Bar → Prop) (hG : ∀ b, b.fit → validB b = true → G' b) :
    ChgOk2 w0 (.func (.func 88) #[] #[]) normChg Bar.fit G' := by
  refine ⟨_, _, rfl, fun args w => by simp [go_sem], fun w g b hp hg hb hf hpre => ?_⟩
  have HG := Lib.hid (hG b hpre)
  have HP := Lib.hid (And.intro hp hg)
  have HF := Lib.hid hf
  have HPRE := Lib.hid hpre
  have HB := Lib.hid hb
  obtain ⟨d, x, y⟩ := b
  have e0 : w.cell? ⟨g, 0, none⟩ = some (.int .i64 d) := hb.1
  have e1 : w.cell? ⟨g, 1, none⟩ = some (.string x) := hb.2.1
  have e2 : w.cell? ⟨g, 2, none⟩ = some (.string y) := hb.2.2
  obtain ⟨v, hv⟩ : ∃ v, validB ⟨d, x, y⟩ = v := ⟨_, rfl⟩
  have hchg : normChg ⟨d, x, y⟩ = (⟨d, x, y⟩, v, if v then 0 else 1) := by unfold normChg; rw [hv]
  rw [hchg]
  rw [hv] at HG
  have HV := Lib.hid hv
  clear hchg hv hG hpre hf hb hp hg
  show Calls _ _ #[.pointer (some ⟨g, 0, none⟩)] w _
  dsimp only
  have C := Lib.hid (fun w => bar_valid ⟨d, x, y⟩ w HPRE.out)
  rw [HV.out] at C
  cases v <;> (
    go_enter Tryz.func88, Tryz.ntmps88
    go_wp2_with fail
    refine (C.out _).mono ?_
    rintro e w1 ⟨hp1, rfl⟩
    go_wp2
    go_ret2
    have h : w.grownBy w1 (some g) ∧ BarAt w1 g 0 ⟨d, x, y⟩ ∧ (∀ j, w1.frozen? ⟨g, j, none⟩ = false) := ⟨⟨hp1.os, hp1.tape, hp1.output, hp1.size, fun k hk _ => hp1.block k hk⟩, HB.out.past hp1, fun j => (Past.frozenAt hp1 (World.block_lt_of_cell? w _ HB.out.1) j).trans (HF.out j)⟩
    first | exact ⟨h.1, h.2.1, h.2.2, HG.out trivial, rfl⟩ | exact ⟨h.1, h.2.1, h.2.2, fun _ => HG.out trivial, rfl⟩ | exact ⟨h.1, h.2.1, h.2.2, fun _ => HG.out rfl, rfl⟩ | exact ⟨h.1, h.2.1, h.2.2, fun hh => by cases hh, rfl⟩ | exact ⟨h.1, h.2.1, h.2.2, fun _ => HG.out HPRE.out rfl, rfl⟩ | exact ⟨h.1, h.2.1, h.2.2, rfl⟩ | exact ⟨h.1, h.2.1, h.2.2, HG.out, rfl⟩)

end Go.Proofs.YtdcjibjldfjllaaGreat

/- barcode.Normal. -/
namespace Go.Proofs.YtdcjibjldfjllaaGreat
open Go.RowKit

def normG (k : Nat) (b : Bar) : Prop := if k = 0 then b.fit else okBar b

set_option maxRecDepth 100000 in
set_option maxHeartbeats 4000000 in
theorem bar_normal (A : Option Addr) (n c : Nat) (bs : List Bar) (w : World) (hx : Rows w rBar A n c bs) (hf : ∀ b ∈ bs, b.fit) (hn : n ≤ 2048) :
    Calls Tryz.prog 29 #[.slice A n c] w fun e w' => Past w w' ∧ ∃ v, e = .returned (.tuple #[v, .int .i64 (chgAll [normChg] [] bs).2]) ∧ OwnS w w' rBar 94 v (chgAll [normChg] [] bs).1 ∧ ∀ b ∈ (chgAll [normChg] [] bs).1, okBar b := by
  have HX := Lib.hid hx
  have HF := Lib.hid hf
  have hb : ¬ (2048 : Int) < (n : Int) := by omega
  have HN : Hid (n ≤ 1000000) := Nat.le_trans hn (by decide)
  have HG : Hid (∀ b : Bar, b.fit → validB b = true → okBar b) := fun b h1 h2 => by
    unfold validB at h2
    simp only [Bool.and_eq_true, decide_eq_true_eq] at h2
    obtain ⟨⟨⟨⟨_, _⟩, h3⟩, h4⟩, _⟩ := h2
    exact ⟨h1, h3, h4⟩
  clear hx hf
  go_enter Tryz.func29, Tryz.ntmps29
  go_wp2_with fail
  refine (bar_changed2 normG okBar (fun b h => h.1) A (some ⟨w.heap.size, 0, none⟩) n c 1 1 bs [.func (.func 88) #[] #[]] [normChg] _ (HX.out.past ((Past.refl w).alloc _)) (fun b hb => by unfold normG; rw [if_pos rfl]; exact HF.out b hb) (fun b h => by unfold normG at h; rw [if_neg (by omega)] at h; exact h) HN.out (sortOk_any (fun b h => h) (by have := HN.out; omega)) rfl rfl (by omega) (fun _ => ⟨_, _, rfl, ?_⟩) ?_).mono ?_
  · intro j hj
    match j, hj with
    | 0, _ => exact cell_new1 _ _ _
  · intro j hj _
    match j, hj with
    | 0, _ => exact norm_chg _ _ (fun b h1 h2 => by unfold normG; rw [if_neg (by omega)]; exact HG.out b h1 h2)
  · rintro e w5 ⟨hp5, v, rfl, hown, hq⟩
    have HOW : Hid (Past w w5 ∧ OwnS w w5 rBar 94 v (chgAll [normChg] [] bs).1 ∧ ∀ b ∈ (chgAll [normChg] [] bs).1, okBar b) := ⟨((Past.refl w).alloc _).trans hp5, hown.low ((Past.refl w).alloc _), hq⟩
    clear hp5 hown hq
    go_wp2
    go_ret2
    exact ⟨HOW.out.1, v, rfl, HOW.out.2.1, HOW.out.2.2⟩

end Go.Proofs.YtdcjibjldfjllaaGreat

/- barcode.compare and the reference's Cmp agree on valid bars. -/
namespace Go.Proofs.YtdcjibjldfjllaaGreat
open Go.RowKit

theorem dec_lt {a b : Bar} (ha : validB a = true) (hb : validB b = true) : ltB a b = ltV (decB a) (decB b) := by
  have ends : ∀ {b : Bar}, validB b = true → (okE (byt b.x) = true ∧ okE (byt b.y) = true) ∧ eV (byt b.x) = some (valR (byt b.x)) := by
    intro b hb
    unfold validB at hb
    simp only [Bool.and_eq_true, decide_eq_true_eq] at hb
    obtain ⟨⟨⟨⟨_, _⟩, h3⟩, h4⟩, _⟩ := hb
    refine ⟨⟨by unfold okE; rw [h3]; simp, h4⟩, ?_⟩
    unfold eV
    have : isInf (byt b.x) = false := by
      cases hi : isInf (byt b.x) with
      | false => rfl
      | true =>
        have e := (isInf_iff _).1 hi
        rw [e] at h3
        exact absurd h3 (by decide)
    rw [this]
    rfl
  obtain ⟨⟨a1, a2⟩, a3⟩ := ends ha
  obtain ⟨⟨b1, b2⟩, b3⟩ := ends hb
  unfold ltB ltV
  apply decide_eq_decide.2
  have e1 : cmpB a b = orI (cmpZ (decB a).d (decB b).d) (orI (cmpE (some (decB a).q) (some (decB b).q)) (cmpE (decB a).e (decB b).e)) := by
    unfold cmpB cmpT decB
    rw [a1, a2, b1, b2, a3, b3]
    rfl
  rw [e1]
  generalize decB a = u
  generalize decB b = v
  unfold cmpV orI
  have hz := cmpZ_sign u.d v.d
  by_cases hd : u.d = v.d
  · rw [if_pos (hz.2.2 hd), if_neg (show ¬ u.d ≠ v.d by simp [hd])]
    by_cases hq : cmpE (some u.q) (some v.q) = 0
    · rw [if_pos hq, if_neg (show ¬ cmpE (some u.q) (some v.q) ≠ 0 by simp [hq])]
    · rw [if_neg hq, if_pos (show cmpE (some u.q) (some v.q) ≠ 0 from hq)]
  · rw [if_neg (fun h => hd (hz.2.1 h)), if_pos hd, hz.1]
    omega

end Go.Proofs.YtdcjibjldfjllaaGreat
