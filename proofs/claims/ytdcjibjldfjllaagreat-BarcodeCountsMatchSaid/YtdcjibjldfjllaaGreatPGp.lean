/- Helpers of the proof, joined: Rf1 Rf2 Rf3 Rf4. -/
import Derived.Test.YtdcjibjldfjllaaGreatPGn
import Derived.Test.YtdcjibjldfjllaaGreatPGl
set_option linter.unusedVariables false
set_option linter.unusedSimpArgs false
/- torusref20: bars of numbers; Cmp. -/
namespace Go.Proofs.YtdcjibjldfjllaaGreat
open Go.RowKit

/-- A bar of numbers. -/
structure VB where
  d : Int
  q : Rat
  e : Option Rat
def VB.enc (v : VB) : Bar := ⟨v.d, tE (some v.q), tE v.e⟩
/-- Its dimension is small, its ends are short. -/
def VB.ok (v : VB) : Prop := 0 ≤ v.d ∧ v.d ≤ 4 ∧ tlE (some v.q) ≤ 100 ∧ tlE v.e ≤ 100
/-- What torusref20.Cmp answers. -/
def cmpV (a b : VB) : Int := if a.d ≠ b.d then a.d - b.d else if cmpE (some a.q) (some b.q) ≠ 0 then cmpE (some a.q) (some b.q) else cmpE a.e b.e
def ltV (a b : VB) : Bool := decide (cmpV a b < 0)

set_option maxRecDepth 100000 in
set_option maxHeartbeats 4000000 in
theorem ref_cmp (a b : VB) (w : World) (ha : a.ok) (hb : b.ok) :
    Calls Tryz.prog 64 #[.agg #[.int .i64 a.d, .string (tE (some a.q)), .string (tE a.e)], .agg #[.int .i64 b.d, .string (tE (some b.q)), .string (tE b.e)]] w fun e w' => Past w w' ∧ e = .returned (.int .i64 (cmpV a b)) := by
  obtain ⟨d, q, e⟩ := a
  obtain ⟨d', q', e'⟩ := b
  have HQ := Lib.hid (fr_compare (some q) (some q'))
  have HE := Lib.hid (fr_compare e e')
  have HB : Hid ((tlE (some q) ≤ 10000000 ∧ tlE (some q') ≤ 10000000) ∧ tlE e ≤ 10000000 ∧ tlE e' ≤ 10000000) := ⟨⟨Nat.le_trans ha.2.2.1 (by decide), Nat.le_trans hb.2.2.1 (by decide)⟩, Nat.le_trans ha.2.2.2 (by decide), Nat.le_trans hb.2.2.2 (by decide)⟩
  have p0 : 0 ≤ d := ha.1
  have p1 : d ≤ 4 := ha.2.1
  have p2 : 0 ≤ d' := hb.1
  have p3 : d' ≤ 4 := hb.2.1
  have HCV : Hid (cmpV ⟨d, q, e⟩ ⟨d', q', e'⟩ = if d ≠ d' then d - d' else if cmpE (some q) (some q') ≠ 0 then cmpE (some q) (some q') else cmpE e e') := rfl
  clear ha hb
  dsimp only
  generalize tE (some q) = x at *
  generalize tE (some q') = x' at *
  generalize tE e = y at *
  generalize tE e' = y' at *
  have HK : Hid ((((w.alloc (.cells #[.int .i64 d, .string x, .string y] 94)).alloc (.cells #[.int .i64 d', .string x', .string y'] 94)).cell? ⟨w.heap.size, 2, none⟩ = some (.string y)) ∧ (((w.alloc (.cells #[.int .i64 d, .string x, .string y] 94)).alloc (.cells #[.int .i64 d', .string x', .string y'] 94)).cell? ⟨w.heap.size + 1, 2, none⟩ = some (.string y'))) := by unfold Hid; simp [go_sem]
  by_cases hd : d = d'
  · have hdb : (d != d') = false := by simp [hd]
    obtain ⟨c1, hc1⟩ : ∃ c, cmpE (some q) (some q') = c := ⟨_, rfl⟩
    have HC1 := Lib.hid hc1
    by_cases h1 : c1 = 0
    · have h1b : (c1 != 0) = false := by simp [h1]
      have HR : Hid (cmpV ⟨d, q, e⟩ ⟨d', q', e'⟩ = cmpE e e') := by show _ = _; rw [HCV.out, if_neg (by simp [hd]), hc1, if_neg (by simp [h1])]
      clear hd hc1 h1
      go_enter Tryz.func64, Tryz.ntmps64
      go_wp2_with fail
      refine (HQ.out _ HB.out.1.1 HB.out.1.2).mono ?_
      rintro e w1 ⟨hp1, rfl⟩
      rw [HC1.out]
      have k1 := hp1.cell HK.out.1
      have k2 := hp1.cell HK.out.2
      go_wp2_with fail
      refine (HE.out _ HB.out.2.1 HB.out.2.2).mono ?_
      rintro e w2 ⟨hp2, rfl⟩
      go_wp2
      go_ret
      exact ⟨((((Past.refl _).alloc _).alloc _).trans hp1).trans hp2, by rw [HR.out]; rfl⟩
    · have h1b : (c1 != 0) = true := by simp [h1]
      have HR : Hid (cmpV ⟨d, q, e⟩ ⟨d', q', e'⟩ = c1) := by show _ = _; rw [HCV.out, if_neg (by simp [hd]), hc1, if_pos h1]
      clear hd hc1 h1
      go_enter Tryz.func64, Tryz.ntmps64
      go_wp2_with fail
      refine (HQ.out _ HB.out.1.1 HB.out.1.2).mono ?_
      rintro e w1 ⟨hp1, rfl⟩
      rw [HC1.out]
      go_wp2
      go_ret
      exact ⟨(((Past.refl _).alloc _).alloc _).trans hp1, by rw [HR.out]; rfl⟩
  · have hdb : (d != d') = true := by simp [hd]
    have HR : Hid (cmpV ⟨d, q, e⟩ ⟨d', q', e'⟩ = d - d') := by show _ = _; rw [HCV.out, if_pos hd]
    go_enter Tryz.func64, Tryz.ntmps64
    go_wp2
    go_ret
    exact ⟨((Past.refl _).alloc _).alloc _, by rw [HR.out]; rfl⟩

end Go.Proofs.YtdcjibjldfjllaaGreat

/- torusref20.Sorted. -/
namespace Go.Proofs.YtdcjibjldfjllaaGreat
open Go.RowKit

def live (v : VB) : Bool := decide (cmpE (some v.q) v.e < 0)
/-- What torusref20.Sorted answers. -/
def sortV (l : List VB) : List VB := isort ltV (l.filter live)
theorem flt_take {l : List VB} {i : Nat} {v : VB} (h : i < l.length) (hv : l[i] = v) : (l.take (i + 1)).filter live = (l.take i).filter live ++ if live v = true then [v] else [] := by
  rw [List.take_succ_eq_append_getElem h, hv, List.filter_append]
  congr 1
  rw [List.filter_cons]
  split <;> rfl

set_option maxRecDepth 100000 in
set_option maxHeartbeats 4000000 in
theorem ref_sorted (A : Option Addr) (n c : Nat) (vs : List VB) (w : World) (hx : Rows w rBar A n c (vs.map VB.enc)) (hok : ∀ v ∈ vs, v.ok) (hn : n ≤ 1000000) :
    Calls Tryz.prog 44 #[.slice A n c] w fun e w' => Past w w' ∧ ∃ v, e = .returned v ∧ OwnS w w' rBar 94 v ((sortV vs).map VB.enc) := by
  have HX := Lib.hid hx
  have HL : Hid (vs.length = n) := by have := hx.len; rw [List.length_map] at this; exact this
  have HOK := Lib.hid hok
  clear hx hok
  go_enter Tryz.func44, Tryz.ntmps44
  go_wp2_with fail
  go_loopg [3, 4] n (fun gg ov iv wr => ∃ (i : Nat) (vo : Value), vo = ov ∧ iv = .int .i64 i ∧ i ≤ n ∧ Hid (gg = n - i) ∧ Hid (OwnS w wr rBar 94 vo ((sortV (vs.take i)).map VB.enc)))
  case atStart => exact ⟨0, _, rfl, rfl, Nat.zero_le _, rfl, OwnS.nil (Past.refl _) _ _⟩
  case round =>
    obtain ⟨i, vo, hvo, rfl, hi, HG, HO⟩ := hrel
    subst hvo
    by_cases hin : i < n
    · have hil : i < vs.length := by have := HL.out; omega
      obtain ⟨v, hve⟩ : ∃ v, vs[i] = v := ⟨_, rfl⟩
      have HVK : Hid v.ok := by rw [← hve]; exact HOK.out _ (List.getElem_mem hil)
      obtain ⟨b1, o1, rfl, hc1⟩ := HX.out.bar (by omega)
      have hbi := (hc1 i (by rw [List.length_map]; exact hil)).past HO.out.2
      rw [List.getElem_map, hve] at hbi
      have HFT := Lib.hid (flt_take hil hve)
      have e0 : wr.cell? ⟨b1, o1 + i * 3, none⟩ = some (.int .i64 v.d) := hbi.1
      have e1 : wr.cell? ⟨b1, o1 + i * 3 + 1, none⟩ = some (.string (tE (some v.q))) := hbi.2.1
      have e2 : wr.cell? ⟨b1, o1 + i * 3 + 2, none⟩ = some (.string (tE v.e)) := hbi.2.2
      have HE := Lib.hid (And.intro e0 (And.intro e1 e2))
      clear hc1 hbi hve
      have PD : Hid (Past wr wr.drew) := (Past.refl wr).drew
      have H2 : Hid (wr.cell? ⟨b1, o1 + i * 3 + 1, none⟩ = some (.string (tE (some v.q))) ∧ wr.cell? ⟨b1, o1 + i * 3 + 2, none⟩ = some (.string (tE v.e))) := ⟨e1, e2⟩
      clear e0 e1 e2
      have HS1 : Hid (tlE (some v.q) ≤ 10000000) := Nat.le_trans HVK.out.2.2.1 (by decide)
      have HS2 : Hid (tlE v.e ≤ 10000000) := Nat.le_trans HVK.out.2.2.2 (by decide)
      have z1 : (i : Int) < (n : Int) := by omega
      go_wp2_with fail
      go_region_held3 (fun w' => w'.cell? ⟨b1, o1 + i * 3 + 1, none⟩ = some (.string (tE (some v.q))) ∧ w'.cell? ⟨b1, o1 + i * 3 + 2, none⟩ = some (.string (tE v.e))) (first | (refine keep2 hp2 ?_; assumption) | (refine keep2 PD ?_; exact H2.out))
        (first
          | (go_at_call 24; ((with_reducible refine (fr_compare (some v.q) v.e _ HS1.out HS2.out).mono ?_)); rintro e w2 ⟨hp2, rfl⟩))
      have HPP := Lib.hid (PD.out.trans hp2)
      obtain ⟨cv, hcv⟩ : ∃ c, cmpE (some v.q) v.e = c := ⟨_, rfl⟩
      rw [hcv]
      have HCV := Lib.hid hcv
      clear hcv hp2
      have k0 := HPP.out.cell HE.out.1
      have k1 := HPP.out.cell HE.out.2.1
      have k2 := HPP.out.cell HE.out.2.2
      have HO2 := Lib.hid (HO.out.past HPP.out)
      by_cases hlt : 0 ≤ cv
      · have HSS : Hid (sortV (vs.take (i + 1)) = sortV (vs.take i)) := by
          have hl : live v = false := decide_eq_false (by rw [HCV.out]; omega)
          show _ = _
          unfold sortV
          rw [HFT.out, hl]
          simp
        go_wp2_with fail
        go_roundg (n - (i + 1))
        case measure => have := HG.out; omega
        case rel => exact ⟨i + 1, _, rfl, by go_num, by omega, rfl, by rw [HSS.out]; exact HO2.out⟩
      · have hlv : live v = true := decide_eq_true (by rw [HCV.out]; omega)
        obtain ⟨P, hP⟩ : ∃ P, sortV (vs.take i) = P := ⟨_, rfl⟩
        have HSS : Hid (sortV (vs.take (i + 1)) = insR ltV v P) := by
          show _ = _
          unfold sortV at hP ⊢
          rw [HFT.out, hlv, if_pos rfl, isort_snoc, hP]
        have hPm : ∀ u ∈ P, u.ok := fun u hu => HOK.out u (by
          rw [← hP] at hu
          unfold sortV at hu
          exact List.mem_of_mem_take (List.mem_filter.1 ((isort_perm _ _).mem_iff.1 hu)).1)
        have hPl : P.length ≤ i := by
          rw [← hP]
          unfold sortV
          rw [isort_length]
          refine Nat.le_trans (List.length_filter_le _ _) ?_
          rw [List.length_take]; omega
        rw [hP] at HO2
        have HPM := Lib.hid hPm
        clear hPm hP hlv
        obtain ⟨nP, hnP⟩ : ∃ k, P.length = k := ⟨_, rfl⟩
        rw [hnP] at hPl
        have HNP := Lib.hid hnP
        clear hnP
        have HL3 : Hid ((P.map VB.enc ++ [v.enc]).length = nP + 1) := by show _ = _; rw [List.length_append, List.length_map, HNP.out]; rfl
        go_wp2_with (first | (at_builtin; refine wpList_appS el_bar (HO2.out.alloc _) rfl rfl rfl ⟨_, 0, none⟩ _ v.enc rfl (cell_newS rBar _ _ _ _ _ (by simp [go_sem]) rfl) ?_ ?_; (rw [List.length_map, HNP.out]; omega); intro v3 w3 hown3 hp3; obtain ⟨g, cg, rfl, -, -, -, -, -, -⟩ := hown3.form (by rw [HL3.out]; omega); rw [HL3.out] at hown3 ⊢; have HO3 := Lib.hid hown3; clear hown3 hp3))
        have HS : Hid (OwnS w w3 rBar 94 (.slice (some ⟨g, 0, none⟩) (nP + 1) cg) ((onWay P v nP []).map VB.enc)) := by
          have h1 := HO3.out
          have e : P.map VB.enc ++ [v.enc] = (onWay P v nP []).map VB.enc := by rw [← HNP.out, onWay_start]; simp
          rw [e] at h1
          exact h1
        clear k0 k1 k2 z1
        go_loopg [5] nP (fun gj jv wx => ∃ j : Nat, jv = .int .i64 j ∧ j ≤ nP ∧ Hid (gj = j) ∧ Hid (slot ltV v P j = slot ltV v P nP) ∧ Hid (OwnS w wx rBar 94 (.slice (some ⟨g, 0, none⟩) (nP + 1) cg) ((onWay P v j []).map VB.enc)))
        case atStart => exact ⟨nP, by go_num, Nat.le_refl _, rfl, rfl, HS⟩
        case round =>
          clear HS HO3 HO2 HO
          obtain ⟨j, rfl, hji, HGJ, HSL, HS⟩ := hrel
          by_cases hj0 : j = 0
          · subst hj0
            have HN : Hid (onWay P v 0 [] = sortV (vs.take (i + 1))) := by
              show _ = _
              rw [HSS.out]
              have := onWay_end ltV P v 0 [] (by rw [HNP.out]; exact HSL.out) rfl
              rw [List.append_nil] at this
              exact this
            go_wp2
            go_quiet (fail)
            go_wp2
            go_roundg (n - (i + 1))
            case measure => have := HG.out; omega
            case rel => exact ⟨i + 1, _, rfl, by go_num, by omega, rfl, by rw [← HN.out]; exact ⟨HS.out.1, HS.out.2.drewN _⟩⟩
          · obtain ⟨k, rfl⟩ : ∃ k, j = k + 1 := ⟨j - 1, by omega⟩
            have hkP : k < P.length := by have := HNP.out; omega
            obtain ⟨u, hue⟩ : ∃ b, P[k] = b := ⟨_, rfl⟩
            have hfu : u.ok := HPM.out u (by rw [← hue]; exact List.getElem_mem hkP)
            have hbx := HS.out.barAt (y := v.enc) (j := k + 1) (by rw [List.getElem?_map, onWay_at (by omega)]; rfl)
            have hbp := HS.out.barAt (j := k) (y := u.enc) (by rw [List.getElem?_map, onWay_before hkP, hue]; rfl)
            have hst : slot ltV v P (k + 1) = if ltV v u = true then slot ltV v P k else k + 1 := by
              rw [slot, List.getElem?_eq_getElem hkP, hue]
            have HST := Lib.hid hst
            have HFU := Lib.hid hfu
            have HUE := Lib.hid hue
            clear hst hfu hue
            have e0 : wr.cell? ⟨g, (k + 1) * 3, none⟩ = some (.int .i64 v.d) := hbx.1.1
            have e1 : wr.cell? ⟨g, (k + 1) * 3 + 1, none⟩ = some (.string (tE (some v.q))) := hbx.1.2.1
            have e2 : wr.cell? ⟨g, (k + 1) * 3 + 2, none⟩ = some (.string (tE v.e)) := hbx.1.2.2
            have g0 : wr.cell? ⟨g, k * 3, none⟩ = some (.int .i64 u.d) := hbp.1.1
            have g1 : wr.cell? ⟨g, k * 3 + 1, none⟩ = some (.string (tE (some u.q))) := hbp.1.2.1
            have g2 : wr.cell? ⟨g, k * 3 + 2, none⟩ = some (.string (tE u.e)) := hbp.1.2.2
            clear hbx hbp
            have H6 : Hid (wr.cell? ⟨g, (k + 1) * 3, none⟩ = some (.int .i64 v.d) ∧ wr.cell? ⟨g, (k + 1) * 3 + 1, none⟩ = some (.string (tE (some v.q))) ∧ wr.cell? ⟨g, (k + 1) * 3 + 2, none⟩ = some (.string (tE v.e)) ∧ wr.cell? ⟨g, k * 3, none⟩ = some (.int .i64 u.d) ∧ wr.cell? ⟨g, k * 3 + 1, none⟩ = some (.string (tE (some u.q))) ∧ wr.cell? ⟨g, k * 3 + 2, none⟩ = some (.string (tE u.e))) := ⟨e0, e1, e2, g0, g1, g2⟩
            clear e0 e1 e2 g0 g1 g2
            have z1 : (k : Int) < (nP : Int) + 1 := by omega
            have z2 : IntKind.i64.wrap (k : Int) = (k : Int) := by rw [IntKind.wrap_i64]; omega
            have z3 : (k : Int) + 1 < (nP : Int) + 1 := by omega
            have z4 : (0 : Int) ≤ (k : Int) + 1 := by omega
            have z5 : ((k : Int) + 1).toNat = k + 1 := by omega
            have z6 : k < nP + 1 := by omega
            have PD : Hid (Past wr wr.drew) := (Past.refl wr).drew
            go_wp2_with fail
            go_region_held3 (fun w' => w'.cell? ⟨g, (k + 1) * 3, none⟩ = some (.int .i64 v.d) ∧ w'.cell? ⟨g, (k + 1) * 3 + 1, none⟩ = some (.string (tE (some v.q))) ∧ w'.cell? ⟨g, (k + 1) * 3 + 2, none⟩ = some (.string (tE v.e)) ∧ w'.cell? ⟨g, k * 3, none⟩ = some (.int .i64 u.d) ∧ w'.cell? ⟨g, k * 3 + 1, none⟩ = some (.string (tE (some u.q))) ∧ w'.cell? ⟨g, k * 3 + 2, none⟩ = some (.string (tE u.e))) (first | (refine keep6 hp2 ?_; assumption) | (refine keep6 PD ?_; exact H6.out))
              (first
                | (go_at_call 64; ((with_reducible refine (ref_cmp v u _ HVK.out HFU.out).mono ?_)); rintro e w2 ⟨hp2, rfl⟩))
            have HPQ := Lib.hid (PD.out.trans hp2)
            have h6 := keep6 HPQ.out H6.out
            have q0 := h6.1
            have q1 := h6.2.1
            have q2 := h6.2.2.1
            have q3 := h6.2.2.2.1
            have q4 := h6.2.2.2.2.1
            have q5 := h6.2.2.2.2.2
            clear h6
            obtain ⟨dv, hdv⟩ : ∃ c, cmpV v u = c := ⟨_, rfl⟩
            rw [hdv]
            have HDV := Lib.hid hdv
            clear hdv
            by_cases hlt : dv < 0
            · have HLT : Hid (ltV v u = true) := decide_eq_true (by rw [HDV.out]; exact hlt)
              have HS2 : Hid (OwnS w w2 rBar 94 (.slice (some ⟨g, 0, none⟩) (nP + 1) cg) ((onWay P v (k + 1) []).map VB.enc)) := HS.out.past HPQ.out
              have hfr := (HS2.out.barAt (y := v.enc) (j := k + 1) (by rw [List.getElem?_map, onWay_at (by omega)]; rfl)).2
              have f0 := hfr ((k + 1) * 3)
              have f1 := hfr ((k + 1) * 3 + 1)
              have f2 := hfr ((k + 1) * 3 + 2)
              have f3 := hfr (k * 3)
              have f4 := hfr (k * 3 + 1)
              have f5 := hfr (k * 3 + 2)
              clear hfr
              go_wp2_with fail
              go_region
              all_goals go_wp2_with fail
              have HFIN : Hid (OwnS w (setBar (setBar w2 g ((k + 1) * 3) u.enc) g (k * 3) v.enc) rBar 94 (.slice (some ⟨g, 0, none⟩) (nP + 1) cg) ((onWay P v k []).map VB.enc)) := by
                have hl := onWay_length P v (k + 1) [] (by omega)
                have h1 := (HS2.out.setBar (j := k + 1) (by rw [List.length_map]; omega) u.enc).setBar (j := k) (by rw [List.length_set, List.length_map]; omega) v.enc
                rw [← List.map_set, ← List.map_set, ← HUE.out, onWay_step hkP, HUE.out] at h1
                exact h1
              go_roundg k
              case measure => have := HGJ.out; omega
              case rel => exact ⟨k, rfl, by omega, rfl, by show _ = _; rw [← HSL.out, HST.out, HLT.out]; rfl, HFIN.out.past (Past.refl _).drew⟩
            · have HLT : Hid (ltV v u = false) := decide_eq_false (by rw [HDV.out]; exact hlt)
              have HN : Hid (onWay P v (k + 1) [] = sortV (vs.take (i + 1))) := by
                show _ = _
                rw [HSS.out]
                have := onWay_end ltV P v (k + 1) [] (by rw [HNP.out]; exact HSL.out) (by rw [HST.out, HLT.out]; rfl)
                rw [List.append_nil] at this
                exact this
              go_wp2
              go_roundg (n - (i + 1))
              case measure => have := HG.out; omega
              case rel => exact ⟨i + 1, _, rfl, by go_num, by omega, rfl, by rw [← HN.out]; exact HS.out.past HPQ.out⟩
    · have HN : Hid (sortV (vs.take i) = sortV vs) := by show _ = _; rw [List.take_of_length_le (by have := HL.out; omega)]
      go_wp2
      go_ret
      exact ⟨HO.out.2, _, rfl, by rw [← HN.out]; exact HO.out⟩

end Go.Proofs.YtdcjibjldfjllaaGreat

/- torusref20.Same on equal lists. -/
namespace Go.Proofs.YtdcjibjldfjllaaGreat
open Go.RowKit

set_option maxRecDepth 100000 in
set_option maxHeartbeats 4000000 in
theorem ref_same (A B : Option Addr) (n c d : Nat) (bs : List Bar) (w : World) (hx : Rows w rBar A n c bs) (hy : Rows w rBar B n d bs) (hn : n ≤ 1000000) :
    Calls Tryz.prog 21 #[.slice A n c, .slice B n d] w fun e w' => Past w w' ∧ e = .returned (.bool true) := by
  have HX := Lib.hid hx
  have HY := Lib.hid hy
  have HL := Lib.hid hx.len
  clear hx hy
  go_enter Tryz.func21, Tryz.ntmps21
  go_wp2_with fail
  go_loopg [5] n (fun gg iv wr => ∃ i : Nat, iv = .int .i64 i ∧ i ≤ n ∧ Hid (gg = n - i) ∧ Hid (Past w wr))
  case atStart => exact ⟨0, rfl, Nat.zero_le _, rfl, Past.refl _⟩
  case round =>
    obtain ⟨i, rfl, hi, HG, HP⟩ := hrel
    by_cases hin : i < n
    · have hil : i < bs.length := by have := HL.out; omega
      obtain ⟨b1, o1, rfl, hc1⟩ := HX.out.bar (by omega)
      obtain ⟨b2, o2, rfl, hc2⟩ := HY.out.bar (by omega)
      have h1 := (hc1 i hil).past HP.out
      have h2 := (hc2 i hil).past HP.out
      obtain ⟨x, hx⟩ : ∃ x, bs[i] = x := ⟨_, rfl⟩
      rw [hx] at h1 h2
      clear hc1 hc2 hx
      obtain ⟨x0, x1, x2⟩ := x
      have e0 : wr.cell? ⟨b1, o1 + i * 3, none⟩ = some (.int .i64 x0) := h1.1
      have e1 : wr.cell? ⟨b1, o1 + i * 3 + 1, none⟩ = some (.string x1) := h1.2.1
      have e2 : wr.cell? ⟨b1, o1 + i * 3 + 2, none⟩ = some (.string x2) := h1.2.2
      have f0 : wr.cell? ⟨b2, o2 + i * 3, none⟩ = some (.int .i64 x0) := h2.1
      have f1 : wr.cell? ⟨b2, o2 + i * 3 + 1, none⟩ = some (.string x1) := h2.2.1
      have f2 : wr.cell? ⟨b2, o2 + i * 3 + 2, none⟩ = some (.string x2) := h2.2.2
      clear h1 h2
      have z1 : (i : Int) < (n : Int) := by omega
      go_wp2_with fail
      go_quiet (fail)
      go_wp2_with fail
      go_roundg (n - (i + 1))
      case measure => have := HG.out; omega
      case rel => exact ⟨i + 1, by go_num, by omega, rfl, HP.out.drewN _⟩
    · go_wp2
      go_ret
      exact ⟨HP.out, rfl⟩

end Go.Proofs.YtdcjibjldfjllaaGreat

/- torusref20.Fit. -/
namespace Go.Proofs.YtdcjibjldfjllaaGreat
open Go.RowKit

/-- A bar made of three numbers. -/
def fit1 (a b c : Int) : VB :=
  if c % 7 = 0 then ⟨a % 3, smallQ b, none⟩
  else if 0 < cmpE (some (smallQ b)) (some (smallQ c)) then ⟨a % 3, smallQ c, some (smallQ b)⟩ else ⟨a % 3, smallQ b, some (smallQ c)⟩
def fitRaw (xs : List Int) (k : Nat) : List VB := (List.range k).map fun j => fit1 (rd xs (3 * j)) (rd xs (3 * j + 1)) (rd xs (3 * j + 2))
/-- What torusref20.Fit answers. -/
def fitV (xs : List Int) (most : Nat) : List VB := sortV (fitRaw xs (min (xs.length / 3) most))
theorem fitRaw_succ (xs : List Int) (k : Nat) : fitRaw xs (k + 1) = fitRaw xs k ++ [fit1 (rd xs (3 * k)) (rd xs (3 * k + 1)) (rd xs (3 * k + 2))] := by
  unfold fitRaw
  rw [List.range_succ, List.map_append]; rfl
theorem fitRaw_len (xs : List Int) (k : Nat) : (fitRaw xs k).length = k := by simp [fitRaw]
theorem tmod3 (n : Int) : -3 < n.tmod 3 ∧ n.tmod 3 < 3 ∧ (n.tmod 3 + 3) % 3 = n % 3 ∧ n.tmod 3 % 3 = n % 3 := by
  rw [Int.tmod_eq_emod]
  split <;> (try split) <;> omega
theorem tmod7 (n : Int) : (n.tmod 7 = 0 ↔ n % 7 = 0) ∧ -7 < n.tmod 7 ∧ n.tmod 7 < 7 := by
  rw [Int.tmod_eq_emod]
  split <;> (try split) <;> omega

theorem small_bd (n : Int) : tlQ (smallQ n) ≤ 100 := by
  have h0 := Int.emod_nonneg n (show (24 : Int) ≠ 0 by omega)
  have h1 := Int.emod_lt_of_pos n (show (0 : Int) < 24 by omega)
  unfold smallQ
  generalize n % 24 = k at *
  have : ∀ k : Fin 24, tlQ (mkRat ((k.val : Int) - 8) 4) ≤ 100 := by decide +kernel
  have h := this ⟨k.toNat, by omega⟩
  simp only at h
  rwa [show ((k.toNat : Nat) : Int) = k by omega] at h
theorem fit1_ok (a b c : Int) : (fit1 a b c).ok := by
  have h0 := Int.emod_nonneg a (show (3 : Int) ≠ 0 by omega)
  have h1 := Int.emod_lt_of_pos a (show (0 : Int) < 3 by omega)
  have hb := small_bd b
  have hc := small_bd c
  unfold fit1 VB.ok
  split
  · exact ⟨h0, (by show a % 3 ≤ 4; omega), hb, (by show 0 ≤ 100; omega)⟩
  · split
    · exact ⟨h0, (by show a % 3 ≤ 4; omega), hc, hb⟩
    · exact ⟨h0, (by show a % 3 ≤ 4; omega), hb, hc⟩
theorem fitRaw_ok {xs : List Int} {k : Nat} : ∀ v ∈ fitRaw xs k, v.ok := by
  intro v hv
  unfold fitRaw at hv
  obtain ⟨j, _, rfl⟩ := List.mem_map.1 hv
  exact fit1_ok _ _ _

theorem rd_range {xs : List Int} {i : Nat} (h : ∀ x ∈ xs, -9223372036854775808 ≤ x ∧ x ≤ 9223372036854775807) (hi : i < xs.length) : -9223372036854775808 ≤ rd xs i ∧ rd xs i ≤ 9223372036854775807 := by
  unfold rd
  rw [Dg.getD_eq hi]
  exact h _ (List.getElem_mem hi)

/-- A fresh bar's cells. -/
def BarF (w : World) (g : Nat) : Prop := (w.cell? ⟨g, 0, none⟩ = some (.int .i64 0) ∧ w.frozen? ⟨g, 0, none⟩ = false) ∧ (w.cell? ⟨g, 1, none⟩ = some (.string ⟨#[]⟩) ∧ w.frozen? ⟨g, 1, none⟩ = false) ∧ (w.cell? ⟨g, 2, none⟩ = some (.string ⟨#[]⟩) ∧ w.frozen? ⟨g, 2, none⟩ = false)
theorem BarF.past {w w1 : World} {g : Nat} (h : BarF w g) (hp : Past w w1) : BarF w1 g := ⟨hp.free h.1.1 h.1.2, hp.free h.2.1.1 h.2.1.2, hp.free h.2.2.1 h.2.2.2⟩
theorem box_free {w w1 : World} (hp : Past (w.alloc (.cells #[.int .i64 0, .string ⟨#[]⟩, .string ⟨#[]⟩] 94)) w1) : BarF w1 w.heap.size :=
  BarF.past ⟨⟨by simp [go_sem], by simp [go_sem]⟩, ⟨by simp [go_sem], by simp [go_sem]⟩, ⟨by simp [go_sem], by simp [go_sem]⟩⟩ hp

theorem lt_past {w w1 : World} {b : Nat} (h : b < w.heap.size) (hp : Past w w1) : w1.heap.size ≠ b := by have := hp.size; omega
theorem keepb3 {w : World} {g b : Nat} {p0 p1 p2 : Nat} {v0 v1 v2 u0 u1 u2 : Value} (h : w.cell? ⟨b, p0, none⟩ = some v0 ∧ w.cell? ⟨b, p1, none⟩ = some v1 ∧ w.cell? ⟨b, p2, none⟩ = some v2) (hn : g ≠ b) :
    (((w.setCell ⟨g, 0, none⟩ u0).setCell ⟨g, 1, none⟩ u1).setCell ⟨g, 2, none⟩ u2).cell? ⟨b, p0, none⟩ = some v0 ∧ (((w.setCell ⟨g, 0, none⟩ u0).setCell ⟨g, 1, none⟩ u1).setCell ⟨g, 2, none⟩ u2).cell? ⟨b, p1, none⟩ = some v1 ∧ (((w.setCell ⟨g, 0, none⟩ u0).setCell ⟨g, 1, none⟩ u1).setCell ⟨g, 2, none⟩ u2).cell? ⟨b, p2, none⟩ = some v2 := by
  refine ⟨?_, ?_, ?_⟩
  · rw [World.cell?_setCell_other _ _ _ _ (blk_ne hn), World.cell?_setCell_other _ _ _ _ (blk_ne hn), World.cell?_setCell_other _ _ _ _ (blk_ne hn)]; exact h.1
  · rw [World.cell?_setCell_other _ _ _ _ (blk_ne hn), World.cell?_setCell_other _ _ _ _ (blk_ne hn), World.cell?_setCell_other _ _ _ _ (blk_ne hn)]; exact h.2.1
  · rw [World.cell?_setCell_other _ _ _ _ (blk_ne hn), World.cell?_setCell_other _ _ _ _ (blk_ne hn), World.cell?_setCell_other _ _ _ _ (blk_ne hn)]; exact h.2.2
theorem put_bar {wr w2 : World} {g : Nat} (h : BarF w2 g) (hp : Past wr w2) (hg : wr.heap.size ≤ g) (d : Int) (x y : ByteArray) :
    BarAt (((w2.setCell ⟨g, 0, none⟩ (.int .i64 d)).setCell ⟨g, 1, none⟩ (.string x)).setCell ⟨g, 2, none⟩ (.string y)) g 0 ⟨d, x, y⟩ ∧ (((w2.setCell ⟨g, 0, none⟩ (.int .i64 d)).setCell ⟨g, 1, none⟩ (.string x)).setCell ⟨g, 2, none⟩ (.string y)).frozen? ⟨g, 1, none⟩ = false ∧ (((w2.setCell ⟨g, 0, none⟩ (.int .i64 d)).setCell ⟨g, 1, none⟩ (.string x)).setCell ⟨g, 2, none⟩ (.string y)).frozen? ⟨g, 2, none⟩ = false ∧ wr.heap.size ≤ g ∧ Past wr (((w2.setCell ⟨g, 0, none⟩ (.int .i64 d)).setCell ⟨g, 1, none⟩ (.string x)).setCell ⟨g, 2, none⟩ (.string y)) := by
  obtain ⟨⟨a0, b0⟩, ⟨a1, b1⟩, ⟨a2, b2⟩⟩ := h
  exact ⟨⟨by simp [go_sem, a0], by simp [go_sem, a1], by simp [go_sem, a2]⟩, by simp [go_sem, b1], by simp [go_sem, b2], hg, ((hp.setCell hg _).setCell hg _).setCell hg _⟩
theorem new_bar {wr w2 : World} (hp : Past wr w2) (d : Int) (x y : ByteArray) :
    BarAt (w2.alloc (.cells #[.int .i64 d, .string x, .string y] 94)) w2.heap.size 0 ⟨d, x, y⟩ ∧ (w2.alloc (.cells #[.int .i64 d, .string x, .string y] 94)).frozen? ⟨w2.heap.size, 1, none⟩ = false ∧ (w2.alloc (.cells #[.int .i64 d, .string x, .string y] 94)).frozen? ⟨w2.heap.size, 2, none⟩ = false ∧ wr.heap.size ≤ w2.heap.size ∧ Past wr (w2.alloc (.cells #[.int .i64 d, .string x, .string y] 94)) :=
  ⟨⟨by simp [go_sem], by simp [go_sem], by simp [go_sem]⟩, by simp [go_sem], by simp [go_sem], hp.size, hp.alloc _⟩

end Go.Proofs.YtdcjibjldfjllaaGreat
