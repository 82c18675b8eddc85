/- barcode.Curve at any length. -/
import Derived.Test.YtdcjibjldfjllaaGreatPCt1
import Derived.Test.YtdcjibjldfjllaaGreatPZd
set_option linter.unusedVariables false
set_option linter.unusedSimpArgs false
namespace Go.Proofs.YtdcjibjldfjllaaGreat
open Go Go.RowKit

theorem cell_of_heap {w w' : World} {a : Addr} (h : w'.heap[a.block]? = w.heap[a.block]?) : w'.cell? a = w.cell? a := by unfold World.cell?; rw [h]
set_option maxRecDepth 100000 in
set_option maxHeartbeats 4000000 in
theorem bar_curve (A : Option Addr) (n c : Nat) (bs : List Bar) (d : Int) (vs : List VB) (w : World) (hx : Rows w rBar A n c bs) (hf : ∀ b ∈ bs, b.fit) (hn : n ≤ 1000) (hv : (dimB bs d).1 = vs.map VB.enc) (hvn : vs.length ≤ 1000)
    (hk : ∀ v ∈ vs, tlE (some v.q) ≤ 1000 ∧ tlE v.e ≤ 1000) :
    Calls Tryz.prog 54 #[.slice A n c, .int .i64 d] w fun e w' => Past w w' ∧ ∃ A2 c2 A3 c3, e = .returned (.tuple #[.slice A2 (curL vs).length c2, .slice A3 (curL vs).length c3, .int .i64 (dimB bs d).2]) ∧ Rows w' rTx A2 (curL vs).length c2 ((curL vs).map tE) ∧ RInts w' .i64 A3 (curL vs).length c3 ((curL vs).map (covN vs)) := by
  have HX := Lib.hid hx
  have HF := Lib.hid hf
  have HN : Hid (n ≤ 1000000) := Nat.le_trans hn (by decide)
  have HV := Lib.hid hv
  have HVN := Lib.hid hvn
  have HK := Lib.hid hk
  have HEL := Lib.hid el_tx
  clear hx hf hn hv hvn hk
  obtain ⟨us, hus⟩ : ∃ us, curL vs = us := ⟨_, rfl⟩
  obtain ⟨ec, hec⟩ : ∃ x, (dimB bs d).2 = x := ⟨_, rfl⟩
  obtain ⟨k, hkl⟩ : ∃ k, us.length = k := ⟨_, rfl⟩
  rw [hus, hkl, hec]
  have HUSE := Lib.hid hus
  have HKL := Lib.hid hkl
  clear hus hkl
  go_enter Tryz.func54, Tryz.ntmps54
  go_wp2_with fail
  refine (bar_dim2 A n c bs d _ HX.out HF.out HN.out).mono ?_
  rintro e w1 ⟨hp1, v1, rfl, hown1, hfit1⟩
  rw [hec]
  rw [HV.out] at hown1 hfit1
  obtain ⟨A1, c1, rfl, hr1⟩ := hown1.reads
  rw [List.length_map] at hr1 ⊢
  have HR := Lib.hid hr1
  have HP1 := Lib.hid hp1
  have HFT := Lib.hid hfit1
  clear hp1 hown1 hfit1 hr1
  obtain ⟨m, hm⟩ : ∃ m, vs.length = m := ⟨_, rfl⟩
  rw [hm]
  have HM := Lib.hid hm
  have hm9 : (m : Int) ≤ 1000 := by have := HVN.out; omega
  clear hm hec
  go_wp2_with fail
  go_loopg [4, 20] m (fun gg sv iv wr => ∃ (i : Nat) (vo : Value), vo = sv ∧ Hid (OwnS w1 wr rTx 36 vo ((endsL (vs.take i)).map tE)) ∧ iv = .int .i64 i ∧ i ≤ m ∧ Hid (gg = m - i) ∧ Hid (Past w1 wr))
  case atStart => exact ⟨0, _, rfl, OwnS.nil (Past.refl _) _ _, rfl, Nat.zero_le _, rfl, Past.refl _⟩
  case round =>
    obtain ⟨i, vo, hvo, HO, rfl, hi, HG, HP⟩ := hrel
    subst hvo
    by_cases hin : i < m
    · have hil : i < vs.length := by have := HM.out; omega
      obtain ⟨v, hve⟩ : ∃ v, vs[i] = v := ⟨_, rfl⟩
      obtain ⟨b1, o1, rfl, hc1⟩ := HR.out.bar (by omega)
      have hbi := (hc1 i (by rw [List.length_map]; exact hil)).past HP.out
      rw [List.getElem_map, hve] at hbi
      have HT : Hid (endsL (vs.take (i + 1)) = endsL (vs.take i) ++ endsV v) := endsL_take hil hve
      have HOL : Hid (((endsL (vs.take i)).map tE).length ≤ 2000) := by
        have h1 := endsL_len (vs.take i)
        rw [List.length_take] at h1
        unfold Hid
        rw [List.length_map]
        omega
      obtain ⟨dv, a, e⟩ := v
      have e0 : wr.cell? ⟨b1, o1 + i * 3, none⟩ = some (.int .i64 dv) := hbi.1
      have e1 : wr.cell? ⟨b1, o1 + i * 3 + 1, none⟩ = some (.string (tQ a)) := hbi.2.1
      have e2 : wr.cell? ⟨b1, o1 + i * 3 + 2, none⟩ = some (.string (tE e)) := hbi.2.2
      have HBI := Lib.hid hbi
      clear hc1 hbi hve
      have z1 : (i : Int) < (m : Int) := by omega
      cases e with
      | none =>
        have hi2 := inf_none
        have hi3 : ((tE none).toList != [105, 110, 102]) = false := by unfold bne; rw [hi2]; rfl
        have HT2 : Hid (endsL (vs.take (i + 1)) = endsL (vs.take i) ++ [some a]) := HT.out
        go_wp2_with (first | (at_builtin; refine wpList_appG HEL.out ((HO.out.alloc _).alloc _) rfl rfl rfl ⟨_, 0, none⟩ _ (tQ a) rfl (cell_newS rTx _ _ _ _ _ (by simp [go_sem]) rfl) ?_ ?_; (have := HOL.out; omega); intro v3 w3 hown3 hg3; have hb3 := hg3.block wr.heap.size (by simp; omega) (fun e => by have := (HO.out.1.lt _ e.symm).2; omega); have b2 : w3.cell? ⟨wr.heap.size, 2, none⟩ = some (.string (tE none)) := (cell_of_heap (a := ⟨wr.heap.size, 2, none⟩) hb3).trans (by simp [go_sem]); clear hb3))
        go_roundg (m - (i + 1))
        case measure => have := HG.out; omega
        case rel => exact ⟨i + 1, _, rfl, by show OwnS _ _ _ _ _ _; rw [HT2.out, List.map_append]; exact hown3, by go_num, by omega, rfl, hown3.2⟩
      | some r =>
        have hi2 := inf_some r
        have hi3 : ((tE (some r)).toList != [105, 110, 102]) = true := by unfold bne; rw [hi2]; rfl
        have HT2 : Hid (endsL (vs.take (i + 1)) = endsL (vs.take i) ++ [some a, some r]) := HT.out
        go_wp2_with (first | (at_builtin; refine wpList_appG HEL.out ((HO.out.alloc _).alloc _) rfl rfl rfl ⟨_, 0, none⟩ _ (tQ a) rfl (cell_newS rTx _ _ _ _ _ (by simp [go_sem]) rfl) ?_ ?_; (have := HOL.out; omega); intro v3 w3 hown3 hg3; have hb3 := hg3.block wr.heap.size (by simp; omega) (fun e => by have := (HO.out.1.lt _ e.symm).2; omega); have b2 : w3.cell? ⟨wr.heap.size, 2, none⟩ = some (.string (tE (some r))) := (cell_of_heap (a := ⟨wr.heap.size, 2, none⟩) hb3).trans (by simp [go_sem]); have HO3 := Lib.hid hown3; clear hb3 hg3 hown3) | (at_builtin; refine wpList_appG HEL.out (HO3.out.alloc _) rfl rfl rfl ⟨_, 0, none⟩ _ (tE (some r)) rfl (cell_newS rTx _ _ _ _ _ (by simp [go_sem]) rfl) ?_ ?_; (have := HOL.out; rw [List.length_append, List.length_singleton]; omega); intro v4 w4 hown4 hg4))
        go_roundg (m - (i + 1))
        case measure => have := HG.out; omega
        case rel => exact ⟨i + 1, _, rfl, by show OwnS _ _ _ _ _ _; rw [HT2.out, List.map_append]; have h := hown4; rw [List.append_assoc] at h; exact h, by go_num, by omega, rfl, hown4.2⟩
    · have hie : m = i := by omega
      subst hie
      have HEK : Hid (∀ e ∈ endsL vs, tlE e ≤ 1000) := endsL_ok HK.out
      have HEN : Hid ((endsL vs).length ≤ 1000000) := by have := endsL_len vs; have := HVN.out; unfold Hid; omega
      have hoe : OwnS w1 wr rTx 36 vo ((endsL vs).map tE) := by
        have h := HO.out
        rw [List.take_of_length_le (by have := HM.out; omega)] at h
        exact h
      obtain ⟨A4, k4, c4, rfl, hS⟩ := sort_compact w1 wr vo (endsL vs) hoe HEK.out HEN.out
      have HCM : Hid (∀ e ∈ curL vs, tlE e ≤ 1000) := fun e he => HEK.out e (curL_mem.1 he)
      have HCL : Hid ((curL vs).length ≤ 2000) := by have := curL_len vs; have := HVN.out; unfold Hid; omega
      have e5 : (endsL vs).foldl (fun l e => insS e l) [] = curL vs := rfl
      rw [e5] at hS
      have HS := Lib.hid hS
      clear hoe hS e5
      rw [HUSE.out] at HS HCM HCL
      rw [HKL.out] at HS HCL
      go_wp2_with fail
      refine HS.out.mono ?_
      rintro e w5 ⟨rfl, hp5, hC⟩
      have HC := Lib.hid hC
      clear hC hp5
      go_wp2_with fail
      refine HC.out.mono ?_
      rintro e w6 ⟨rfl, hp6, hr6⟩
      have HR6 := Lib.hid hr6
      have HP6 := Lib.hid hp6
      clear hp6 hr6
      have hk9 : (k : Int) ≤ 2000 := by have := HCL.out; omega
      have HRM : Hid (Rows w1 rBar A1 m c1 (vs.map VB.enc)) := by have h := HR.out; rw [HM.out] at h; exact h
      have HEI := Lib.hid el_int
      go_wp2_with fail
      go_loopg [5, 44] k (fun gg nv iv wx => ∃ (j : Nat) (vn : Value), vn = nv ∧ Hid (Own w6 wx 3 .i64 vn ((us.take j).map (covN vs))) ∧ iv = .int .i64 j ∧ j ≤ k ∧ Hid (gg = k - j))
      case atStart => exact ⟨0, _, rfl, Own.nil (Past.refl _) _ _, rfl, Nat.zero_le _, rfl⟩
      case round =>
        obtain ⟨j, vn, hvn, HO6, rfl, hj, HG6⟩ := hrel
        subst hvn
        obtain ⟨wy, hwy⟩ : ∃ x, x = wr := ⟨_, rfl⟩
        subst hwy
        by_cases hjn : j < k
        · have hjl : j < us.length := by have := HKL.out; omega
          obtain ⟨u, hue⟩ : ∃ u, us[j] = u := ⟨_, rfl⟩
          obtain ⟨b6, o6, rfl, hc6⟩ := HR6.out.tx (by omega)
          have f0 := HO6.out.2.cell (hc6 j (by rw [List.length_map]; exact hjl))
          rw [List.getElem_map, hue] at f0
          have HUS : Hid ((tE u).size ≤ 100000000) := by
            have h1 := tE_sizeM (HCM.out u (by rw [← hue]; exact List.getElem_mem hjl))
            show _ ≤ _
            exact Nat.le_trans h1 (by decide)
          have HTK : Hid ((us.take (j + 1)).map (covN vs) = (us.take j).map (covN vs) ++ [covN vs u]) := by
            show _ = _
            rw [List.take_succ_eq_append_getElem hjl, hue, List.map_append]; rfl
          have HLN : Hid (((us.take j).map (covN vs)).length ≤ 2000) := by
            show _ ≤ _
            rw [List.length_map, List.length_take]; omega
          have HCV : Hid (((((vs.map VB.enc).countP (covB (tE u) (tE u)) : Nat) : Int)) = covN vs u) := rfl
          clear hc6 hue
          have z1 : (j : Int) < (k : Int) := by omega
          go_wp2_with fail
          refine (bar_cover A1 m c1 (vs.map VB.enc) (tE u) (tE u) _ (HRM.out.past (HP6.out.trans HO6.out.2)) HFT.out HUS.out HUS.out (by omega)).mono ?_
          rintro e w7 ⟨hp7, rfl⟩
          rw [HCV.out]
          have HO7 := Lib.hid (HO6.out.past hp7)
          clear hp7
          go_wp2_with (first | (at_builtin; refine wpList_app HEI.out (HO7.out.alloc _) rfl rfl rfl ⟨_, 0, none⟩ _ (covN vs u) rfl (cell_new1 _ _ _) ?_ ?_; (have := HLN.out; omega); intro v8 w8 hown8 hp8))
          go_roundg (k - (j + 1))
          case measure => have := HG6.out; omega
          case rel => exact ⟨j + 1, _, rfl, by show Own _ _ _ _ _ _; rw [HTK.out]; exact hown8, by go_num, by omega, rfl⟩
        · have hje : k = j := by omega
          subst hje
          have ho8 : Own w6 wy 3 .i64 vn (us.map (covN vs)) := by
            have h := HO6.out
            rw [List.take_of_length_le (by have := HKL.out; omega)] at h
            exact h
          obtain ⟨A9, c9, rfl, hr9⟩ := ho8.reads
          have hl9 : (us.map (covN vs)).length = k := by rw [List.length_map]; exact HKL.out
          rw [hl9] at hr9 ⊢
          have HR9 := Lib.hid hr9
          have HP9 := Lib.hid ho8.2
          clear hr9 ho8 hl9
          go_wp2
          go_ret3
          exact ⟨((HP1.out.trans HP6.out).trans HP9.out), _, _, _, _, rfl, HR6.out.past HP9.out, HR9.out⟩

end Go.Proofs.YtdcjibjldfjllaaGreat
