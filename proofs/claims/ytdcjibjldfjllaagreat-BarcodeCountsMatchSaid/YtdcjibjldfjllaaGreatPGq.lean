/- torusref20.Fit: the walk. -/
import Derived.Test.YtdcjibjldfjllaaGreatPGp
set_option linter.unusedVariables false
set_option linter.unusedSimpArgs false
namespace Go.Proofs.YtdcjibjldfjllaaGreat
open Go.RowKit

theorem own_rows {w0 w : World} {A : Option Addr} {k c : Nat} {bs : List Bar} (h : OwnS w0 w rBar 94 (.slice A k c) bs) (hl : bs.length = k) : Rows w rBar A k c bs := by
  obtain ⟨A', c', e, hr⟩ := h.reads
  simp only [Value.slice.injEq] at e
  obtain ⟨rfl, -, rfl⟩ := e
  rw [hl] at hr
  exact hr
theorem box_freeD {w w1 : World} (hp : Past (w.alloc (.cells #[.int .i64 0, .string ⟨#[]⟩, .string ⟨#[]⟩] 94)).drew w1) : BarF w1 w.heap.size :=
  box_free (Past.trans (Past.refl _).drew hp)

set_option maxRecDepth 100000 in
set_option maxHeartbeats 4000000 in
theorem ref_fit (A : Option Addr) (n c most : Nat) (xs : List Int) (w : World) (hx : RInts w .i64 A n c xs) (hr : ∀ x ∈ xs, -9223372036854775808 ≤ x ∧ x ≤ 9223372036854775807) (hm : most ≤ 1000) :
    Calls Tryz.prog 22 #[.slice A n c, .int .i64 most] w fun e w' => Past w w' ∧ ∃ v, e = .returned v ∧ OwnS w w' rBar 94 v ((fitV xs most).map VB.enc) := by
  have HX := Lib.hid hx
  have HL := Lib.hid hx.len
  have HR := Lib.hid hr
  have hn9 : n ≤ 9223372036854775807 := Nat.le_trans hx.cap hx.big
  clear hx hr
  go_enter Tryz.func22, Tryz.ntmps22
  go_wp2_with fail
  go_loopg [5, 6] (most + 1) (fun gg ov iv wr => ∃ (k len : Nat) (A : Option Addr) (c : Nat), ov = .slice A k c ∧ iv = .int .i64 (3 * (k : Int)) ∧ k ≤ most ∧ 3 * k ≤ n ∧ Hid (gg = most + 1 - k) ∧ Hid (OwnS w wr rBar 94 (.slice A k c) ((fitRaw xs k).map VB.enc)))
  case atStart => exact ⟨0, 0, none, 0, rfl, rfl, Nat.zero_le _, Nat.zero_le _, rfl, OwnS.nil (Past.refl _) _ _⟩
  case round =>
    obtain ⟨k, len, A2, c2, rfl, rfl, hk, hk3, HG, HO⟩ := hrel
    have k9 : (k : Int) ≤ 1000 := by omega
    have n9 : (n : Int) ≤ 9223372036854775807 := by omega
    have HLO : Hid (((fitRaw xs k).map VB.enc).length = k) := by show _ = _; rw [List.length_map, fitRaw_len]
    by_cases hc1 : 3 * k + 2 < n
    · have t1 : (3 * (k : Int) + 2 < (n : Int)) := by omega
      by_cases hc2 : k < most
      · obtain ⟨b1, o1, rfl, hcx⟩ := HX.out.at_ (by omega)
        have x0 := HO.out.2.cell (hcx (3 * k) (by omega))
        have x1 := HO.out.2.cell (hcx (3 * k + 1) (by omega))
        have x2 := HO.out.2.cell (hcx (3 * k + 2) (by omega))
        have hb1 : b1 < w.heap.size := World.block_lt_of_cell? w _ (hcx 0 (by omega))
        obtain ⟨a, ha⟩ : ∃ a, rd xs (3 * k) = a := ⟨_, rfl⟩
        obtain ⟨b, hb⟩ : ∃ a, rd xs (3 * k + 1) = a := ⟨_, rfl⟩
        obtain ⟨d, hd⟩ : ∃ a, rd xs (3 * k + 2) = a := ⟨_, rfl⟩
        rw [ha] at x0
        rw [hb] at x1
        rw [hd] at x2
        have ra := rd_range HR.out (by have := HL.out; omega : 3 * k < xs.length)
        have rb := rd_range HR.out (by have := HL.out; omega : 3 * k + 1 < xs.length)
        have rc := rd_range HR.out (by have := HL.out; omega : 3 * k + 2 < xs.length)
        rw [ha] at ra
        rw [hb] at rb
        rw [hd] at rc
        have HRB := Lib.hid rb
        have HRC := Lib.hid rc
        have HNX : Hid (fitRaw xs (k + 1) = fitRaw xs k ++ [fit1 a b d]) := by show _ = _; rw [fitRaw_succ, ha, hb, hd]
        clear hcx ha hb hd rb rc
        obtain ⟨m1, m2, m3, m4⟩ := tmod3 a
        obtain ⟨t, ht⟩ : ∃ t, a.tmod 3 = t := ⟨_, rfl⟩
        rw [ht] at m1 m2 m3 m4
        have HT : Hid (t % 3 = a % 3) := m4
        have m5 : 0 ≤ t + 3 := by omega
        clear m3 m4
        have HX3 : Hid (wr.cell? ⟨b1, o1 + 3 * k, none⟩ = some (.int .i64 a) ∧ wr.cell? ⟨b1, o1 + (3 * k + 1), none⟩ = some (.int .i64 b) ∧ wr.cell? ⟨b1, o1 + (3 * k + 2), none⟩ = some (.int .i64 d)) := ⟨x0, x1, x2⟩
        have HSZ := Lib.hid HO.out.2.size
        have i1 : (0 : Int) ≤ 3 * (k : Int) := by omega
        have i2 : 3 * (k : Int) < (n : Int) := by omega
        have i3 : 3 * (k : Int) + 1 < (n : Int) := by omega
        have i4 : (0 : Int) ≤ 3 * (k : Int) + 1 := by omega
        have i5 : (0 : Int) ≤ 3 * (k : Int) + 2 := by omega
        have l0 : IntKind.i64.wrap (t + 3) = t + 3 := by rw [IntKind.wrap_i64]; omega
        have l3 : (t + 3).tmod 3 = t % 3 := by rw [Int.tmod_eq_emod_of_nonneg (by omega)]; omega
        have l1 : IntKind.i64.wrap (3 * (k : Int) + 1) = 3 * (k : Int) + 1 := by rw [IntKind.wrap_i64]; omega
        have l2 : IntKind.i64.wrap (3 * (k : Int) + 2) = 3 * (k : Int) + 2 := by rw [IntKind.wrap_i64]; omega
        have j1 : (3 * (k : Int)).toNat = 3 * k := by omega
        have j2 : (3 * (k : Int) + 1).toNat = 3 * k + 1 := by omega
        have j3 : (3 * (k : Int) + 2).toNat = 3 * k + 2 := by omega
        clear x0 x1 x2
        have PD : Hid (Past wr wr.drew) := (Past.refl wr).drew
        have HB1 : Hid (b1 < wr.heap.size) := by have := HSZ.out; unfold Hid; omega
        go_upto_region 5 with fail
        go_cut [7] (fun pv wx => ∃ gb : Nat, pv = .pointer (some ⟨gb, 0, none⟩) ∧ Hid (BarAt wx gb 0 ⟨t % 3, tQ (smallQ b), tQ (smallQ d)⟩ ∧ wx.frozen? ⟨gb, 1, none⟩ = false ∧ wx.frozen? ⟨gb, 2, none⟩ = false ∧ wr.heap.size ≤ gb ∧ Past wr wx))
        case first =>
          go_region_held3 (fun w' => w'.cell? ⟨b1, o1 + 3 * k, none⟩ = some (.int .i64 a) ∧ w'.cell? ⟨b1, o1 + (3 * k + 1), none⟩ = some (.int .i64 b) ∧ w'.cell? ⟨b1, o1 + (3 * k + 2), none⟩ = some (.int .i64 d)) (first | (with_reducible exact keep3 ((Past.refl _).alloc _) HS2.out) | (with_reducible exact keepb3 HS2.out (lt_past HB1.out PW1.out)) | (with_reducible exact keepb3 HS2.out (Nat.ne_of_gt HB1.out)) | (with_reducible exact HS2.out) | (with_reducible exact keep3 ((Past.refl _).alloc _) HS1.out) | (with_reducible exact HS1.out) | (with_reducible exact keep3 ((Past.refl _).alloc _) HX3.out) | (with_reducible exact keep3 (Past.drew ((Past.refl wr).alloc _)) HX3.out) | (refine keep3 PD.out ?_; exact HX3.out))
            (first
              | (go_at_call 23; ((with_reducible refine (fr_small d _ HRC.out.1 HRC.out.2).mono ?_)); rintro e w2 ⟨hp2, rfl⟩; (first | (with_reducible have PW2 := Lib.hid (PW1.out.trans hp2)) | (with_reducible have PW2 := Lib.hid ((PW1.out.alloc _).trans hp2))); (first | (with_reducible have HS2 := Lib.hid (keep3 hp2 HS1.out)) | (with_reducible have HS2 := Lib.hid (keep3 hp2 (keep3 ((Past.refl _).alloc _) HS1.out)))); (first | ((with_reducible have hb2 := box_free hp2); have HB2F := Lib.hid hb2; obtain ⟨⟨q20, y20⟩, ⟨q21, y21⟩, ⟨q22, y22⟩⟩ := hb2) | skip); (first | ((with_reducible have hb3 := HB1F.out.past hp2); have HB3F := Lib.hid hb3; obtain ⟨⟨q30, y30⟩, ⟨q31, y31⟩, ⟨q32, y32⟩⟩ := hb3) | skip); clear hp2)
              | (go_at_call 23; ((with_reducible refine (fr_small b _ HRB.out.1 HRB.out.2).mono ?_)); rintro e w1 ⟨hp1, rfl⟩; (first | (with_reducible have PW1 := Lib.hid (PD.out.trans hp1)) | (with_reducible have PW1 := Lib.hid (Past.trans (Past.drew ((Past.refl wr).alloc _)) hp1))); (first | (with_reducible have HS1 := Lib.hid (keep3 hp1 (keep3 PD.out HX3.out))) | (with_reducible have HS1 := Lib.hid (keep3 hp1 (keep3 (Past.drew ((Past.refl wr).alloc _)) HX3.out)))); (first | (with_reducible have HB1F := Lib.hid (box_freeD hp1)) | skip); clear hp1))
          · go_wp2_with fail
            go_meet
            case rel => exact ⟨_, rfl, new_bar PW2.out _ _ _⟩
          · go_wp2_with fail
            go_meet
            case rel => exact ⟨_, rfl, put_bar HB2F.out PW2.out PW1.out.size _ _ _⟩
          · go_wp2_with fail
            go_meet
            case rel => exact ⟨_, rfl, put_bar HB3F.out PW2.out (Nat.le_refl _) _ _ _⟩
        case rest =>
          obtain ⟨gb, rfl, HBX⟩ := hcut
          have hcb := HBX.out.1
          have q0 : wc.cell? ⟨gb, 0, none⟩ = some (.int .i64 (t % 3)) := hcb.1
          have q1 : wc.cell? ⟨gb, 1, none⟩ = some (.string (tQ (smallQ b))) := hcb.2.1
          have q2 : wc.cell? ⟨gb, 2, none⟩ = some (.string (tQ (smallQ d))) := hcb.2.2
          have y1 := HBX.out.2.1
          have y2 := HBX.out.2.2.1
          have HPC := Lib.hid HBX.out.2.2.2.2
          have x2 := HPC.out.cell HX3.out.2.2
          have HL3 : Hid (∀ u : Bar, ((fitRaw xs k).map VB.enc ++ [u]).length = k + 1) := fun u => by rw [List.length_append, HLO.out]; rfl
          have HSB : Hid (tlE (some (smallQ b)) ≤ 10000000 ∧ tlE (some (smallQ d)) ≤ 10000000) := ⟨Nat.le_trans (small_bd b) (by decide), Nat.le_trans (small_bd d) (by decide)⟩
          have HVB : Hid ((Value.slice A2 k c2).ownBlock ≠ some gb) := by
            intro hv
            have h1 := (HO.out.1.lt _ hv).2
            have h2 := HBX.out.2.2.2.1
            omega
          have HGB : Hid (w.heap.size ≤ gb) := Nat.le_trans HSZ.out HBX.out.2.2.2.1
          obtain ⟨m7, m8, m9⟩ := tmod7 d
          obtain ⟨s7, hs7⟩ : ∃ s, d.tmod 7 = s := ⟨_, rfl⟩
          rw [hs7] at m7 m8 m9
          have HM7 := Lib.hid m7
          clear m7 hcb
          by_cases h7 : s7 = 0
          · have hF1 : fit1 a b d = ⟨t % 3, smallQ b, none⟩ := by unfold fit1; rw [if_pos (HM7.out.1 h7), HT.out]
            have HF1 := Lib.hid hF1
            have h7b : (s7 == 0) = true := by simp [h7]
            have HCE : Hid (cmpE (some (smallQ b)) none = -1) := rfl
            clear hF1 h7
            have HOC : Hid (OwnS w (wc.setCell ⟨gb, 2, none⟩ (.string ⟨#[105, 110, 102]⟩)) rBar 94 (.slice A2 k c2) ((fitRaw xs k).map VB.enc)) := (HO.out.past HPC.out).grown (grown_set (Past.refl wc) gb 2 _) HGB.out HVB.out
            have HBC : Hid (BarAt (wc.setCell ⟨gb, 2, none⟩ (.string ⟨#[105, 110, 102]⟩)) gb 0 ⟨t % 3, tQ (smallQ b), ⟨#[105, 110, 102]⟩⟩) := barAt_set2 HBX.out.1 _
            have HXB : Hid ((wc.setCell ⟨gb, 2, none⟩ (.string ⟨#[105, 110, 102]⟩)).cell? ⟨gb, 1, none⟩ = some (.string (tQ (smallQ b)))) := HBC.out.2.1
            go_wp2_with fail
            refine (fr_compare (some (smallQ b)) none _ HSB.out.1 (by decide)).mono ?_
            rintro e w4 ⟨hp4, rfl⟩
            rw [HCE.out]
            have hb4 := HBC.out.past hp4
            have k0 : w4.cell? ⟨gb, 0, none⟩ = some (.int .i64 (t % 3)) := hb4.1
            have k1 : w4.cell? ⟨gb, 1, none⟩ = some (.string (tQ (smallQ b))) := hb4.2.1
            have k2 : w4.cell? ⟨gb, 2, none⟩ = some (.string ⟨#[105, 110, 102]⟩) := hb4.2.2
            have HO4 := Lib.hid (HOC.out.past hp4)
            clear hp4 hb4 q0 q1 q2 y1 y2 x2
            go_wp2_with (first | (at_builtin; refine wpList_appS el_bar (OwnS.alloc (HO4.out) _) rfl rfl rfl ⟨_, 0, none⟩ _ ((⟨t % 3, smallQ b, none⟩ : VB).enc) rfl (cell_newS rBar _ _ _ _ _ (by simp [go_sem]) rfl) ?_ ?_; (rw [HLO.out]; omega); intro v3 w3 hown3 hp3; obtain ⟨A3, c3, rfl, -⟩ := hown3.reads; rw [HL3.out] at hown3 ⊢; have HO3 := Lib.hid hown3; clear hown3 hp3))
            go_roundg (most + 1 - (k + 1))
            case measure => have := HG.out; omega
            case rel => exact ⟨k + 1, 0, A3, c3, rfl, by go_num, by omega, by omega, rfl, by rw [HNX.out, List.map_append, HF1.out]; exact HO3.out⟩
          · have h7b : (s7 == 0) = false := by simp [h7]
            obtain ⟨cv, hcv⟩ : ∃ c, cmpE (some (smallQ b)) (some (smallQ d)) = c := ⟨_, rfl⟩
            have HCV := Lib.hid hcv
            clear hcv
            have HOC := Lib.hid (HO.out.past HPC.out)
            by_cases hlt : 0 < cv
            · have HF1 : Hid (fit1 a b d = ⟨t % 3, smallQ d, some (smallQ b)⟩) := by show _ = _; unfold fit1; rw [if_neg (fun h => h7 (HM7.out.2 h)), if_pos (by rw [HCV.out]; exact hlt), HT.out]
              go_wp2_with fail
              refine (fr_compare (some (smallQ b)) (some (smallQ d)) _ HSB.out.1 HSB.out.2).mono ?_
              rintro e w4 ⟨hp4, rfl⟩
              rw [HCV.out]
              have k0 := hp4.cell q0
              obtain ⟨k1, f1⟩ := hp4.free q1 y1
              obtain ⟨k2, f2⟩ := hp4.free q2 y2
              have HB4 := Lib.hid (HBX.out.1.past hp4)
              have HO5 : Hid (OwnS w ((w4.setCell ⟨gb, 1, none⟩ (.string (tQ (smallQ d)))).setCell ⟨gb, 2, none⟩ (.string (tQ (smallQ b)))) rBar 94 (.slice A2 k c2) ((fitRaw xs k).map VB.enc)) :=
                ((HOC.out.past hp4).grown (grown_set (Past.refl w4) gb 1 _) HGB.out HVB.out).grown (grown_set (Past.refl _) gb 2 _) HGB.out HVB.out
              clear hp4 q0 q1 q2 y1 y2 x2
              go_wp2_with (first | (at_builtin; refine wpList_appS el_bar (OwnS.alloc (HO5.out) _) rfl rfl rfl ⟨_, 0, none⟩ _ ((⟨t % 3, smallQ d, some (smallQ b)⟩ : VB).enc) rfl (cell_newS rBar _ _ _ _ _ (by simp [go_sem]) rfl) ?_ ?_; (rw [HLO.out]; omega); intro v3 w3 hown3 hp3; obtain ⟨A3, c3, rfl, -⟩ := hown3.reads; rw [HL3.out] at hown3 ⊢; have HO3 := Lib.hid hown3; clear hown3 hp3))
              go_roundg (most + 1 - (k + 1))
              case measure => have := HG.out; omega
              case rel => exact ⟨k + 1, 0, A3, c3, rfl, by go_num, by omega, by omega, rfl, by rw [HNX.out, List.map_append, HF1.out]; exact HO3.out⟩
            · have HF1 : Hid (fit1 a b d = ⟨t % 3, smallQ b, some (smallQ d)⟩) := by show _ = _; unfold fit1; rw [if_neg (fun h => h7 (HM7.out.2 h)), if_neg (by rw [HCV.out]; exact hlt), HT.out]
              go_wp2_with fail
              refine (fr_compare (some (smallQ b)) (some (smallQ d)) _ HSB.out.1 HSB.out.2).mono ?_
              rintro e w4 ⟨hp4, rfl⟩
              rw [HCV.out]
              have k0 := hp4.cell q0
              have k1 := hp4.cell q1
              have k2 := hp4.cell q2
              have HO5 := Lib.hid (HOC.out.past hp4)
              clear hp4 q0 q1 q2 y1 y2 x2
              go_wp2_with (first | (at_builtin; refine wpList_appS el_bar (OwnS.alloc (HO5.out) _) rfl rfl rfl ⟨_, 0, none⟩ _ ((⟨t % 3, smallQ b, some (smallQ d)⟩ : VB).enc) rfl (cell_newS rBar _ _ _ _ _ (by simp [go_sem]) rfl) ?_ ?_; (rw [HLO.out]; omega); intro v3 w3 hown3 hp3; obtain ⟨A3, c3, rfl, -⟩ := hown3.reads; rw [HL3.out] at hown3 ⊢; have HO3 := Lib.hid hown3; clear hown3 hp3))
              go_roundg (most + 1 - (k + 1))
              case measure => have := HG.out; omega
              case rel => exact ⟨k + 1, 0, A3, c3, rfl, by go_num, by omega, by omega, rfl, by rw [HNX.out, List.map_append, HF1.out]; exact HO3.out⟩
      · have HK : Hid (fitRaw xs k = fitRaw xs (min (xs.length / 3) most)) := by
          have := HL.out
          rw [show min (xs.length / 3) most = k by omega]; exact rfl
        have t2 : ¬ (k : Int) < (most : Int) := by omega
        have HRW : Hid (Rows wr rBar A2 k c2 ((fitRaw xs k).map VB.enc)) := own_rows HO.out HLO.out
        go_wp2_with fail
        refine (ref_sorted A2 k c2 (fitRaw xs k) _ HRW.out fitRaw_ok (by omega)).mono ?_
        rintro e w2 ⟨hp2, v, rfl, hown⟩
        have HF := Lib.hid (And.intro hp2 hown)
        clear hp2 hown
        go_wp2
        go_ret
        exact ⟨HO.out.2.trans HF.out.1, v, rfl, by unfold fitV; rw [← HK.out]; exact HF.out.2.low HO.out.2⟩
    · have HK : Hid (fitRaw xs k = fitRaw xs (min (xs.length / 3) most)) := by
        have := HL.out
        rw [show min (xs.length / 3) most = k by omega]; exact rfl
      have t1 : ¬ (3 * (k : Int) + 2 < (n : Int)) := by omega
      have HRW : Hid (Rows wr rBar A2 k c2 ((fitRaw xs k).map VB.enc)) := own_rows HO.out HLO.out
      go_wp2_with fail
      refine (ref_sorted A2 k c2 (fitRaw xs k) _ HRW.out fitRaw_ok (by omega)).mono ?_
      rintro e w2 ⟨hp2, v, rfl, hown⟩
      have HF := Lib.hid (And.intro hp2 hown)
      clear hp2 hown
      go_wp2
      go_ret
      exact ⟨HO.out.2.trans HF.out.1, v, rfl, by unfold fitV; rw [← HK.out]; exact HF.out.2.low HO.out.2⟩

end Go.Proofs.YtdcjibjldfjllaaGreat
