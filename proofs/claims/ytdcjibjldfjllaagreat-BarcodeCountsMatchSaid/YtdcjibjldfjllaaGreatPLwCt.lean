/- BarcodeCountsMatch: the walk. -/
import Derived.Test.YtdcjibjldfjllaaGreatPGs
import Derived.Test.YtdcjibjldfjllaaGreatPGq
import Derived.Test.YtdcjibjldfjllaaGreatPGyc
import Derived.Test.YtdcjibjldfjllaaGreatPZg
import Derived.Test.YtdcjibjldfjllaaGreatPCv1
set_option linter.unusedVariables false
set_option linter.unusedSimpArgs false
namespace Go.Proofs.YtdcjibjldfjllaaGreat
open Go.RowKit

theorem fit_sizes2 (xs : List Int) : (∀ b ∈ (fitV xs 12).map VB.enc, b.x.size ≤ 201 ∧ b.y.size ≤ 201) ∧ ((fitV xs 12).map VB.enc).length ≤ 40 := by
  obtain ⟨g1, g2, g3⟩ := fitV_good xs 12
  refine ⟨fun b hb => ?_, by rw [List.length_map]; omega⟩
  obtain ⟨v, hv, rfl⟩ := List.mem_map.1 hb
  have h := (g1 v hv).1
  exact ⟨tE_size h.2.2.1, tE_size h.2.2.2⟩
theorem pair_eq2 {α β : Type} {x : α × β} {a c : α} {b d : β} (h : x = (a, b)) (h2 : x = (c, d)) : a = c ∧ b = d := by
  rw [h] at h2; injection h2 with h3 h4; exact ⟨h3, h4⟩
theorem err_of {bs : List Bar} {d : Int} (hf : ∀ b ∈ bs, b.x.size ≤ 201 ∧ b.y.size ≤ 201) : (dimB bs d).2 = if (checkB bs = 0 ∧ ¬ (0 ≤ d ∧ d ≤ 4)) then 1 else checkB bs := by
  by_cases h : checkB bs = 0
  · by_cases hd : 0 ≤ d ∧ d ≤ 4
    · rw [dim_encC h hf hd, if_neg (by simp [hd]), h]
    · rw [dim_arg h (by omega), if_pos ⟨h, hd⟩]
  · rw [dim_bad h, if_neg (by simp [h])]

set_option maxRecDepth 100000 in
set_option maxHeartbeats 16000000 in
theorem law_counts (A C : Option Addr) (n c k f : Nat) (ls : List Bar) (xs : List Int) (d : Int) (s t : ByteArray) (w : World) (hx : Rows w rBar A n c ls)
    (hz : RInts w .i64 C k f xs) (hr : ∀ x ∈ xs, -9223372036854775808 ≤ x ∧ x ≤ 9223372036854775807) :
    Calls Tryz.prog 12 #[.slice A n c, .slice C k f, .int .i64 d, .string s, .string t] w fun e w' => Past w w' ∧ e = .returned (.bool true) := by
  have HX := Lib.hid hx
  have HZ := Lib.hid hz
  have HRNG := Lib.hid hr
  have HXL := Lib.hid hx.len
  clear hx hz hr
  cases hl : longB ls 40 with
  | true =>
    have HL := Lib.hid hl
    clear hl
    go_enter Tryz.func12, Tryz.ntmps12
    go_wp2_with fail
    refine (law_long A n c ls 40 _ HX.out (by decide)).mono ?_
    rintro e w1 ⟨hp1, rfl⟩
    rw [HL.out]
    have P1 : Hid (Past w w1) := hp1
    clear hp1
    go_wp2_with fail
    refine (law_awake _).mono ?_
    rintro e w9 ⟨hp9, rfl⟩
    go_wp2
    go_ret
    exact ⟨P1.out.trans hp9, rfl⟩
  | false =>
    have HL := Lib.hid hl
    obtain ⟨l1, l2⟩ := longB_false hl
    have HN : Hid (n ≤ 40) := by have := HXL.out; unfold Hid; omega
    have HB1 : Hid (∀ b ∈ ls, b.x.size ≤ 201 ∧ b.y.size ≤ 201) := fun b hb => by have := l2 b hb; omega
    clear hl l1 l2
    by_cases hs : 200 < s.size
    · have hsz : (200 : Int) < (s.size : Int) := by omega
      go_enter Tryz.func12, Tryz.ntmps12
      go_wp2_with fail
      refine (law_long A n c ls 40 _ HX.out (by decide)).mono ?_
      rintro e w1 ⟨hp1, rfl⟩
      rw [HL.out]
      have P1 : Hid (Past w w1) := hp1
      clear hp1
      go_wp2_with fail
      refine (law_awake _).mono ?_
      rintro e w9 ⟨hp9, rfl⟩
      go_wp2
      go_ret
      exact ⟨P1.out.trans hp9, rfl⟩
    · have hsz : ¬ (200 : Int) < (s.size : Int) := by omega
      by_cases ht : 200 < t.size
      · have htz : (200 : Int) < (t.size : Int) := by omega
        go_enter Tryz.func12, Tryz.ntmps12
        go_wp2_with fail
        refine (law_long A n c ls 40 _ HX.out (by decide)).mono ?_
        rintro e w1 ⟨hp1, rfl⟩
        rw [HL.out]
        have P1 : Hid (Past w w1) := hp1
        clear hp1
        go_wp2_with fail
        refine (law_awake _).mono ?_
        rintro e w9 ⟨hp9, rfl⟩
        go_wp2
        go_ret
        exact ⟨P1.out.trans hp9, rfl⟩
      · have htz : ¬ (200 : Int) < (t.size : Int) := by omega
        have HS : Hid (s.size ≤ 200 ∧ t.size ≤ 200) := by unfold Hid; omega
        have HFZ := Lib.hid (fit_sizes2 xs)
        clear hs ht
        go_enter Tryz.func12, Tryz.ntmps12
        go_wp2_with fail
        refine (law_long A n c ls 40 _ HX.out (by decide)).mono ?_
        rintro e w1 ⟨hp1, rfl⟩
        rw [HL.out]
        have P1 : Hid (Past w w1) := hp1
        clear hp1
        go_wp2_with fail
        refine (ref_fit C k f 12 xs _ (HZ.out.past P1.out) HRNG.out (by decide)).mono ?_
        rintro e w3 ⟨hp3, v3, rfl, ho3⟩
        obtain ⟨A3, c3, rfl, hr3⟩ := ho3.reads
        obtain ⟨fs, hfs⟩ : ∃ z, (fitV xs 12).map VB.enc = z := ⟨_, rfl⟩
        rw [hfs] at hr3 HFZ ⊢
        obtain ⟨n3, hn3⟩ : ∃ z, fs.length = z := ⟨_, rfl⟩
        rw [hn3] at hr3 HFZ ⊢
        have HR3 := Lib.hid hr3
        have P3 := Lib.hid (P1.out.trans hp3)
        clear hp3 ho3 hr3 hfs hn3
        have EL : Hid (∀ w1, Past (w3.alloc (.cells #[.slice A n c, .slice A3 n3 c3] 22)) w1 → ∀ i, i < 2 → ∃ A' n' c' bs, w1.cell? ⟨w3.heap.size, i, none⟩ = some (.slice A' n' c') ∧ Rows w1 rBar A' n' c' bs ∧ n' ≤ 40 ∧ ∀ b ∈ bs, b.x.size ≤ 201 ∧ b.y.size ≤ 201) := fun w1 hp i hi => by
          match i, hi with
          | 0, _ => exact ⟨_, _, _, ls, hp.cell (by simp [go_sem]), HX.out.past ((P3.out.alloc _).trans hp), HN.out, HB1.out⟩
          | 1, _ => exact ⟨_, _, _, fs, hp.cell (by simp [go_sem]), HR3.out.past (((Past.refl _).alloc _).trans hp), HFZ.out.2, HFZ.out.1⟩
        go_wp2_with fail
        go_loopg [47] 2 (fun gg iv wx => ∃ i : Nat, iv = .int .i64 i ∧ i ≤ 2 ∧ Hid (gg = 2 - i) ∧ Hid (Past (w3.alloc (.cells #[.slice A n c, .slice A3 n3 c3] 22)) wx))
        case atStart => exact ⟨0, rfl, by omega, rfl, Past.refl _⟩
        case round =>
          obtain ⟨i, rfl, hi, HG, HP⟩ := hrel
          obtain ⟨wo, hwo⟩ : ∃ x, x = wr := ⟨_, rfl⟩
          subst hwo
          by_cases hin : i < 2
          · as_aux_lemma =>
            obtain ⟨Ax, nx, cx, bs, e0, hrx, hnx, hbx⟩ := EL.out wo HP.out i hin
            have hbl : bs.length ≤ 40 := by have := hrx.len; omega
            have HRX := Lib.hid hrx
            have HBX := Lib.hid hbx
            have HBM : Hid (∀ b ∈ bs, b.x.size ≤ 1000000 ∧ b.y.size ≤ 1000000) := fun b hb => by have := hbx b hb; omega
            have HBF : Hid (∀ b ∈ bs, b.fit) := fun b hb => ⟨by have := hbx b hb; omega, by have := hbx b hb; omega⟩
            have HBL := Lib.hid hrx.len
            have hiz : (i : Int) < 2 := by omega
            have HW : Hid (Past w wo) := (P3.out.alloc _).trans HP.out
            obtain ⟨us, hus, hul, huk, hue, huo⟩ := dim_vs (bs := bs) (d := d) hbx hbl
            obtain ⟨er, her⟩ : ∃ z, (dimB bs d).2 = z := ⟨_, rfl⟩
            obtain ⟨ck, hck⟩ : ∃ z, checkB bs = z := ⟨_, rfl⟩
            obtain ⟨bb, hbb⟩ : ∃ z, decide (ck = 0 ∧ ¬ (0 ≤ d ∧ d ≤ 4)) = z := ⟨_, rfl⟩
            have hee := err_of (bs := bs) (d := d) hbx
            rw [her, hck] at hee
            have HEE : Hid (er = if bb = true then 1 else ck) := by
              show _ = _
              rw [hee, ← hbb]
              simp only [decide_eq_true_eq]
            clear hee
            obtain ⟨b2, p2, hq2⟩ : ∃ a b, rankB bs d t t = (a, b) := ⟨_, _, rfl⟩
            obtain ⟨b3, p3, hq3⟩ : ∃ a b, rankB bs d s t = (a, b) := ⟨_, _, rfl⟩
            obtain ⟨x5, p5, hq5⟩ : ∃ a b, totalB bs d = (a, b) := ⟨_, _, rfl⟩
            have hsz5 := dim_sizes (bs := bs) (d := d) hbx hbl
            have hbd5 := sum_bd2 hsz5.1 hsz5.2
            have CB1 := Lib.hid (fun w hx => bar_dim2 Ax nx cx bs d w hx HBF.out (by omega))
            have CB2 := Lib.hid (fun w hx => bar_betti2 Ax nx cx bs d t w hx HBF.out (by have := HS.out; omega) (by omega))
            have CB3 := Lib.hid (fun w hx => bar_rank2 Ax nx cx bs d s t w hx HBF.out (by have := HS.out; omega) (by have := HS.out; omega) (by omega))
            have CB4 := Lib.hid (fun w hx => bar_curve Ax nx cx bs d us w hx HBF.out (by omega) hus hul huk)
            have CB5 := Lib.hid (fun w hx => bar_total2 Ax nx cx bs d w hx HBF.out (by omega) hbd5.1 hbd5.2)
            rw [her] at CB1 CB4
            rw [hq2] at CB2
            rw [hq3] at CB3
            rw [hq5] at CB5
            have HQ := Lib.hid (And.intro hq2 (And.intro hq3 hq5))
            have HUS := Lib.hid hus
            have HUE : Hid (er ≠ 0 → us = []) := by show _; rw [← her]; exact hue
            have HUO : Hid (ck = 0 → 0 ≤ d ∧ d ≤ 4 → us = ofD (bs.map decB) d) := by show _; rw [← hck]; exact huo
            have HER := Lib.hid her
            have HCK := Lib.hid hck
            have HBB := Lib.hid hbb
            clear hq2 hq3 hq5 hrx hbx hbl hus hul huk hue huo her hck hbb hsz5 hbd5
            go_wp2_with fail
            refine (ref_checkG Ax nx cx bs _ HRX.out HBM.out).mono ?_
            rintro e u0 ⟨hu0, rfl⟩
            have U0 : Hid (Past wo u0) := hu0
            clear hu0 e0
            rw [HCK.out]
            go_upto_region 7 with fail
            go_cut [62] (fun zv wx => zv = .bool bb ∧ Hid (Past u0 wx))
            case first => as_aux_lemma =>
              by_cases h0 : ck = 0
              · subst h0
                by_cases h1 : d < 0
                · have hbt : bb = true := by rw [← HBB.out, decide_eq_true_eq]; exact ⟨rfl, by omega⟩
                  subst hbt
                  go_wp2_with fail
                  go_meet
                  case rel => exact ⟨by simp [h1], Past.refl _⟩
                · by_cases h2 : 4 < d
                  · have hbt : bb = true := by rw [← HBB.out, decide_eq_true_eq]; exact ⟨rfl, by omega⟩
                    subst hbt
                    go_wp2_with fail
                    go_meet
                    case rel => exact ⟨by simp [h1, h2], Past.refl _⟩
                  · have hbt : bb = false := by rw [← HBB.out, decide_eq_false_iff_not]; omega
                    subst hbt
                    go_wp2_with fail
                    go_meet
                    case rel => exact ⟨by simp [h1, h2], Past.refl _⟩
              · have hbt : bb = false := by rw [← HBB.out, decide_eq_false_iff_not]; exact fun h => h0 h.1
                have hckb := beq_eq_false_iff_ne.2 h0
                subst hbt
                go_wp2_with fail
                go_meet
                case rel => exact ⟨rfl, Past.refl _⟩
            case rest => as_aux_lemma =>
              obtain ⟨rfl, HCU⟩ := hcut
              obtain ⟨u00, hw⟩ : ∃ x, x = wc := ⟨_, rfl⟩
              subst hw
              have U00 := Lib.hid (U0.out.trans HCU.out)
              clear HCU
              go_upto_if 62 with fail
              go_cut [13] (fun ev wx => ev = .int .i64 er ∧ Hid (Past u00 wx))
              case first => as_aux_lemma =>
                cases bb with
                | true =>
                  have he1 : er = 1 := by rw [HEE.out]; rfl
                  go_wp2_with fail
                  go_meet
                  case rel => exact ⟨by rw [he1], Past.refl _⟩
                | false =>
                  have he1 : er = ck := by rw [HEE.out]; rfl
                  go_wp2_with fail
                  go_meet
                  case rel => exact ⟨by rw [he1], Past.refl _⟩
              case rest => as_aux_lemma =>
                obtain ⟨rfl, HCU⟩ := hcut
                obtain ⟨u01, hw⟩ : ∃ x, x = wc := ⟨_, rfl⟩
                subst hw
                have U01 := Lib.hid (U00.out.trans HCU.out)
                clear HCU
                go_wp2_with fail
                refine (CB1.out _ (HRX.out.past U01.out)).mono ?_
                rintro e u1 ⟨hp, v1, rfl, ho1, -⟩
                rw [HUS.out] at ho1
                obtain ⟨D1, g1, rfl, hd1⟩ := ho1.reads
                obtain ⟨m1, hm1⟩ : ∃ z, (us.map VB.enc).length = z := ⟨_, rfl⟩
                rw [hm1] at hd1 ⊢
                have RA1 := Lib.hid hd1
                have HM1 := Lib.hid hm1
                have U1 := Lib.hid (U01.out.trans hp)
                clear hp ho1 hd1 hm1
                go_wp2_with fail
                refine (CB2.out _ (HRX.out.past U1.out)).mono ?_
                rintro e u2 ⟨hp, rfl⟩
                have RA12 := Lib.hid (RA1.out.past hp)
                have U2 := Lib.hid (U1.out.trans hp)
                clear hp
                go_wp2_with fail
                refine (CB3.out _ (HRX.out.past U2.out)).mono ?_
                rintro e u3 ⟨hp, rfl⟩
                have RA13 := Lib.hid (RA12.out.past hp)
                have U3 := Lib.hid (U2.out.trans hp)
                clear hp
                go_wp2_with fail
                refine (CB4.out _ (HRX.out.past U3.out)).mono ?_
                rintro e u4 ⟨hp, D4, g4, D5, g5, rfl, hd4, hd5⟩
                obtain ⟨cl, hcl⟩ : ∃ z, curL us = z := ⟨_, rfl⟩
                have HCL := Lib.hid hcl
                rw [hcl] at hd4 hd5 ⊢
                obtain ⟨m4, hm4⟩ : ∃ z, cl.length = z := ⟨_, rfl⟩
                rw [hm4] at hd4 hd5 ⊢
                have HM4 := Lib.hid hm4
                have RA14 := Lib.hid (RA13.out.past hp)
                have U4 := Lib.hid (U3.out.trans hp)
                have RB4 := Lib.hid hd4
                have RC4 := Lib.hid hd5
                clear hp hcl hm4 hd4 hd5
                go_wp2_with fail
                refine (CB5.out _ (HRX.out.past U4.out)).mono ?_
                rintro e u5 ⟨hp, rfl⟩
                have RA15 := Lib.hid (RA14.out.past hp)
                have RB5 := Lib.hid (RB4.out.past hp)
                have RC5 := Lib.hid (RC4.out.past hp)
                have U5 := Lib.hid (U4.out.trans hp)
                clear hp
                by_cases her0 : er = 0
                · as_aux_lemma =>
                  have h0 : ck = 0 := by
                    have h := HEE.out
                    rw [her0] at h
                    cases bb with
                    | true => cases h
                    | false => exact h.symm
                  have hdd : 0 ≤ d ∧ d ≤ 4 := by
                    have h := HBB.out
                    cases bb with
                    | true => have h2 := HEE.out; rw [her0] at h2; cases h2
                    | false => rw [decide_eq_false_iff_not] at h; exact Decidable.byContradiction fun h3 => h ⟨h0, h3⟩
                  subst her0
                  have HZ0 : Hid (checkB bs = 0) := HCK.out.trans h0
                  have HDD := Lib.hid hdd
                  have HUV : Hid (us = ofD (bs.map decB) d) := HUO.out h0 hdd
                  have Y1 : Hid (∀ w1, Past wo w1 → Calls Tryz.prog 55 #[.slice Ax nx cx, .int .i64 d] w1 fun e w' => Past w1 w' ∧ ∃ A2 c2 A3 c3, e = .returned (.tuple #[.slice A2 m4 c2, .slice A3 m4 c3]) ∧ Rows w' rTx A2 m4 c2 (cl.map tE) ∧ RInts w' .i64 A3 m4 c3 (cl.map (covN us))) := fun w1 hp => by
                    have h := curve_call (d := d) (HRX.out.past hp) HZ0.out HBX.out (by omega)
                    rw [← HUV.out, HCL.out, HM4.out] at h
                    exact h
                  have Y2 : Hid (∀ w1, Past wo w1 → Calls Tryz.prog 56 #[.slice Ax nx cx, .int .i64 d] w1 fun e w' => Past w1 w' ∧ e = .returned (.string (tE (some (totV us))))) := fun w1 hp => by
                    have h := total_call (d := d) (HRX.out.past hp) HZ0.out HBX.out (by omega)
                    rw [← HUV.out] at h
                    exact h
                  have Y3 : Hid (∀ w1, Past wo w1 → Calls Tryz.prog 57 #[.slice Ax nx cx, .int .i64 d] w1 fun e w' => Past w1 w' ∧ ∃ v, e = .returned v ∧ OwnS w1 w' rBar 94 v (us.map VB.enc)) := fun w1 hp => by
                    have h := dim_call (d := d) (HRX.out.past hp) HZ0.out HBX.out HDD.out (by omega)
                    rw [HUS.out] at h
                    exact h
                  have Y4 : Hid (∀ w1, Calls Tryz.prog 58 #[.string (tE (some (totV us)))] w1 fun e w' => Past w1 w' ∧ e = .returned (.bool (longQ (totV us)))) := fun w1 => by
                    have h := total_long (d := d) (w := w1) HZ0.out HBX.out (by have := HBL.out; omega)
                    rw [← HUV.out] at h
                    exact h
                  obtain ⟨vs, hvs⟩ : ∃ z, okV (byt s) = z := ⟨_, rfl⟩
                  obtain ⟨vt, hvt⟩ : ∃ z, okV (byt t) = z := ⟨_, rfl⟩
                  obtain ⟨c2, hc2⟩ : ∃ z, cmpT (byt s) (byt t) = z := ⟨_, rfl⟩
                  have V1 : Hid (∀ w, Calls Tryz.prog 39 #[.string t] w fun e w' => Past w w' ∧ e = .returned (.bool vt)) := fun w => by rw [← hvt]; exact ref_validT t w (by have := HS.out; omega)
                  have V2 : Hid (∀ w, Calls Tryz.prog 39 #[.string s] w fun e w' => Past w w' ∧ e = .returned (.bool vs)) := fun w => by rw [← hvs]; exact ref_validT s w (by have := HS.out; omega)
                  have V3 : Hid (vs = true → vt = true → ∀ w, Calls Tryz.prog 24 #[.string s, .string t] w fun e w' => Past w w' ∧ e = .returned (.int .i64 c2)) := fun h h2 w => by rw [← hc2]; exact fr_compareT s t w (by have := HS.out; omega) (by have := HS.out; omega) (by unfold okE; rw [hvs, h]; simp) (by unfold okE; rw [hvt, h2]; simp)
                  have N2 : Hid (vt = false → b2 = 0 ∧ p2 = 1 ∧ b3 = 0 ∧ p3 = 1) := fun h => by
                    have h1 := pair_eq2 HQ.out.1 (rank_no HER.out (.inl (hvt.trans h)))
                    have h2 := pair_eq2 HQ.out.2.1 (rank_no HER.out (.inr (.inl (hvt.trans h))))
                    exact ⟨h1.1, h1.2, h2.1, h2.2⟩
                  have N3 : Hid (vs = false ∨ 0 < c2 → b3 = 0 ∧ p3 = 1) := fun h =>
                    pair_eq2 HQ.out.2.1 (rank_no HER.out (h.elim (fun h => .inl (hvs.trans h)) (fun h => .inr (.inr (by rw [hc2]; exact h)))))
                  have R2 : Hid (vt = true → p2 = 0 ∧ ∀ w1, Past wo w1 → Calls Tryz.prog 59 #[.slice Ax nx cx, .int .i64 d, .string t, .string t] w1 fun e w' => Past w1 w' ∧ e = .returned (.int .i64 b2)) := fun h => by
                    have h1 := fun w1 (hp : Past wo w1) => rank_call (d := d) (s := t) (t := t) (HRX.out.past hp) HZ0.out HBX.out HDD.out HS.out.2 HS.out.2 (by omega) (hvt.trans h) (hvt.trans h) (by rw [cmpT_self (hvt.trans h) HS.out.2]; omega)
                    rw [HQ.out.1] at h1
                    exact ⟨(h1 wo (Past.refl _)).1, fun w1 hp => (h1 w1 hp).2⟩
                  have R3 : Hid (vs = true → vt = true → ¬ 0 < c2 → p3 = 0 ∧ ∀ w1, Past wo w1 → Calls Tryz.prog 59 #[.slice Ax nx cx, .int .i64 d, .string s, .string t] w1 fun e w' => Past w1 w' ∧ e = .returned (.int .i64 b3)) := fun h h' hc => by
                    have h1 := fun w1 (hp : Past wo w1) => rank_call (d := d) (s := s) (t := t) (HRX.out.past hp) HZ0.out HBX.out HDD.out HS.out.1 HS.out.2 (by omega) (hvs.trans h) (hvt.trans h') (by rw [hc2]; exact hc)
                    rw [HQ.out.2.1] at h1
                    exact ⟨(h1 wo (Past.refl _)).1, fun w1 hp => (h1 w1 hp).2⟩
                  have N5 : Hid (if longQ (totV us) = true then x5 = ⟨#[]⟩ ∧ p5 = 3 else x5 = tE (some (totV us)) ∧ p5 = 0) := by
                    have h := total_ok (d := d) HZ0.out HBX.out HDD.out
                    rw [← HUV.out, HQ.out.2.2] at h
                    show if _ then _ else _
                    split at h
                    · rename_i h2
                      rw [if_pos h2]
                      exact Prod.mk.injEq .. ▸ h
                    · rename_i h2
                      rw [if_neg h2]
                      exact Prod.mk.injEq .. ▸ h
                  have HCT : Hid (∀ j (h : j < cl.length), ∃ u, cl[j] = u ∧ (cl.map tE)[j]'(by rw [List.length_map]; exact h) = tE u ∧ rd (cl.map (covN us)) j = covN us u) := fun j h => ⟨_, rfl, by rw [List.getElem_map], by unfold rd; simp [List.getD_eq_getElem?_getD, h]⟩
                  have HMZ : Hid (m4 ≤ 100000) := by
                    have h1 := curL_len us
                    rw [HCL.out, HM4.out] at h1
                    have h2 := HM1.out
                    rw [List.length_map] at h2
                    have h3 : us.length ≤ 40 := by
                      rw [HUV.out]
                      have h4 : (ofD (bs.map decB) d).length ≤ (bs.map decB).length := List.length_filter_le ..
                      rw [List.length_map] at h4
                      have := HBL.out
                      omega
                    show _ ≤ _
                    omega
                  have HM1Z : Hid (m1 ≤ 100000) := by
                    have h2 := HM1.out
                    rw [List.length_map] at h2
                    have h4 : (ofD (bs.map decB) d).length ≤ (bs.map decB).length := List.length_filter_le ..
                    rw [← HUV.out, List.length_map] at h4
                    have := HBL.out
                    show _ ≤ _
                    omega
                  generalize totV us = tv at Y2 Y4 N5
                  clear hvs hvt hc2 h0 hdd CB1 CB2 CB3 CB4 CB5
                  go_wp2_with fail
                  refine (Y1.out _ U5.out).mono ?_
                  rintro e s1 ⟨hp, E2, g2, E3, g3, rfl, hr2, hr3⟩
                  have RA16 := Lib.hid (RA15.out.past hp)
                  have RB6 := Lib.hid (RB5.out.past hp)
                  have RC6 := Lib.hid (RC5.out.past hp)
                  have S1 := Lib.hid (U5.out.trans hp)
                  have RE2 := Lib.hid hr2
                  have RE3 := Lib.hid hr3
                  clear hp hr2 hr3
                  go_wp2_with fail
                  refine (Y2.out _ S1.out).mono ?_
                  rintro e s2 ⟨hp, rfl⟩
                  have S2 := Lib.hid (S1.out.trans hp)
                  have P12 := Lib.hid hp
                  clear hp
                  go_wp2_with fail
                  refine (Y3.out _ S2.out).mono ?_
                  rintro e s3 ⟨hp, v6, rfl, ho6⟩
                  obtain ⟨D6, g6, rfl, hd6⟩ := ho6.reads
                  rw [HM1.out] at hd6 ⊢
                  have RD6 := Lib.hid hd6
                  have S3 := Lib.hid (S2.out.trans hp)
                  have P13 := Lib.hid (P12.out.trans hp)
                  clear hp ho6 hd6
                  go_wp2_with fail
                  refine (ref_same D1 D6 m1 g1 g6 (us.map VB.enc) _ (RA16.out.past P13.out) RD6.out (Nat.le_trans HM1Z.out (by decide))).mono ?_
                  rintro e s4 ⟨hp, rfl⟩
                  have S4 := Lib.hid (S3.out.trans hp)
                  have P14 := Lib.hid (P13.out.trans hp)
                  clear hp
                  go_upto_block 2 with fail
                  go_cut [175] (fun zv wx => Hid (Past s4 wx))
                  case first => as_aux_lemma =>
                    go_wp2_with fail
                    go_loopg [175] m4 (fun hh jv wx => ∃ j : Nat, jv = .int .i64 j ∧ j ≤ m4 ∧ Hid (hh = m4 - j) ∧ Hid (Past s4 wx))
                    case atStart => exact ⟨0, rfl, Nat.zero_le _, rfl, Past.refl _⟩
                    case round =>
                      obtain ⟨j, rfl, hj, HH, HPJ⟩ := hrel
                      have hmz := HMZ.out
                      by_cases hjm : j < m4
                      · have hjl : j < cl.length := by have := HM4.out; omega
                        obtain ⟨u, hu1, hu2, hu3⟩ := HCT.out j hjl
                        have PJ := Lib.hid (P14.out.trans HPJ.out)
                        obtain ⟨q1, o1, rfl, hc1⟩ := RB6.out.tx (by omega)
                        obtain ⟨q2, o2, rfl, hc2⟩ := RE2.out.tx (by omega)
                        obtain ⟨q3, o3, rfl, hc3⟩ := RC6.out.at_ (by omega)
                        obtain ⟨q4, o4, rfl, hc4⟩ := RE3.out.at_ (by omega)
                        have f1 := PJ.out.cell (hc1 j (by rw [List.length_map]; exact hjl))
                        have f2 := PJ.out.cell (hc2 j (by rw [List.length_map]; exact hjl))
                        have f3 := PJ.out.cell (hc3 j hjm)
                        have f4 := PJ.out.cell (hc4 j hjm)
                        rw [hu2] at f1 f2
                        rw [hu3] at f3 f4
                        generalize tE u = tu at f1 f2
                        generalize covN us u = cu at f3 f4
                        clear hc1 hc2 hc3 hc4 hu1 hu2 hu3
                        have z1 : (j : Int) < (m4 : Int) := by omega
                        go_wp2_with fail
                        go_quiet (fail)
                        go_wp2_with fail
                        go_roundg (m4 - (j + 1))
                        case measure => have := HH.out; omega
                        case rel => exact ⟨j + 1, by go_num, by omega, rfl, HPJ.out.drewN _⟩
                      · have z1 : ¬ (j : Int) < (m4 : Int) := by omega
                        go_wp2_with fail
                        go_meet
                        case rel => exact HPJ.out
                  case rest => as_aux_lemma =>
                    have HCU : Hid (Past s4 wc) := hcut
                    obtain ⟨s5, hw⟩ : ∃ x, x = wc := ⟨_, rfl⟩
                    subst hw
                    have S5 := Lib.hid (S4.out.trans HCU.out)
                    clear HCU
                    go_wp2_with fail
                    refine (Y4.out _).mono ?_
                    rintro e s6 ⟨hp, rfl⟩
                    have S6 := Lib.hid (S5.out.trans hp)
                    clear hp
                    obtain ⟨lq, hlq⟩ : ∃ z, longQ tv = z := ⟨_, rfl⟩
                    rw [hlq] at N5 ⊢
                    clear hlq
                    go_upto_if 200 with fail
                    go_cut [] (fun wx => Hid (Past s6 wx))
                    case first => as_aux_lemma =>
                      cases lq with
                      | true =>
                        have h5 : x5 = ⟨#[]⟩ ∧ p5 = 3 := N5.out
                        obtain ⟨rfl, rfl⟩ := h5
                        go_wp2_with fail
                        go_meet
                        case rel => exact Past.refl _
                      | false =>
                        have h5 : x5 = tE (some tv) ∧ p5 = 0 := N5.out
                        obtain ⟨rfl, rfl⟩ := h5
                        go_wp2_with fail
                        go_meet
                        case rel => exact Past.refl _
                    case rest => as_aux_lemma =>
                      have HCU : Hid (Past s6 wc) := hcut
                      obtain ⟨s7, hw⟩ : ∃ x, x = wc := ⟨_, rfl⟩
                      subst hw
                      have S7 := Lib.hid (S6.out.trans HCU.out)
                      clear HCU
                      go_wp2_with fail
                      refine (V1.out _).mono ?_
                      rintro e s8 ⟨hp, rfl⟩
                      have S8 := Lib.hid (S7.out.trans hp)
                      clear hp
                      cases vt with
                      | false =>
                        obtain ⟨rfl, rfl, rfl, rfl⟩ := N2.out (by trivial)
                        go_wp2_with fail
                        go_roundg (2 - (i + 1))
                        case measure => have := HG.out; omega
                        case rel => exact ⟨i + 1, by go_num, by omega, rfl, HP.out.trans S8.out⟩
                      | true =>
                        obtain ⟨hp2, hR2⟩ := R2.out (by trivial)
                        subst hp2
                        have HR2 := Lib.hid hR2
                        clear hR2
                        go_wp2_with fail
                        refine (HR2.out _ S8.out).mono ?_
                        rintro e s9 ⟨hp, rfl⟩
                        have S9 := Lib.hid (S8.out.trans hp)
                        clear hp
                        go_wp2_with fail
                        refine (V2.out _).mono ?_
                        rintro e t1 ⟨hp, rfl⟩
                        have T1 := Lib.hid (S9.out.trans hp)
                        clear hp
                        cases vs with
                        | false =>
                          obtain ⟨rfl, rfl⟩ := N3.out (.inl (by trivial))
                          go_wp2_with fail
                          go_roundg (2 - (i + 1))
                          case measure => have := HG.out; omega
                          case rel => exact ⟨i + 1, by go_num, by omega, rfl, HP.out.trans T1.out⟩
                        | true =>
                          go_wp2_with fail
                          refine (V3.out (by trivial) (by trivial) _).mono ?_
                          rintro e t2 ⟨hp, rfl⟩
                          have T2 := Lib.hid (T1.out.trans hp)
                          clear hp
                          by_cases hcp : 0 < c2
                          · obtain ⟨rfl, rfl⟩ := N3.out (.inr hcp)
                            go_wp2_with fail
                            go_roundg (2 - (i + 1))
                            case measure => have := HG.out; omega
                            case rel => exact ⟨i + 1, by go_num, by omega, rfl, HP.out.trans T2.out⟩
                          · obtain ⟨hp3, hR3⟩ := R3.out (by trivial) (by trivial) (by omega)
                            subst hp3
                            have HR3' := Lib.hid hR3
                            clear hR3
                            go_wp2_with fail
                            refine (HR3'.out _ T2.out).mono ?_
                            rintro e t3 ⟨hp, rfl⟩
                            have T3 := Lib.hid (T2.out.trans hp)
                            clear hp
                            go_wp2_with fail
                            go_roundg (2 - (i + 1))
                            case measure => have := HG.out; omega
                            case rel => exact ⟨i + 1, by go_num, by omega, rfl, HP.out.trans T3.out⟩
                · as_aux_lemma =>
                  have hu0 : us = [] := HUE.out her0
                  have h2 := pair_eq2 HQ.out.1 (rank_err (s := t) (t := t) (by rw [HER.out]; exact her0))
                  have h3 := pair_eq2 HQ.out.2.1 (rank_err (s := s) (t := t) (by rw [HER.out]; exact her0))
                  have h5 := pair_eq2 HQ.out.2.2 (total_err (by rw [HER.out]; exact her0))
                  rw [HER.out] at h2 h3 h5
                  have hm1 : m1 = 0 := by rw [← HM1.out, hu0]; rfl
                  have hm4 : m4 = 0 := by rw [← HM4.out, ← HCL.out, hu0]; rfl
                  obtain ⟨h21, h22⟩ := h2
                  obtain ⟨h31, h32⟩ := h3
                  obtain ⟨h51, h52⟩ := h5
                  have k2 := h22.symm
                  have k3 := h32.symm
                  have k5 := h52.symm
                  subst h21 h31 h51 k2 k3 k5 hm1 hm4
                  clear h22 h32 h52
                  have herb : (er != 0) = true := by simp [her0]
                  go_wp2_with fail
                  go_roundg (2 - (i + 1))
                  case measure => have := HG.out; omega
                  case rel => exact ⟨i + 1, by go_num, by omega, rfl, HP.out.trans U5.out⟩
          · have hi2 : i = 2 := by omega
            subst hi2
            go_wp2_with fail
            refine (law_awake _).mono ?_
            rintro e w9 ⟨hp9, rfl⟩
            go_wp2
            go_ret
            exact ⟨((P3.out.alloc _).trans HP.out).trans hp9, rfl⟩

end Go.Proofs.YtdcjibjldfjllaaGreat
