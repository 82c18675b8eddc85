/- slices.SortStableFunc on bars: the merge of two parts of two or more. -/
import Derived.Test.YtdcjibjldfjllaaGreatPGxc
set_option linter.unusedVariables false
set_option linter.unusedSimpArgs false
namespace Go.Proofs.YtdcjibjldfjllaaGreat
open Go.RowKit Go.Sort

theorem halv_trivL {lt : TB → TB → Bool} {pre : TB → TB → Prop} {e : Array TB} {a s mid : Nat} (h : Halv lt pre e a s mid) (hs : s = a ∨ s = mid) : SortedIn lt a mid e := by
  rcases hs with rfl | rfl
  · exact h.r
  · exact h.l
theorem halv_keepR {lt : TB → TB → Bool} {pre : TB → TB → Prop} {e f : Array TB} {a mid t b : Nat} (h : Halv lt pre e mid t b) (hmt : mid ≤ t) (hp : PermIn a mid e f) : Halv lt pre f mid t b := by
  have k : ∀ i, mid ≤ i → f[i]! = e[i]! := fun i hi => hp.2.1 i (Or.inr hi)
  refine ⟨fun i j h1 h2 h3 => ?_, fun i j h1 h2 h3 => ?_, fun i j h1 h2 h3 h4 => ?_⟩
  · rw [k i h1, k j (by omega)]; exact h.l i j h1 h2 h3
  · rw [k i (by omega), k j (by omega)]; exact h.r i j h1 h2 h3
  · rw [k i h1, k j (by omega)]; exact h.p i j h1 h2 h3 h4

set_option maxRecDepth 100000 in
set_option maxHeartbeats 8000000 in
theorem mrg_gen (hS : SWO leT) (w0 : World) (g c N a m b : Nat) (d : Array TB) (hN : d.size = N) (ham : a + 1 < m) (hmb : m + 1 < b) (hb : b ≤ N) (hsz : N ≤ 1000000000) (hH : Halv leT tagPre d a m b)
    (ih : ∀ (a' m' b' : Nat) (e : Array TB), b' - a' < b - a → a' < m' → m' < b' → b' ≤ N → e.size = N → Halv leT tagPre e a' m' b' → MrgC w0 g c N a' m' b' e) : MrgC w0 g c N a m b d := by
  intro w hA
  have HN := Lib.hid hN
  have HA := Lib.hid hA
  have HH := Lib.hid hH
  have IH := Lib.hid ih
  have hb0 : ((m : Int) - (a : Int) == 1) = false := by rw [beq_eq_false_iff_ne]; omega
  have hb1 : ((b : Int) - (m : Int) == 1) = false := by rw [beq_eq_false_iff_ne]; omega
  obtain ⟨mid, hmid⟩ : ∃ x, (a + b) / 2 = x := ⟨_, rfl⟩
  obtain ⟨nn, hnn⟩ : ∃ x, mid + m = x := ⟨_, rfl⟩
  obtain ⟨pp, hpp⟩ : ∃ x, nn - 1 = x := ⟨_, rfl⟩
  have HMID : Hid (((a : Int) + (b : Int)) / 2 = (mid : Int)) := by unfold Hid; omega
  have HNN : Hid ((mid : Int) + (m : Int) = (nn : Int)) := by unfold Hid; omega
  have HPP : Hid ((nn : Int) - 1 = (pp : Int)) := by unfold Hid; omega
  have HARI : Hid ((a + b) / 2 = mid ∧ mid + m = nn ∧ nn - 1 = pp) := ⟨hmid, hnn, hpp⟩
  have hamid : a < mid := by omega
  have hmidb : mid < b := by omega
  clear hN hA hH ih hmid hnn hpp
  by_cases hgt : mid < m
  · have hgt' : ((a : Int) + (b : Int)) / 2 < (m : Int) := by have := HMID.out; omega
    obtain ⟨s0, hs0⟩ : ∃ x, nn - b = x := ⟨_, rfl⟩
    have HS0 : Hid ((nn : Int) - (b : Int) = (s0 : Int)) := by have := HARI.out; unfold Hid; omega
    obtain ⟨r0, hr0⟩ : ∃ x, mid = x := ⟨_, rfl⟩
    have BND : Hid (∀ x, s0 ≤ x → x < r0 → a ≤ x ∧ x < m ∧ m ≤ pp - x ∧ pp - x < b ∧ x ≤ pp) := fun x h1 h2 => by have := HARI.out; omega
    have END : Hid (∀ s, s0 ≤ s → s ≤ r0 → a ≤ s ∧ s ≤ m ∧ s ≤ mid ∧ m ≤ nn - s ∧ nn - s ≤ b ∧ mid ≤ nn - s ∧ s ≤ nn ∧ (s = s0 → a < s → nn - s = b) ∧ (s = r0 → s < m → nn - s = m)) := fun s h1 h2 => by have := HARI.out; omega
    have h00 : s0 ≤ r0 := by have := HARI.out; omega
    have h0N : r0 ≤ N := by omega
    have hppN : pp ≤ 2 * N := by have := HARI.out; omega
    have hnnN : nn ≤ 2 * N := by have := HARI.out; omega
    have HMR : Hid (mid = r0) := hr0
    clear hs0 hr0
    go_enter Tryz.func241, Tryz.ntmps241
    go_wp2_with fail
    rw [HMID.out, HNN.out, HPP.out, HS0.out]
    go_loopg [20, 21] (r0 - s0) (fun gg sv rv wr => ∃ (s r : Nat), sv = .int .i64 s ∧ rv = .int .i64 r ∧ s0 ≤ s ∧ s ≤ r ∧ r ≤ r0 ∧ Hid (gg = r - s) ∧ Hid (∀ x, s0 ≤ x → x < s → ltT d[pp - x]! d[x]! = false) ∧ Hid (∀ x, r ≤ x → x < r0 → ltT d[pp - x]! d[x]! = true) ∧ Hid (Arr w0 wr g c d))
    case atStart => exact ⟨s0, r0, rfl, by rw [← HMR.out], Nat.le_refl _, h00, Nat.le_refl _, by have := HMR.out; unfold Hid; omega, fun x h1 h2 => by omega, fun x h1 h2 => by omega, HA.out⟩
    case round =>
      clear HA
      obtain ⟨s, r, rfl, rfl, hs0, hsr, hr0, HG, HLO, HHI, HA⟩ := hrel
      by_cases hlt : s < r
      · have hlt' : (s : Int) < (r : Int) := by omega
        obtain ⟨h, hh⟩ : ∃ h, (s + r) / 2 = h := ⟨_, rfl⟩
        have h1 : s ≤ h := by omega
        have h2 : h < r := by omega
        have HZ : Hid (((s : Int) + (r : Int)) / 2 = (h : Int)) := by unfold Hid; omega
        have hbd := BND.out h (by omega) (by omega)
        obtain ⟨q, hq⟩ : ∃ q, pp - h = q := ⟨_, rfl⟩
        rw [hq] at hbd
        obtain ⟨d1, d2, d3, d4, d5⟩ := hbd
        have HQ := Lib.hid hq
        have z9 : IntKind.i64.wrap ((pp : Int) - (h : Int)) = (q : Int) := by rw [IntKind.wrap_i64]; omega
        clear hh hq
        have hq1 := HA.out.bar (i := q) (by rw [HN.out]; omega)
        have hq2 := HA.out.bar (i := h) (by rw [HN.out]; omega)
        have fx := ob_fit d[q]!
        have fy := ob_fit d[h]!
        have hlt0 : ltT d[q]! d[h]! = decide (cmpB (TB.bar d[q]!) (TB.bar d[h]!) < 0) := rfl
        obtain ⟨bx, hbx⟩ : ∃ x, TB.bar d[q]! = x := ⟨_, rfl⟩
        obtain ⟨by_, hby⟩ : ∃ x, TB.bar d[h]! = x := ⟨_, rfl⟩
        rw [hbx] at hq1 fx hlt0
        rw [hby] at hq2 fy hlt0
        obtain ⟨x0, x1, x2⟩ := bx
        obtain ⟨y0, y1, y2⟩ := by_
        have H6 : Hid (wr.cell? ⟨g, q * 3, none⟩ = some (.int .i64 x0) ∧ wr.cell? ⟨g, q * 3 + 1, none⟩ = some (.string x1) ∧ wr.cell? ⟨g, q * 3 + 2, none⟩ = some (.string x2) ∧ wr.cell? ⟨g, h * 3, none⟩ = some (.int .i64 y0) ∧ wr.cell? ⟨g, h * 3 + 1, none⟩ = some (.string y1) ∧ wr.cell? ⟨g, h * 3 + 2, none⟩ = some (.string y2)) := ⟨hq1.1.1, hq1.1.2.1, hq1.1.2.2, hq2.1.1, hq2.1.2.1, hq2.1.2.2⟩
        obtain ⟨cv, hcv⟩ : ∃ v, cmpB ⟨x0, x1, x2⟩ ⟨y0, y1, y2⟩ = v := ⟨_, rfl⟩
        rw [hcv] at hlt0
        have HLT := Lib.hid hlt0
        have HCV := Lib.hid hcv
        have HFX := Lib.hid fx
        have HFY := Lib.hid fy
        have PD : Hid (Past wr wr.drew) := (Past.refl wr).drew
        have u1 : (q : Int) < (N : Int) := by omega
        have u2 : (h : Int) < (N : Int) := by omega
        clear hq1 hq2 fx fy hbx hby hcv hlt0
        go_wp2_with fail
        rw [HZ.out]
        go_region_held3 (fun w' => w'.cell? ⟨g, q * 3, none⟩ = some (.int .i64 x0) ∧ w'.cell? ⟨g, q * 3 + 1, none⟩ = some (.string x1) ∧ w'.cell? ⟨g, q * 3 + 2, none⟩ = some (.string x2) ∧ w'.cell? ⟨g, h * 3, none⟩ = some (.int .i64 y0) ∧ w'.cell? ⟨g, h * 3 + 1, none⟩ = some (.string y1) ∧ w'.cell? ⟨g, h * 3 + 2, none⟩ = some (.string y2)) (first | (refine keep6 hp2 ?_; assumption) | (refine keep6 PD ?_; exact H6.out))
          (first
            | (go_at_call 86; ((with_reducible refine (bar_compare' x0 y0 x1 x2 y1 y2 _ HFX.out HFY.out).mono ?_)); rintro e w2 ⟨hp2, rfl⟩))
        rw [HCV.out]
        have HA2 := Lib.hid (HA.out.past (PD.out.trans hp2))
        clear H6 HA
        obtain ⟨bv, hbv⟩ : ∃ b, (!decide (cv < 0)) = b := ⟨_, rfl⟩
        rw [hbv]
        have HBV := Lib.hid hbv
        clear hbv
        cases bv with
        | false =>
          have hlv : cv < 0 := by have := HBV.out; simpa using this
          have HT : Hid (ltT d[q]! d[h]! = true) := by show _ = _; rw [HLT.out]; exact decide_eq_true hlv
          clear hlv z9
          go_wp2
          go_roundg (h - s)
          case measure => have := HG.out; omega
          case rel =>
            refine ⟨s, h, rfl, rfl, hs0, h1, by omega, rfl, HLO.out, fun x hx1 hx2 => ?_, HA2.out⟩
            have hb := BND.out x (by omega) hx2
            have hq := HQ.out
            exact HH.out.mono hS ltT_pre d1 hx1 hb.2.1 hb.2.2.1 (show pp - x ≤ q by omega) d4 HT.out
        | true =>
          have hlv : ¬ cv < 0 := by have := HBV.out; simpa using this
          have HT : Hid (ltT d[q]! d[h]! = false) := by show _ = _; rw [HLT.out]; exact decide_eq_false hlv
          clear hlv z9
          go_wp2
          go_roundg (r - (h + 1))
          case measure => have := HG.out; omega
          case rel =>
            refine ⟨h + 1, r, by go_num, rfl, by omega, by omega, hr0, rfl, fun x hx1 hx2 => ?_, HHI.out, HA2.out⟩
            have hb := BND.out x hx1 (by omega)
            have hq := HQ.out
            cases hx : ltT d[pp - x]! d[x]! with
            | false => rfl
            | true =>
              have h3 := HH.out.mono hS ltT_pre hb.1 (show x ≤ h by omega) d2 d3 (show q ≤ pp - x by omega) hb.2.2.2.1 hx
              rw [HT.out] at h3
              cases h3
      · have hij' : s = r := by omega
        subst hij'
        have hen := END.out s hs0 hr0
        obtain ⟨t, ht⟩ : ∃ t, nn - s = t := ⟨_, rfl⟩
        rw [ht] at hen
        obtain ⟨t1, t2, t3, t4, t5, t6, t7, t8, t9⟩ := hen
        have HT : Hid ((nn : Int) - (s : Int) = (t : Int)) := by unfold Hid; omega
        have HNT : Hid (s + t = mid + m) := by have := HARI.out; unfold Hid; omega
        have HP1 : Hid (a < s → t < b → ltT d[t]! d[s - 1]! = false) := fun h1 h2 => by
          rcases Nat.lt_or_ge s0 s with h | h
          · have := HLO.out (s - 1) (by omega) (by omega)
            rw [show pp - (s - 1) = t by have := HARI.out; omega] at this
            exact this
          · have := t8 (by omega) h1; omega
        have HP2 : Hid (s < m → m < t → ltT d[t - 1]! d[s]! = true) := fun h1 h2 => by
          rcases Nat.lt_or_ge s r0 with h | h
          · have := HHI.out s (Nat.le_refl _) h
            rw [show pp - s = t - 1 by have := HARI.out; omega] at this
            exact this
          · have := t9 (by omega) h1; omega
        clear t8 t9 ht hlt HLO HHI
        go_upto_region 39 with fail
        rw [HT.out]
        by_cases hc1 : s < m ∧ m < t
        · have g1 : (s : Int) < (m : Int) := by omega
          have g2 : (m : Int) < (t : Int) := by omega
          go_wp2_with fail
          refine (srt_rotate g c N d s m t _ w0 _ HA.out HN.out hc1.1 hc1.2 (by omega) hsz).mono ?_
          rintro e w2 ⟨rfl, e, hrot, hae⟩
          have HROT := Lib.hid hrot
          have HE := Lib.hid hae
          clear hrot hae g1 g2
          have HES : Hid (e.size = N) := by rw [HROT.out.size]; exact HN.out
          have hprt := HH.out.part hS ltT_pre (by omega) (by omega) t1 t2 t4 t5 HNT.out HP1.out HP2.out HROT.out
          have HL := Lib.hid hprt.1
          have HR := Lib.hid hprt.2.1
          have HX := Lib.hid hprt.2.2
          have HPR : Hid (PermIn a b d e) := permIn_mono _ _ _ _ _ _ t1 t5 (by rw [HN.out]; exact hb) HROT.out.perm
          clear hprt
          by_cases hc2 : a < s ∧ s < mid
          · have k1 : (a : Int) < (s : Int) := by omega
            have k2 : (s : Int) < (mid : Int) := by omega
            go_wp2_with fail
            refine (IH.out a s mid e (by omega) hc2.1 hc2.2 (by omega) HES.out HL.out _ HE.out).mono ?_
            rintro e' w3 ⟨rfl, f, hpf, hsf, haf⟩
            have HPF := Lib.hid hpf
            have HSF := Lib.hid hsf
            have HF := Lib.hid haf
            clear hpf hsf haf k1 k2
            have HFS : Hid (f.size = N) := by rw [HPF.out.1]; exact HES.out
            have HRF : Hid (Halv leT tagPre f mid t b) := halv_keepR HR.out (by omega) HPF.out
            by_cases hc3 : mid < t ∧ t < b
            · have l1 : (mid : Int) < (t : Int) := by omega
              have l2 : (t : Int) < (b : Int) := by omega
              go_wp2_with fail
              all_goals
                refine (IH.out mid t b f (by omega) hc3.1 hc3.2 hb HFS.out HRF.out _ HF.out).mono ?_
                rintro e' w4 ⟨rfl, ff, hpg, hsg, hag⟩
                have HPG := Lib.hid hpg
                have HSG := Lib.hid hsg
                have HG4 := Lib.hid hag
                clear hpg hsg hag l1 l2
                have HGL := Lib.hid (glue hS (by omega) (by omega) (by rw [HES.out]; exact hb) HX.out HPF.out HSF.out HPG.out HSG.out)
                have HFIN : Hid (PermIn a b d ff ∧ SortedIn leT a b ff) := ⟨permIn_trans _ _ _ _ _ HPR.out HGL.out.1, HGL.out.2⟩
                go_wp2
                all_goals (go_end0; exact ⟨rfl, ff, HFIN.out.1, HFIN.out.2, HG4.out⟩)
            · by_cases hmt : mid < t
              · have l1 : (mid : Int) < (t : Int) := by omega
                have l2 : ¬ (t : Int) < (b : Int) := by omega
                have HSG0 : Hid (SortedIn leT mid b f) := halv_trivL HRF.out (by omega)
                obtain ⟨ff, hff⟩ : ∃ x, f = x := ⟨_, rfl⟩
                have HPG : Hid (PermIn mid b f ff) := by rw [← hff]; exact permIn_refl _ _ _
                have HSG : Hid (SortedIn leT mid b ff) := by rw [← hff]; exact HSG0.out
                have HG4 : Hid (Arr w0 w3 g c ff) := by rw [← hff]; exact HF.out
                clear hff
                have HGL := Lib.hid (glue hS (by omega) (by omega) (by rw [HES.out]; exact hb) HX.out HPF.out HSF.out HPG.out HSG.out)
                have HFIN : Hid (PermIn a b d ff ∧ SortedIn leT a b ff) := ⟨permIn_trans _ _ _ _ _ HPR.out HGL.out.1, HGL.out.2⟩
                go_wp2
                all_goals (go_end0; exact ⟨rfl, ff, HFIN.out.1, HFIN.out.2, HG4.out⟩)
              · have l1 : ¬ (mid : Int) < (t : Int) := by omega
                have HSG0 : Hid (SortedIn leT mid b f) := halv_trivL HRF.out (by omega)
                obtain ⟨ff, hff⟩ : ∃ x, f = x := ⟨_, rfl⟩
                have HPG : Hid (PermIn mid b f ff) := by rw [← hff]; exact permIn_refl _ _ _
                have HSG : Hid (SortedIn leT mid b ff) := by rw [← hff]; exact HSG0.out
                have HG4 : Hid (Arr w0 w3 g c ff) := by rw [← hff]; exact HF.out
                clear hff
                have HGL := Lib.hid (glue hS (by omega) (by omega) (by rw [HES.out]; exact hb) HX.out HPF.out HSF.out HPG.out HSG.out)
                have HFIN : Hid (PermIn a b d ff ∧ SortedIn leT a b ff) := ⟨permIn_trans _ _ _ _ _ HPR.out HGL.out.1, HGL.out.2⟩
                go_wp2
                all_goals (go_end0; exact ⟨rfl, ff, HFIN.out.1, HFIN.out.2, HG4.out⟩)
          · by_cases has : a < s
            · have k1 : (a : Int) < (s : Int) := by omega
              have k2 : ¬ (s : Int) < (mid : Int) := by omega
              have HSF0 : Hid (SortedIn leT a mid e) := halv_trivL HL.out (by omega)
              obtain ⟨f, hff⟩ : ∃ f, e = f := ⟨_, rfl⟩
              have HPF : Hid (PermIn a mid e f) := by rw [← hff]; exact permIn_refl _ _ _
              have HSF : Hid (SortedIn leT a mid f) := by rw [← hff]; exact HSF0.out
              have HF : Hid (Arr w0 w2 g c f) := by rw [← hff]; exact HE.out
              clear hff
              have HFS : Hid (f.size = N) := by rw [HPF.out.1]; exact HES.out
              have HRF : Hid (Halv leT tagPre f mid t b) := halv_keepR HR.out (by omega) HPF.out
              by_cases hc3 : mid < t ∧ t < b
              · have l1 : (mid : Int) < (t : Int) := by omega
                have l2 : (t : Int) < (b : Int) := by omega
                go_wp2_with fail
                all_goals
                  refine (IH.out mid t b f (by omega) hc3.1 hc3.2 hb HFS.out HRF.out _ HF.out).mono ?_
                  rintro e' w4 ⟨rfl, ff, hpg, hsg, hag⟩
                  have HPG := Lib.hid hpg
                  have HSG := Lib.hid hsg
                  have HG4 := Lib.hid hag
                  clear hpg hsg hag l1 l2
                  have HGL := Lib.hid (glue hS (by omega) (by omega) (by rw [HES.out]; exact hb) HX.out HPF.out HSF.out HPG.out HSG.out)
                  have HFIN : Hid (PermIn a b d ff ∧ SortedIn leT a b ff) := ⟨permIn_trans _ _ _ _ _ HPR.out HGL.out.1, HGL.out.2⟩
                  go_wp2
                  all_goals (go_end0; exact ⟨rfl, ff, HFIN.out.1, HFIN.out.2, HG4.out⟩)
              · by_cases hmt : mid < t
                · have l1 : (mid : Int) < (t : Int) := by omega
                  have l2 : ¬ (t : Int) < (b : Int) := by omega
                  have HSG0 : Hid (SortedIn leT mid b f) := halv_trivL HRF.out (by omega)
                  obtain ⟨ff, hff⟩ : ∃ x, f = x := ⟨_, rfl⟩
                  have HPG : Hid (PermIn mid b f ff) := by rw [← hff]; exact permIn_refl _ _ _
                  have HSG : Hid (SortedIn leT mid b ff) := by rw [← hff]; exact HSG0.out
                  have HG4 : Hid (Arr w0 w2 g c ff) := by rw [← hff]; exact HF.out
                  clear hff
                  have HGL := Lib.hid (glue hS (by omega) (by omega) (by rw [HES.out]; exact hb) HX.out HPF.out HSF.out HPG.out HSG.out)
                  have HFIN : Hid (PermIn a b d ff ∧ SortedIn leT a b ff) := ⟨permIn_trans _ _ _ _ _ HPR.out HGL.out.1, HGL.out.2⟩
                  go_wp2
                  all_goals (go_end0; exact ⟨rfl, ff, HFIN.out.1, HFIN.out.2, HG4.out⟩)
                · have l1 : ¬ (mid : Int) < (t : Int) := by omega
                  have HSG0 : Hid (SortedIn leT mid b f) := halv_trivL HRF.out (by omega)
                  obtain ⟨ff, hff⟩ : ∃ x, f = x := ⟨_, rfl⟩
                  have HPG : Hid (PermIn mid b f ff) := by rw [← hff]; exact permIn_refl _ _ _
                  have HSG : Hid (SortedIn leT mid b ff) := by rw [← hff]; exact HSG0.out
                  have HG4 : Hid (Arr w0 w2 g c ff) := by rw [← hff]; exact HF.out
                  clear hff
                  have HGL := Lib.hid (glue hS (by omega) (by omega) (by rw [HES.out]; exact hb) HX.out HPF.out HSF.out HPG.out HSG.out)
                  have HFIN : Hid (PermIn a b d ff ∧ SortedIn leT a b ff) := ⟨permIn_trans _ _ _ _ _ HPR.out HGL.out.1, HGL.out.2⟩
                  go_wp2
                  all_goals (go_end0; exact ⟨rfl, ff, HFIN.out.1, HFIN.out.2, HG4.out⟩)
            · have k1 : ¬ (a : Int) < (s : Int) := by omega
              have HSF0 : Hid (SortedIn leT a mid e) := halv_trivL HL.out (by omega)
              obtain ⟨f, hff⟩ : ∃ f, e = f := ⟨_, rfl⟩
              have HPF : Hid (PermIn a mid e f) := by rw [← hff]; exact permIn_refl _ _ _
              have HSF : Hid (SortedIn leT a mid f) := by rw [← hff]; exact HSF0.out
              have HF : Hid (Arr w0 w2 g c f) := by rw [← hff]; exact HE.out
              clear hff
              have HFS : Hid (f.size = N) := by rw [HPF.out.1]; exact HES.out
              have HRF : Hid (Halv leT tagPre f mid t b) := halv_keepR HR.out (by omega) HPF.out
              by_cases hc3 : mid < t ∧ t < b
              · have l1 : (mid : Int) < (t : Int) := by omega
                have l2 : (t : Int) < (b : Int) := by omega
                go_wp2_with fail
                all_goals
                  refine (IH.out mid t b f (by omega) hc3.1 hc3.2 hb HFS.out HRF.out _ HF.out).mono ?_
                  rintro e' w4 ⟨rfl, ff, hpg, hsg, hag⟩
                  have HPG := Lib.hid hpg
                  have HSG := Lib.hid hsg
                  have HG4 := Lib.hid hag
                  clear hpg hsg hag l1 l2
                  have HGL := Lib.hid (glue hS (by omega) (by omega) (by rw [HES.out]; exact hb) HX.out HPF.out HSF.out HPG.out HSG.out)
                  have HFIN : Hid (PermIn a b d ff ∧ SortedIn leT a b ff) := ⟨permIn_trans _ _ _ _ _ HPR.out HGL.out.1, HGL.out.2⟩
                  go_wp2
                  all_goals (go_end0; exact ⟨rfl, ff, HFIN.out.1, HFIN.out.2, HG4.out⟩)
              · by_cases hmt : mid < t
                · have l1 : (mid : Int) < (t : Int) := by omega
                  have l2 : ¬ (t : Int) < (b : Int) := by omega
                  have HSG0 : Hid (SortedIn leT mid b f) := halv_trivL HRF.out (by omega)
                  obtain ⟨ff, hff⟩ : ∃ x, f = x := ⟨_, rfl⟩
                  have HPG : Hid (PermIn mid b f ff) := by rw [← hff]; exact permIn_refl _ _ _
                  have HSG : Hid (SortedIn leT mid b ff) := by rw [← hff]; exact HSG0.out
                  have HG4 : Hid (Arr w0 w2 g c ff) := by rw [← hff]; exact HF.out
                  clear hff
                  have HGL := Lib.hid (glue hS (by omega) (by omega) (by rw [HES.out]; exact hb) HX.out HPF.out HSF.out HPG.out HSG.out)
                  have HFIN : Hid (PermIn a b d ff ∧ SortedIn leT a b ff) := ⟨permIn_trans _ _ _ _ _ HPR.out HGL.out.1, HGL.out.2⟩
                  go_wp2
                  all_goals (go_end0; exact ⟨rfl, ff, HFIN.out.1, HFIN.out.2, HG4.out⟩)
                · have l1 : ¬ (mid : Int) < (t : Int) := by omega
                  have HSG0 : Hid (SortedIn leT mid b f) := halv_trivL HRF.out (by omega)
                  obtain ⟨ff, hff⟩ : ∃ x, f = x := ⟨_, rfl⟩
                  have HPG : Hid (PermIn mid b f ff) := by rw [← hff]; exact permIn_refl _ _ _
                  have HSG : Hid (SortedIn leT mid b ff) := by rw [← hff]; exact HSG0.out
                  have HG4 : Hid (Arr w0 w2 g c ff) := by rw [← hff]; exact HF.out
                  clear hff
                  have HGL := Lib.hid (glue hS (by omega) (by omega) (by rw [HES.out]; exact hb) HX.out HPF.out HSF.out HPG.out HSG.out)
                  have HFIN : Hid (PermIn a b d ff ∧ SortedIn leT a b ff) := ⟨permIn_trans _ _ _ _ _ HPR.out HGL.out.1, HGL.out.2⟩
                  go_wp2
                  all_goals (go_end0; exact ⟨rfl, ff, HFIN.out.1, HFIN.out.2, HG4.out⟩)
        · by_cases hsm : s < m
          · have g1 : (s : Int) < (m : Int) := by omega
            have g2 : ¬ (m : Int) < (t : Int) := by omega
            have HROT : Hid (Rot d d s m t) := by
              rcases Nat.lt_or_ge s m with h | h
              · have e1 : t = m := by omega
                rw [e1]; exact Rot.right d s m
              · have e1 : s = m := by omega
                rw [e1]; exact Rot.left d m t
            have HE := Lib.hid HA.out
            obtain ⟨e, hee⟩ : ∃ e, d = e := ⟨_, rfl⟩
            have HEQ : Hid (Rot d e s m t) := by rw [← hee]; exact HROT.out
            have HE2 : Hid (Arr w0 wr g c e) := by rw [← hee]; exact HE.out
            clear HE HROT hee
            have HE := HE2
            have HROT := HEQ
            clear HE2 HEQ
            have HES : Hid (e.size = N) := by rw [HROT.out.size]; exact HN.out
            have hprt := HH.out.part hS ltT_pre (by omega) (by omega) t1 t2 t4 t5 HNT.out HP1.out HP2.out HROT.out
            have HL := Lib.hid hprt.1
            have HR := Lib.hid hprt.2.1
            have HX := Lib.hid hprt.2.2
            have HPR : Hid (PermIn a b d e) := permIn_mono _ _ _ _ _ _ t1 t5 (by rw [HN.out]; exact hb) HROT.out.perm
            clear hprt
            by_cases hc2 : a < s ∧ s < mid
            · have k1 : (a : Int) < (s : Int) := by omega
              have k2 : (s : Int) < (mid : Int) := by omega
              go_wp2_with fail
              refine (IH.out a s mid e (by omega) hc2.1 hc2.2 (by omega) HES.out HL.out _ HE.out).mono ?_
              rintro e' w3 ⟨rfl, f, hpf, hsf, haf⟩
              have HPF := Lib.hid hpf
              have HSF := Lib.hid hsf
              have HF := Lib.hid haf
              clear hpf hsf haf k1 k2
              have HFS : Hid (f.size = N) := by rw [HPF.out.1]; exact HES.out
              have HRF : Hid (Halv leT tagPre f mid t b) := halv_keepR HR.out (by omega) HPF.out
              by_cases hc3 : mid < t ∧ t < b
              · have l1 : (mid : Int) < (t : Int) := by omega
                have l2 : (t : Int) < (b : Int) := by omega
                go_wp2_with fail
                all_goals
                  refine (IH.out mid t b f (by omega) hc3.1 hc3.2 hb HFS.out HRF.out _ HF.out).mono ?_
                  rintro e' w4 ⟨rfl, ff, hpg, hsg, hag⟩
                  have HPG := Lib.hid hpg
                  have HSG := Lib.hid hsg
                  have HG4 := Lib.hid hag
                  clear hpg hsg hag l1 l2
                  have HGL := Lib.hid (glue hS (by omega) (by omega) (by rw [HES.out]; exact hb) HX.out HPF.out HSF.out HPG.out HSG.out)
                  have HFIN : Hid (PermIn a b d ff ∧ SortedIn leT a b ff) := ⟨permIn_trans _ _ _ _ _ HPR.out HGL.out.1, HGL.out.2⟩
                  go_wp2
                  all_goals (go_end0; exact ⟨rfl, ff, HFIN.out.1, HFIN.out.2, HG4.out⟩)
              · by_cases hmt : mid < t
                · have l1 : (mid : Int) < (t : Int) := by omega
                  have l2 : ¬ (t : Int) < (b : Int) := by omega
                  have HSG0 : Hid (SortedIn leT mid b f) := halv_trivL HRF.out (by omega)
                  obtain ⟨ff, hff⟩ : ∃ x, f = x := ⟨_, rfl⟩
                  have HPG : Hid (PermIn mid b f ff) := by rw [← hff]; exact permIn_refl _ _ _
                  have HSG : Hid (SortedIn leT mid b ff) := by rw [← hff]; exact HSG0.out
                  have HG4 : Hid (Arr w0 w3 g c ff) := by rw [← hff]; exact HF.out
                  clear hff
                  have HGL := Lib.hid (glue hS (by omega) (by omega) (by rw [HES.out]; exact hb) HX.out HPF.out HSF.out HPG.out HSG.out)
                  have HFIN : Hid (PermIn a b d ff ∧ SortedIn leT a b ff) := ⟨permIn_trans _ _ _ _ _ HPR.out HGL.out.1, HGL.out.2⟩
                  go_wp2
                  all_goals (go_end0; exact ⟨rfl, ff, HFIN.out.1, HFIN.out.2, HG4.out⟩)
                · have l1 : ¬ (mid : Int) < (t : Int) := by omega
                  have HSG0 : Hid (SortedIn leT mid b f) := halv_trivL HRF.out (by omega)
                  obtain ⟨ff, hff⟩ : ∃ x, f = x := ⟨_, rfl⟩
                  have HPG : Hid (PermIn mid b f ff) := by rw [← hff]; exact permIn_refl _ _ _
                  have HSG : Hid (SortedIn leT mid b ff) := by rw [← hff]; exact HSG0.out
                  have HG4 : Hid (Arr w0 w3 g c ff) := by rw [← hff]; exact HF.out
                  clear hff
                  have HGL := Lib.hid (glue hS (by omega) (by omega) (by rw [HES.out]; exact hb) HX.out HPF.out HSF.out HPG.out HSG.out)
                  have HFIN : Hid (PermIn a b d ff ∧ SortedIn leT a b ff) := ⟨permIn_trans _ _ _ _ _ HPR.out HGL.out.1, HGL.out.2⟩
                  go_wp2
                  all_goals (go_end0; exact ⟨rfl, ff, HFIN.out.1, HFIN.out.2, HG4.out⟩)
            · by_cases has : a < s
              · have k1 : (a : Int) < (s : Int) := by omega
                have k2 : ¬ (s : Int) < (mid : Int) := by omega
                have HSF0 : Hid (SortedIn leT a mid e) := halv_trivL HL.out (by omega)
                obtain ⟨f, hff⟩ : ∃ f, e = f := ⟨_, rfl⟩
                have HPF : Hid (PermIn a mid e f) := by rw [← hff]; exact permIn_refl _ _ _
                have HSF : Hid (SortedIn leT a mid f) := by rw [← hff]; exact HSF0.out
                have HF : Hid (Arr w0 wr g c f) := by rw [← hff]; exact HE.out
                clear hff
                have HFS : Hid (f.size = N) := by rw [HPF.out.1]; exact HES.out
                have HRF : Hid (Halv leT tagPre f mid t b) := halv_keepR HR.out (by omega) HPF.out
                by_cases hc3 : mid < t ∧ t < b
                · have l1 : (mid : Int) < (t : Int) := by omega
                  have l2 : (t : Int) < (b : Int) := by omega
                  go_wp2_with fail
                  all_goals
                    refine (IH.out mid t b f (by omega) hc3.1 hc3.2 hb HFS.out HRF.out _ HF.out).mono ?_
                    rintro e' w4 ⟨rfl, ff, hpg, hsg, hag⟩
                    have HPG := Lib.hid hpg
                    have HSG := Lib.hid hsg
                    have HG4 := Lib.hid hag
                    clear hpg hsg hag l1 l2
                    have HGL := Lib.hid (glue hS (by omega) (by omega) (by rw [HES.out]; exact hb) HX.out HPF.out HSF.out HPG.out HSG.out)
                    have HFIN : Hid (PermIn a b d ff ∧ SortedIn leT a b ff) := ⟨permIn_trans _ _ _ _ _ HPR.out HGL.out.1, HGL.out.2⟩
                    go_wp2
                    all_goals (go_end0; exact ⟨rfl, ff, HFIN.out.1, HFIN.out.2, HG4.out⟩)
                · by_cases hmt : mid < t
                  · have l1 : (mid : Int) < (t : Int) := by omega
                    have l2 : ¬ (t : Int) < (b : Int) := by omega
                    have HSG0 : Hid (SortedIn leT mid b f) := halv_trivL HRF.out (by omega)
                    obtain ⟨ff, hff⟩ : ∃ x, f = x := ⟨_, rfl⟩
                    have HPG : Hid (PermIn mid b f ff) := by rw [← hff]; exact permIn_refl _ _ _
                    have HSG : Hid (SortedIn leT mid b ff) := by rw [← hff]; exact HSG0.out
                    have HG4 : Hid (Arr w0 wr g c ff) := by rw [← hff]; exact HF.out
                    clear hff
                    have HGL := Lib.hid (glue hS (by omega) (by omega) (by rw [HES.out]; exact hb) HX.out HPF.out HSF.out HPG.out HSG.out)
                    have HFIN : Hid (PermIn a b d ff ∧ SortedIn leT a b ff) := ⟨permIn_trans _ _ _ _ _ HPR.out HGL.out.1, HGL.out.2⟩
                    go_wp2
                    all_goals (go_end0; exact ⟨rfl, ff, HFIN.out.1, HFIN.out.2, HG4.out⟩)
                  · have l1 : ¬ (mid : Int) < (t : Int) := by omega
                    have HSG0 : Hid (SortedIn leT mid b f) := halv_trivL HRF.out (by omega)
                    obtain ⟨ff, hff⟩ : ∃ x, f = x := ⟨_, rfl⟩
                    have HPG : Hid (PermIn mid b f ff) := by rw [← hff]; exact permIn_refl _ _ _
                    have HSG : Hid (SortedIn leT mid b ff) := by rw [← hff]; exact HSG0.out
                    have HG4 : Hid (Arr w0 wr g c ff) := by rw [← hff]; exact HF.out
                    clear hff
                    have HGL := Lib.hid (glue hS (by omega) (by omega) (by rw [HES.out]; exact hb) HX.out HPF.out HSF.out HPG.out HSG.out)
                    have HFIN : Hid (PermIn a b d ff ∧ SortedIn leT a b ff) := ⟨permIn_trans _ _ _ _ _ HPR.out HGL.out.1, HGL.out.2⟩
                    go_wp2
                    all_goals (go_end0; exact ⟨rfl, ff, HFIN.out.1, HFIN.out.2, HG4.out⟩)
              · have k1 : ¬ (a : Int) < (s : Int) := by omega
                have HSF0 : Hid (SortedIn leT a mid e) := halv_trivL HL.out (by omega)
                obtain ⟨f, hff⟩ : ∃ f, e = f := ⟨_, rfl⟩
                have HPF : Hid (PermIn a mid e f) := by rw [← hff]; exact permIn_refl _ _ _
                have HSF : Hid (SortedIn leT a mid f) := by rw [← hff]; exact HSF0.out
                have HF : Hid (Arr w0 wr g c f) := by rw [← hff]; exact HE.out
                clear hff
                have HFS : Hid (f.size = N) := by rw [HPF.out.1]; exact HES.out
                have HRF : Hid (Halv leT tagPre f mid t b) := halv_keepR HR.out (by omega) HPF.out
                by_cases hc3 : mid < t ∧ t < b
                · have l1 : (mid : Int) < (t : Int) := by omega
                  have l2 : (t : Int) < (b : Int) := by omega
                  go_wp2_with fail
                  all_goals
                    refine (IH.out mid t b f (by omega) hc3.1 hc3.2 hb HFS.out HRF.out _ HF.out).mono ?_
                    rintro e' w4 ⟨rfl, ff, hpg, hsg, hag⟩
                    have HPG := Lib.hid hpg
                    have HSG := Lib.hid hsg
                    have HG4 := Lib.hid hag
                    clear hpg hsg hag l1 l2
                    have HGL := Lib.hid (glue hS (by omega) (by omega) (by rw [HES.out]; exact hb) HX.out HPF.out HSF.out HPG.out HSG.out)
                    have HFIN : Hid (PermIn a b d ff ∧ SortedIn leT a b ff) := ⟨permIn_trans _ _ _ _ _ HPR.out HGL.out.1, HGL.out.2⟩
                    go_wp2
                    all_goals (go_end0; exact ⟨rfl, ff, HFIN.out.1, HFIN.out.2, HG4.out⟩)
                · by_cases hmt : mid < t
                  · have l1 : (mid : Int) < (t : Int) := by omega
                    have l2 : ¬ (t : Int) < (b : Int) := by omega
                    have HSG0 : Hid (SortedIn leT mid b f) := halv_trivL HRF.out (by omega)
                    obtain ⟨ff, hff⟩ : ∃ x, f = x := ⟨_, rfl⟩
                    have HPG : Hid (PermIn mid b f ff) := by rw [← hff]; exact permIn_refl _ _ _
                    have HSG : Hid (SortedIn leT mid b ff) := by rw [← hff]; exact HSG0.out
                    have HG4 : Hid (Arr w0 wr g c ff) := by rw [← hff]; exact HF.out
                    clear hff
                    have HGL := Lib.hid (glue hS (by omega) (by omega) (by rw [HES.out]; exact hb) HX.out HPF.out HSF.out HPG.out HSG.out)
                    have HFIN : Hid (PermIn a b d ff ∧ SortedIn leT a b ff) := ⟨permIn_trans _ _ _ _ _ HPR.out HGL.out.1, HGL.out.2⟩
                    go_wp2
                    all_goals (go_end0; exact ⟨rfl, ff, HFIN.out.1, HFIN.out.2, HG4.out⟩)
                  · have l1 : ¬ (mid : Int) < (t : Int) := by omega
                    have HSG0 : Hid (SortedIn leT mid b f) := halv_trivL HRF.out (by omega)
                    obtain ⟨ff, hff⟩ : ∃ x, f = x := ⟨_, rfl⟩
                    have HPG : Hid (PermIn mid b f ff) := by rw [← hff]; exact permIn_refl _ _ _
                    have HSG : Hid (SortedIn leT mid b ff) := by rw [← hff]; exact HSG0.out
                    have HG4 : Hid (Arr w0 wr g c ff) := by rw [← hff]; exact HF.out
                    clear hff
                    have HGL := Lib.hid (glue hS (by omega) (by omega) (by rw [HES.out]; exact hb) HX.out HPF.out HSF.out HPG.out HSG.out)
                    have HFIN : Hid (PermIn a b d ff ∧ SortedIn leT a b ff) := ⟨permIn_trans _ _ _ _ _ HPR.out HGL.out.1, HGL.out.2⟩
                    go_wp2
                    all_goals (go_end0; exact ⟨rfl, ff, HFIN.out.1, HFIN.out.2, HG4.out⟩)
          · have g1 : ¬ (s : Int) < (m : Int) := by omega
            have HROT : Hid (Rot d d s m t) := by
              rcases Nat.lt_or_ge s m with h | h
              · have e1 : t = m := by omega
                rw [e1]; exact Rot.right d s m
              · have e1 : s = m := by omega
                rw [e1]; exact Rot.left d m t
            have HE := Lib.hid HA.out
            obtain ⟨e, hee⟩ : ∃ e, d = e := ⟨_, rfl⟩
            have HEQ : Hid (Rot d e s m t) := by rw [← hee]; exact HROT.out
            have HE2 : Hid (Arr w0 wr g c e) := by rw [← hee]; exact HE.out
            clear HE HROT hee
            have HE := HE2
            have HROT := HEQ
            clear HE2 HEQ
            have HES : Hid (e.size = N) := by rw [HROT.out.size]; exact HN.out
            have hprt := HH.out.part hS ltT_pre (by omega) (by omega) t1 t2 t4 t5 HNT.out HP1.out HP2.out HROT.out
            have HL := Lib.hid hprt.1
            have HR := Lib.hid hprt.2.1
            have HX := Lib.hid hprt.2.2
            have HPR : Hid (PermIn a b d e) := permIn_mono _ _ _ _ _ _ t1 t5 (by rw [HN.out]; exact hb) HROT.out.perm
            clear hprt
            by_cases hc2 : a < s ∧ s < mid
            · have k1 : (a : Int) < (s : Int) := by omega
              have k2 : (s : Int) < (mid : Int) := by omega
              go_wp2_with fail
              refine (IH.out a s mid e (by omega) hc2.1 hc2.2 (by omega) HES.out HL.out _ HE.out).mono ?_
              rintro e' w3 ⟨rfl, f, hpf, hsf, haf⟩
              have HPF := Lib.hid hpf
              have HSF := Lib.hid hsf
              have HF := Lib.hid haf
              clear hpf hsf haf k1 k2
              have HFS : Hid (f.size = N) := by rw [HPF.out.1]; exact HES.out
              have HRF : Hid (Halv leT tagPre f mid t b) := halv_keepR HR.out (by omega) HPF.out
              by_cases hc3 : mid < t ∧ t < b
              · have l1 : (mid : Int) < (t : Int) := by omega
                have l2 : (t : Int) < (b : Int) := by omega
                go_wp2_with fail
                all_goals
                  refine (IH.out mid t b f (by omega) hc3.1 hc3.2 hb HFS.out HRF.out _ HF.out).mono ?_
                  rintro e' w4 ⟨rfl, ff, hpg, hsg, hag⟩
                  have HPG := Lib.hid hpg
                  have HSG := Lib.hid hsg
                  have HG4 := Lib.hid hag
                  clear hpg hsg hag l1 l2
                  have HGL := Lib.hid (glue hS (by omega) (by omega) (by rw [HES.out]; exact hb) HX.out HPF.out HSF.out HPG.out HSG.out)
                  have HFIN : Hid (PermIn a b d ff ∧ SortedIn leT a b ff) := ⟨permIn_trans _ _ _ _ _ HPR.out HGL.out.1, HGL.out.2⟩
                  go_wp2
                  all_goals (go_end0; exact ⟨rfl, ff, HFIN.out.1, HFIN.out.2, HG4.out⟩)
              · by_cases hmt : mid < t
                · have l1 : (mid : Int) < (t : Int) := by omega
                  have l2 : ¬ (t : Int) < (b : Int) := by omega
                  have HSG0 : Hid (SortedIn leT mid b f) := halv_trivL HRF.out (by omega)
                  obtain ⟨ff, hff⟩ : ∃ x, f = x := ⟨_, rfl⟩
                  have HPG : Hid (PermIn mid b f ff) := by rw [← hff]; exact permIn_refl _ _ _
                  have HSG : Hid (SortedIn leT mid b ff) := by rw [← hff]; exact HSG0.out
                  have HG4 : Hid (Arr w0 w3 g c ff) := by rw [← hff]; exact HF.out
                  clear hff
                  have HGL := Lib.hid (glue hS (by omega) (by omega) (by rw [HES.out]; exact hb) HX.out HPF.out HSF.out HPG.out HSG.out)
                  have HFIN : Hid (PermIn a b d ff ∧ SortedIn leT a b ff) := ⟨permIn_trans _ _ _ _ _ HPR.out HGL.out.1, HGL.out.2⟩
                  go_wp2
                  all_goals (go_end0; exact ⟨rfl, ff, HFIN.out.1, HFIN.out.2, HG4.out⟩)
                · have l1 : ¬ (mid : Int) < (t : Int) := by omega
                  have HSG0 : Hid (SortedIn leT mid b f) := halv_trivL HRF.out (by omega)
                  obtain ⟨ff, hff⟩ : ∃ x, f = x := ⟨_, rfl⟩
                  have HPG : Hid (PermIn mid b f ff) := by rw [← hff]; exact permIn_refl _ _ _
                  have HSG : Hid (SortedIn leT mid b ff) := by rw [← hff]; exact HSG0.out
                  have HG4 : Hid (Arr w0 w3 g c ff) := by rw [← hff]; exact HF.out
                  clear hff
                  have HGL := Lib.hid (glue hS (by omega) (by omega) (by rw [HES.out]; exact hb) HX.out HPF.out HSF.out HPG.out HSG.out)
                  have HFIN : Hid (PermIn a b d ff ∧ SortedIn leT a b ff) := ⟨permIn_trans _ _ _ _ _ HPR.out HGL.out.1, HGL.out.2⟩
                  go_wp2
                  all_goals (go_end0; exact ⟨rfl, ff, HFIN.out.1, HFIN.out.2, HG4.out⟩)
            · by_cases has : a < s
              · have k1 : (a : Int) < (s : Int) := by omega
                have k2 : ¬ (s : Int) < (mid : Int) := by omega
                have HSF0 : Hid (SortedIn leT a mid e) := halv_trivL HL.out (by omega)
                obtain ⟨f, hff⟩ : ∃ f, e = f := ⟨_, rfl⟩
                have HPF : Hid (PermIn a mid e f) := by rw [← hff]; exact permIn_refl _ _ _
                have HSF : Hid (SortedIn leT a mid f) := by rw [← hff]; exact HSF0.out
                have HF : Hid (Arr w0 wr g c f) := by rw [← hff]; exact HE.out
                clear hff
                have HFS : Hid (f.size = N) := by rw [HPF.out.1]; exact HES.out
                have HRF : Hid (Halv leT tagPre f mid t b) := halv_keepR HR.out (by omega) HPF.out
                by_cases hc3 : mid < t ∧ t < b
                · have l1 : (mid : Int) < (t : Int) := by omega
                  have l2 : (t : Int) < (b : Int) := by omega
                  go_wp2_with fail
                  all_goals
                    refine (IH.out mid t b f (by omega) hc3.1 hc3.2 hb HFS.out HRF.out _ HF.out).mono ?_
                    rintro e' w4 ⟨rfl, ff, hpg, hsg, hag⟩
                    have HPG := Lib.hid hpg
                    have HSG := Lib.hid hsg
                    have HG4 := Lib.hid hag
                    clear hpg hsg hag l1 l2
                    have HGL := Lib.hid (glue hS (by omega) (by omega) (by rw [HES.out]; exact hb) HX.out HPF.out HSF.out HPG.out HSG.out)
                    have HFIN : Hid (PermIn a b d ff ∧ SortedIn leT a b ff) := ⟨permIn_trans _ _ _ _ _ HPR.out HGL.out.1, HGL.out.2⟩
                    go_wp2
                    all_goals (go_end0; exact ⟨rfl, ff, HFIN.out.1, HFIN.out.2, HG4.out⟩)
                · by_cases hmt : mid < t
                  · have l1 : (mid : Int) < (t : Int) := by omega
                    have l2 : ¬ (t : Int) < (b : Int) := by omega
                    have HSG0 : Hid (SortedIn leT mid b f) := halv_trivL HRF.out (by omega)
                    obtain ⟨ff, hff⟩ : ∃ x, f = x := ⟨_, rfl⟩
                    have HPG : Hid (PermIn mid b f ff) := by rw [← hff]; exact permIn_refl _ _ _
                    have HSG : Hid (SortedIn leT mid b ff) := by rw [← hff]; exact HSG0.out
                    have HG4 : Hid (Arr w0 wr g c ff) := by rw [← hff]; exact HF.out
                    clear hff
                    have HGL := Lib.hid (glue hS (by omega) (by omega) (by rw [HES.out]; exact hb) HX.out HPF.out HSF.out HPG.out HSG.out)
                    have HFIN : Hid (PermIn a b d ff ∧ SortedIn leT a b ff) := ⟨permIn_trans _ _ _ _ _ HPR.out HGL.out.1, HGL.out.2⟩
                    go_wp2
                    all_goals (go_end0; exact ⟨rfl, ff, HFIN.out.1, HFIN.out.2, HG4.out⟩)
                  · have l1 : ¬ (mid : Int) < (t : Int) := by omega
                    have HSG0 : Hid (SortedIn leT mid b f) := halv_trivL HRF.out (by omega)
                    obtain ⟨ff, hff⟩ : ∃ x, f = x := ⟨_, rfl⟩
                    have HPG : Hid (PermIn mid b f ff) := by rw [← hff]; exact permIn_refl _ _ _
                    have HSG : Hid (SortedIn leT mid b ff) := by rw [← hff]; exact HSG0.out
                    have HG4 : Hid (Arr w0 wr g c ff) := by rw [← hff]; exact HF.out
                    clear hff
                    have HGL := Lib.hid (glue hS (by omega) (by omega) (by rw [HES.out]; exact hb) HX.out HPF.out HSF.out HPG.out HSG.out)
                    have HFIN : Hid (PermIn a b d ff ∧ SortedIn leT a b ff) := ⟨permIn_trans _ _ _ _ _ HPR.out HGL.out.1, HGL.out.2⟩
                    go_wp2
                    all_goals (go_end0; exact ⟨rfl, ff, HFIN.out.1, HFIN.out.2, HG4.out⟩)
              · have k1 : ¬ (a : Int) < (s : Int) := by omega
                have HSF0 : Hid (SortedIn leT a mid e) := halv_trivL HL.out (by omega)
                obtain ⟨f, hff⟩ : ∃ f, e = f := ⟨_, rfl⟩
                have HPF : Hid (PermIn a mid e f) := by rw [← hff]; exact permIn_refl _ _ _
                have HSF : Hid (SortedIn leT a mid f) := by rw [← hff]; exact HSF0.out
                have HF : Hid (Arr w0 wr g c f) := by rw [← hff]; exact HE.out
                clear hff
                have HFS : Hid (f.size = N) := by rw [HPF.out.1]; exact HES.out
                have HRF : Hid (Halv leT tagPre f mid t b) := halv_keepR HR.out (by omega) HPF.out
                by_cases hc3 : mid < t ∧ t < b
                · have l1 : (mid : Int) < (t : Int) := by omega
                  have l2 : (t : Int) < (b : Int) := by omega
                  go_wp2_with fail
                  all_goals
                    refine (IH.out mid t b f (by omega) hc3.1 hc3.2 hb HFS.out HRF.out _ HF.out).mono ?_
                    rintro e' w4 ⟨rfl, ff, hpg, hsg, hag⟩
                    have HPG := Lib.hid hpg
                    have HSG := Lib.hid hsg
                    have HG4 := Lib.hid hag
                    clear hpg hsg hag l1 l2
                    have HGL := Lib.hid (glue hS (by omega) (by omega) (by rw [HES.out]; exact hb) HX.out HPF.out HSF.out HPG.out HSG.out)
                    have HFIN : Hid (PermIn a b d ff ∧ SortedIn leT a b ff) := ⟨permIn_trans _ _ _ _ _ HPR.out HGL.out.1, HGL.out.2⟩
                    go_wp2
                    all_goals (go_end0; exact ⟨rfl, ff, HFIN.out.1, HFIN.out.2, HG4.out⟩)
                · by_cases hmt : mid < t
                  · have l1 : (mid : Int) < (t : Int) := by omega
                    have l2 : ¬ (t : Int) < (b : Int) := by omega
                    have HSG0 : Hid (SortedIn leT mid b f) := halv_trivL HRF.out (by omega)
                    obtain ⟨ff, hff⟩ : ∃ x, f = x := ⟨_, rfl⟩
                    have HPG : Hid (PermIn mid b f ff) := by rw [← hff]; exact permIn_refl _ _ _
                    have HSG : Hid (SortedIn leT mid b ff) := by rw [← hff]; exact HSG0.out
                    have HG4 : Hid (Arr w0 wr g c ff) := by rw [← hff]; exact HF.out
                    clear hff
                    have HGL := Lib.hid (glue hS (by omega) (by omega) (by rw [HES.out]; exact hb) HX.out HPF.out HSF.out HPG.out HSG.out)
                    have HFIN : Hid (PermIn a b d ff ∧ SortedIn leT a b ff) := ⟨permIn_trans _ _ _ _ _ HPR.out HGL.out.1, HGL.out.2⟩
                    go_wp2
                    all_goals (go_end0; exact ⟨rfl, ff, HFIN.out.1, HFIN.out.2, HG4.out⟩)
                  · have l1 : ¬ (mid : Int) < (t : Int) := by omega
                    have HSG0 : Hid (SortedIn leT mid b f) := halv_trivL HRF.out (by omega)
                    obtain ⟨ff, hff⟩ : ∃ x, f = x := ⟨_, rfl⟩
                    have HPG : Hid (PermIn mid b f ff) := by rw [← hff]; exact permIn_refl _ _ _
                    have HSG : Hid (SortedIn leT mid b ff) := by rw [← hff]; exact HSG0.out
                    have HG4 : Hid (Arr w0 wr g c ff) := by rw [← hff]; exact HF.out
                    clear hff
                    have HGL := Lib.hid (glue hS (by omega) (by omega) (by rw [HES.out]; exact hb) HX.out HPF.out HSF.out HPG.out HSG.out)
                    have HFIN : Hid (PermIn a b d ff ∧ SortedIn leT a b ff) := ⟨permIn_trans _ _ _ _ _ HPR.out HGL.out.1, HGL.out.2⟩
                    go_wp2
                    all_goals (go_end0; exact ⟨rfl, ff, HFIN.out.1, HFIN.out.2, HG4.out⟩)
  · have hgt' : ¬ ((a : Int) + (b : Int)) / 2 < (m : Int) := by have := HMID.out; omega
    obtain ⟨s0, hs0⟩ : ∃ x, a = x := ⟨_, rfl⟩
    obtain ⟨r0, hr0⟩ : ∃ x, m = x := ⟨_, rfl⟩
    have BND : Hid (∀ x, s0 ≤ x → x < r0 → a ≤ x ∧ x < m ∧ m ≤ pp - x ∧ pp - x < b ∧ x ≤ pp) := fun x h1 h2 => by have := HARI.out; omega
    have END : Hid (∀ s, s0 ≤ s → s ≤ r0 → a ≤ s ∧ s ≤ m ∧ s ≤ mid ∧ m ≤ nn - s ∧ nn - s ≤ b ∧ mid ≤ nn - s ∧ s ≤ nn ∧ (s = s0 → a < s → nn - s = b) ∧ (s = r0 → s < m → nn - s = m)) := fun s h1 h2 => by have := HARI.out; omega
    have h00 : s0 ≤ r0 := by omega
    have h0N : r0 ≤ N := by omega
    have hppN : pp ≤ 2 * N := by have := HARI.out; omega
    have hnnN : nn ≤ 2 * N := by have := HARI.out; omega
    have HMR : Hid (a = s0 ∧ m = r0) := ⟨hs0, hr0⟩
    clear hs0 hr0
    go_enter Tryz.func241, Tryz.ntmps241
    go_wp2_with fail
    rw [HMID.out, HNN.out, HPP.out]
    go_loopg [20, 21] (r0 - s0) (fun gg sv rv wr => ∃ (s r : Nat), sv = .int .i64 s ∧ rv = .int .i64 r ∧ s0 ≤ s ∧ s ≤ r ∧ r ≤ r0 ∧ Hid (gg = r - s) ∧ Hid (∀ x, s0 ≤ x → x < s → ltT d[pp - x]! d[x]! = false) ∧ Hid (∀ x, r ≤ x → x < r0 → ltT d[pp - x]! d[x]! = true) ∧ Hid (Arr w0 wr g c d))
    case atStart => exact ⟨s0, r0, by rw [← HMR.out.1], by rw [← HMR.out.2], Nat.le_refl _, h00, Nat.le_refl _, by have := HMR.out; unfold Hid; omega, fun x h1 h2 => by omega, fun x h1 h2 => by omega, HA.out⟩
    case round =>
      clear HA
      obtain ⟨s, r, rfl, rfl, hs0, hsr, hr0, HG, HLO, HHI, HA⟩ := hrel
      by_cases hlt : s < r
      · have hlt' : (s : Int) < (r : Int) := by omega
        obtain ⟨h, hh⟩ : ∃ h, (s + r) / 2 = h := ⟨_, rfl⟩
        have h1 : s ≤ h := by omega
        have h2 : h < r := by omega
        have HZ : Hid (((s : Int) + (r : Int)) / 2 = (h : Int)) := by unfold Hid; omega
        have hbd := BND.out h (by omega) (by omega)
        obtain ⟨q, hq⟩ : ∃ q, pp - h = q := ⟨_, rfl⟩
        rw [hq] at hbd
        obtain ⟨d1, d2, d3, d4, d5⟩ := hbd
        have HQ := Lib.hid hq
        have z9 : IntKind.i64.wrap ((pp : Int) - (h : Int)) = (q : Int) := by rw [IntKind.wrap_i64]; omega
        clear hh hq
        have hq1 := HA.out.bar (i := q) (by rw [HN.out]; omega)
        have hq2 := HA.out.bar (i := h) (by rw [HN.out]; omega)
        have fx := ob_fit d[q]!
        have fy := ob_fit d[h]!
        have hlt0 : ltT d[q]! d[h]! = decide (cmpB (TB.bar d[q]!) (TB.bar d[h]!) < 0) := rfl
        obtain ⟨bx, hbx⟩ : ∃ x, TB.bar d[q]! = x := ⟨_, rfl⟩
        obtain ⟨by_, hby⟩ : ∃ x, TB.bar d[h]! = x := ⟨_, rfl⟩
        rw [hbx] at hq1 fx hlt0
        rw [hby] at hq2 fy hlt0
        obtain ⟨x0, x1, x2⟩ := bx
        obtain ⟨y0, y1, y2⟩ := by_
        have H6 : Hid (wr.cell? ⟨g, q * 3, none⟩ = some (.int .i64 x0) ∧ wr.cell? ⟨g, q * 3 + 1, none⟩ = some (.string x1) ∧ wr.cell? ⟨g, q * 3 + 2, none⟩ = some (.string x2) ∧ wr.cell? ⟨g, h * 3, none⟩ = some (.int .i64 y0) ∧ wr.cell? ⟨g, h * 3 + 1, none⟩ = some (.string y1) ∧ wr.cell? ⟨g, h * 3 + 2, none⟩ = some (.string y2)) := ⟨hq1.1.1, hq1.1.2.1, hq1.1.2.2, hq2.1.1, hq2.1.2.1, hq2.1.2.2⟩
        obtain ⟨cv, hcv⟩ : ∃ v, cmpB ⟨x0, x1, x2⟩ ⟨y0, y1, y2⟩ = v := ⟨_, rfl⟩
        rw [hcv] at hlt0
        have HLT := Lib.hid hlt0
        have HCV := Lib.hid hcv
        have HFX := Lib.hid fx
        have HFY := Lib.hid fy
        have PD : Hid (Past wr wr.drew) := (Past.refl wr).drew
        have u1 : (q : Int) < (N : Int) := by omega
        have u2 : (h : Int) < (N : Int) := by omega
        clear hq1 hq2 fx fy hbx hby hcv hlt0
        go_wp2_with fail
        rw [HZ.out]
        go_region_held3 (fun w' => w'.cell? ⟨g, q * 3, none⟩ = some (.int .i64 x0) ∧ w'.cell? ⟨g, q * 3 + 1, none⟩ = some (.string x1) ∧ w'.cell? ⟨g, q * 3 + 2, none⟩ = some (.string x2) ∧ w'.cell? ⟨g, h * 3, none⟩ = some (.int .i64 y0) ∧ w'.cell? ⟨g, h * 3 + 1, none⟩ = some (.string y1) ∧ w'.cell? ⟨g, h * 3 + 2, none⟩ = some (.string y2)) (first | (refine keep6 hp2 ?_; assumption) | (refine keep6 PD ?_; exact H6.out))
          (first
            | (go_at_call 86; ((with_reducible refine (bar_compare' x0 y0 x1 x2 y1 y2 _ HFX.out HFY.out).mono ?_)); rintro e w2 ⟨hp2, rfl⟩))
        rw [HCV.out]
        have HA2 := Lib.hid (HA.out.past (PD.out.trans hp2))
        clear H6 HA
        obtain ⟨bv, hbv⟩ : ∃ b, (!decide (cv < 0)) = b := ⟨_, rfl⟩
        rw [hbv]
        have HBV := Lib.hid hbv
        clear hbv
        cases bv with
        | false =>
          have hlv : cv < 0 := by have := HBV.out; simpa using this
          have HT : Hid (ltT d[q]! d[h]! = true) := by show _ = _; rw [HLT.out]; exact decide_eq_true hlv
          clear hlv z9
          go_wp2
          go_roundg (h - s)
          case measure => have := HG.out; omega
          case rel =>
            refine ⟨s, h, rfl, rfl, hs0, h1, by omega, rfl, HLO.out, fun x hx1 hx2 => ?_, HA2.out⟩
            have hb := BND.out x (by omega) hx2
            have hq := HQ.out
            exact HH.out.mono hS ltT_pre d1 hx1 hb.2.1 hb.2.2.1 (show pp - x ≤ q by omega) d4 HT.out
        | true =>
          have hlv : ¬ cv < 0 := by have := HBV.out; simpa using this
          have HT : Hid (ltT d[q]! d[h]! = false) := by show _ = _; rw [HLT.out]; exact decide_eq_false hlv
          clear hlv z9
          go_wp2
          go_roundg (r - (h + 1))
          case measure => have := HG.out; omega
          case rel =>
            refine ⟨h + 1, r, by go_num, rfl, by omega, by omega, hr0, rfl, fun x hx1 hx2 => ?_, HHI.out, HA2.out⟩
            have hb := BND.out x hx1 (by omega)
            have hq := HQ.out
            cases hx : ltT d[pp - x]! d[x]! with
            | false => rfl
            | true =>
              have h3 := HH.out.mono hS ltT_pre hb.1 (show x ≤ h by omega) d2 d3 (show q ≤ pp - x by omega) hb.2.2.2.1 hx
              rw [HT.out] at h3
              cases h3
      · have hij' : s = r := by omega
        subst hij'
        have hen := END.out s hs0 hr0
        obtain ⟨t, ht⟩ : ∃ t, nn - s = t := ⟨_, rfl⟩
        rw [ht] at hen
        obtain ⟨t1, t2, t3, t4, t5, t6, t7, t8, t9⟩ := hen
        have HT : Hid ((nn : Int) - (s : Int) = (t : Int)) := by unfold Hid; omega
        have HNT : Hid (s + t = mid + m) := by have := HARI.out; unfold Hid; omega
        have HP1 : Hid (a < s → t < b → ltT d[t]! d[s - 1]! = false) := fun h1 h2 => by
          rcases Nat.lt_or_ge s0 s with h | h
          · have := HLO.out (s - 1) (by omega) (by omega)
            rw [show pp - (s - 1) = t by have := HARI.out; omega] at this
            exact this
          · have := t8 (by omega) h1; omega
        have HP2 : Hid (s < m → m < t → ltT d[t - 1]! d[s]! = true) := fun h1 h2 => by
          rcases Nat.lt_or_ge s r0 with h | h
          · have := HHI.out s (Nat.le_refl _) h
            rw [show pp - s = t - 1 by have := HARI.out; omega] at this
            exact this
          · have := t9 (by omega) h1; omega
        clear t8 t9 ht hlt HLO HHI
        go_upto_region 39 with fail
        rw [HT.out]
        by_cases hc1 : s < m ∧ m < t
        · have g1 : (s : Int) < (m : Int) := by omega
          have g2 : (m : Int) < (t : Int) := by omega
          go_wp2_with fail
          refine (srt_rotate g c N d s m t _ w0 _ HA.out HN.out hc1.1 hc1.2 (by omega) hsz).mono ?_
          rintro e w2 ⟨rfl, e, hrot, hae⟩
          have HROT := Lib.hid hrot
          have HE := Lib.hid hae
          clear hrot hae g1 g2
          have HES : Hid (e.size = N) := by rw [HROT.out.size]; exact HN.out
          have hprt := HH.out.part hS ltT_pre (by omega) (by omega) t1 t2 t4 t5 HNT.out HP1.out HP2.out HROT.out
          have HL := Lib.hid hprt.1
          have HR := Lib.hid hprt.2.1
          have HX := Lib.hid hprt.2.2
          have HPR : Hid (PermIn a b d e) := permIn_mono _ _ _ _ _ _ t1 t5 (by rw [HN.out]; exact hb) HROT.out.perm
          clear hprt
          by_cases hc2 : a < s ∧ s < mid
          · have k1 : (a : Int) < (s : Int) := by omega
            have k2 : (s : Int) < (mid : Int) := by omega
            go_wp2_with fail
            refine (IH.out a s mid e (by omega) hc2.1 hc2.2 (by omega) HES.out HL.out _ HE.out).mono ?_
            rintro e' w3 ⟨rfl, f, hpf, hsf, haf⟩
            have HPF := Lib.hid hpf
            have HSF := Lib.hid hsf
            have HF := Lib.hid haf
            clear hpf hsf haf k1 k2
            have HFS : Hid (f.size = N) := by rw [HPF.out.1]; exact HES.out
            have HRF : Hid (Halv leT tagPre f mid t b) := halv_keepR HR.out (by omega) HPF.out
            by_cases hc3 : mid < t ∧ t < b
            · have l1 : (mid : Int) < (t : Int) := by omega
              have l2 : (t : Int) < (b : Int) := by omega
              go_wp2_with fail
              all_goals
                refine (IH.out mid t b f (by omega) hc3.1 hc3.2 hb HFS.out HRF.out _ HF.out).mono ?_
                rintro e' w4 ⟨rfl, ff, hpg, hsg, hag⟩
                have HPG := Lib.hid hpg
                have HSG := Lib.hid hsg
                have HG4 := Lib.hid hag
                clear hpg hsg hag l1 l2
                have HGL := Lib.hid (glue hS (by omega) (by omega) (by rw [HES.out]; exact hb) HX.out HPF.out HSF.out HPG.out HSG.out)
                have HFIN : Hid (PermIn a b d ff ∧ SortedIn leT a b ff) := ⟨permIn_trans _ _ _ _ _ HPR.out HGL.out.1, HGL.out.2⟩
                go_wp2
                all_goals (go_end0; exact ⟨rfl, ff, HFIN.out.1, HFIN.out.2, HG4.out⟩)
            · by_cases hmt : mid < t
              · have l1 : (mid : Int) < (t : Int) := by omega
                have l2 : ¬ (t : Int) < (b : Int) := by omega
                have HSG0 : Hid (SortedIn leT mid b f) := halv_trivL HRF.out (by omega)
                obtain ⟨ff, hff⟩ : ∃ x, f = x := ⟨_, rfl⟩
                have HPG : Hid (PermIn mid b f ff) := by rw [← hff]; exact permIn_refl _ _ _
                have HSG : Hid (SortedIn leT mid b ff) := by rw [← hff]; exact HSG0.out
                have HG4 : Hid (Arr w0 w3 g c ff) := by rw [← hff]; exact HF.out
                clear hff
                have HGL := Lib.hid (glue hS (by omega) (by omega) (by rw [HES.out]; exact hb) HX.out HPF.out HSF.out HPG.out HSG.out)
                have HFIN : Hid (PermIn a b d ff ∧ SortedIn leT a b ff) := ⟨permIn_trans _ _ _ _ _ HPR.out HGL.out.1, HGL.out.2⟩
                go_wp2
                all_goals (go_end0; exact ⟨rfl, ff, HFIN.out.1, HFIN.out.2, HG4.out⟩)
              · have l1 : ¬ (mid : Int) < (t : Int) := by omega
                have HSG0 : Hid (SortedIn leT mid b f) := halv_trivL HRF.out (by omega)
                obtain ⟨ff, hff⟩ : ∃ x, f = x := ⟨_, rfl⟩
                have HPG : Hid (PermIn mid b f ff) := by rw [← hff]; exact permIn_refl _ _ _
                have HSG : Hid (SortedIn leT mid b ff) := by rw [← hff]; exact HSG0.out
                have HG4 : Hid (Arr w0 w3 g c ff) := by rw [← hff]; exact HF.out
                clear hff
                have HGL := Lib.hid (glue hS (by omega) (by omega) (by rw [HES.out]; exact hb) HX.out HPF.out HSF.out HPG.out HSG.out)
                have HFIN : Hid (PermIn a b d ff ∧ SortedIn leT a b ff) := ⟨permIn_trans _ _ _ _ _ HPR.out HGL.out.1, HGL.out.2⟩
                go_wp2
                all_goals (go_end0; exact ⟨rfl, ff, HFIN.out.1, HFIN.out.2, HG4.out⟩)
          · by_cases has : a < s
            · have k1 : (a : Int) < (s : Int) := by omega
              have k2 : ¬ (s : Int) < (mid : Int) := by omega
              have HSF0 : Hid (SortedIn leT a mid e) := halv_trivL HL.out (by omega)
              obtain ⟨f, hff⟩ : ∃ f, e = f := ⟨_, rfl⟩
              have HPF : Hid (PermIn a mid e f) := by rw [← hff]; exact permIn_refl _ _ _
              have HSF : Hid (SortedIn leT a mid f) := by rw [← hff]; exact HSF0.out
              have HF : Hid (Arr w0 w2 g c f) := by rw [← hff]; exact HE.out
              clear hff
              have HFS : Hid (f.size = N) := by rw [HPF.out.1]; exact HES.out
              have HRF : Hid (Halv leT tagPre f mid t b) := halv_keepR HR.out (by omega) HPF.out
              by_cases hc3 : mid < t ∧ t < b
              · have l1 : (mid : Int) < (t : Int) := by omega
                have l2 : (t : Int) < (b : Int) := by omega
                go_wp2_with fail
                all_goals
                  refine (IH.out mid t b f (by omega) hc3.1 hc3.2 hb HFS.out HRF.out _ HF.out).mono ?_
                  rintro e' w4 ⟨rfl, ff, hpg, hsg, hag⟩
                  have HPG := Lib.hid hpg
                  have HSG := Lib.hid hsg
                  have HG4 := Lib.hid hag
                  clear hpg hsg hag l1 l2
                  have HGL := Lib.hid (glue hS (by omega) (by omega) (by rw [HES.out]; exact hb) HX.out HPF.out HSF.out HPG.out HSG.out)
                  have HFIN : Hid (PermIn a b d ff ∧ SortedIn leT a b ff) := ⟨permIn_trans _ _ _ _ _ HPR.out HGL.out.1, HGL.out.2⟩
                  go_wp2
                  all_goals (go_end0; exact ⟨rfl, ff, HFIN.out.1, HFIN.out.2, HG4.out⟩)
              · by_cases hmt : mid < t
                · have l1 : (mid : Int) < (t : Int) := by omega
                  have l2 : ¬ (t : Int) < (b : Int) := by omega
                  have HSG0 : Hid (SortedIn leT mid b f) := halv_trivL HRF.out (by omega)
                  obtain ⟨ff, hff⟩ : ∃ x, f = x := ⟨_, rfl⟩
                  have HPG : Hid (PermIn mid b f ff) := by rw [← hff]; exact permIn_refl _ _ _
                  have HSG : Hid (SortedIn leT mid b ff) := by rw [← hff]; exact HSG0.out
                  have HG4 : Hid (Arr w0 w2 g c ff) := by rw [← hff]; exact HF.out
                  clear hff
                  have HGL := Lib.hid (glue hS (by omega) (by omega) (by rw [HES.out]; exact hb) HX.out HPF.out HSF.out HPG.out HSG.out)
                  have HFIN : Hid (PermIn a b d ff ∧ SortedIn leT a b ff) := ⟨permIn_trans _ _ _ _ _ HPR.out HGL.out.1, HGL.out.2⟩
                  go_wp2
                  all_goals (go_end0; exact ⟨rfl, ff, HFIN.out.1, HFIN.out.2, HG4.out⟩)
                · have l1 : ¬ (mid : Int) < (t : Int) := by omega
                  have HSG0 : Hid (SortedIn leT mid b f) := halv_trivL HRF.out (by omega)
                  obtain ⟨ff, hff⟩ : ∃ x, f = x := ⟨_, rfl⟩
                  have HPG : Hid (PermIn mid b f ff) := by rw [← hff]; exact permIn_refl _ _ _
                  have HSG : Hid (SortedIn leT mid b ff) := by rw [← hff]; exact HSG0.out
                  have HG4 : Hid (Arr w0 w2 g c ff) := by rw [← hff]; exact HF.out
                  clear hff
                  have HGL := Lib.hid (glue hS (by omega) (by omega) (by rw [HES.out]; exact hb) HX.out HPF.out HSF.out HPG.out HSG.out)
                  have HFIN : Hid (PermIn a b d ff ∧ SortedIn leT a b ff) := ⟨permIn_trans _ _ _ _ _ HPR.out HGL.out.1, HGL.out.2⟩
                  go_wp2
                  all_goals (go_end0; exact ⟨rfl, ff, HFIN.out.1, HFIN.out.2, HG4.out⟩)
            · have k1 : ¬ (a : Int) < (s : Int) := by omega
              have HSF0 : Hid (SortedIn leT a mid e) := halv_trivL HL.out (by omega)
              obtain ⟨f, hff⟩ : ∃ f, e = f := ⟨_, rfl⟩
              have HPF : Hid (PermIn a mid e f) := by rw [← hff]; exact permIn_refl _ _ _
              have HSF : Hid (SortedIn leT a mid f) := by rw [← hff]; exact HSF0.out
              have HF : Hid (Arr w0 w2 g c f) := by rw [← hff]; exact HE.out
              clear hff
              have HFS : Hid (f.size = N) := by rw [HPF.out.1]; exact HES.out
              have HRF : Hid (Halv leT tagPre f mid t b) := halv_keepR HR.out (by omega) HPF.out
              by_cases hc3 : mid < t ∧ t < b
              · have l1 : (mid : Int) < (t : Int) := by omega
                have l2 : (t : Int) < (b : Int) := by omega
                go_wp2_with fail
                all_goals
                  refine (IH.out mid t b f (by omega) hc3.1 hc3.2 hb HFS.out HRF.out _ HF.out).mono ?_
                  rintro e' w4 ⟨rfl, ff, hpg, hsg, hag⟩
                  have HPG := Lib.hid hpg
                  have HSG := Lib.hid hsg
                  have HG4 := Lib.hid hag
                  clear hpg hsg hag l1 l2
                  have HGL := Lib.hid (glue hS (by omega) (by omega) (by rw [HES.out]; exact hb) HX.out HPF.out HSF.out HPG.out HSG.out)
                  have HFIN : Hid (PermIn a b d ff ∧ SortedIn leT a b ff) := ⟨permIn_trans _ _ _ _ _ HPR.out HGL.out.1, HGL.out.2⟩
                  go_wp2
                  all_goals (go_end0; exact ⟨rfl, ff, HFIN.out.1, HFIN.out.2, HG4.out⟩)
              · by_cases hmt : mid < t
                · have l1 : (mid : Int) < (t : Int) := by omega
                  have l2 : ¬ (t : Int) < (b : Int) := by omega
                  have HSG0 : Hid (SortedIn leT mid b f) := halv_trivL HRF.out (by omega)
                  obtain ⟨ff, hff⟩ : ∃ x, f = x := ⟨_, rfl⟩
                  have HPG : Hid (PermIn mid b f ff) := by rw [← hff]; exact permIn_refl _ _ _
                  have HSG : Hid (SortedIn leT mid b ff) := by rw [← hff]; exact HSG0.out
                  have HG4 : Hid (Arr w0 w2 g c ff) := by rw [← hff]; exact HF.out
                  clear hff
                  have HGL := Lib.hid (glue hS (by omega) (by omega) (by rw [HES.out]; exact hb) HX.out HPF.out HSF.out HPG.out HSG.out)
                  have HFIN : Hid (PermIn a b d ff ∧ SortedIn leT a b ff) := ⟨permIn_trans _ _ _ _ _ HPR.out HGL.out.1, HGL.out.2⟩
                  go_wp2
                  all_goals (go_end0; exact ⟨rfl, ff, HFIN.out.1, HFIN.out.2, HG4.out⟩)
                · have l1 : ¬ (mid : Int) < (t : Int) := by omega
                  have HSG0 : Hid (SortedIn leT mid b f) := halv_trivL HRF.out (by omega)
                  obtain ⟨ff, hff⟩ : ∃ x, f = x := ⟨_, rfl⟩
                  have HPG : Hid (PermIn mid b f ff) := by rw [← hff]; exact permIn_refl _ _ _
                  have HSG : Hid (SortedIn leT mid b ff) := by rw [← hff]; exact HSG0.out
                  have HG4 : Hid (Arr w0 w2 g c ff) := by rw [← hff]; exact HF.out
                  clear hff
                  have HGL := Lib.hid (glue hS (by omega) (by omega) (by rw [HES.out]; exact hb) HX.out HPF.out HSF.out HPG.out HSG.out)
                  have HFIN : Hid (PermIn a b d ff ∧ SortedIn leT a b ff) := ⟨permIn_trans _ _ _ _ _ HPR.out HGL.out.1, HGL.out.2⟩
                  go_wp2
                  all_goals (go_end0; exact ⟨rfl, ff, HFIN.out.1, HFIN.out.2, HG4.out⟩)
        · by_cases hsm : s < m
          · have g1 : (s : Int) < (m : Int) := by omega
            have g2 : ¬ (m : Int) < (t : Int) := by omega
            have HROT : Hid (Rot d d s m t) := by
              rcases Nat.lt_or_ge s m with h | h
              · have e1 : t = m := by omega
                rw [e1]; exact Rot.right d s m
              · have e1 : s = m := by omega
                rw [e1]; exact Rot.left d m t
            have HE := Lib.hid HA.out
            obtain ⟨e, hee⟩ : ∃ e, d = e := ⟨_, rfl⟩
            have HEQ : Hid (Rot d e s m t) := by rw [← hee]; exact HROT.out
            have HE2 : Hid (Arr w0 wr g c e) := by rw [← hee]; exact HE.out
            clear HE HROT hee
            have HE := HE2
            have HROT := HEQ
            clear HE2 HEQ
            have HES : Hid (e.size = N) := by rw [HROT.out.size]; exact HN.out
            have hprt := HH.out.part hS ltT_pre (by omega) (by omega) t1 t2 t4 t5 HNT.out HP1.out HP2.out HROT.out
            have HL := Lib.hid hprt.1
            have HR := Lib.hid hprt.2.1
            have HX := Lib.hid hprt.2.2
            have HPR : Hid (PermIn a b d e) := permIn_mono _ _ _ _ _ _ t1 t5 (by rw [HN.out]; exact hb) HROT.out.perm
            clear hprt
            by_cases hc2 : a < s ∧ s < mid
            · have k1 : (a : Int) < (s : Int) := by omega
              have k2 : (s : Int) < (mid : Int) := by omega
              go_wp2_with fail
              refine (IH.out a s mid e (by omega) hc2.1 hc2.2 (by omega) HES.out HL.out _ HE.out).mono ?_
              rintro e' w3 ⟨rfl, f, hpf, hsf, haf⟩
              have HPF := Lib.hid hpf
              have HSF := Lib.hid hsf
              have HF := Lib.hid haf
              clear hpf hsf haf k1 k2
              have HFS : Hid (f.size = N) := by rw [HPF.out.1]; exact HES.out
              have HRF : Hid (Halv leT tagPre f mid t b) := halv_keepR HR.out (by omega) HPF.out
              by_cases hc3 : mid < t ∧ t < b
              · have l1 : (mid : Int) < (t : Int) := by omega
                have l2 : (t : Int) < (b : Int) := by omega
                go_wp2_with fail
                all_goals
                  refine (IH.out mid t b f (by omega) hc3.1 hc3.2 hb HFS.out HRF.out _ HF.out).mono ?_
                  rintro e' w4 ⟨rfl, ff, hpg, hsg, hag⟩
                  have HPG := Lib.hid hpg
                  have HSG := Lib.hid hsg
                  have HG4 := Lib.hid hag
                  clear hpg hsg hag l1 l2
                  have HGL := Lib.hid (glue hS (by omega) (by omega) (by rw [HES.out]; exact hb) HX.out HPF.out HSF.out HPG.out HSG.out)
                  have HFIN : Hid (PermIn a b d ff ∧ SortedIn leT a b ff) := ⟨permIn_trans _ _ _ _ _ HPR.out HGL.out.1, HGL.out.2⟩
                  go_wp2
                  all_goals (go_end0; exact ⟨rfl, ff, HFIN.out.1, HFIN.out.2, HG4.out⟩)
              · by_cases hmt : mid < t
                · have l1 : (mid : Int) < (t : Int) := by omega
                  have l2 : ¬ (t : Int) < (b : Int) := by omega
                  have HSG0 : Hid (SortedIn leT mid b f) := halv_trivL HRF.out (by omega)
                  obtain ⟨ff, hff⟩ : ∃ x, f = x := ⟨_, rfl⟩
                  have HPG : Hid (PermIn mid b f ff) := by rw [← hff]; exact permIn_refl _ _ _
                  have HSG : Hid (SortedIn leT mid b ff) := by rw [← hff]; exact HSG0.out
                  have HG4 : Hid (Arr w0 w3 g c ff) := by rw [← hff]; exact HF.out
                  clear hff
                  have HGL := Lib.hid (glue hS (by omega) (by omega) (by rw [HES.out]; exact hb) HX.out HPF.out HSF.out HPG.out HSG.out)
                  have HFIN : Hid (PermIn a b d ff ∧ SortedIn leT a b ff) := ⟨permIn_trans _ _ _ _ _ HPR.out HGL.out.1, HGL.out.2⟩
                  go_wp2
                  all_goals (go_end0; exact ⟨rfl, ff, HFIN.out.1, HFIN.out.2, HG4.out⟩)
                · have l1 : ¬ (mid : Int) < (t : Int) := by omega
                  have HSG0 : Hid (SortedIn leT mid b f) := halv_trivL HRF.out (by omega)
                  obtain ⟨ff, hff⟩ : ∃ x, f = x := ⟨_, rfl⟩
                  have HPG : Hid (PermIn mid b f ff) := by rw [← hff]; exact permIn_refl _ _ _
                  have HSG : Hid (SortedIn leT mid b ff) := by rw [← hff]; exact HSG0.out
                  have HG4 : Hid (Arr w0 w3 g c ff) := by rw [← hff]; exact HF.out
                  clear hff
                  have HGL := Lib.hid (glue hS (by omega) (by omega) (by rw [HES.out]; exact hb) HX.out HPF.out HSF.out HPG.out HSG.out)
                  have HFIN : Hid (PermIn a b d ff ∧ SortedIn leT a b ff) := ⟨permIn_trans _ _ _ _ _ HPR.out HGL.out.1, HGL.out.2⟩
                  go_wp2
                  all_goals (go_end0; exact ⟨rfl, ff, HFIN.out.1, HFIN.out.2, HG4.out⟩)
            · by_cases has : a < s
              · have k1 : (a : Int) < (s : Int) := by omega
                have k2 : ¬ (s : Int) < (mid : Int) := by omega
                have HSF0 : Hid (SortedIn leT a mid e) := halv_trivL HL.out (by omega)
                obtain ⟨f, hff⟩ : ∃ f, e = f := ⟨_, rfl⟩
                have HPF : Hid (PermIn a mid e f) := by rw [← hff]; exact permIn_refl _ _ _
                have HSF : Hid (SortedIn leT a mid f) := by rw [← hff]; exact HSF0.out
                have HF : Hid (Arr w0 wr g c f) := by rw [← hff]; exact HE.out
                clear hff
                have HFS : Hid (f.size = N) := by rw [HPF.out.1]; exact HES.out
                have HRF : Hid (Halv leT tagPre f mid t b) := halv_keepR HR.out (by omega) HPF.out
                by_cases hc3 : mid < t ∧ t < b
                · have l1 : (mid : Int) < (t : Int) := by omega
                  have l2 : (t : Int) < (b : Int) := by omega
                  go_wp2_with fail
                  all_goals
                    refine (IH.out mid t b f (by omega) hc3.1 hc3.2 hb HFS.out HRF.out _ HF.out).mono ?_
                    rintro e' w4 ⟨rfl, ff, hpg, hsg, hag⟩
                    have HPG := Lib.hid hpg
                    have HSG := Lib.hid hsg
                    have HG4 := Lib.hid hag
                    clear hpg hsg hag l1 l2
                    have HGL := Lib.hid (glue hS (by omega) (by omega) (by rw [HES.out]; exact hb) HX.out HPF.out HSF.out HPG.out HSG.out)
                    have HFIN : Hid (PermIn a b d ff ∧ SortedIn leT a b ff) := ⟨permIn_trans _ _ _ _ _ HPR.out HGL.out.1, HGL.out.2⟩
                    go_wp2
                    all_goals (go_end0; exact ⟨rfl, ff, HFIN.out.1, HFIN.out.2, HG4.out⟩)
                · by_cases hmt : mid < t
                  · have l1 : (mid : Int) < (t : Int) := by omega
                    have l2 : ¬ (t : Int) < (b : Int) := by omega
                    have HSG0 : Hid (SortedIn leT mid b f) := halv_trivL HRF.out (by omega)
                    obtain ⟨ff, hff⟩ : ∃ x, f = x := ⟨_, rfl⟩
                    have HPG : Hid (PermIn mid b f ff) := by rw [← hff]; exact permIn_refl _ _ _
                    have HSG : Hid (SortedIn leT mid b ff) := by rw [← hff]; exact HSG0.out
                    have HG4 : Hid (Arr w0 wr g c ff) := by rw [← hff]; exact HF.out
                    clear hff
                    have HGL := Lib.hid (glue hS (by omega) (by omega) (by rw [HES.out]; exact hb) HX.out HPF.out HSF.out HPG.out HSG.out)
                    have HFIN : Hid (PermIn a b d ff ∧ SortedIn leT a b ff) := ⟨permIn_trans _ _ _ _ _ HPR.out HGL.out.1, HGL.out.2⟩
                    go_wp2
                    all_goals (go_end0; exact ⟨rfl, ff, HFIN.out.1, HFIN.out.2, HG4.out⟩)
                  · have l1 : ¬ (mid : Int) < (t : Int) := by omega
                    have HSG0 : Hid (SortedIn leT mid b f) := halv_trivL HRF.out (by omega)
                    obtain ⟨ff, hff⟩ : ∃ x, f = x := ⟨_, rfl⟩
                    have HPG : Hid (PermIn mid b f ff) := by rw [← hff]; exact permIn_refl _ _ _
                    have HSG : Hid (SortedIn leT mid b ff) := by rw [← hff]; exact HSG0.out
                    have HG4 : Hid (Arr w0 wr g c ff) := by rw [← hff]; exact HF.out
                    clear hff
                    have HGL := Lib.hid (glue hS (by omega) (by omega) (by rw [HES.out]; exact hb) HX.out HPF.out HSF.out HPG.out HSG.out)
                    have HFIN : Hid (PermIn a b d ff ∧ SortedIn leT a b ff) := ⟨permIn_trans _ _ _ _ _ HPR.out HGL.out.1, HGL.out.2⟩
                    go_wp2
                    all_goals (go_end0; exact ⟨rfl, ff, HFIN.out.1, HFIN.out.2, HG4.out⟩)
              · have k1 : ¬ (a : Int) < (s : Int) := by omega
                have HSF0 : Hid (SortedIn leT a mid e) := halv_trivL HL.out (by omega)
                obtain ⟨f, hff⟩ : ∃ f, e = f := ⟨_, rfl⟩
                have HPF : Hid (PermIn a mid e f) := by rw [← hff]; exact permIn_refl _ _ _
                have HSF : Hid (SortedIn leT a mid f) := by rw [← hff]; exact HSF0.out
                have HF : Hid (Arr w0 wr g c f) := by rw [← hff]; exact HE.out
                clear hff
                have HFS : Hid (f.size = N) := by rw [HPF.out.1]; exact HES.out
                have HRF : Hid (Halv leT tagPre f mid t b) := halv_keepR HR.out (by omega) HPF.out
                by_cases hc3 : mid < t ∧ t < b
                · have l1 : (mid : Int) < (t : Int) := by omega
                  have l2 : (t : Int) < (b : Int) := by omega
                  go_wp2_with fail
                  all_goals
                    refine (IH.out mid t b f (by omega) hc3.1 hc3.2 hb HFS.out HRF.out _ HF.out).mono ?_
                    rintro e' w4 ⟨rfl, ff, hpg, hsg, hag⟩
                    have HPG := Lib.hid hpg
                    have HSG := Lib.hid hsg
                    have HG4 := Lib.hid hag
                    clear hpg hsg hag l1 l2
                    have HGL := Lib.hid (glue hS (by omega) (by omega) (by rw [HES.out]; exact hb) HX.out HPF.out HSF.out HPG.out HSG.out)
                    have HFIN : Hid (PermIn a b d ff ∧ SortedIn leT a b ff) := ⟨permIn_trans _ _ _ _ _ HPR.out HGL.out.1, HGL.out.2⟩
                    go_wp2
                    all_goals (go_end0; exact ⟨rfl, ff, HFIN.out.1, HFIN.out.2, HG4.out⟩)
                · by_cases hmt : mid < t
                  · have l1 : (mid : Int) < (t : Int) := by omega
                    have l2 : ¬ (t : Int) < (b : Int) := by omega
                    have HSG0 : Hid (SortedIn leT mid b f) := halv_trivL HRF.out (by omega)
                    obtain ⟨ff, hff⟩ : ∃ x, f = x := ⟨_, rfl⟩
                    have HPG : Hid (PermIn mid b f ff) := by rw [← hff]; exact permIn_refl _ _ _
                    have HSG : Hid (SortedIn leT mid b ff) := by rw [← hff]; exact HSG0.out
                    have HG4 : Hid (Arr w0 wr g c ff) := by rw [← hff]; exact HF.out
                    clear hff
                    have HGL := Lib.hid (glue hS (by omega) (by omega) (by rw [HES.out]; exact hb) HX.out HPF.out HSF.out HPG.out HSG.out)
                    have HFIN : Hid (PermIn a b d ff ∧ SortedIn leT a b ff) := ⟨permIn_trans _ _ _ _ _ HPR.out HGL.out.1, HGL.out.2⟩
                    go_wp2
                    all_goals (go_end0; exact ⟨rfl, ff, HFIN.out.1, HFIN.out.2, HG4.out⟩)
                  · have l1 : ¬ (mid : Int) < (t : Int) := by omega
                    have HSG0 : Hid (SortedIn leT mid b f) := halv_trivL HRF.out (by omega)
                    obtain ⟨ff, hff⟩ : ∃ x, f = x := ⟨_, rfl⟩
                    have HPG : Hid (PermIn mid b f ff) := by rw [← hff]; exact permIn_refl _ _ _
                    have HSG : Hid (SortedIn leT mid b ff) := by rw [← hff]; exact HSG0.out
                    have HG4 : Hid (Arr w0 wr g c ff) := by rw [← hff]; exact HF.out
                    clear hff
                    have HGL := Lib.hid (glue hS (by omega) (by omega) (by rw [HES.out]; exact hb) HX.out HPF.out HSF.out HPG.out HSG.out)
                    have HFIN : Hid (PermIn a b d ff ∧ SortedIn leT a b ff) := ⟨permIn_trans _ _ _ _ _ HPR.out HGL.out.1, HGL.out.2⟩
                    go_wp2
                    all_goals (go_end0; exact ⟨rfl, ff, HFIN.out.1, HFIN.out.2, HG4.out⟩)
          · have g1 : ¬ (s : Int) < (m : Int) := by omega
            have HROT : Hid (Rot d d s m t) := by
              rcases Nat.lt_or_ge s m with h | h
              · have e1 : t = m := by omega
                rw [e1]; exact Rot.right d s m
              · have e1 : s = m := by omega
                rw [e1]; exact Rot.left d m t
            have HE := Lib.hid HA.out
            obtain ⟨e, hee⟩ : ∃ e, d = e := ⟨_, rfl⟩
            have HEQ : Hid (Rot d e s m t) := by rw [← hee]; exact HROT.out
            have HE2 : Hid (Arr w0 wr g c e) := by rw [← hee]; exact HE.out
            clear HE HROT hee
            have HE := HE2
            have HROT := HEQ
            clear HE2 HEQ
            have HES : Hid (e.size = N) := by rw [HROT.out.size]; exact HN.out
            have hprt := HH.out.part hS ltT_pre (by omega) (by omega) t1 t2 t4 t5 HNT.out HP1.out HP2.out HROT.out
            have HL := Lib.hid hprt.1
            have HR := Lib.hid hprt.2.1
            have HX := Lib.hid hprt.2.2
            have HPR : Hid (PermIn a b d e) := permIn_mono _ _ _ _ _ _ t1 t5 (by rw [HN.out]; exact hb) HROT.out.perm
            clear hprt
            by_cases hc2 : a < s ∧ s < mid
            · have k1 : (a : Int) < (s : Int) := by omega
              have k2 : (s : Int) < (mid : Int) := by omega
              go_wp2_with fail
              refine (IH.out a s mid e (by omega) hc2.1 hc2.2 (by omega) HES.out HL.out _ HE.out).mono ?_
              rintro e' w3 ⟨rfl, f, hpf, hsf, haf⟩
              have HPF := Lib.hid hpf
              have HSF := Lib.hid hsf
              have HF := Lib.hid haf
              clear hpf hsf haf k1 k2
              have HFS : Hid (f.size = N) := by rw [HPF.out.1]; exact HES.out
              have HRF : Hid (Halv leT tagPre f mid t b) := halv_keepR HR.out (by omega) HPF.out
              by_cases hc3 : mid < t ∧ t < b
              · have l1 : (mid : Int) < (t : Int) := by omega
                have l2 : (t : Int) < (b : Int) := by omega
                go_wp2_with fail
                all_goals
                  refine (IH.out mid t b f (by omega) hc3.1 hc3.2 hb HFS.out HRF.out _ HF.out).mono ?_
                  rintro e' w4 ⟨rfl, ff, hpg, hsg, hag⟩
                  have HPG := Lib.hid hpg
                  have HSG := Lib.hid hsg
                  have HG4 := Lib.hid hag
                  clear hpg hsg hag l1 l2
                  have HGL := Lib.hid (glue hS (by omega) (by omega) (by rw [HES.out]; exact hb) HX.out HPF.out HSF.out HPG.out HSG.out)
                  have HFIN : Hid (PermIn a b d ff ∧ SortedIn leT a b ff) := ⟨permIn_trans _ _ _ _ _ HPR.out HGL.out.1, HGL.out.2⟩
                  go_wp2
                  all_goals (go_end0; exact ⟨rfl, ff, HFIN.out.1, HFIN.out.2, HG4.out⟩)
              · by_cases hmt : mid < t
                · have l1 : (mid : Int) < (t : Int) := by omega
                  have l2 : ¬ (t : Int) < (b : Int) := by omega
                  have HSG0 : Hid (SortedIn leT mid b f) := halv_trivL HRF.out (by omega)
                  obtain ⟨ff, hff⟩ : ∃ x, f = x := ⟨_, rfl⟩
                  have HPG : Hid (PermIn mid b f ff) := by rw [← hff]; exact permIn_refl _ _ _
                  have HSG : Hid (SortedIn leT mid b ff) := by rw [← hff]; exact HSG0.out
                  have HG4 : Hid (Arr w0 w3 g c ff) := by rw [← hff]; exact HF.out
                  clear hff
                  have HGL := Lib.hid (glue hS (by omega) (by omega) (by rw [HES.out]; exact hb) HX.out HPF.out HSF.out HPG.out HSG.out)
                  have HFIN : Hid (PermIn a b d ff ∧ SortedIn leT a b ff) := ⟨permIn_trans _ _ _ _ _ HPR.out HGL.out.1, HGL.out.2⟩
                  go_wp2
                  all_goals (go_end0; exact ⟨rfl, ff, HFIN.out.1, HFIN.out.2, HG4.out⟩)
                · have l1 : ¬ (mid : Int) < (t : Int) := by omega
                  have HSG0 : Hid (SortedIn leT mid b f) := halv_trivL HRF.out (by omega)
                  obtain ⟨ff, hff⟩ : ∃ x, f = x := ⟨_, rfl⟩
                  have HPG : Hid (PermIn mid b f ff) := by rw [← hff]; exact permIn_refl _ _ _
                  have HSG : Hid (SortedIn leT mid b ff) := by rw [← hff]; exact HSG0.out
                  have HG4 : Hid (Arr w0 w3 g c ff) := by rw [← hff]; exact HF.out
                  clear hff
                  have HGL := Lib.hid (glue hS (by omega) (by omega) (by rw [HES.out]; exact hb) HX.out HPF.out HSF.out HPG.out HSG.out)
                  have HFIN : Hid (PermIn a b d ff ∧ SortedIn leT a b ff) := ⟨permIn_trans _ _ _ _ _ HPR.out HGL.out.1, HGL.out.2⟩
                  go_wp2
                  all_goals (go_end0; exact ⟨rfl, ff, HFIN.out.1, HFIN.out.2, HG4.out⟩)
            · by_cases has : a < s
              · have k1 : (a : Int) < (s : Int) := by omega
                have k2 : ¬ (s : Int) < (mid : Int) := by omega
                have HSF0 : Hid (SortedIn leT a mid e) := halv_trivL HL.out (by omega)
                obtain ⟨f, hff⟩ : ∃ f, e = f := ⟨_, rfl⟩
                have HPF : Hid (PermIn a mid e f) := by rw [← hff]; exact permIn_refl _ _ _
                have HSF : Hid (SortedIn leT a mid f) := by rw [← hff]; exact HSF0.out
                have HF : Hid (Arr w0 wr g c f) := by rw [← hff]; exact HE.out
                clear hff
                have HFS : Hid (f.size = N) := by rw [HPF.out.1]; exact HES.out
                have HRF : Hid (Halv leT tagPre f mid t b) := halv_keepR HR.out (by omega) HPF.out
                by_cases hc3 : mid < t ∧ t < b
                · have l1 : (mid : Int) < (t : Int) := by omega
                  have l2 : (t : Int) < (b : Int) := by omega
                  go_wp2_with fail
                  all_goals
                    refine (IH.out mid t b f (by omega) hc3.1 hc3.2 hb HFS.out HRF.out _ HF.out).mono ?_
                    rintro e' w4 ⟨rfl, ff, hpg, hsg, hag⟩
                    have HPG := Lib.hid hpg
                    have HSG := Lib.hid hsg
                    have HG4 := Lib.hid hag
                    clear hpg hsg hag l1 l2
                    have HGL := Lib.hid (glue hS (by omega) (by omega) (by rw [HES.out]; exact hb) HX.out HPF.out HSF.out HPG.out HSG.out)
                    have HFIN : Hid (PermIn a b d ff ∧ SortedIn leT a b ff) := ⟨permIn_trans _ _ _ _ _ HPR.out HGL.out.1, HGL.out.2⟩
                    go_wp2
                    all_goals (go_end0; exact ⟨rfl, ff, HFIN.out.1, HFIN.out.2, HG4.out⟩)
                · by_cases hmt : mid < t
                  · have l1 : (mid : Int) < (t : Int) := by omega
                    have l2 : ¬ (t : Int) < (b : Int) := by omega
                    have HSG0 : Hid (SortedIn leT mid b f) := halv_trivL HRF.out (by omega)
                    obtain ⟨ff, hff⟩ : ∃ x, f = x := ⟨_, rfl⟩
                    have HPG : Hid (PermIn mid b f ff) := by rw [← hff]; exact permIn_refl _ _ _
                    have HSG : Hid (SortedIn leT mid b ff) := by rw [← hff]; exact HSG0.out
                    have HG4 : Hid (Arr w0 wr g c ff) := by rw [← hff]; exact HF.out
                    clear hff
                    have HGL := Lib.hid (glue hS (by omega) (by omega) (by rw [HES.out]; exact hb) HX.out HPF.out HSF.out HPG.out HSG.out)
                    have HFIN : Hid (PermIn a b d ff ∧ SortedIn leT a b ff) := ⟨permIn_trans _ _ _ _ _ HPR.out HGL.out.1, HGL.out.2⟩
                    go_wp2
                    all_goals (go_end0; exact ⟨rfl, ff, HFIN.out.1, HFIN.out.2, HG4.out⟩)
                  · have l1 : ¬ (mid : Int) < (t : Int) := by omega
                    have HSG0 : Hid (SortedIn leT mid b f) := halv_trivL HRF.out (by omega)
                    obtain ⟨ff, hff⟩ : ∃ x, f = x := ⟨_, rfl⟩
                    have HPG : Hid (PermIn mid b f ff) := by rw [← hff]; exact permIn_refl _ _ _
                    have HSG : Hid (SortedIn leT mid b ff) := by rw [← hff]; exact HSG0.out
                    have HG4 : Hid (Arr w0 wr g c ff) := by rw [← hff]; exact HF.out
                    clear hff
                    have HGL := Lib.hid (glue hS (by omega) (by omega) (by rw [HES.out]; exact hb) HX.out HPF.out HSF.out HPG.out HSG.out)
                    have HFIN : Hid (PermIn a b d ff ∧ SortedIn leT a b ff) := ⟨permIn_trans _ _ _ _ _ HPR.out HGL.out.1, HGL.out.2⟩
                    go_wp2
                    all_goals (go_end0; exact ⟨rfl, ff, HFIN.out.1, HFIN.out.2, HG4.out⟩)
              · have k1 : ¬ (a : Int) < (s : Int) := by omega
                have HSF0 : Hid (SortedIn leT a mid e) := halv_trivL HL.out (by omega)
                obtain ⟨f, hff⟩ : ∃ f, e = f := ⟨_, rfl⟩
                have HPF : Hid (PermIn a mid e f) := by rw [← hff]; exact permIn_refl _ _ _
                have HSF : Hid (SortedIn leT a mid f) := by rw [← hff]; exact HSF0.out
                have HF : Hid (Arr w0 wr g c f) := by rw [← hff]; exact HE.out
                clear hff
                have HFS : Hid (f.size = N) := by rw [HPF.out.1]; exact HES.out
                have HRF : Hid (Halv leT tagPre f mid t b) := halv_keepR HR.out (by omega) HPF.out
                by_cases hc3 : mid < t ∧ t < b
                · have l1 : (mid : Int) < (t : Int) := by omega
                  have l2 : (t : Int) < (b : Int) := by omega
                  go_wp2_with fail
                  all_goals
                    refine (IH.out mid t b f (by omega) hc3.1 hc3.2 hb HFS.out HRF.out _ HF.out).mono ?_
                    rintro e' w4 ⟨rfl, ff, hpg, hsg, hag⟩
                    have HPG := Lib.hid hpg
                    have HSG := Lib.hid hsg
                    have HG4 := Lib.hid hag
                    clear hpg hsg hag l1 l2
                    have HGL := Lib.hid (glue hS (by omega) (by omega) (by rw [HES.out]; exact hb) HX.out HPF.out HSF.out HPG.out HSG.out)
                    have HFIN : Hid (PermIn a b d ff ∧ SortedIn leT a b ff) := ⟨permIn_trans _ _ _ _ _ HPR.out HGL.out.1, HGL.out.2⟩
                    go_wp2
                    all_goals (go_end0; exact ⟨rfl, ff, HFIN.out.1, HFIN.out.2, HG4.out⟩)
                · by_cases hmt : mid < t
                  · have l1 : (mid : Int) < (t : Int) := by omega
                    have l2 : ¬ (t : Int) < (b : Int) := by omega
                    have HSG0 : Hid (SortedIn leT mid b f) := halv_trivL HRF.out (by omega)
                    obtain ⟨ff, hff⟩ : ∃ x, f = x := ⟨_, rfl⟩
                    have HPG : Hid (PermIn mid b f ff) := by rw [← hff]; exact permIn_refl _ _ _
                    have HSG : Hid (SortedIn leT mid b ff) := by rw [← hff]; exact HSG0.out
                    have HG4 : Hid (Arr w0 wr g c ff) := by rw [← hff]; exact HF.out
                    clear hff
                    have HGL := Lib.hid (glue hS (by omega) (by omega) (by rw [HES.out]; exact hb) HX.out HPF.out HSF.out HPG.out HSG.out)
                    have HFIN : Hid (PermIn a b d ff ∧ SortedIn leT a b ff) := ⟨permIn_trans _ _ _ _ _ HPR.out HGL.out.1, HGL.out.2⟩
                    go_wp2
                    all_goals (go_end0; exact ⟨rfl, ff, HFIN.out.1, HFIN.out.2, HG4.out⟩)
                  · have l1 : ¬ (mid : Int) < (t : Int) := by omega
                    have HSG0 : Hid (SortedIn leT mid b f) := halv_trivL HRF.out (by omega)
                    obtain ⟨ff, hff⟩ : ∃ x, f = x := ⟨_, rfl⟩
                    have HPG : Hid (PermIn mid b f ff) := by rw [← hff]; exact permIn_refl _ _ _
                    have HSG : Hid (SortedIn leT mid b ff) := by rw [← hff]; exact HSG0.out
                    have HG4 : Hid (Arr w0 wr g c ff) := by rw [← hff]; exact HF.out
                    clear hff
                    have HGL := Lib.hid (glue hS (by omega) (by omega) (by rw [HES.out]; exact hb) HX.out HPF.out HSF.out HPG.out HSG.out)
                    have HFIN : Hid (PermIn a b d ff ∧ SortedIn leT a b ff) := ⟨permIn_trans _ _ _ _ _ HPR.out HGL.out.1, HGL.out.2⟩
                    go_wp2
                    all_goals (go_end0; exact ⟨rfl, ff, HFIN.out.1, HFIN.out.2, HG4.out⟩)

end Go.Proofs.YtdcjibjldfjllaaGreat
