/- BarcodeChangesMatch: the walk. -/
import Derived.Test.YtdcjibjldfjllaaGreatGs
import Derived.Test.YtdcjibjldfjllaaGreatGq
import Derived.Test.YtdcjibjldfjllaaGreatGyi
set_option linter.unusedVariables false
set_option linter.unusedSimpArgs false
namespace Go.Proofs.YtdcjibjldfjllaaGreat
open Go.RowKit

theorem chgAll_len2 (φs : List Chg) : ∀ (bs out : List Bar), (chgAll φs out bs).1.length ≤ out.length + bs.length
  | [], out => by rw [chgAll]; rw [isort_length]; simp
  | b :: bs, out => by
    rw [chgAll]
    have ih1 := chgAll_len2 φs bs out
    have ih2 := fun c => chgAll_len2 φs bs (out ++ [c])
    simp only [List.length_append, List.length_cons, List.length_nil] at ih2 ⊢
    split
    · simp
    · split
      · omega
      · split
        · have := ih2 (runChg φs b).1; omega
        · omega
theorem len_shift (bs : List Bar) (s : ByteArray) : (shiftB bs s).1.length ≤ bs.length := by
  unfold shiftB
  split
  · simp
  · split
    · simp
    · have := chgAll_len2 [eachChg (fun q => valR (byt s) + q)] bs []; simpa using this
theorem len_scale (bs : List Bar) (s : ByteArray) : (scaleB bs s).1.length ≤ bs.length := by
  unfold scaleB
  split
  · simp
  · split
    · simp
    · have := chgAll_len2 [eachChg (fun q => valR (byt s) * q)] bs []; simpa using this
theorem len_clip (bs : List Bar) (s t : ByteArray) : (clipB bs s t).1.length ≤ bs.length := by
  unfold clipB
  split
  · simp
  · split
    · simp
    · have := chgAll_len2 [clip1 s, clip2 t] bs []; simpa using this
theorem len_longer (bs : List Bar) (t : ByteArray) : (longerB bs t).1.length ≤ bs.length := by
  unfold longerB
  split
  · simp
  · split
    · simp
    · have := chgAll_len2 [longChg t] bs []; simpa using this
theorem len_merge (bs ks : List Bar) : (mergeB bs ks).1.length ≤ bs.length + ks.length := by
  unfold mergeB
  split
  · simp
  · split
    · simp
    · split
      · simp
      · have := chgAll_len2 [] (bs ++ ks) []; simpa using this
theorem pair_eq {α β : Type} {x : α × β} {a c : α} {b d : β} (h : x = (a, b)) (h2 : x = (c, d)) : a = c ∧ b = d := by
  rw [h] at h2; injection h2 with h3 h4; exact ⟨h3, h4⟩
theorem fit_sizes (xs : List Int) : (∀ b ∈ (fitV xs 12).map VB.enc, b.x.size ≤ 201 ∧ b.y.size ≤ 201) ∧ ((fitV xs 12).map VB.enc).length ≤ 40 := by
  obtain ⟨g1, g2, g3⟩ := fitV_good xs 12
  refine ⟨fun b hb => ?_, by rw [List.length_map]; omega⟩
  obtain ⟨v, hv, rfl⟩ := List.mem_map.1 hb
  have h := (g1 v hv).1
  exact ⟨tE_size h.2.2.1, tE_size h.2.2.2⟩

theorem merge_yes2 {bs ks : List Bar} (h : checkB bs = 0) (hk : checkB ks = 0) (hf : ∀ b ∈ bs, b.x.size ≤ 201 ∧ b.y.size ≤ 201) (hg : ∀ b ∈ ks, b.x.size ≤ 201 ∧ b.y.size ≤ 201) (hn : bs.length + ks.length ≤ 100) : (mergeB bs ks).2 = 0 := by
  have hv : ∀ b ∈ bs ++ ks, validB b = true := fun b hb => by
    rcases List.mem_append.1 hb with hb | hb
    · exact (chkFrom_valid (checkB_ok h).2 b hb).1
    · exact (chkFrom_valid (checkB_ok hk).2 b hb).1
  have hz : ∀ b ∈ bs ++ ks, b.x.size ≤ 1000000 ∧ b.y.size ≤ 1000000 := fun b hb => by
    rcases List.mem_append.1 hb with hb | hb
    · have := hf b hb; omega
    · have := hg b hb; omega
  unfold mergeB
  rw [h, hk, if_neg (by simp), if_neg (by simp), if_neg (by omega)]
  rw [merge_plain hv hz]

set_option maxRecDepth 100000 in
set_option maxHeartbeats 16000000 in
theorem law_changes (A B C : Option Addr) (n c m d k f : Nat) (ls ks : List Bar) (xs : List Int) (s t : ByteArray) (w : World) (hx : Rows w rBar A n c ls) (hy : Rows w rBar B m d ks)
    (hz : RInts w .i64 C k f xs) (hr : ∀ x ∈ xs, -9223372036854775808 ≤ x ∧ x ≤ 9223372036854775807) :
    Calls Tryz.prog 9 #[.slice A n c, .slice B m d, .slice C k f, .string s, .string t] w fun e w' => Past w w' ∧ e = .returned (.bool true) := by
  have HX := Lib.hid hx
  have HY := Lib.hid hy
  have HZ := Lib.hid hz
  have HRNG := Lib.hid hr
  have HXL := Lib.hid hx.len
  have HYL := Lib.hid hy.len
  clear hx hy hz hr
  cases hl : longB ls 40 with
  | true =>
    have HL := Lib.hid hl
    clear hl
    go_enter Tryz.func9, Tryz.ntmps9
    go_wp2_with fail
    refine (law_long A n c ls 40 _ HX.out (by decide)).mono ?_
    rintro e w1 ⟨hp1, rfl⟩
    rw [HL.out]
    have P1 : Hid (Past w w1) := hp1
    clear hp1
    go_wp2_with fail
    refine (law_awake _).mono ?_
    rintro e w9 ⟨hp9, rfl⟩
    go_wp2
    go_ret
    exact ⟨P1.out.trans hp9, rfl⟩
  | false =>
    have HL := Lib.hid hl
    cases hk : longB ks 40 with
    | true =>
      have HK := Lib.hid hk
      clear hk hl
      go_enter Tryz.func9, Tryz.ntmps9
      go_wp2_with fail
      refine (law_long A n c ls 40 _ HX.out (by decide)).mono ?_
      rintro e w1 ⟨hp1, rfl⟩
      rw [HL.out]
      have P1 : Hid (Past w w1) := hp1
      clear hp1
      go_wp2_with fail
      refine (law_long B m d ks 40 _ (HY.out.past P1.out) (by decide)).mono ?_
      rintro e w2 ⟨hp2, rfl⟩
      rw [HK.out]
      have P2 : Hid (Past w w2) := P1.out.trans hp2
      clear hp2
      go_wp2_with fail
      refine (law_awake _).mono ?_
      rintro e w9 ⟨hp9, rfl⟩
      go_wp2
      go_ret
      exact ⟨P2.out.trans hp9, rfl⟩
    | false =>
      have HK := Lib.hid hk
      obtain ⟨l1, l2⟩ := longB_false hl
      obtain ⟨k1, k2⟩ := longB_false hk
      have HN : Hid (n ≤ 40 ∧ m ≤ 40) := by have := HXL.out; have := HYL.out; unfold Hid; omega
      have HB1 : Hid (∀ b ∈ ls, b.x.size ≤ 201 ∧ b.y.size ≤ 201) := fun b hb => by have := l2 b hb; omega
      have HB2 : Hid (∀ b ∈ ks, b.x.size ≤ 201 ∧ b.y.size ≤ 201) := fun b hb => by have := k2 b hb; omega
      clear hl hk l1 l2 k1 k2
      by_cases hs : 200 < s.size
      · have hsz : (200 : Int) < (s.size : Int) := by omega
        go_enter Tryz.func9, Tryz.ntmps9
        go_wp2_with fail
        refine (law_long A n c ls 40 _ HX.out (by decide)).mono ?_
        rintro e w1 ⟨hp1, rfl⟩
        rw [HL.out]
        have P1 : Hid (Past w w1) := hp1
        clear hp1
        go_wp2_with fail
        refine (law_long B m d ks 40 _ (HY.out.past P1.out) (by decide)).mono ?_
        rintro e w2 ⟨hp2, rfl⟩
        rw [HK.out]
        have P2 : Hid (Past w w2) := P1.out.trans hp2
        clear hp2
        go_wp2_with fail
        refine (law_awake _).mono ?_
        rintro e w9 ⟨hp9, rfl⟩
        go_wp2
        go_ret
        exact ⟨P2.out.trans hp9, rfl⟩
      · have hsz : ¬ (200 : Int) < (s.size : Int) := by omega
        by_cases ht : 200 < t.size
        · have htz : (200 : Int) < (t.size : Int) := by omega
          go_enter Tryz.func9, Tryz.ntmps9
          go_wp2_with fail
          refine (law_long A n c ls 40 _ HX.out (by decide)).mono ?_
          rintro e w1 ⟨hp1, rfl⟩
          rw [HL.out]
          have P1 : Hid (Past w w1) := hp1
          clear hp1
          go_wp2_with fail
          refine (law_long B m d ks 40 _ (HY.out.past P1.out) (by decide)).mono ?_
          rintro e w2 ⟨hp2, rfl⟩
          rw [HK.out]
          have P2 : Hid (Past w w2) := P1.out.trans hp2
          clear hp2
          go_wp2_with fail
          refine (law_awake _).mono ?_
          rintro e w9 ⟨hp9, rfl⟩
          go_wp2
          go_ret
          exact ⟨P2.out.trans hp9, rfl⟩
        · have htz : ¬ (200 : Int) < (t.size : Int) := by omega
          have HS : Hid (s.size ≤ 200 ∧ t.size ≤ 200) := by unfold Hid; omega
          have HFZ := Lib.hid (fit_sizes xs)
          clear hs ht
          go_enter Tryz.func9, Tryz.ntmps9
          go_wp2_with fail
          refine (law_long A n c ls 40 _ HX.out (by decide)).mono ?_
          rintro e w1 ⟨hp1, rfl⟩
          rw [HL.out]
          have P1 : Hid (Past w w1) := hp1
          clear hp1
          go_wp2_with fail
          refine (law_long B m d ks 40 _ (HY.out.past P1.out) (by decide)).mono ?_
          rintro e w2 ⟨hp2, rfl⟩
          rw [HK.out]
          have P2 : Hid (Past w w2) := P1.out.trans hp2
          clear hp2
          go_wp2_with fail
          refine (ref_fit C k f 12 xs _ (HZ.out.past P2.out) HRNG.out (by decide)).mono ?_
          rintro e w3 ⟨hp3, v3, rfl, ho3⟩
          obtain ⟨A3, c3, rfl, hr3⟩ := ho3.reads
          obtain ⟨fs, hfs⟩ : ∃ z, (fitV xs 12).map VB.enc = z := ⟨_, rfl⟩
          rw [hfs] at hr3 HFZ ⊢
          obtain ⟨n3, hn3⟩ : ∃ z, fs.length = z := ⟨_, rfl⟩
          rw [hn3] at hr3 HFZ ⊢
          have HR3 := Lib.hid hr3
          have P3 := Lib.hid (P2.out.trans hp3)
          clear hp3 ho3 hr3 hfs hn3
          have EL : Hid (∀ w1, Past (w3.alloc (.cells #[.slice A n c, .slice A3 n3 c3] 22)) w1 → ∀ i, i < 2 → ∃ A' n' c' bs, w1.cell? ⟨w3.heap.size, i, none⟩ = some (.slice A' n' c') ∧ Rows w1 rBar A' n' c' bs ∧ n' ≤ 40 ∧ ∀ b ∈ bs, b.x.size ≤ 201 ∧ b.y.size ≤ 201) := fun w1 hp i hi => by
            match i, hi with
            | 0, _ => exact ⟨_, _, _, ls, hp.cell (by simp [go_sem]), HX.out.past ((P3.out.alloc _).trans hp), HN.out.1, HB1.out⟩
            | 1, _ => exact ⟨_, _, _, fs, hp.cell (by simp [go_sem]), HR3.out.past (((Past.refl _).alloc _).trans hp), HFZ.out.2, HFZ.out.1⟩
          go_wp2_with fail
          go_loopg [57] 2 (fun gg iv wx => ∃ i : Nat, iv = .int .i64 i ∧ i ≤ 2 ∧ Hid (gg = 2 - i) ∧ Hid (Past (w3.alloc (.cells #[.slice A n c, .slice A3 n3 c3] 22)) wx))
          case atStart => exact ⟨0, rfl, by omega, rfl, Past.refl _⟩
          case round =>
            obtain ⟨i, rfl, hi, HG, HP⟩ := hrel
            by_cases hin : i < 2
            · obtain ⟨Ax, nx, cx, bs, e0, hrx, hnx, hbx⟩ := EL.out wr HP.out i hin
              have HRX := Lib.hid hrx
              have HBX := Lib.hid hbx
              have HBM : Hid (∀ b ∈ bs, b.x.size ≤ 1000000 ∧ b.y.size ≤ 1000000) := fun b hb => by have := hbx b hb; omega
              have HBF : Hid (∀ b ∈ bs, b.fit) := fun b hb => ⟨by have := hbx b hb; omega, by have := hbx b hb; omega⟩
              have HKF : Hid (∀ b ∈ ks, b.fit) := fun b hb => ⟨by have := HB2.out b hb; omega, by have := HB2.out b hb; omega⟩
              have HKM : Hid (∀ b ∈ ks, b.x.size ≤ 1000000 ∧ b.y.size ≤ 1000000) := fun b hb => by have := HB2.out b hb; omega
              have HBL := Lib.hid hrx.len
              have hiz : (i : Int) < 2 := by omega
              have HW : Hid (Past w wr) := (P3.out.alloc _).trans HP.out
              obtain ⟨L1, p1, hq1⟩ : ∃ a b, shiftB bs s = (a, b) := ⟨_, _, rfl⟩
              have HLL1 : Hid (L1.length ≤ 1000000) := by have h1 := len_shift bs s; rw [hq1] at h1; have h2 := HBL.out; have h3 := HYL.out; have h4 := HN.out; show _ ≤ _; exact Nat.le_trans h1 (by omega)
              have CB1 := Lib.hid (bar_shift Ax nx cx bs s)
              rw [hq1] at CB1
              have HQ1 := Lib.hid hq1
              obtain ⟨L2, p2, hq2⟩ : ∃ a b, scaleB bs s = (a, b) := ⟨_, _, rfl⟩
              have HLL2 : Hid (L2.length ≤ 1000000) := by have h1 := len_scale bs s; rw [hq2] at h1; have h2 := HBL.out; have h3 := HYL.out; have h4 := HN.out; show _ ≤ _; exact Nat.le_trans h1 (by omega)
              have CB2 := Lib.hid (bar_scale Ax nx cx bs s)
              rw [hq2] at CB2
              have HQ2 := Lib.hid hq2
              obtain ⟨L3, p3, hq3⟩ : ∃ a b, clipB bs s t = (a, b) := ⟨_, _, rfl⟩
              have HLL3 : Hid (L3.length ≤ 1000000) := by have h1 := len_clip bs s t; rw [hq3] at h1; have h2 := HBL.out; have h3 := HYL.out; have h4 := HN.out; show _ ≤ _; exact Nat.le_trans h1 (by omega)
              have CB3 := Lib.hid (bar_clip2 Ax nx cx bs s t)
              rw [hq3] at CB3
              have HQ3 := Lib.hid hq3
              obtain ⟨L4, p4, hq4⟩ : ∃ a b, longerB bs t = (a, b) := ⟨_, _, rfl⟩
              have HLL4 : Hid (L4.length ≤ 1000000) := by have h1 := len_longer bs t; rw [hq4] at h1; have h2 := HBL.out; have h3 := HYL.out; have h4 := HN.out; show _ ≤ _; exact Nat.le_trans h1 (by omega)
              have CB4 := Lib.hid (bar_longer Ax nx cx bs t)
              rw [hq4] at CB4
              have HQ4 := Lib.hid hq4
              obtain ⟨L5, p5, hq5⟩ : ∃ a b, mergeB bs ks = (a, b) := ⟨_, _, rfl⟩
              have HLL5 : Hid (L5.length ≤ 1000000) := by have h1 := len_merge bs ks; rw [hq5] at h1; have h2 := HBL.out; have h3 := HYL.out; have h4 := HN.out; show _ ≤ _; exact Nat.le_trans h1 (by omega)
              have CB5 := Lib.hid (bar_merge Ax B nx cx m d bs ks)
              rw [hq5] at CB5
              have HQ5 := Lib.hid hq5
              clear hq1 hq2 hq3 hq4 hq5 hrx hbx
              go_wp2_with fail
              refine (ref_checkG Ax nx cx bs _ HRX.out HBM.out).mono ?_
              rintro e u0 ⟨hu0, rfl⟩
              have U0 : Hid (Past wr u0) := hu0
              clear hu0 e0
              obtain ⟨ck, hck⟩ : ∃ z, checkB bs = z := ⟨_, rfl⟩
              rw [hck]
              have HCK := Lib.hid hck
              clear hck
              go_wp2_with fail
              refine (CB1.out _ (HRX.out.past U0.out) HBF.out (by have := HS.out; omega) (by omega)).mono ?_
              rintro e u1 ⟨hu1, y1, rfl, ho1, -⟩
              obtain ⟨D1, g1, rfl, hd1⟩ := ho1.reads
              try dsimp only at hd1 ⊢
              obtain ⟨m1, hm1⟩ : ∃ z, L1.length = z := ⟨_, rfl⟩
              rw [hm1] at hd1 HLL1 ⊢
              have HM1 := Lib.hid hm1
              have RA1u1 := Lib.hid hd1
              have U1 := Lib.hid (U0.out.trans hu1)
              clear hu1 ho1 hd1 hm1
              go_wp2_with fail
              refine (CB2.out _ (HRX.out.past U1.out) HBF.out (by have := HS.out; omega) (by omega)).mono ?_
              rintro e u2 ⟨hu2, y2, rfl, ho2, -⟩
              obtain ⟨D2, g2, rfl, hd2⟩ := ho2.reads
              try dsimp only at hd2 ⊢
              obtain ⟨m2, hm2⟩ : ∃ z, L2.length = z := ⟨_, rfl⟩
              rw [hm2] at hd2 HLL2 ⊢
              have HM2 := Lib.hid hm2
              have RA2u2 := Lib.hid hd2
              have RA1u2 := Lib.hid (RA1u1.out.past hu2)
              have U2 := Lib.hid (U1.out.trans hu2)
              clear hu2 ho2 hd2 hm2
              go_wp2_with fail
              refine (CB3.out _ (HRX.out.past U2.out) HBF.out (by have := HS.out; omega) (by have := HS.out; omega) (by omega)).mono ?_
              rintro e u3 ⟨hu3, y3, rfl, ho3, -⟩
              obtain ⟨D3, g3, rfl, hd3⟩ := ho3.reads
              try dsimp only at hd3 ⊢
              obtain ⟨m3, hm3⟩ : ∃ z, L3.length = z := ⟨_, rfl⟩
              rw [hm3] at hd3 HLL3 ⊢
              have HM3 := Lib.hid hm3
              have RA3u3 := Lib.hid hd3
              have RA1u3 := Lib.hid (RA1u2.out.past hu3)
              have RA2u3 := Lib.hid (RA2u2.out.past hu3)
              have U3 := Lib.hid (U2.out.trans hu3)
              clear hu3 ho3 hd3 hm3
              go_wp2_with fail
              refine (CB4.out _ (HRX.out.past U3.out) HBF.out (by have := HS.out; omega) (by omega)).mono ?_
              rintro e u4 ⟨hu4, y4, rfl, ho4⟩
              obtain ⟨D4, g4, rfl, hd4⟩ := ho4.reads
              try dsimp only at hd4 ⊢
              obtain ⟨m4, hm4⟩ : ∃ z, L4.length = z := ⟨_, rfl⟩
              rw [hm4] at hd4 HLL4 ⊢
              have HM4 := Lib.hid hm4
              have RA4u4 := Lib.hid hd4
              have RA1u4 := Lib.hid (RA1u3.out.past hu4)
              have RA2u4 := Lib.hid (RA2u3.out.past hu4)
              have RA3u4 := Lib.hid (RA3u3.out.past hu4)
              have U4 := Lib.hid (U3.out.trans hu4)
              clear hu4 ho4 hd4 hm4
              go_wp2_with fail
              refine (CB5.out _ (HRX.out.past U4.out) (HY.out.past (HW.out.trans U4.out)) HBF.out HKF.out (by omega) (by have := HN.out; omega)).mono ?_
              rintro e u5 ⟨hu5, y5, rfl, ho5⟩
              obtain ⟨D5, g5, rfl, hd5⟩ := ho5.reads
              try dsimp only at hd5 ⊢
              obtain ⟨m5, hm5⟩ : ∃ z, L5.length = z := ⟨_, rfl⟩
              rw [hm5] at hd5 HLL5 ⊢
              have HM5 := Lib.hid hm5
              have RA5u5 := Lib.hid hd5
              have RA1u5 := Lib.hid (RA1u4.out.past hu5)
              have RA2u5 := Lib.hid (RA2u4.out.past hu5)
              have RA3u5 := Lib.hid (RA3u4.out.past hu5)
              have RA4u5 := Lib.hid (RA4u4.out.past hu5)
              have U5 := Lib.hid (U4.out.trans hu5)
              clear hu5 ho5 hd5 hm5
              by_cases hck0 : ck = 0
              · as_aux_lemma =>
                subst hck0
                obtain ⟨b1, hb1⟩ : ∃ z, okV (byt s) = z := ⟨_, rfl⟩
                obtain ⟨b2, hb2⟩ : ∃ z, okE (byt t) = z := ⟨_, rfl⟩
                obtain ⟨c1, hc1⟩ : ∃ z, cmpT (byt s) [48] = z := ⟨_, rfl⟩
                obtain ⟨c2, hc2⟩ : ∃ z, cmpT (byt s) (byt t) = z := ⟨_, rfl⟩
                obtain ⟨ek, hek⟩ : ∃ z, checkB ks = z := ⟨_, rfl⟩
                have V1 : Hid (∀ w, Calls Tryz.prog 39 #[.string s] w fun e w' => Past w w' ∧ e = .returned (.bool b1)) := fun w => by rw [← hb1]; exact ref_validT s w (by have := HS.out; omega)
                have V2 : Hid (∀ w, Calls Tryz.prog 41 #[.string t] w fun e w' => Past w w' ∧ e = .returned (.bool b2)) := fun w => by rw [← hb2]; exact ref_endT t w (by have := HS.out; omega)
                have V3 : Hid (b1 = true → ∀ w, Calls Tryz.prog 24 #[.string s, .string ⟨#[48]⟩] w fun e w' => Past w w' ∧ e = .returned (.int .i64 c1)) := fun h w => by rw [← hc1]; exact fr_compareT s ⟨#[48]⟩ w (by have := HS.out; omega) (by decide) (by unfold okE; rw [hb1, h]; simp) (by decide +kernel)
                have V4 : Hid (b1 = true → b2 = true → ∀ w, Calls Tryz.prog 24 #[.string s, .string t] w fun e w' => Past w w' ∧ e = .returned (.int .i64 c2)) := fun h h2 w => by rw [← hc2]; exact fr_compareT s t w (by have := HS.out; omega) (by have := HS.out; omega) (by unfold okE; rw [hb1, h]; simp) (by rw [hb2, h2])
                have HB := Lib.hid (And.intro hb1 (And.intro hb2 (And.intro hc1 (And.intro hc2 hek))))
                clear hb1 hb2 hc1 hc2 hek
                have N1 : Hid (b1 = false → L1 = [] ∧ p1 = 1) := fun h => pair_eq HQ1.out (shift_no HCK.out (HB.out.1.trans h))
                have N2 : Hid ((b1 && decide (0 < c1)) = false → L2 = [] ∧ p2 = 1) := fun h => pair_eq HQ2.out (scale_no HCK.out (by rw [HB.out.1, HB.out.2.2.1]; rw [Bool.and_eq_false_iff, decide_eq_false_iff_not] at h; rcases h with h | h; exact .inl h; exact .inr (by omega)))
                have N3 : Hid ((b1 && b2 && decide (c2 ≤ 0)) = false → L3 = [] ∧ p3 = 1) := fun h => pair_eq HQ3.out (clip_no HCK.out (by rw [HB.out.1, HB.out.2.1, HB.out.2.2.2.1]; rw [Bool.and_eq_false_iff, Bool.and_eq_false_iff, decide_eq_false_iff_not] at h; rcases h with (h | h) | h; exact .inl h; exact .inr (.inl h); exact .inr (.inr (by omega))))
                have N4 : Hid (b2 = false → L4 = [] ∧ p4 = 1) := fun h => pair_eq HQ4.out (longer_no HCK.out (HB.out.2.1.trans h))
                have N5 : Hid (ek ≠ 0 → L5 = [] ∧ p5 = ek) := fun h => by have h1 := pair_eq HQ5.out (merge_no HCK.out (by rw [HB.out.2.2.2.2]; exact h)); rw [HB.out.2.2.2.2] at h1; exact h1
                have Y1 : Hid (b1 = true → p1 = 0 ∧ ∀ w, Past wr w → Calls Tryz.prog 40 #[.slice Ax nx cx, .string ⟨#[49]⟩, .string s] w fun e w' => Past w w' ∧ ∃ v, e = .returned (.tuple #[v, .bool false]) ∧ OwnS w w' rBar 94 v L1) := fun h => by
                  have h1 := fun w (hp : Past wr w) => shift_yes (HRX.out.past hp) HCK.out HBX.out HS.out.1 hnx (HB.out.1.trans h)
                  rw [HQ1.out] at h1
                  exact ⟨(h1 wr (Past.refl _)).1, fun w hp => (h1 w hp).2⟩
                have Y2 : Hid ((b1 && decide (0 < c1)) = true → p2 = 0 ∧ ∀ w, Past wr w → Calls Tryz.prog 40 #[.slice Ax nx cx, .string s, .string ⟨#[48]⟩] w fun e w' => Past w w' ∧ ∃ v, e = .returned (.tuple #[v, .bool false]) ∧ OwnS w w' rBar 94 v L2) := fun h => by
                  rw [Bool.and_eq_true, decide_eq_true_eq] at h
                  have h1 := fun w (hp : Past wr w) => scale_yes (HRX.out.past hp) HCK.out HBX.out HS.out.1 hnx (HB.out.1.trans h.1) (by rw [HB.out.2.2.1]; exact h.2)
                  rw [HQ2.out] at h1
                  exact ⟨(h1 wr (Past.refl _)).1, fun w hp => (h1 w hp).2⟩
                have Y3 : Hid ((b1 && b2 && decide (c2 ≤ 0)) = true → p3 = 0 ∧ ∀ w, Past wr w → Calls Tryz.prog 42 #[.slice Ax nx cx, .string s, .string t] w fun e w' => Past w w' ∧ ∃ v, e = .returned v ∧ OwnS w w' rBar 94 v L3) := fun h => by
                  rw [Bool.and_eq_true, Bool.and_eq_true, decide_eq_true_eq] at h
                  have h1 := fun w (hp : Past wr w) => clip_yes (HRX.out.past hp) HCK.out HBX.out HS.out.1 HS.out.2 hnx (HB.out.1.trans h.1.1) (HB.out.2.1.trans h.1.2) (by rw [HB.out.2.2.2.1]; omega)
                  rw [HQ3.out] at h1
                  exact ⟨(h1 wr (Past.refl _)).1, fun w hp => (h1 w hp).2⟩
                have Y4 : Hid (b2 = true → p4 = 0 ∧ ∀ w, Past wr w → Calls Tryz.prog 43 #[.slice Ax nx cx, .string t] w fun e w' => Past w w' ∧ ∃ v, e = .returned v ∧ OwnS w w' rBar 94 v L4) := fun h => by
                  have h1 := fun w (hp : Past wr w) => longer_yes (HRX.out.past hp) HCK.out HBX.out HS.out.2 hnx (HB.out.2.1.trans h)
                  rw [HQ4.out] at h1
                  exact ⟨(h1 wr (Past.refl _)).1, fun w hp => (h1 w hp).2⟩
                have Y5 : Hid (ek = 0 → p5 = 0 ∧ ∀ w Aq nq cq, Rows w rBar Aq nq cq (bs ++ ks) → nq ≤ 100 → Calls Tryz.prog 44 #[.slice Aq nq cq] w fun e w' => Past w w' ∧ ∃ v, e = .returned v ∧ OwnS w w' rBar 94 v L5) := fun h => by
                  have hk0 : checkB ks = 0 := HB.out.2.2.2.2.trans h
                  have h1 := fun w Aq nq cq (hq : Rows w rBar Aq nq cq (bs ++ ks)) hn => merge_yes (A := Aq) (n := nq) (c := cq) (w := w) hq HCK.out hk0 HBX.out HB2.out hn
                  rw [HQ5.out] at h1
                  refine ⟨?_, fun w Aq nq cq hq hn => (h1 w Aq nq cq hq hn).2⟩
                  have h2 := merge_yes2 HCK.out hk0 HBX.out HB2.out (by have := HBL.out; have := HYL.out; have := HN.out; omega)
                  rw [HQ5.out] at h2
                  exact h2
                go_wp2_with fail
                refine (V1.out _).mono ?_
                rintro e s1 ⟨hp, rfl⟩
                have Us1 := Lib.hid (U5.out.trans hp)
                have RA1s1 := Lib.hid (RA1u5.out.past hp)
                have RA2s1 := Lib.hid (RA2u5.out.past hp)
                have RA3s1 := Lib.hid (RA3u5.out.past hp)
                have RA4s1 := Lib.hid (RA4u5.out.past hp)
                have RA5s1 := Lib.hid (RA5u5.out.past hp)
                clear hp
                go_upto_if 102 with fail
                go_cut [24, 29, 34] (fun v24 v29 v34 wx => v24 = .int .i64 p1 ∧ ∃ Aq cq, v29 = .slice Aq m1 cq ∧ Hid (Rows wx rBar Aq m1 cq L1) ∧ Hid (Past s1 wx))
                case first =>
                  cases b1 with
                  | false =>
                    obtain ⟨hl0, hp0⟩ := N1.out rfl
                    have hm0 : m1 = 0 := by rw [← HM1.out, hl0]; rfl
                    subst hp0
                    have HLZ := Lib.hid hl0
                    have HMZ := Lib.hid hm0
                    clear hl0 hm0
                    go_wp2_with fail
                    go_meet
                    case rel => exact ⟨rfl, none, 0, by rw [HMZ.out], by rw [HMZ.out, HLZ.out]; exact Rows.nil _ _ _ _ (by omega), Past.refl _⟩
                  | true =>
                    obtain ⟨hp0, CY⟩ := Y1.out rfl
                    subst hp0
                    have CYH := Lib.hid CY
                    clear CY
                    go_wp2_with fail
                    refine (CYH.out _ Us1.out).mono ?_
                    rintro e wy ⟨hpy, vy, rfl, hoy⟩
                    obtain ⟨Ay, cy, rfl, hry⟩ := hoy.reads
                    rw [HM1.out] at hry ⊢
                    have HRY := Lib.hid hry
                    have HPY := Lib.hid hpy
                    clear hry hpy hoy
                    go_wp2_with fail
                    go_meet
                    case rel => exact ⟨rfl, Ay, cy, rfl, HRY.out, HPY.out⟩
                case rest => as_aux_lemma =>
                obtain ⟨rfl, E1, j1, rfl, RBH, HCU⟩ := hcut
                obtain ⟨t1, hw⟩ : ∃ x, x = wc := ⟨_, rfl⟩
                subst hw
                have RB1t1 := RBH
                have Ut1 := Lib.hid (Us1.out.trans HCU.out)
                have RA1t1 := Lib.hid (RA1s1.out.past HCU.out)
                have RA2t1 := Lib.hid (RA2s1.out.past HCU.out)
                have RA3t1 := Lib.hid (RA3s1.out.past HCU.out)
                have RA4t1 := Lib.hid (RA4s1.out.past HCU.out)
                have RA5t1 := Lib.hid (RA5s1.out.past HCU.out)
                clear HCU RBH
                go_upto_region 23 with fail
                go_cut [116] (fun vz wx => vz = .bool (b1 && decide (0 < c1)) ∧ Hid (Past t1 wx))
                case first =>
                  go_wp2_with fail
                  refine (V1.out _).mono ?_
                  rintro e wz ⟨hpz, rfl⟩
                  have HPZ := Lib.hid hpz
                  clear hpz
                  cases b1 with
                  | false =>
                    go_wp2_with fail
                    go_meet
                    case rel => exact ⟨rfl, HPZ.out⟩
                  | true =>
                    go_wp2_with fail
                    refine (V3.out (by trivial) _).mono ?_
                    rintro e wz2 ⟨hpz2, rfl⟩
                    have HPZ2 := Lib.hid (HPZ.out.trans hpz2)
                    clear hpz2
                    go_wp2_with fail
                    go_meet
                    case rel => exact ⟨by simp, HPZ2.out⟩
                case rest => as_aux_lemma =>
                obtain ⟨rfl, HCU⟩ := hcut
                obtain ⟨s2, hw⟩ : ∃ x, x = wc := ⟨_, rfl⟩
                subst hw
                have Us2 := Lib.hid (Ut1.out.trans HCU.out)
                have RA1s2 := Lib.hid (RA1t1.out.past HCU.out)
                have RA2s2 := Lib.hid (RA2t1.out.past HCU.out)
                have RA3s2 := Lib.hid (RA3t1.out.past HCU.out)
                have RA4s2 := Lib.hid (RA4t1.out.past HCU.out)
                have RA5s2 := Lib.hid (RA5t1.out.past HCU.out)
                have RB1s2 := Lib.hid (RB1t1.out.past HCU.out)
                clear HCU
                go_upto_if 116 with fail
                go_cut [25, 30, 34] (fun v25 v30 v34 wx => v25 = .int .i64 p2 ∧ ∃ Aq cq, v30 = .slice Aq m2 cq ∧ Hid (Rows wx rBar Aq m2 cq L2) ∧ Hid (Past s2 wx))
                case first =>
                  cases hcase : (b1 && decide (0 < c1)) with
                  | false =>
                    obtain ⟨hl0, hp0⟩ := N2.out hcase
                    have hm0 : m2 = 0 := by rw [← HM2.out, hl0]; rfl
                    subst hp0
                    have HLZ := Lib.hid hl0
                    have HMZ := Lib.hid hm0
                    clear hl0 hm0
                    try rw [hcase]
                    go_wp2_with fail
                    go_meet
                    case rel => exact ⟨rfl, none, 0, by rw [HMZ.out], by rw [HMZ.out, HLZ.out]; exact Rows.nil _ _ _ _ (by omega), Past.refl _⟩
                  | true =>
                    obtain ⟨hp0, CY⟩ := Y2.out hcase
                    subst hp0
                    have CYH := Lib.hid CY
                    clear CY
                    try rw [hcase]
                    go_wp2_with fail
                    refine (CYH.out _ Us2.out).mono ?_
                    rintro e wy ⟨hpy, vy, rfl, hoy⟩
                    obtain ⟨Ay, cy, rfl, hry⟩ := hoy.reads
                    rw [HM2.out] at hry ⊢
                    have HRY := Lib.hid hry
                    have HPY := Lib.hid hpy
                    clear hry hpy hoy
                    go_wp2_with fail
                    go_meet
                    case rel => exact ⟨rfl, Ay, cy, rfl, HRY.out, HPY.out⟩
                case rest => as_aux_lemma =>
                obtain ⟨rfl, E2, j2, rfl, RBH, HCU⟩ := hcut
                obtain ⟨t2, hw⟩ : ∃ x, x = wc := ⟨_, rfl⟩
                subst hw
                have RB2t2 := RBH
                have Ut2 := Lib.hid (Us2.out.trans HCU.out)
                have RA1t2 := Lib.hid (RA1s2.out.past HCU.out)
                have RA2t2 := Lib.hid (RA2s2.out.past HCU.out)
                have RA3t2 := Lib.hid (RA3s2.out.past HCU.out)
                have RA4t2 := Lib.hid (RA4s2.out.past HCU.out)
                have RA5t2 := Lib.hid (RA5s2.out.past HCU.out)
                have RB1t2 := Lib.hid (RB1s2.out.past HCU.out)
                clear HCU RBH
                go_upto_region 29 with fail
                go_cut [135] (fun vz wx => vz = .bool (b1 && b2 && decide (c2 ≤ 0)) ∧ Hid (Past t2 wx))
                case first =>
                  go_wp2_with fail
                  refine (V1.out _).mono ?_
                  rintro e wz ⟨hpz, rfl⟩
                  have HPZ := Lib.hid hpz
                  clear hpz
                  cases b1 with
                  | false =>
                    go_wp2_with fail
                    go_meet
                    case rel => exact ⟨rfl, HPZ.out⟩
                  | true =>
                    go_wp2_with fail
                    refine (V2.out _).mono ?_
                    rintro e wz2 ⟨hpz2, rfl⟩
                    have HPZ2 := Lib.hid (HPZ.out.trans hpz2)
                    clear hpz2
                    cases b2 with
                    | false =>
                      go_wp2_with fail
                      go_meet
                      case rel => exact ⟨rfl, HPZ2.out⟩
                    | true =>
                      go_wp2_with fail
                      refine (V4.out (by trivial) (by trivial) _).mono ?_
                      rintro e wz3 ⟨hpz3, rfl⟩
                      have HPZ3 := Lib.hid (HPZ2.out.trans hpz3)
                      clear hpz3
                      go_wp2_with fail
                      go_meet
                      case rel => exact ⟨by simp, HPZ3.out⟩
                case rest => as_aux_lemma =>
                obtain ⟨rfl, HCU⟩ := hcut
                obtain ⟨s3, hw⟩ : ∃ x, x = wc := ⟨_, rfl⟩
                subst hw
                have Us3 := Lib.hid (Ut2.out.trans HCU.out)
                have RA1s3 := Lib.hid (RA1t2.out.past HCU.out)
                have RA2s3 := Lib.hid (RA2t2.out.past HCU.out)
                have RA3s3 := Lib.hid (RA3t2.out.past HCU.out)
                have RA4s3 := Lib.hid (RA4t2.out.past HCU.out)
                have RA5s3 := Lib.hid (RA5t2.out.past HCU.out)
                have RB1s3 := Lib.hid (RB1t2.out.past HCU.out)
                have RB2s3 := Lib.hid (RB2t2.out.past HCU.out)
                clear HCU
                go_upto_if 135 with fail
                go_cut [26, 31] (fun v26 v31 wx => v26 = .int .i64 p3 ∧ ∃ Aq cq, v31 = .slice Aq m3 cq ∧ Hid (Rows wx rBar Aq m3 cq L3) ∧ Hid (Past s3 wx))
                case first =>
                  cases hcase : (b1 && b2 && decide (c2 ≤ 0)) with
                  | false =>
                    obtain ⟨hl0, hp0⟩ := N3.out hcase
                    have hm0 : m3 = 0 := by rw [← HM3.out, hl0]; rfl
                    subst hp0
                    have HLZ := Lib.hid hl0
                    have HMZ := Lib.hid hm0
                    clear hl0 hm0
                    try rw [hcase]
                    go_wp2_with fail
                    go_meet
                    case rel => exact ⟨rfl, none, 0, by rw [HMZ.out], by rw [HMZ.out, HLZ.out]; exact Rows.nil _ _ _ _ (by omega), Past.refl _⟩
                  | true =>
                    obtain ⟨hp0, CY⟩ := Y3.out hcase
                    subst hp0
                    have CYH := Lib.hid CY
                    clear CY
                    try rw [hcase]
                    go_wp2_with fail
                    refine (CYH.out _ Us3.out).mono ?_
                    rintro e wy ⟨hpy, vy, rfl, hoy⟩
                    obtain ⟨Ay, cy, rfl, hry⟩ := hoy.reads
                    rw [HM3.out] at hry ⊢
                    have HRY := Lib.hid hry
                    have HPY := Lib.hid hpy
                    clear hry hpy hoy
                    go_wp2_with fail
                    go_meet
                    case rel => exact ⟨rfl, Ay, cy, rfl, HRY.out, HPY.out⟩
                case rest => as_aux_lemma =>
                obtain ⟨rfl, E3, j3, rfl, RBH, HCU⟩ := hcut
                obtain ⟨t3, hw⟩ : ∃ x, x = wc := ⟨_, rfl⟩
                subst hw
                have RB3t3 := RBH
                have Ut3 := Lib.hid (Us3.out.trans HCU.out)
                have RA1t3 := Lib.hid (RA1s3.out.past HCU.out)
                have RA2t3 := Lib.hid (RA2s3.out.past HCU.out)
                have RA3t3 := Lib.hid (RA3s3.out.past HCU.out)
                have RA4t3 := Lib.hid (RA4s3.out.past HCU.out)
                have RA5t3 := Lib.hid (RA5s3.out.past HCU.out)
                have RB1t3 := Lib.hid (RB1s3.out.past HCU.out)
                have RB2t3 := Lib.hid (RB2s3.out.past HCU.out)
                clear HCU RBH
                go_wp2_with fail
                refine (V2.out _).mono ?_
                rintro e s4 ⟨hp, rfl⟩
                have Us4 := Lib.hid (Ut3.out.trans hp)
                have RA1s4 := Lib.hid (RA1t3.out.past hp)
                have RA2s4 := Lib.hid (RA2t3.out.past hp)
                have RA3s4 := Lib.hid (RA3t3.out.past hp)
                have RA4s4 := Lib.hid (RA4t3.out.past hp)
                have RA5s4 := Lib.hid (RA5t3.out.past hp)
                have RB1s4 := Lib.hid (RB1t3.out.past hp)
                have RB2s4 := Lib.hid (RB2t3.out.past hp)
                have RB3s4 := Lib.hid (RB3t3.out.past hp)
                clear hp
                go_upto_if 141 with fail
                go_cut [27, 32] (fun v27 v32 wx => v27 = .int .i64 p4 ∧ ∃ Aq cq, v32 = .slice Aq m4 cq ∧ Hid (Rows wx rBar Aq m4 cq L4) ∧ Hid (Past s4 wx))
                case first =>
                  cases b2 with
                  | false =>
                    obtain ⟨hl0, hp0⟩ := N4.out rfl
                    have hm0 : m4 = 0 := by rw [← HM4.out, hl0]; rfl
                    subst hp0
                    have HLZ := Lib.hid hl0
                    have HMZ := Lib.hid hm0
                    clear hl0 hm0
                    go_wp2_with fail
                    go_meet
                    case rel => exact ⟨rfl, none, 0, by rw [HMZ.out], by rw [HMZ.out, HLZ.out]; exact Rows.nil _ _ _ _ (by omega), Past.refl _⟩
                  | true =>
                    obtain ⟨hp0, CY⟩ := Y4.out rfl
                    subst hp0
                    have CYH := Lib.hid CY
                    clear CY
                    go_wp2_with fail
                    refine (CYH.out _ Us4.out).mono ?_
                    rintro e wy ⟨hpy, vy, rfl, hoy⟩
                    obtain ⟨Ay, cy, rfl, hry⟩ := hoy.reads
                    rw [HM4.out] at hry ⊢
                    have HRY := Lib.hid hry
                    have HPY := Lib.hid hpy
                    clear hry hpy hoy
                    go_wp2_with fail
                    go_meet
                    case rel => exact ⟨rfl, Ay, cy, rfl, HRY.out, HPY.out⟩
                case rest => as_aux_lemma =>
                obtain ⟨rfl, E4, j4, rfl, RBH, HCU⟩ := hcut
                obtain ⟨t4, hw⟩ : ∃ x, x = wc := ⟨_, rfl⟩
                subst hw
                have RB4t4 := RBH
                have Ut4 := Lib.hid (Us4.out.trans HCU.out)
                have RA1t4 := Lib.hid (RA1s4.out.past HCU.out)
                have RA2t4 := Lib.hid (RA2s4.out.past HCU.out)
                have RA3t4 := Lib.hid (RA3s4.out.past HCU.out)
                have RA4t4 := Lib.hid (RA4s4.out.past HCU.out)
                have RA5t4 := Lib.hid (RA5s4.out.past HCU.out)
                have RB1t4 := Lib.hid (RB1s4.out.past HCU.out)
                have RB2t4 := Lib.hid (RB2s4.out.past HCU.out)
                have RB3t4 := Lib.hid (RB3s4.out.past HCU.out)
                clear HCU RBH
                have VK : Hid (∀ w', Past w w' → Calls Tryz.prog 16 #[.slice B m d] w' fun e w'' => Past w' w'' ∧ e = .returned (.int .i64 ek)) := fun w' hp => by rw [← HB.out.2.2.2.2]; exact ref_checkG B m d ks w' (HY.out.past hp) HKM.out
                go_wp2_with fail
                refine (VK.out _ (HW.out.trans Ut4.out)).mono ?_
                rintro e s5 ⟨hp, rfl⟩
                have Us5 := Lib.hid (Ut4.out.trans hp)
                have RA1s5 := Lib.hid (RA1t4.out.past hp)
                have RA2s5 := Lib.hid (RA2t4.out.past hp)
                have RA3s5 := Lib.hid (RA3t4.out.past hp)
                have RA4s5 := Lib.hid (RA4t4.out.past hp)
                have RA5s5 := Lib.hid (RA5t4.out.past hp)
                have RB1s5 := Lib.hid (RB1t4.out.past hp)
                have RB2s5 := Lib.hid (RB2t4.out.past hp)
                have RB3s5 := Lib.hid (RB3t4.out.past hp)
                have RB4s5 := Lib.hid (RB4t4.out.past hp)
                clear hp
                have HEL := Lib.hid el_bar
                by_cases hek : ek = 0
                · as_aux_lemma =>
                  obtain ⟨hp0, CY⟩ := Y5.out hek
                  have CYH := Lib.hid CY
                  subst hp0 hek
                  clear CY
                  go_wp2_with (first | (at_builtin; refine wpList_appR HEL.out (OwnS.made0 (Past.refl s5) rBar 94) rfl rfl rfl Ax nx cx rfl (HRX.out.past (Us5.out.alloc _)) (by simp; omega) ?_; intro v7 w7 hown7 hp7) | (at_builtin; refine wpList_appR HEL.out hown7 rfl rfl rfl B m d rfl (HY.out.past (HW.out.trans (Us5.out.trans hp7))) (by have := HBL.out; have := HN.out; simp; omega) ?_; intro v8 w8 hown8 hp8))
                  have HO8 : Hid (OwnS s5 w8 rBar 94 v8 (bs ++ ks)) := by have h := hown8; rw [List.nil_append] at h; exact h
                  obtain ⟨A8, c8, rfl, hr8⟩ := HO8.out.reads
                  obtain ⟨n8, hn8⟩ : ∃ z, (bs ++ ks).length = z := ⟨_, rfl⟩
                  have HN8 : Hid (n8 ≤ 100) := by show _ ≤ _; rw [← hn8, List.length_append, HBL.out, HYL.out]; have := HN.out; omega
                  rw [hn8] at hr8 ⊢
                  have HR8 := Lib.hid hr8
                  have P8 := Lib.hid HO8.out.2
                  clear hown7 hown8 hp7 hp8 hr8 hn8 HO8
                  go_wp2_with fail
                  refine (CYH.out _ A8 n8 c8 HR8.out HN8.out).mono ?_
                  rintro e w10 ⟨hp10, v10, rfl, ho10⟩
                  obtain ⟨E5, j5, rfl, hr10⟩ := ho10.reads
                  rw [HM5.out] at hr10 ⊢
                  have RB5v := Lib.hid hr10
                  have PV := Lib.hid (P8.out.trans hp10)
                  clear hp10 ho10 hr10
                  have RA1v := Lib.hid (RA1s5.out.past PV.out)
                  have RA2v := Lib.hid (RA2s5.out.past PV.out)
                  have RA3v := Lib.hid (RA3s5.out.past PV.out)
                  have RA4v := Lib.hid (RA4s5.out.past PV.out)
                  have RA5v := Lib.hid (RA5s5.out.past PV.out)
                  have RB1v := Lib.hid (RB1s5.out.past PV.out)
                  have RB2v := Lib.hid (RB2s5.out.past PV.out)
                  have RB3v := Lib.hid (RB3s5.out.past PV.out)
                  have RB4v := Lib.hid (RB4s5.out.past PV.out)
                  have Uv := Lib.hid (Us5.out.trans PV.out)
                  go_wp2_with fail
                  refine (ref_same D1 E1 m1 g1 j1 L1 _ (RA1v.out) (RB1v.out) HLL1.out).mono ?_
                  rintro e x1 ⟨hx1, rfl⟩
                  have F1 := Lib.hid (hx1)
                  clear hx1
                  go_wp2_with fail
                  refine (ref_same D2 E2 m2 g2 j2 L2 _ (RA2v.out.past F1.out) (RB2v.out.past F1.out) HLL2.out).mono ?_
                  rintro e x2 ⟨hx2, rfl⟩
                  have F2 := Lib.hid (F1.out.trans hx2)
                  clear hx2
                  go_wp2_with fail
                  refine (ref_same D3 E3 m3 g3 j3 L3 _ (RA3v.out.past F2.out) (RB3v.out.past F2.out) HLL3.out).mono ?_
                  rintro e x3 ⟨hx3, rfl⟩
                  have F3 := Lib.hid (F2.out.trans hx3)
                  clear hx3
                  go_wp2_with fail
                  refine (ref_same D4 E4 m4 g4 j4 L4 _ (RA4v.out.past F3.out) (RB4v.out.past F3.out) HLL4.out).mono ?_
                  rintro e x4 ⟨hx4, rfl⟩
                  have F4 := Lib.hid (F3.out.trans hx4)
                  clear hx4
                  go_wp2_with fail
                  refine (ref_same D5 E5 m5 g5 j5 L5 _ (RA5v.out.past F4.out) (RB5v.out.past F4.out) HLL5.out).mono ?_
                  rintro e x5 ⟨hx5, rfl⟩
                  have F5 := Lib.hid (F4.out.trans hx5)
                  clear hx5
                  go_wp2_with fail
                  go_roundg (2 - (i + 1))
                  case measure => have := HG.out; omega
                  case rel => exact ⟨i + 1, by go_num, by omega, rfl, HP.out.trans (Uv.out.trans F5.out)⟩
                · as_aux_lemma =>
                  obtain ⟨hl0, hp0⟩ := N5.out hek
                  have hm0 : m5 = 0 := by rw [← HM5.out, hl0]; rfl
                  subst hp0 hl0 hm0
                  have hekb := beq_eq_false_iff_ne.2 hek
                  go_wp2_with fail
                  refine (ref_same D1 E1 m1 g1 j1 L1 _ (RA1s5.out) (RB1s5.out) HLL1.out).mono ?_
                  rintro e x1 ⟨hx1, rfl⟩
                  have F1 := Lib.hid (hx1)
                  clear hx1
                  go_wp2_with fail
                  refine (ref_same D2 E2 m2 g2 j2 L2 _ (RA2s5.out.past F1.out) (RB2s5.out.past F1.out) HLL2.out).mono ?_
                  rintro e x2 ⟨hx2, rfl⟩
                  have F2 := Lib.hid (F1.out.trans hx2)
                  clear hx2
                  go_wp2_with fail
                  refine (ref_same D3 E3 m3 g3 j3 L3 _ (RA3s5.out.past F2.out) (RB3s5.out.past F2.out) HLL3.out).mono ?_
                  rintro e x3 ⟨hx3, rfl⟩
                  have F3 := Lib.hid (F2.out.trans hx3)
                  clear hx3
                  go_wp2_with fail
                  refine (ref_same D4 E4 m4 g4 j4 L4 _ (RA4s5.out.past F3.out) (RB4s5.out.past F3.out) HLL4.out).mono ?_
                  rintro e x4 ⟨hx4, rfl⟩
                  have F4 := Lib.hid (F3.out.trans hx4)
                  clear hx4
                  go_wp2_with fail
                  refine (ref_same D5 none 0 g5 0 [] _ (RA5s5.out.past F4.out) ((Rows.nil _ _ _ _ (by omega))) (by omega)).mono ?_
                  rintro e x5 ⟨hx5, rfl⟩
                  have F5 := Lib.hid (F4.out.trans hx5)
                  clear hx5
                  go_wp2_with fail
                  go_roundg (2 - (i + 1))
                  case measure => have := HG.out; omega
                  case rel => exact ⟨i + 1, by go_num, by omega, rfl, HP.out.trans (Us5.out.trans F5.out)⟩
              · as_aux_lemma =>
                have hall := bad_all (s := s) (t := t) (ks := ks) (show checkB bs ≠ 0 by rw [HCK.out]; exact hck0)
                rw [HCK.out, HQ1.out, HQ2.out, HQ3.out, HQ4.out, HQ5.out] at hall
                simp only [Prod.mk.injEq] at hall
                obtain ⟨⟨q1, q2⟩, ⟨q3, q4⟩, ⟨q5, q6⟩, ⟨q7, q8⟩, ⟨q9, q10⟩⟩ := hall
                subst q1 q2 q3 q4 q5 q6 q7 q8 q9 q10
                have hz1 : m1 = 0 := HM1.out.symm
                subst hz1
                have hz2 : m2 = 0 := HM2.out.symm
                subst hz2
                have hz3 : m3 = 0 := HM3.out.symm
                subst hz3
                have hz4 : m4 = 0 := HM4.out.symm
                subst hz4
                have hz5 : m5 = 0 := HM5.out.symm
                subst hz5
                have hckb := beq_eq_false_iff_ne.2 hck0
                go_wp2_with fail
                refine (ref_same D1 none 0 g1 0 [] _ (RA1u5.out) ((Rows.nil _ _ _ _ (by omega))) (by omega)).mono ?_
                rintro e x1 ⟨hx1, rfl⟩
                have F1 := Lib.hid (hx1)
                clear hx1
                go_wp2_with fail
                refine (ref_same D2 none 0 g2 0 [] _ (RA2u5.out.past F1.out) ((Rows.nil _ _ _ _ (by omega))) (by omega)).mono ?_
                rintro e x2 ⟨hx2, rfl⟩
                have F2 := Lib.hid (F1.out.trans hx2)
                clear hx2
                go_wp2_with fail
                refine (ref_same D3 none 0 g3 0 [] _ (RA3u5.out.past F2.out) ((Rows.nil _ _ _ _ (by omega))) (by omega)).mono ?_
                rintro e x3 ⟨hx3, rfl⟩
                have F3 := Lib.hid (F2.out.trans hx3)
                clear hx3
                go_wp2_with fail
                refine (ref_same D4 none 0 g4 0 [] _ (RA4u5.out.past F3.out) ((Rows.nil _ _ _ _ (by omega))) (by omega)).mono ?_
                rintro e x4 ⟨hx4, rfl⟩
                have F4 := Lib.hid (F3.out.trans hx4)
                clear hx4
                go_wp2_with fail
                refine (ref_same D5 none 0 g5 0 [] _ (RA5u5.out.past F4.out) ((Rows.nil _ _ _ _ (by omega))) (by omega)).mono ?_
                rintro e x5 ⟨hx5, rfl⟩
                have F5 := Lib.hid (F4.out.trans hx5)
                clear hx5
                go_wp2_with fail
                go_roundg (2 - (i + 1))
                case measure => have := HG.out; omega
                case rel => exact ⟨i + 1, by go_num, by omega, rfl, HP.out.trans (U5.out.trans F5.out)⟩
            · have hi2 : i = 2 := by omega
              subst hi2
              go_wp2_with fail
              refine (law_awake _).mono ?_
              rintro e w9 ⟨hp9, rfl⟩
              go_wp2
              go_ret
              exact ⟨((P3.out.alloc _).trans HP.out).trans hp9, rfl⟩

end Go.Proofs.YtdcjibjldfjllaaGreat
