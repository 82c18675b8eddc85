/- barcode.Dim, Rank, Betti, Total at any length. -/
import Derived.Test.YtdcjibjldfjllaaGreatPGyi
import Derived.Test.YtdcjibjldfjllaaGreatPGr
set_option linter.unusedVariables false
set_option linter.unusedSimpArgs false
namespace Go.Proofs.YtdcjibjldfjllaaGreat
open Go.RowKit

set_option maxRecDepth 100000 in
set_option maxHeartbeats 4000000 in
theorem bar_dim2 (A : Option Addr) (n c : Nat) (bs : List Bar) (d : Int) (w : World) (hx : Rows w rBar A n c bs) (hf : ∀ b ∈ bs, b.fit) (hn : n ≤ 1000000) :
    Calls Tryz.prog 53 #[.slice A n c, .int .i64 d] w fun e w' => Past w w' ∧ ∃ v, e = .returned (.tuple #[v, .int .i64 (dimB bs d).2]) ∧ OwnS w w' rBar 94 v (dimB bs d).1 ∧ ∀ b ∈ (dimB bs d).1, b.fit := by
  have HX := Lib.hid hx
  have HF := Lib.hid hf
  have HN := Lib.hid hn
  clear hx hf hn
  have hmf : ∀ (fn : Fn) (first cap : Array Value) (w : World), (Instr.makeFunc fn first cap).run Tryz.prog w = .ok (.func fn first cap) w := fun _ _ _ _ => rfl
  have HD : Hid ((w.alloc (.cells #[.int .i64 d] 3)).cell? ⟨w.heap.size, 0, none⟩ = some (.int .i64 d)) := cell_new1 _ _ _
  obtain ⟨ec, hec⟩ : ∃ x, checkB bs = x := ⟨_, rfl⟩
  have HEC := Lib.hid hec
  clear hec
  by_cases he : ec = 0
  · subst he
    by_cases hd1 : d < 0
    · have t1 : decide (d < 0) = true := decide_eq_true hd1
      have HR : Hid (dimB bs d = ([], 1)) := by unfold dimB; rw [HEC.out]; simp [hd1, Hid]
      go_enter Tryz.func53, Tryz.ntmps53
      go_wp2_with fail
      refine (bar_check A n c bs _ (HX.out.past ((Past.refl _).alloc _)) HF.out).mono ?_
      rintro e w1 ⟨hp1, rfl⟩
      rw [HEC.out]
      have k1 := hp1.cell HD.out
      go_wp2
      go_ret2
      exact ⟨((Past.refl _).alloc _).trans hp1, _, by rw [HR.out]; rfl, by rw [HR.out]; exact OwnS.nil (((Past.refl _).alloc _).trans hp1) _ _, by rw [HR.out]; intro b hb; cases hb⟩
    · have t1 : decide (d < 0) = false := decide_eq_false hd1
      by_cases hd2 : 4 < d
      · have t2 : decide (4 < d) = true := decide_eq_true hd2
        have HR : Hid (dimB bs d = ([], 1)) := by unfold dimB; rw [HEC.out]; simp [hd2, Hid]
        go_enter Tryz.func53, Tryz.ntmps53
        go_wp2_with fail
        refine (bar_check A n c bs _ (HX.out.past ((Past.refl _).alloc _)) HF.out).mono ?_
        rintro e w1 ⟨hp1, rfl⟩
        rw [HEC.out]
        have k1 := hp1.cell HD.out
        go_wp2
        go_ret2
        exact ⟨((Past.refl _).alloc _).trans hp1, _, by rw [HR.out]; rfl, by rw [HR.out]; exact OwnS.nil (((Past.refl _).alloc _).trans hp1) _ _, by rw [HR.out]; intro b hb; cases hb⟩
      · have t2 : decide (4 < d) = false := decide_eq_false hd2
        have HR : Hid (dimB bs d = chgAll [dimChg d] [] bs) := by unfold dimB; rw [HEC.out]; simp [hd1, hd2, Hid]
        go_enter Tryz.func53, Tryz.ntmps53
        go_wp2_with fail
        refine (bar_check A n c bs _ (HX.out.past ((Past.refl _).alloc _)) HF.out).mono ?_
        rintro e w1 ⟨hp1, rfl⟩
        rw [HEC.out]
        have k1 := hp1.cell HD.out
        have K1 := Lib.hid k1
        have HP1 : Hid (Past w w1) := ((Past.refl _).alloc _).trans hp1
        clear hp1
        go_wp2_with fail
        refine (bar_changed2 (fun _ => okBar) okBar (fun b h => h.1) A _ n c 1 1 bs [.func (.func 114) #[] #[.pointer (some ⟨w.heap.size, 0, none⟩)]] [dimChg d] _ (HX.out.past (HP1.out.alloc _)) (check_okBar HEC.out HF.out) (fun b h => h) HN.out (sortOk_any (fun b h => h) (by have := HN.out; omega)) rfl rfl (by omega) (fun _ => ⟨_, _, rfl, ?_⟩) ?_).mono ?_
        · intro j hj
          match j, hj with
          | 0, _ => exact cell_new1 _ _ _
        · intro j hj _
          match j, hj with
          | 0, _ => exact (dim_chg _ _ _ (((Past.refl _).alloc _).cell K1.out)).two (fun b h => ⟨h.2.1, h.2.2⟩)
        · rintro e w2 ⟨hp2, v, rfl, hown, hfit⟩
          have HOW : Hid (Past w w2 ∧ OwnS w w2 rBar 94 v (chgAll [dimChg d] [] bs).1 ∧ ∀ b ∈ (chgAll [dimChg d] [] bs).1, b.fit) := ⟨(HP1.out.alloc _).trans hp2, hown.low (HP1.out.alloc _), fun b hb => (hfit b hb).1⟩
          clear hp2 hown hfit
          go_wp2
          go_ret2
          exact ⟨HOW.out.1, v, by rw [HR.out]; rfl, by rw [HR.out]; exact HOW.out.2.1, by rw [HR.out]; exact HOW.out.2.2⟩
  · have HR : Hid (dimB bs d = ([], ec)) := by unfold dimB; rw [HEC.out]; simp [he, Hid]
    have hb : (ec != 0) = true := by simp [he]
    go_enter Tryz.func53, Tryz.ntmps53
    go_wp2_with fail
    refine (bar_check A n c bs _ (HX.out.past ((Past.refl _).alloc _)) HF.out).mono ?_
    rintro e w1 ⟨hp1, rfl⟩
    rw [HEC.out]
    go_wp2
    go_ret2
    exact ⟨((Past.refl _).alloc _).trans hp1, _, by rw [HR.out]; rfl, by rw [HR.out]; exact OwnS.nil (((Past.refl _).alloc _).trans hp1) _ _, by rw [HR.out]; intro b hb; cases hb⟩

set_option maxRecDepth 100000 in
set_option maxHeartbeats 4000000 in
theorem bar_rank2 (A : Option Addr) (n c : Nat) (bs : List Bar) (d : Int) (s t : ByteArray) (w : World) (hx : Rows w rBar A n c bs) (hf : ∀ b ∈ bs, b.fit) (hs : s.size ≤ 100000000) (ht : t.size ≤ 100000000) (hn : n ≤ 1000000) :
    Calls Tryz.prog 28 #[.slice A n c, .int .i64 d, .string s, .string t] w fun e w' => Past w w' ∧ e = .returned (.tuple #[.int .i64 (rankB bs d s t).1, .int .i64 (rankB bs d s t).2]) := by
  have HX := Lib.hid hx
  have HL := Lib.hid hx.len
  have HF := Lib.hid hf
  have HS := Lib.hid hs
  have HT := Lib.hid ht
  have HN := Lib.hid hn
  clear hx hf hs ht hn
  obtain ⟨own, hown⟩ : ∃ x, (dimB bs d).1 = x := ⟨_, rfl⟩
  obtain ⟨er, her⟩ : ∃ x, (dimB bs d).2 = x := ⟨_, rfl⟩
  have HLEN : Hid (own.length ≤ 1000000) := by
    have h1 := dimB_len bs d
    have := HL.out
    have := HN.out
    rw [hown] at h1
    unfold Hid
    omega
  have HOWN := Lib.hid hown
  have HER := Lib.hid her
  have HRK : Hid (rankB bs d s t = if er ≠ 0 then (0, er) else if okV (byt s) = false ∨ okV (byt t) = false ∨ 0 < cmpT (byt s) (byt t) then (0, 1) else (((own.countP (covB s t) : Nat) : Int), 0)) := by unfold rankB; rw [hown, her]; exact rfl
  clear hown her
  by_cases h0 : er = 0
  · subst h0
    obtain ⟨v1, hv1⟩ : ∃ x, okV (byt s) = x := ⟨_, rfl⟩
    cases v1 with
    | false =>
      have HR : Hid (rankB bs d s t = (0, 1)) := by show _ = _; rw [HRK.out]; simp [hv1]
      go_enter Tryz.func28, Tryz.ntmps28
      go_wp2_with fail
      refine (bar_dim2 A n c bs d _ HX.out HF.out HN.out).mono ?_
      rintro e w1 ⟨hp1, v, rfl, hov, hof⟩
      rw [HER.out]
      go_wp2_with (first | (go_at_call 72; (with_reducible refine (ratio_valid s _ HS.out).mono ?_); rintro e w2 ⟨hp2, rfl⟩))
      go_ret2
      exact ⟨hp1.trans hp2, by rw [HR.out]; rfl⟩
    | true =>
      obtain ⟨v2, hv2⟩ : ∃ x, okV (byt t) = x := ⟨_, rfl⟩
      cases v2 with
      | false =>
        have HR : Hid (rankB bs d s t = (0, 1)) := by show _ = _; rw [HRK.out]; simp [hv2]
        go_enter Tryz.func28, Tryz.ntmps28
        go_wp2_with fail
        refine (bar_dim2 A n c bs d _ HX.out HF.out HN.out).mono ?_
        rintro e w1 ⟨hp1, v, rfl, hov, hof⟩
        rw [HER.out]
        go_wp2_with (first | (go_at_call 72; first | ((with_reducible refine (ratio_valid s _ HS.out).mono ?_); rintro e w2 ⟨hp2, rfl⟩; rw [hv1]) | ((with_reducible refine (ratio_valid t _ HT.out).mono ?_); rintro e w3 ⟨hp3, rfl⟩; rw [hv2])))
        go_ret2
        exact ⟨(hp1.trans hp2).trans hp3, by rw [HR.out]; rfl⟩
      | true =>
        obtain ⟨c2, hc2⟩ : ∃ x, cmpT (byt s) (byt t) = x := ⟨_, rfl⟩
        have HC2 := Lib.hid hc2
        by_cases hlt : 0 < c2
        · have HR : Hid (rankB bs d s t = (0, 1)) := by show _ = _; rw [HRK.out]; simp [hc2, hlt]
          clear hc2
          go_enter Tryz.func28, Tryz.ntmps28
          go_wp2_with fail
          refine (bar_dim2 A n c bs d _ HX.out HF.out HN.out).mono ?_
          rintro e w1 ⟨hp1, v, rfl, hov, hof⟩
          rw [HER.out]
          go_wp2_with (first | (go_at_call 79; refine (ratio_Cmp s t _ HS.out HT.out).mono ?_; rintro e w4 ⟨hp4, rfl⟩; rw [HC2.out]) | (go_at_call 72; first | ((with_reducible refine (ratio_valid s _ HS.out).mono ?_); rintro e w2 ⟨hp2, rfl⟩; rw [hv1]) | ((with_reducible refine (ratio_valid t _ HT.out).mono ?_); rintro e w3 ⟨hp3, rfl⟩; rw [hv2])))
          go_ret2
          exact ⟨((hp1.trans hp2).trans hp3).trans hp4, by rw [HR.out]; rfl⟩
        · have HR : Hid (rankB bs d s t = (((own.countP (covB s t) : Nat) : Int), 0)) := by show _ = _; rw [HRK.out]; simp [hc2, hlt, hv1, hv2]
          clear hc2
          go_enter Tryz.func28, Tryz.ntmps28
          go_wp2_with fail
          refine (bar_dim2 A n c bs d _ HX.out HF.out HN.out).mono ?_
          rintro e w1 ⟨hp1, v, rfl, hov, hof⟩
          rw [HOWN.out] at hov hof
          rw [HER.out]
          obtain ⟨A', c', rfl, hrows⟩ := hov.reads
          have HRO := Lib.hid hrows
          have HOF := Lib.hid hof
          clear hov hof hrows
          go_wp2_with (first | (go_at_call 79; refine (ratio_Cmp s t _ HS.out HT.out).mono ?_; rintro e w4 ⟨hp4, rfl⟩; rw [HC2.out]) | (go_at_call 72; first | ((with_reducible refine (ratio_valid s _ HS.out).mono ?_); rintro e w2 ⟨hp2, rfl⟩; rw [hv1]) | ((with_reducible refine (ratio_valid t _ HT.out).mono ?_); rintro e w3 ⟨hp3, rfl⟩; rw [hv2])) | (go_at_call 87; refine (bar_cover A' own.length c' own s t _ (HRO.out.past ((hp2.trans hp3).trans hp4)) HOF.out HS.out HT.out (by have := HLEN.out; omega)).mono ?_; rintro e w5 ⟨hp5, rfl⟩))
          go_ret2
          exact ⟨(((hp1.trans hp2).trans hp3).trans hp4).trans hp5, by rw [HR.out]; rfl⟩
  · have HR : Hid (rankB bs d s t = (0, er)) := by show _ = _; rw [HRK.out, if_pos h0]
    have hb : (er != 0) = true := by simp [h0]
    go_enter Tryz.func28, Tryz.ntmps28
    go_wp2_with fail
    refine (bar_dim2 A n c bs d _ HX.out HF.out HN.out).mono ?_
    rintro e w1 ⟨hp1, v, rfl, hov, hof⟩
    rw [HER.out]
    go_wp2
    go_ret2
    exact ⟨hp1, by rw [HR.out]; rfl⟩

theorem bar_betti2 (A : Option Addr) (n c : Nat) (bs : List Bar) (d : Int) (t : ByteArray) (w : World) (hx : Rows w rBar A n c bs) (hf : ∀ b ∈ bs, b.fit) (ht : t.size ≤ 100000000) (hn : n ≤ 1000000) :
    Calls Tryz.prog 27 #[.slice A n c, .int .i64 d, .string t] w fun e w' => Past w w' ∧ e = .returned (.tuple #[.int .i64 (rankB bs d t t).1, .int .i64 (rankB bs d t t).2]) := by
  have HR := Lib.hid (bar_rank2 A n c bs d t t w hx hf ht ht hn)
  clear hx hf ht hn
  go_enter Tryz.func27, Tryz.ntmps27
  go_wp2_with fail
  refine HR.out.mono ?_
  rintro e w1 ⟨hp1, rfl⟩
  go_wp2
  go_ret2
  exact ⟨hp1, rfl⟩

set_option maxRecDepth 100000 in
set_option maxHeartbeats 8000000 in
theorem bar_total2 (A0 : Option Addr) (n0 c0 : Nat) (bs : List Bar) (d0 : Int) (w : World) (hx : Rows w rBar A0 n0 c0 bs) (hf : ∀ b ∈ bs, b.fit) (hn : n0 ≤ 1000000)
    (hl : ∀ i, i ≤ (dimB bs d0).1.length → lenQ (sumB ((dimB bs d0).1.take i)) < 8589934592) (hl2 : ∀ i (h : i < (dimB bs d0).1.length), lenQ (sumB ((dimB bs d0).1.take i) + valR (byt ((dimB bs d0).1[i]).y)) < 8589934592) :
    Calls Tryz.prog 35 #[.slice A0 n0 c0, .int .i64 d0] w fun e w' => Past w w' ∧ e = .returned (.tuple #[.string (totalB bs d0).1, .int .i64 (totalB bs d0).2]) := by
  have HX := Lib.hid hx
  have HL := Lib.hid hx.len
  have HF := Lib.hid hf
  have HN := Lib.hid hn
  have HLN := Lib.hid hl
  have HLN2 := Lib.hid hl2
  clear hx hf hn hl hl2
  have HD := Lib.hid (bar_dim2 A0 n0 c0 bs d0 w HX.out HF.out HN.out)
  have HLD := Lib.hid (dimB_len bs d0)
  obtain ⟨own, hown⟩ : ∃ x, (dimB bs d0).1 = x := ⟨_, rfl⟩
  obtain ⟨er, her⟩ : ∃ x, (dimB bs d0).2 = x := ⟨_, rfl⟩
  have HTB : Hid (totalB bs d0 = if er ≠ 0 then (⟨#[]⟩, er) else if longQ (sumB own) = true then (⟨#[]⟩, 3) else (txt (rtx (sumB own)), 0)) := by unfold totalB; rw [hown, her]; exact rfl
  rw [hown, her] at HD
  rw [hown] at HLN HLN2 HLD
  clear hown her
  by_cases h0 : er = 0
  · subst h0
    obtain ⟨lq, hlq⟩ : ∃ x, longQ (sumB own) = x := ⟨_, rfl⟩
    have HLQ := Lib.hid hlq
    clear hlq
    go_enter Tryz.func35, Tryz.ntmps35
    go_wp2_with fail
    refine HD.out.mono ?_
    rintro e w1 ⟨hp1, v, rfl, hov, hof⟩
    obtain ⟨A', c', rfl, hrows⟩ := hov.reads
    have HRO := Lib.hid hrows
    have HOF := Lib.hid hof
    have HP1 := Lib.hid hp1
    have HON : Hid (own.length ≤ 1000000) := by have := HLD.out; have := HL.out; have := HN.out; unfold Hid; omega
    clear hov hof hrows hp1
    have HZ0 : Hid (QAt (w1.alloc (.cells #[.bool false, .slice none 0 0, .bool false, .slice none 0 0] 131)) w1.heap.size false none 0 0 false none 0 0) := by
      unfold Hid QAt
      simp [go_sem]
    go_wp2_with fail
    go_loopg [22] own.length (fun gg iv wr => ∃ (i : Nat) (s : Bool) (A : Option Addr) (n c : Nat) (t : Bool) (B : Option Addr) (m d : Nat) (q : Rat), iv = .int .i64 i ∧ i ≤ own.length ∧ Hid (gg = own.length - i) ∧ Hid (sumB (own.take i) = q) ∧ Hid (QAt wr w1.heap.size s A n c t B m d) ∧ Hid (RQ wr s A n c t B m d q) ∧ Hid (Past w1 wr))
    case atStart => exact ⟨0, _, _, _, _, _, _, _, _, 0, rfl, Nat.zero_le _, rfl, rfl, HZ0, RQ.zero _, (Past.refl _).alloc _⟩
    case round =>
      clear HZ0
      obtain ⟨i, s, A, n, c, t, B, m, d, q, rfl, hi, HG, HQS, HZ, HQ, HP⟩ := hrel
      have hon := HON.out
      by_cases hin : i < own.length
      · obtain ⟨b1, o1, rfl, hc1⟩ := HRO.out.bar (by omega)
        have hbi := (hc1 i hin).past HP.out
        obtain ⟨b, hbe⟩ : ∃ b, own[i] = b := ⟨_, rfl⟩
        rw [hbe] at hbi
        have HFIT : Hid b.fit := by rw [← hbe]; exact HOF.out _ (List.getElem_mem hin)
        have HST : Hid (sumB (own.take (i + 1)) = sumStep q b) := by show _ = _; rw [sumB_take hin hbe, HQS.out]
        have HL1 : Hid (lenQ q < 8589934592) := by have := HLN.out i hi; rw [HQS.out] at this; exact this
        have HLX : Hid (lenQ (valR (byt b.x)) < 8589934592) := by have h1 := lenQ_valR (byt b.x); rw [byt_length] at h1; have := HFIT.out.1; unfold Hid; omega
        have HLY : Hid (lenQ (valR (byt b.y)) < 8589934592) := by have h1 := lenQ_valR (byt b.y); rw [byt_length] at h1; have := HFIT.out.2; unfold Hid; omega
        have HL2 : Hid (lenQ (q + valR (byt b.y)) < 8589934592) := by have := HLN2.out i hin; rw [HQS.out, hbe] at this; exact this
        clear hc1 hbe
        obtain ⟨x0, x1, x2⟩ := b
        have HS1 : Hid (x1.size ≤ 100000000) := HFIT.out.1
        have HS2 : Hid (x2.size ≤ 100000000) := HFIT.out.2
        have e0 : wr.cell? ⟨b1, o1 + i * 3, none⟩ = some (.int .i64 x0) := hbi.1
        have e1 : wr.cell? ⟨b1, o1 + i * 3 + 1, none⟩ = some (.string x1) := hbi.2.1
        have e2 : wr.cell? ⟨b1, o1 + i * 3 + 2, none⟩ = some (.string x2) := hbi.2.2
        clear hbi
        have HIE := Lib.hid (inf_eq x2)
        obtain ⟨iv, hiv⟩ : ∃ x, isInf (byt x2) = x := ⟨_, rfl⟩
        have hq1 : (x2.toList == [105, 110, 102]) = iv := by rw [HIE.out, hiv]
        have hq2 : (x2.toList != [105, 110, 102]) = !iv := by unfold bne; rw [hq1]
        have HIV := Lib.hid hiv
        clear hiv
        cases iv with
        | true =>
          have HSS : Hid (sumB (own.take (i + 1)) = q) := by show _ = _; rw [HST.out]; unfold sumStep; rw [if_pos HIV.out]
          go_wp2_with fail
          go_roundg (own.length - (i + 1))
          case measure => have := HG.out; omega
          case rel => exact ⟨i + 1, _, _, _, _, _, _, _, _, q, by go_num, by omega, rfl, HSS.out, HZ.out.past ((Past.refl _).alloc _), HQ.out.past ((Past.refl _).alloc _), HP.out.alloc _⟩
        | false =>
          have HSS : Hid (sumB (own.take (i + 1)) = q + valR (byt x2) - valR (byt x1)) := by show _ = _; rw [HST.out]; unfold sumStep; rw [if_neg (by rw [HIV.out]; simp)]
          obtain ⟨wa, hwa⟩ : ∃ wa, (wr.alloc (.cells #[.int .i64 x0, .string x1, .string x2] 94)) = wa := ⟨_, rfl⟩
          have HPA : Hid (Past wr wa) := by rw [← hwa]; exact (Past.refl _).alloc _
          have f1 : wa.cell? ⟨wr.heap.size, 1, none⟩ = some (.string x1) := by rw [← hwa]; simp [go_sem]
          have f2 : wa.cell? ⟨wr.heap.size, 2, none⟩ = some (.string x2) := by rw [← hwa]; simp [go_sem]
          have F1 := Lib.hid f1
          have F2 := Lib.hid f2
          have FW : Hid ((wr.alloc (.cells #[.int .i64 x0, .string x1, .string x2] 94)).cell? ⟨wr.heap.size, 2, none⟩ = some (.string x2)) := by unfold Hid; simp [go_sem]
          clear f1 f2
          have HZA := Lib.hid (HZ.out.past HPA.out)
          have HQA := Lib.hid (HQ.out.past HPA.out)
          have HWA := Lib.hid hwa
          clear hwa
          go_upto_region 9 with fail
          rw [HWA.out]
          have g1 := F1.out
          have g2 := F2.out
          obtain ⟨⟨z00, y00⟩, ⟨z01, y01⟩, ⟨z02, y02⟩, ⟨z03, y03⟩⟩ := HZA.out
          clear FW
          go_region_with (first
            | (go_at_call 89; ((with_reducible refine (bar_number x2 _ HS2.out).mono ?_)); rintro e v1 ⟨hp1, s1, A1, n1, c1, t1, B1, m1, d1, rfl, hr1⟩; have pw1 : Past wa v1 := Past.trans ((Past.refl wa).drewN _) hp1; have HR1 := Lib.hid hr1; have HPW1 := Lib.hid pw1; clear hr1 hp1; have g11 := pw1.cell g1; obtain ⟨⟨z10, y10⟩, ⟨z11, y11⟩, ⟨z12, y12⟩, ⟨z13, y13⟩⟩ := HZA.out.past pw1; clear pw1)
            | (go_at_call 91; ((with_reducible refine (ratio_add _ _ _ _ _ _ _ _ _ _ _ _ _ _ _ _ q (valR (byt x2)) _ (HQA.out.past HPW1.out) HR1.out ⟨HL1.out, HLY.out⟩).mono ?_)); rintro e v2 ⟨hp2, s2, A2, n2, c2, t2, B2, m2, d2, rfl, hr2⟩; have pw2 : Past wa v2 := Past.trans HPW1.out hp2; have HR2 := Lib.hid hr2; have HPW2 := Lib.hid pw2; clear hr2 hp2; have g21 := pw2.cell g1; obtain ⟨⟨z20, y20⟩, ⟨z21, y21⟩, ⟨z22, y22⟩, ⟨z23, y23⟩⟩ := HZA.out.past pw2; clear pw2)
            | (go_at_call 89; ((with_reducible refine (bar_number x1 _ HS1.out).mono ?_)); rintro e v3 ⟨hp3, s3, A3, n3, c3, t3, B3, m3, d3, rfl, hr3⟩; have pw3 : Past wa v3 := Past.trans HPW2.out hp3; have HR3 := Lib.hid hr3; have HPW3 := Lib.hid pw3; have HR2' := Lib.hid (HR2.out.past hp3); clear hr3 hp3; obtain ⟨⟨z30, y30⟩, ⟨z31, y31⟩, ⟨z32, y32⟩, ⟨z33, y33⟩⟩ := HZA.out.past pw3; clear pw3)
            | (go_at_call 96; ((with_reducible refine (ratio_sub _ _ _ _ _ _ _ _ _ _ _ _ _ _ _ _ (q + valR (byt x2)) (valR (byt x1)) _ HR2'.out HR3.out ⟨HL2.out, HLX.out⟩).mono ?_)); rintro e v4 ⟨hp4, s4, A4, n4, c4, t4, B4, m4, d4, rfl, hr4⟩; have pw4 : Past wa v4 := Past.trans HPW3.out hp4; have HR4 := Lib.hid hr4; have HPW4 := Lib.hid pw4; clear hr4 hp4; obtain ⟨⟨z40, y40⟩, ⟨z41, y41⟩, ⟨z42, y42⟩, ⟨z43, y43⟩⟩ := HZA.out.past pw4; clear pw4))
          all_goals
            have HK := Lib.hid (tot_keep HZA.out HPW4.out HR4.out (HP.out.trans HPA.out) (Nat.le_refl _))
            clear HR1 HR2 HR3 HR4 HPW1 HPW2 HPW3 HPW4 HR2' g1 g2
            go_wp2_with fail
            go_roundg (own.length - (i + 1))
            case measure => have := HG.out; omega
            case rel => exact ⟨i + 1, _, _, _, _, _, _, _, _, _, by go_num, by omega, rfl, HSS.out, HK.out.1, HK.out.2.1, HK.out.2.2⟩
      · have hon := HON.out
        have HQE : Hid (sumB own = q) := by show _ = _; rw [← HQS.out, List.take_of_length_le (by omega)]
        have HL1 : Hid (lenQ q < 8589934592) := by have := HLN.out own.length (Nat.le_refl _); rw [List.take_length, HQE.out] at this; exact this
        rw [HQE.out] at HLQ HTB
        have z0 := HZ.out.1.1
        have z1 := HZ.out.2.1.1
        have z2 := HZ.out.2.2.1.1
        have z3 := HZ.out.2.2.2.1
        cases lq with
        | true =>
          have HR : Hid (totalB bs d0 = (⟨#[]⟩, 3)) := by show _ = _; rw [HTB.out, if_neg (by simp), if_pos HLQ.out]
          go_wp2_with fail
          refine (ratio_long _ _ _ _ _ _ _ _ q _ HQ.out HL1.out).mono ?_
          rintro e w3 ⟨hp3, rfl⟩
          rw [HLQ.out]
          go_wp2
          go_ret2
          exact ⟨(HP1.out.trans HP.out).trans hp3, by rw [HR.out]; rfl⟩
        | false =>
          have HR : Hid (totalB bs d0 = (txt (rtx q), 0)) := by show _ = _; rw [HTB.out, if_neg (by simp), if_neg (by rw [HLQ.out]; simp)]
          go_wp2_with fail
          refine (ratio_long _ _ _ _ _ _ _ _ q _ HQ.out HL1.out).mono ?_
          rintro e w3 ⟨hp3, rfl⟩
          rw [HLQ.out]
          have HP3 := Lib.hid hp3
          have k0 := hp3.cell z0
          have k1 := hp3.cell z1
          have k2 := hp3.cell z2
          have k3 := hp3.cell z3
          clear hp3 z0 z1 z2 z3
          go_wp2_with fail
          refine (ratio_text _ _ _ _ _ _ _ _ q _ (HQ.out.past HP3.out) HL1.out).mono ?_
          rintro e w4 ⟨hp4, rfl⟩
          go_wp2
          go_ret2
          exact ⟨((HP1.out.trans HP.out).trans HP3.out).trans hp4, by rw [HR.out]; rfl⟩
  · have HR : Hid (totalB bs d0 = (⟨#[]⟩, er)) := by show _ = _; rw [HTB.out, if_pos h0]
    have hb : (er != 0) = true := by simp [h0]
    go_enter Tryz.func35, Tryz.ntmps35
    go_wp2_with fail
    refine HD.out.mono ?_
    rintro e w1 ⟨hp1, v, rfl, hov, hof⟩
    go_wp2
    go_ret2
    exact ⟨hp1, by rw [HR.out]; rfl⟩

end Go.Proofs.YtdcjibjldfjllaaGreat
