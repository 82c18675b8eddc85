/- barcode.number, Total. -/
import Derived.Test.YtdcjibjldfjllaaGreatPGo
set_option linter.unusedVariables false
set_option linter.unusedSimpArgs false
namespace Go.Proofs.YtdcjibjldfjllaaGreat
open Go.RowKit

set_option maxRecDepth 100000 in
set_option maxHeartbeats 8000000 in
theorem bar_number (s : ByteArray) (w : World) (hs : s.size ≤ 100000000) :
    Calls Tryz.prog 89 #[.string s] w (AnsR (valR (byt s)) w) := by
  have HS := Lib.hid hs
  clear hs
  obtain ⟨wb, hwb⟩ : ∃ wb, (w.alloc (.cells #[.bool false, .slice none 0 0, .bool false, .slice none 0 0] 131)) = wb := ⟨_, rfl⟩
  have HB : Hid ((wb.cell? ⟨w.heap.size, 0, none⟩ = some (.bool false) ∧ wb.frozen? ⟨w.heap.size, 0, none⟩ = false) ∧ (wb.cell? ⟨w.heap.size, 1, none⟩ = some (.slice none 0 0) ∧ wb.frozen? ⟨w.heap.size, 1, none⟩ = false) ∧ (wb.cell? ⟨w.heap.size, 2, none⟩ = some (.bool false) ∧ wb.frozen? ⟨w.heap.size, 2, none⟩ = false) ∧ (wb.cell? ⟨w.heap.size, 3, none⟩ = some (.slice none 0 0) ∧ wb.frozen? ⟨w.heap.size, 3, none⟩ = false)) := by rw [← hwb]; simp [go_sem, Hid]
  have HPB : Hid (Past w wb) := by rw [← hwb]; exact (Past.refl _).alloc _
  have HWB := Lib.hid hwb
  clear hwb
  go_enter Tryz.func89, Tryz.ntmps89
  go_wp2_with fail
  rw [HWB.out]
  refine (num_readRat s _ HS.out).mono ?_
  rintro e w1 ⟨v, rfl, hp1, s1, A1, n1, c1, t1, B1, m1, d1, hv, hr1⟩
  injection hv with hv
  subst hv
  have HR1 := Lib.hid hr1
  have HP1 := Lib.hid hp1
  clear hp1 hr1
  have HPC : Hid (Past wb (w1.alloc (.cells #[.bool s1, .slice A1 n1 c1, .bool t1, .slice B1 m1 d1] 131))) := HP1.out.alloc _
  have HR2 : Hid (RQ (w1.alloc (.cells #[.bool s1, .slice A1 n1 c1, .bool t1, .slice B1 m1 d1] 131)) s1 A1 n1 c1 t1 B1 m1 d1 (valR (byt s))) := HR1.out.past ((Past.refl _).alloc _)
  obtain ⟨r0, g0⟩ := HPC.out.free HB.out.1.1 HB.out.1.2
  obtain ⟨r1, g1⟩ := HPC.out.free HB.out.2.1.1 HB.out.2.1.2
  obtain ⟨r2, g2⟩ := HPC.out.free HB.out.2.2.1.1 HB.out.2.2.1.2
  obtain ⟨r3, g3⟩ := HPC.out.free HB.out.2.2.2.1 HB.out.2.2.2.2
  go_wp2_with fail
  exact bodyPost_ret (v := .agg #[.bool s1, .slice A1 n1 c1, .bool t1, .slice B1 m1 d1]) (by simp [results, Tryz.results89, go_sem, r0, r1, r2, r3]) rfl (AnsR.store (b := w.heap.size) HR2.out HPB.out HPC.out (by omega) (by simp [r0]) (by simp [r1]) (by simp [r2]) (by simp [r3]) _ _ _ _)

/-- Four cells of a rational number that may be written. -/
def QAt (w : World) (z : Nat) (s : Bool) (A : Option Addr) (n c : Nat) (t : Bool) (B : Option Addr) (m d : Nat) : Prop :=
  (w.cell? ⟨z, 0, none⟩ = some (.bool s) ∧ w.frozen? ⟨z, 0, none⟩ = false) ∧ (w.cell? ⟨z, 1, none⟩ = some (.slice A n c) ∧ w.frozen? ⟨z, 1, none⟩ = false) ∧ (w.cell? ⟨z, 2, none⟩ = some (.bool t) ∧ w.frozen? ⟨z, 2, none⟩ = false) ∧ (w.cell? ⟨z, 3, none⟩ = some (.slice B m d) ∧ w.frozen? ⟨z, 3, none⟩ = false)
theorem QAt.past {w w1 : World} {z : Nat} {s : Bool} {A : Option Addr} {n c : Nat} {t : Bool} {B : Option Addr} {m d : Nat} (h : QAt w z s A n c t B m d) (hp : Past w w1) : QAt w1 z s A n c t B m d :=
  ⟨hp.free h.1.1 h.1.2, hp.free h.2.1.1 h.2.1.2, hp.free h.2.2.1.1 h.2.2.1.2, hp.free h.2.2.2.1 h.2.2.2.2⟩
theorem QAt.set {w : World} {z : Nat} {s : Bool} {A : Option Addr} {n c : Nat} {t : Bool} {B : Option Addr} {m d : Nat} (h : QAt w z s A n c t B m d) (s' : Bool) (A' : Option Addr) (n' c' : Nat) (t' : Bool) (B' : Option Addr) (m' d' : Nat) :
    QAt ((((w.setCell ⟨z, 0, none⟩ (.bool s')).setCell ⟨z, 1, none⟩ (.slice A' n' c')).setCell ⟨z, 2, none⟩ (.bool t')).setCell ⟨z, 3, none⟩ (.slice B' m' d')) z s' A' n' c' t' B' m' d' := by
  obtain ⟨⟨a0, b0⟩, ⟨a1, b1⟩, ⟨a2, b2⟩, ⟨a3, b3⟩⟩ := h
  refine ⟨⟨?_, ?_⟩, ⟨?_, ?_⟩, ⟨?_, ?_⟩, ⟨?_, ?_⟩⟩ <;> simp [go_sem, a0, a1, a2, a3, b0, b1, b2, b3]

theorem tot_keep {w1 wa v4 : World} {z : Nat} {s : Bool} {A : Option Addr} {n c : Nat} {t : Bool} {B : Option Addr} {m d : Nat} {s' : Bool} {A' : Option Addr} {n' c' : Nat} {t' : Bool} {B' : Option Addr} {m' d' : Nat} {q : Rat} (hz : QAt wa z s A n c t B m d) (hp : Past wa v4) (hr : RQ v4 s' A' n' c' t' B' m' d' q) (h1 : Past w1 wa) (hb : w1.heap.size ≤ z) :
    QAt ((((v4.setCell ⟨z, 0, none⟩ (.bool s')).setCell ⟨z, 1, none⟩ (.slice A' n' c')).setCell ⟨z, 2, none⟩ (.bool t')).setCell ⟨z, 3, none⟩ (.slice B' m' d')) z s' A' n' c' t' B' m' d' ∧
    RQ ((((v4.setCell ⟨z, 0, none⟩ (.bool s')).setCell ⟨z, 1, none⟩ (.slice A' n' c')).setCell ⟨z, 2, none⟩ (.bool t')).setCell ⟨z, 3, none⟩ (.slice B' m' d')) s' A' n' c' t' B' m' d' q ∧
    Past w1 ((((v4.setCell ⟨z, 0, none⟩ (.bool s')).setCell ⟨z, 1, none⟩ (.slice A' n' c')).setCell ⟨z, 2, none⟩ (.bool t')).setCell ⟨z, 3, none⟩ (.slice B' m' d')) := by
  have k := hz.past hp
  exact ⟨k.set _ _ _ _ _ _ _ _, hr.store4 (by simp [k.1.1]) (by simp [k.2.1.1]) (by simp [k.2.2.1.1]) (by simp [k.2.2.2.1]) _ _ _ _, ((((h1.trans hp).setCell hb _).setCell hb _).setCell hb _).setCell hb _⟩

def sumStep (acc : Rat) (b : Bar) : Rat := if isInf (byt b.y) = true then acc else acc + valR (byt b.y) - valR (byt b.x)
def sumB (l : List Bar) : Rat := l.foldl sumStep 0
/-- What barcode.Total answers. -/
def totalB (bs : List Bar) (d : Int) : ByteArray × Int :=
  if (dimB bs d).2 ≠ 0 then (⟨#[]⟩, (dimB bs d).2) else if longQ (sumB (dimB bs d).1) = true then (⟨#[]⟩, 3) else (txt (rtx (sumB (dimB bs d).1)), 0)
theorem sumB_take {l : List Bar} {i : Nat} {b : Bar} (h : i < l.length) (hb : l[i] = b) : sumB (l.take (i + 1)) = sumStep (sumB (l.take i)) b := by
  unfold sumB
  rw [List.take_succ_eq_append_getElem h, hb, List.foldl_append]; rfl

set_option maxRecDepth 100000 in
set_option maxHeartbeats 8000000 in
theorem bar_total (A0 : Option Addr) (n0 c0 : Nat) (bs : List Bar) (d0 : Int) (w : World) (hx : Rows w rBar A0 n0 c0 bs) (hf : ∀ b ∈ bs, b.fit) (hn : n0 < 20)
    (hl : ∀ i, i ≤ (dimB bs d0).1.length → lenQ (sumB ((dimB bs d0).1.take i)) < 8589934592) (hl2 : ∀ i (h : i < (dimB bs d0).1.length), lenQ (sumB ((dimB bs d0).1.take i) + valR (byt ((dimB bs d0).1[i]).y)) < 8589934592) :
    Calls Tryz.prog 35 #[.slice A0 n0 c0, .int .i64 d0] w fun e w' => Past w w' ∧ e = .returned (.tuple #[.string (totalB bs d0).1, .int .i64 (totalB bs d0).2]) := by
  have HX := Lib.hid hx
  have HL := Lib.hid hx.len
  have HF := Lib.hid hf
  have HN := Lib.hid hn
  have HLN := Lib.hid hl
  have HLN2 := Lib.hid hl2
  clear hx hf hn hl hl2
  have HD := Lib.hid (bar_dim A0 n0 c0 bs d0 w HX.out HF.out HN.out)
  have HLD := Lib.hid (dimB_len bs d0)
  obtain ⟨own, hown⟩ : ∃ x, (dimB bs d0).1 = x := ⟨_, rfl⟩
  obtain ⟨er, her⟩ : ∃ x, (dimB bs d0).2 = x := ⟨_, rfl⟩
  have HTB : Hid (totalB bs d0 = if er ≠ 0 then (⟨#[]⟩, er) else if longQ (sumB own) = true then (⟨#[]⟩, 3) else (txt (rtx (sumB own)), 0)) := by unfold totalB; rw [hown, her]; exact rfl
  rw [hown, her] at HD
  rw [hown] at HLN HLN2 HLD
  clear hown her
  by_cases h0 : er = 0
  · subst h0
    obtain ⟨lq, hlq⟩ : ∃ x, longQ (sumB own) = x := ⟨_, rfl⟩
    have HLQ := Lib.hid hlq
    clear hlq
    go_enter Tryz.func35, Tryz.ntmps35
    go_wp2_with fail
    refine HD.out.mono ?_
    rintro e w1 ⟨hp1, v, rfl, hov, hof⟩
    obtain ⟨A', c', rfl, hrows⟩ := hov.reads
    have HRO := Lib.hid hrows
    have HOF := Lib.hid hof
    have HP1 := Lib.hid hp1
    have HON : Hid (own.length < 20) := by have := HLD.out; have := HL.out; have := HN.out; unfold Hid; omega
    clear hov hof hrows hp1
    have HZ0 : Hid (QAt (w1.alloc (.cells #[.bool false, .slice none 0 0, .bool false, .slice none 0 0] 131)) w1.heap.size false none 0 0 false none 0 0) := by
      unfold Hid QAt
      simp [go_sem]
    go_wp2_with fail
    go_loopg [22] own.length (fun gg iv wr => ∃ (i : Nat) (s : Bool) (A : Option Addr) (n c : Nat) (t : Bool) (B : Option Addr) (m d : Nat) (q : Rat), iv = .int .i64 i ∧ i ≤ own.length ∧ Hid (gg = own.length - i) ∧ Hid (sumB (own.take i) = q) ∧ Hid (QAt wr w1.heap.size s A n c t B m d) ∧ Hid (RQ wr s A n c t B m d q) ∧ Hid (Past w1 wr))
    case atStart => exact ⟨0, _, _, _, _, _, _, _, _, 0, rfl, Nat.zero_le _, rfl, rfl, HZ0, RQ.zero _, (Past.refl _).alloc _⟩
    case round =>
      clear HZ0
      obtain ⟨i, s, A, n, c, t, B, m, d, q, rfl, hi, HG, HQS, HZ, HQ, HP⟩ := hrel
      have hon := HON.out
      by_cases hin : i < own.length
      · obtain ⟨b1, o1, rfl, hc1⟩ := HRO.out.bar (by omega)
        have hbi := (hc1 i hin).past HP.out
        obtain ⟨b, hbe⟩ : ∃ b, own[i] = b := ⟨_, rfl⟩
        rw [hbe] at hbi
        have HFIT : Hid b.fit := by rw [← hbe]; exact HOF.out _ (List.getElem_mem hin)
        have HST : Hid (sumB (own.take (i + 1)) = sumStep q b) := by show _ = _; rw [sumB_take hin hbe, HQS.out]
        have HL1 : Hid (lenQ q < 8589934592) := by have := HLN.out i hi; rw [HQS.out] at this; exact this
        have HLX : Hid (lenQ (valR (byt b.x)) < 8589934592) := by have h1 := lenQ_valR (byt b.x); rw [byt_length] at h1; have := HFIT.out.1; unfold Hid; omega
        have HLY : Hid (lenQ (valR (byt b.y)) < 8589934592) := by have h1 := lenQ_valR (byt b.y); rw [byt_length] at h1; have := HFIT.out.2; unfold Hid; omega
        have HL2 : Hid (lenQ (q + valR (byt b.y)) < 8589934592) := by have := HLN2.out i hin; rw [HQS.out, hbe] at this; exact this
        clear hc1 hbe
        obtain ⟨x0, x1, x2⟩ := b
        have HS1 : Hid (x1.size ≤ 100000000) := HFIT.out.1
        have HS2 : Hid (x2.size ≤ 100000000) := HFIT.out.2
        have e0 : wr.cell? ⟨b1, o1 + i * 3, none⟩ = some (.int .i64 x0) := hbi.1
        have e1 : wr.cell? ⟨b1, o1 + i * 3 + 1, none⟩ = some (.string x1) := hbi.2.1
        have e2 : wr.cell? ⟨b1, o1 + i * 3 + 2, none⟩ = some (.string x2) := hbi.2.2
        clear hbi
        have HIE := Lib.hid (inf_eq x2)
        obtain ⟨iv, hiv⟩ : ∃ x, isInf (byt x2) = x := ⟨_, rfl⟩
        have hq1 : (x2.toList == [105, 110, 102]) = iv := by rw [HIE.out, hiv]
        have hq2 : (x2.toList != [105, 110, 102]) = !iv := by unfold bne; rw [hq1]
        have HIV := Lib.hid hiv
        clear hiv
        cases iv with
        | true =>
          have HSS : Hid (sumB (own.take (i + 1)) = q) := by show _ = _; rw [HST.out]; unfold sumStep; rw [if_pos HIV.out]
          go_wp2_with fail
          go_roundg (own.length - (i + 1))
          case measure => have := HG.out; omega
          case rel => exact ⟨i + 1, _, _, _, _, _, _, _, _, q, by go_num, by omega, rfl, HSS.out, HZ.out.past ((Past.refl _).alloc _), HQ.out.past ((Past.refl _).alloc _), HP.out.alloc _⟩
        | false =>
          have HSS : Hid (sumB (own.take (i + 1)) = q + valR (byt x2) - valR (byt x1)) := by show _ = _; rw [HST.out]; unfold sumStep; rw [if_neg (by rw [HIV.out]; simp)]
          obtain ⟨wa, hwa⟩ : ∃ wa, (wr.alloc (.cells #[.int .i64 x0, .string x1, .string x2] 94)) = wa := ⟨_, rfl⟩
          have HPA : Hid (Past wr wa) := by rw [← hwa]; exact (Past.refl _).alloc _
          have f1 : wa.cell? ⟨wr.heap.size, 1, none⟩ = some (.string x1) := by rw [← hwa]; simp [go_sem]
          have f2 : wa.cell? ⟨wr.heap.size, 2, none⟩ = some (.string x2) := by rw [← hwa]; simp [go_sem]
          have F1 := Lib.hid f1
          have F2 := Lib.hid f2
          have FW : Hid ((wr.alloc (.cells #[.int .i64 x0, .string x1, .string x2] 94)).cell? ⟨wr.heap.size, 2, none⟩ = some (.string x2)) := by unfold Hid; simp [go_sem]
          clear f1 f2
          have HZA := Lib.hid (HZ.out.past HPA.out)
          have HQA := Lib.hid (HQ.out.past HPA.out)
          have HWA := Lib.hid hwa
          clear hwa
          go_upto_region 9 with fail
          rw [HWA.out]
          have g1 := F1.out
          have g2 := F2.out
          obtain ⟨⟨z00, y00⟩, ⟨z01, y01⟩, ⟨z02, y02⟩, ⟨z03, y03⟩⟩ := HZA.out
          clear FW
          go_region_with (first
            | (go_at_call 89; ((with_reducible refine (bar_number x2 _ HS2.out).mono ?_)); rintro e v1 ⟨hp1, s1, A1, n1, c1, t1, B1, m1, d1, rfl, hr1⟩; have pw1 : Past wa v1 := Past.trans ((Past.refl wa).drewN _) hp1; have HR1 := Lib.hid hr1; have HPW1 := Lib.hid pw1; clear hr1 hp1; have g11 := pw1.cell g1; obtain ⟨⟨z10, y10⟩, ⟨z11, y11⟩, ⟨z12, y12⟩, ⟨z13, y13⟩⟩ := HZA.out.past pw1; clear pw1)
            | (go_at_call 91; ((with_reducible refine (ratio_add _ _ _ _ _ _ _ _ _ _ _ _ _ _ _ _ q (valR (byt x2)) _ (HQA.out.past HPW1.out) HR1.out ⟨HL1.out, HLY.out⟩).mono ?_)); rintro e v2 ⟨hp2, s2, A2, n2, c2, t2, B2, m2, d2, rfl, hr2⟩; have pw2 : Past wa v2 := Past.trans HPW1.out hp2; have HR2 := Lib.hid hr2; have HPW2 := Lib.hid pw2; clear hr2 hp2; have g21 := pw2.cell g1; obtain ⟨⟨z20, y20⟩, ⟨z21, y21⟩, ⟨z22, y22⟩, ⟨z23, y23⟩⟩ := HZA.out.past pw2; clear pw2)
            | (go_at_call 89; ((with_reducible refine (bar_number x1 _ HS1.out).mono ?_)); rintro e v3 ⟨hp3, s3, A3, n3, c3, t3, B3, m3, d3, rfl, hr3⟩; have pw3 : Past wa v3 := Past.trans HPW2.out hp3; have HR3 := Lib.hid hr3; have HPW3 := Lib.hid pw3; have HR2' := Lib.hid (HR2.out.past hp3); clear hr3 hp3; obtain ⟨⟨z30, y30⟩, ⟨z31, y31⟩, ⟨z32, y32⟩, ⟨z33, y33⟩⟩ := HZA.out.past pw3; clear pw3)
            | (go_at_call 96; ((with_reducible refine (ratio_sub _ _ _ _ _ _ _ _ _ _ _ _ _ _ _ _ (q + valR (byt x2)) (valR (byt x1)) _ HR2'.out HR3.out ⟨HL2.out, HLX.out⟩).mono ?_)); rintro e v4 ⟨hp4, s4, A4, n4, c4, t4, B4, m4, d4, rfl, hr4⟩; have pw4 : Past wa v4 := Past.trans HPW3.out hp4; have HR4 := Lib.hid hr4; have HPW4 := Lib.hid pw4; clear hr4 hp4; obtain ⟨⟨z40, y40⟩, ⟨z41, y41⟩, ⟨z42, y42⟩, ⟨z43, y43⟩⟩ := HZA.out.past pw4; clear pw4))
          all_goals
            have HK := Lib.hid (tot_keep HZA.out HPW4.out HR4.out (HP.out.trans HPA.out) (Nat.le_refl _))
            clear HR1 HR2 HR3 HR4 HPW1 HPW2 HPW3 HPW4 HR2' g1 g2
            go_wp2_with fail
            go_roundg (own.length - (i + 1))
            case measure => have := HG.out; omega
            case rel => exact ⟨i + 1, _, _, _, _, _, _, _, _, _, by go_num, by omega, rfl, HSS.out, HK.out.1, HK.out.2.1, HK.out.2.2⟩
      · have hon := HON.out
        have HQE : Hid (sumB own = q) := by show _ = _; rw [← HQS.out, List.take_of_length_le (by omega)]
        have HL1 : Hid (lenQ q < 8589934592) := by have := HLN.out own.length (Nat.le_refl _); rw [List.take_length, HQE.out] at this; exact this
        rw [HQE.out] at HLQ HTB
        have z0 := HZ.out.1.1
        have z1 := HZ.out.2.1.1
        have z2 := HZ.out.2.2.1.1
        have z3 := HZ.out.2.2.2.1
        cases lq with
        | true =>
          have HR : Hid (totalB bs d0 = (⟨#[]⟩, 3)) := by show _ = _; rw [HTB.out, if_neg (by simp), if_pos HLQ.out]
          go_wp2_with fail
          refine (ratio_long _ _ _ _ _ _ _ _ q _ HQ.out HL1.out).mono ?_
          rintro e w3 ⟨hp3, rfl⟩
          rw [HLQ.out]
          go_wp2
          go_ret2
          exact ⟨(HP1.out.trans HP.out).trans hp3, by rw [HR.out]; rfl⟩
        | false =>
          have HR : Hid (totalB bs d0 = (txt (rtx q), 0)) := by show _ = _; rw [HTB.out, if_neg (by simp), if_neg (by rw [HLQ.out]; simp)]
          go_wp2_with fail
          refine (ratio_long _ _ _ _ _ _ _ _ q _ HQ.out HL1.out).mono ?_
          rintro e w3 ⟨hp3, rfl⟩
          rw [HLQ.out]
          have HP3 := Lib.hid hp3
          have k0 := hp3.cell z0
          have k1 := hp3.cell z1
          have k2 := hp3.cell z2
          have k3 := hp3.cell z3
          clear hp3 z0 z1 z2 z3
          go_wp2_with fail
          refine (ratio_text _ _ _ _ _ _ _ _ q _ (HQ.out.past HP3.out) HL1.out).mono ?_
          rintro e w4 ⟨hp4, rfl⟩
          go_wp2
          go_ret2
          exact ⟨((HP1.out.trans HP.out).trans HP3.out).trans hp4, by rw [HR.out]; rfl⟩
  · have HR : Hid (totalB bs d0 = (⟨#[]⟩, er)) := by show _ = _; rw [HTB.out, if_pos h0]
    have hb : (er != 0) = true := by simp [h0]
    go_enter Tryz.func35, Tryz.ntmps35
    go_wp2_with fail
    refine HD.out.mono ?_
    rintro e w1 ⟨hp1, v, rfl, hov, hof⟩
    go_wp2
    go_ret2
    exact ⟨hp1, by rw [HR.out]; rfl⟩

end Go.Proofs.YtdcjibjldfjllaaGreat
