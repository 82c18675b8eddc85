/- Division of digits by digits (Knuth's algorithm D). -/
import Derived.Test.YtdcjibjldfjllaaGreatPGc
set_option linter.unusedVariables false
set_option linter.unusedSimpArgs false
namespace Go.Proofs.YtdcjibjldfjllaaGreat
open Go.RowKit

/-- A store into another block of the call's own. -/
theorem Own.other {w0 w : World} {e : TypeId} {k : IntKind} {g n c : Nat} {xs : List Int} (h : Own w0 w e k (.slice (some ⟨g, 0, none⟩) n c) xs) {a : Addr} (ha : a.block ≠ g) (hb : w0.heap.size ≤ a.block) (u : Value) :
    Own w0 (w.setCell a u) e k (.slice (some ⟨g, 0, none⟩) n c) xs :=
  ⟨h.1.kept (row := some a.block) ⟨rfl, rfl, rfl, by simp [World.setCell], fun i hi hne => Below.heap_setCell _ _ _ _ (by simpa using hne)⟩ (by simp [Value.ownBlock]; omega), h.2.setCell hb u⟩

theorem Own.low {w' w0 w : World} {e : TypeId} {k : IntKind} {v : Value} {xs : List Int} (h : Own w0 w e k v xs) (hp : Past w' w0) : Own w' w e k v xs :=
  ⟨⟨h.1.1, h.1.2.imp id fun ⟨g, cap, cur, h1, h2, rest⟩ => ⟨g, cap, cur, h1, Nat.le_trans hp.size h2, rest⟩⟩, hp.trans h.2⟩

theorem blk_ne {g h a b : Nat} (hn : g ≠ h) : (⟨g, a, none⟩ : Addr) ≠ ⟨h, b, none⟩ := fun e => hn (congrArg Addr.block e)

set_option maxRecDepth 100000 in
set_option maxHeartbeats 4000000 in
theorem num_long (A B : Option Addr) (n c m d : Nat) (xs ys : List Int) (w : World) (hx : RInts w .u32 A n c xs) (hy : RInts w .u32 B m d ys)
    (dx : Dg.Dig 1000000000 xs) (dy : Dg.Dig 1000000000 ys) (hn : n < 34359738368) (hm : 2 ≤ m) (hmn : m ≤ n) (hc : Dg.Can ys) :
    Calls Tryz.prog 268 #[.slice A n c, .slice B m d] w fun e w' => Past w w' ∧ ∃ C k c' D l d' qs rs, e = .returned (.tuple #[.slice C k c', .slice D l d']) ∧ RInts w' .u32 C k c' qs ∧ RInts w' .u32 D l d' rs ∧ Dg.Dig 1000000000 qs ∧ Dg.Dig 1000000000 rs ∧
      Dg.val 1000000000 xs = Dg.val 1000000000 ys * Dg.val 1000000000 qs + Dg.val 1000000000 rs ∧ Dg.val 1000000000 rs < Dg.val 1000000000 ys := by
  have HX := Lib.hid hx
  have HY := Lib.hid hy
  have HLX := Lib.hid hx.len
  have HLY := Lib.hid hy.len
  have DX := Lib.hid dx
  have DY := Lib.hid dy
  have HI := Lib.hid info_i
  have HCY := Lib.hid hc
  obtain ⟨b1, o1, rfl, hc1⟩ := hy.at_ (by omega)
  have e1 := hc1 (m - 1) (by omega)
  have hyd := rd_dig dy (by omega) (m - 1)
  have hy0 := hyd.1
  have hy1 := hyd.2
  have htop : rd ys (m - 1) ≠ 0 := by
    have hne : ys ≠ [] := by intro e; rw [e] at hy; have := hy.len; simp at this; omega
    have := hc hne
    rw [List.getLast_eq_getElem] at this
    have hl := hy.len
    unfold rd
    rw [Dg.getD_eq (by omega)]
    simp only [hl] at this
    exact this
  clear hx hy dx dy hc hc1 hyd
  obtain ⟨i0, hi⟩ := HI.out
  have HI := Lib.hid hi
  clear hi
  obtain ⟨y1, hy1e⟩ : ∃ y, rd ys (m - 1) = y := ⟨_, rfl⟩
  rw [hy1e] at e1 hy0 hy1 htop
  have HY1 := Lib.hid hy1e
  clear hy1e
  have hyne : ¬ y1 + 1 = 0 := by omega
  have h0 : (0 : Int) ≤ (m : Int) - 1 := by omega
  have h1 : ((m : Int) - 1).toNat = m - 1 := by omega
  have hkd := digit_div (t := 1000000000) (b := y1 + 1) (U := 1000000000) (by omega) (by omega) (by omega)
  have hk0 := hkd.1
  have hk1 := hkd.2
  have hk2 : (y1 + 1) * (1000000000 / (y1 + 1)) ≤ 1000000000 := Int.mul_ediv_self_le (by omega)
  have hk3 : 1 ≤ 1000000000 / (y1 + 1) := (Int.le_ediv_iff_mul_le (by omega)).2 (by omega)
  have HK2 := Lib.hid hk2
  clear hk2 hkd
  obtain ⟨k, hk⟩ : ∃ k, 1000000000 / (y1 + 1) = k := ⟨_, rfl⟩
  rw [hk] at hk0 hk1 hk3 HK2
  go_enter Tryz.func268, Tryz.ntmps268
  go_wp2_with fail
  clear e1 hk
  refine (num_scaled _ n c xs k _ HX.out DX.out (by omega) (by omega) (by omega)).mono ?_
  rintro e w1 ⟨vu, us, rfl, hou, hdu, hvu, hlu⟩
  obtain ⟨gu, cu, rfl, hcu, hcu2, hgu, hgu', -, -⟩ := hou.form (by omega)
  obtain ⟨N, hN⟩ : ∃ N, us.length = N := ⟨_, rfl⟩
  rw [hN] at hou hlu hcu ⊢
  have HCU := Lib.hid (And.intro hcu hcu2)
  clear hcu hcu2
  have HOU := Lib.hid hou
  have HDU := Lib.hid hdu
  have HVU := Lib.hid hvu
  have HLU := Lib.hid hN
  have HN := Lib.hid hlu
  have HGU := Lib.hid (And.intro hgu hgu')
  clear hou hdu hvu hlu hgu hgu' hN
  go_wp2_with fail
  refine (num_scaled _ m d ys k _ (HY.out.past HOU.out.2) DY.out (by omega) (by omega) (by omega)).mono ?_
  rintro e w2 ⟨vv, vs0, rfl, hov, hdv, hvv, hlv⟩
  obtain ⟨gv, cv, rfl, hcv, hcv2, hgv, hgv', -, -⟩ := hov.form (by omega)
  have hov2 := hov.reads
  obtain ⟨A', c', hA', hrv⟩ := hov2
  simp only [Value.slice.injEq] at hA'
  obtain ⟨rfl, -, rfl⟩ := hA'
  have HP2 := Lib.hid hov.2
  have HRV := Lib.hid hrv
  have HDV := Lib.hid hdv
  have HVV := Lib.hid hvv
  have HLV := Lib.hid hlv
  have HGV := Lib.hid (And.intro hgv hgv')
  clear hov hdv hvv hlv hgv hgv' hcv hcv2 hrv
  go_wp2_with fail
  refine (num_trim _ _ _ vs0 _ HRV.out).mono ?_
  rintro e w3 ⟨hdr, m2, rfl, hrv⟩
  obtain ⟨vs, hvs⟩ : ∃ vs, Dg.trim vs0 = vs := ⟨_, rfl⟩
  rw [hvs] at hrv
  have hcan : Dg.Can vs := by rw [← hvs]; exact Dg.trim_can _
  have hdig : Dg.Dig 1000000000 vs := by rw [← hvs]; exact Dg.trim_dig HDV.out
  have hval : Dg.val 1000000000 vs = k * Dg.val 1000000000 ys := by rw [← hvs, Dg.val_trim]; exact HVV.out
  have hm2 : m2 = m := by
    rw [← hrv.len]
    exact Kd.scaled_len HLY.out hm DY.out HCY.out HY1.out HK2.out hk3 hdig hcan hval
  subst hm2
  have HCV : Hid (∀ j, j < m2 → w3.cell? ⟨gv, j, none⟩ = some (.int .u32 (rd vs j))) := by
    obtain ⟨b, o, e, hc⟩ := hrv.at_ (by omega)
    simp only [Option.some.injEq, Addr.mk.injEq, and_true] at e
    obtain ⟨rfl, rfl⟩ := e
    intro j hj
    have := hdr.past.cell (hc j hj)
    rwa [Nat.zero_add] at this
  have HLS := Lib.hid hrv.len
  have HCAN := Lib.hid hcan
  have HDS := Lib.hid hdig
  have HVS := Lib.hid hval
  have HPD := Lib.hid hdr.past
  have HO3 : Hid (Own w w3 247 .u32 (.slice (some ⟨gu, 0, none⟩) N cu) us) := (HOU.out.past HP2.out).past hdr.past
  clear hvs hrv hcan hdig hval hdr
  obtain ⟨K, hK⟩ : ∃ K, K = N - m2 := ⟨_, rfl⟩
  have hNb : N ≤ 34359738368 ∧ m2 < N := by have := HN.out; omega
  have hN1 := hNb.1
  have hN2 := hNb.2
  clear hNb
  have hNK : (N : Int) - (m2 : Int) = (K : Int) := by omega
  have HK := Lib.hid hK
  clear hK
  go_wp2_with (first | (at_make; refine wpList_mkn (w0 := w3) (k := .u32) Tryz.underlying127 HI.out.1 HI.out.2.1 HI.out.2.2.1 HI.out.2.2.2 (Past.refl _) rfl rfl .i64 .i64 K _ _ rfl rfl (by omega) (by omega) (by omega) ?_; intro gq w4 hoq hp4 hgq hpp))
  have HOQ : Hid (Own w w4 247 .u32 (.slice (some ⟨gq, 0, none⟩) K K) (List.replicate K 0)) := Own.low hoq ((HOU.out.2.trans HP2.out).trans HPD.out)
  have HO4 : Hid (Own w w4 247 .u32 (.slice (some ⟨gu, 0, none⟩) N cu) us) := HO3.out.past hp4
  have HCV4 : Hid (∀ j, j < m2 → w4.cell? ⟨gv, j, none⟩ = some (.int .u32 (rd vs j))) := fun j hj => hp4.cell (HCV.out j hj)
  have HNE : Hid (gu ≠ gv ∧ gu ≠ gq ∧ gv ≠ gq ∧ w.heap.size ≤ gu ∧ w.heap.size ≤ gq) := by
    have a1 := HGU.out
    have a2 := HGV.out
    have a3 := HPD.out.size
    have a4 := HOU.out.2.size
    have a5 := HP2.out.size
    refine ⟨?_, ?_, ?_, ?_, ?_⟩ <;> omega
  have HT0 : Hid (Dg.val 1000000000 us < 1000000000 ^ K * Dg.val 1000000000 vs) := Kd.start HLX.out DX.out HLY.out hm DY.out HCY.out hk3 HVU.out HVS.out (by have := HN.out; have := HK.out; omega)
  clear hoq hp4 hgq hpp h0 h1
  go_loopg [10] K (fun gg jv wr => ∃ (s : Nat) (os qs : List Int), Hid (gg = s) ∧ s ≤ K ∧ jv = .int .i64 ((s : Int) - 1) ∧ Hid (os.length = N) ∧ Hid (Dg.Dig 1000000000 os) ∧ Hid (qs.length = K) ∧ Hid (Dg.Dig 1000000000 qs) ∧ Hid (Dg.val 1000000000 os + Dg.val 1000000000 vs * Dg.val 1000000000 qs = Dg.val 1000000000 us) ∧ Hid (Dg.val 1000000000 os < 1000000000 ^ s * Dg.val 1000000000 vs) ∧ Hid (∀ t, s + m2 ≤ t → rd os t = 0) ∧ Hid (∀ t, t < s → rd qs t = 0) ∧ Hid (Own w wr 247 .u32 (.slice (some ⟨gu, 0, none⟩) N cu) os) ∧ Hid (Own w wr 247 .u32 (.slice (some ⟨gq, 0, none⟩) K K) qs) ∧ Hid (∀ j, j < m2 → wr.cell? ⟨gv, j, none⟩ = some (.int .u32 (rd vs j))))
  case atStart => exact ⟨K, us, List.replicate K 0, rfl, Nat.le_refl _, by go_num, HLU, HDU, by simp [Hid], Dg.dig_replicate_zero (by omega) _, by simp [Hid, Dg.val_replicate_zero], HT0, fun t ht => rd_out (by have := HLU.out; have := HK.out; omega), fun t _ => rd_replicate _ _, HO4, HOQ, HCV4⟩
  case round =>
    clear HO4 HOQ HCV4 HO3 HCV HT0
    obtain ⟨s, os, qs, HGS, hs, rfl, HLO, HDO, HLQ, HDQ, HV, HB, HZ, HQ, HO, HP, HC⟩ := hrel
    cases s with
    | zero =>
      have hcu := HCU.out
      have hcu1 : m2 ≤ cu := by omega
      have hcu2 := hcu.2
      clear hcu
      have hrr : RInts wr .u32 (some ⟨gu, 0, none⟩) N cu os := by
        obtain ⟨A', c', h1, h2⟩ := HO.out.reads
        simp only [Value.slice.injEq] at h1
        obtain ⟨rfl, -, rfl⟩ := h1
        rw [HLO.out] at h2
        exact h2
      have HRR := Lib.hid (hrr.take m2 (by omega))
      have hqq : RInts wr .u32 (some ⟨gq, 0, none⟩) K K qs := by
        obtain ⟨A', c', h1, h2⟩ := HP.out.reads
        simp only [Value.slice.injEq] at h1
        obtain ⟨rfl, -, rfl⟩ := h1
        rw [HLQ.out] at h2
        exact h2
      have HQQ := Lib.hid hqq
      clear hrr hqq
      go_wp2_with fail
      refine (num_short _ _ _ _ k _ HRR.out (HDO.out.take m2) (by omega) (by omega) (by omega)).mono ?_
      rintro e w5 ⟨hp5, C, l, c', zs, r, rfl, hrz, hdz, hvz, hr0, hr1, hl⟩
      have HF := Lib.hid (And.intro hp5 (And.intro hrz (And.intro hdz (And.intro hvz (And.intro hr0 hr1)))))
      clear hp5 hrz hdz hvz hr0 hr1 hl
      go_wp2
      go_ret2
      exact ⟨HO.out.2.trans HF.out.1, _, _, _, _, _, _, qs, zs, rfl, HQQ.out.past HF.out.1, HF.out.2.1, HDQ.out, HF.out.2.2.1, Kd.finish hk3 HVU.out HVS.out HV.out HB.out HZ.out HF.out.2.2.2.1 HF.out.2.2.2.2.1 HF.out.2.2.2.2.2⟩
    | succ j =>
      have ek : ((j + 1 : Nat) : Int) - 1 = (j : Int) := by omega
      simp only [ek]
      clear ek
      have hj0 : (0 : Int) ≤ j := by omega
      have hjN : j + m2 < N := by have := HK.out; omega
      have ea := HO.out.at_ (j + m2) (by have := HLO.out; omega)
      have eb := HO.out.at_ (j + m2 - 1) (by have := HLO.out; omega)
      have ec := HO.out.at_ (j + m2 - 2) (by have := HLO.out; omega)
      have c1 := HC.out (m2 - 1) (by omega)
      have c2 := HC.out (m2 - 2) (by omega)
      have a0 := ea.1
      have a1 := eb.1
      have a2 := ec.1
      clear ea eb ec
      have du0 := rd_dig HDO.out (by omega) (j + m2)
      have du1 := rd_dig HDO.out (by omega) (j + m2 - 1)
      have du2 := rd_dig HDO.out (by omega) (j + m2 - 2)
      have dv1 := rd_dig HDS.out (by omega) (m2 - 1)
      have dv2 := rd_dig HDS.out (by omega) (m2 - 2)
      have hvt := Kd.top_ne HLS.out (by omega) HCAN.out
      have hwin := Kd.win (k := m2 - 2) (j := j) (m := m2) (by omega) HLO.out hjN HLS.out HDO.out HDS.out hvt HZ.out HB.out
      obtain ⟨W, L, hwn, hwl⟩ := hwin
      obtain ⟨u0, hu0⟩ : ∃ x, rd os (j + m2) = x := ⟨_, rfl⟩
      obtain ⟨u1, hu1⟩ : ∃ x, rd os (j + m2 - 1) = x := ⟨_, rfl⟩
      obtain ⟨u2, hu2⟩ : ∃ x, rd os (j + m2 - 2) = x := ⟨_, rfl⟩
      obtain ⟨v1, hv1⟩ : ∃ x, rd vs (m2 - 1) = x := ⟨_, rfl⟩
      obtain ⟨v2, hv2⟩ : ∃ x, rd vs (m2 - 2) = x := ⟨_, rfl⟩
      rw [hu0] at a0 du0 hwn
      rw [hu1] at a1 du1 hwn
      rw [hu2] at a2 du2 hwn
      rw [hv1] at c1 dv1 hwn hvt
      rw [hv2] at c2 dv2 hwn
      have HU0 := Lib.hid hu0
      clear hu0 hu1 hu2 hv1 hv2
      obtain ⟨V, hV⟩ : ∃ x, Dg.val 1000000000 vs = x := ⟨_, rfl⟩
      rw [hV] at hwn
      have HVV2 := Lib.hid hV
      have HWN := Lib.hid hwn
      have HWL := Lib.hid hwl
      clear hwn hwl hV
      obtain ⟨p0, p0'⟩ := du0
      obtain ⟨p1, p1'⟩ := du1
      obtain ⟨p2, p2'⟩ := du2
      obtain ⟨p3, p3'⟩ := dv1
      obtain ⟨p4, p4'⟩ := dv2
      have x1 : (0 : Int) ≤ (j : Int) + (m2 : Int) - 1 := by omega
      have x2 : (0 : Int) ≤ (j : Int) + (m2 : Int) - 2 := by omega
      have x3 : (0 : Int) ≤ (m2 : Int) - 1 := by omega
      have x4 : (0 : Int) ≤ (m2 : Int) - 2 := by omega
      have n0 : (j : Int) + (m2 : Int) < (N : Int) := by omega
      have n1 : (j : Int) + (m2 : Int) - 1 < (N : Int) := by omega
      have n2 : (j : Int) + (m2 : Int) - 2 < (N : Int) := by omega
      have z1 : ((j : Int) + (m2 : Int) - 1).toNat = j + m2 - 1 := by omega
      have z2 : ((j : Int) + (m2 : Int) - 2).toNat = j + m2 - 2 := by omega
      go_wp2
      go_quiet (fail)
      go_wp2_with fail
      go_quiet (fail)
      go_upto_block 2 with fail
      go_cut [12, 13] (fun gv rv wx => ∃ g : Int, gv = .int .u64 g ∧ 0 ≤ g ∧ g < 1000000000 ∧ Hid (V * (g - 1) ≤ W ∧ W < V * (g + 1)) ∧ Hid (Drew wr wx))
      case first =>
        have hent := HWN.out.enter
        have HENT := Lib.hid hent
        clear hent
        go_wp2_with fail
        go_loopg [12, 13] ((u0 * 1000000000 + u1) / v1).toNat (fun gg gv rv wx => ∃ (g r : Int), gv = .int .u64 g ∧ rv = .int .u64 r ∧ 0 ≤ g ∧ g < 2000000000 ∧ 0 ≤ r ∧ r < 1000000000 ∧ Hid (gg = g.toNat) ∧ Hid (g * v1 + r = u0 * 1000000000 + u1) ∧ Hid (W < V * (g + 1)) ∧ Hid (Drew wr wx))
        case atStart => exact ⟨_, _, rfl, rfl, HENT.out.1, HENT.out.2.1, HENT.out.2.2.1, HENT.out.2.2.2.1, rfl, HENT.out.2.2.2.2.1, HENT.out.2.2.2.2.2, (Drew.refl wr).step _ |>.step _⟩
        case round =>
          clear HENT
          obtain ⟨g, r, rfl, rfl, g0, g1, r0, r1, HG, HGR, HGW, HD⟩ := hrel
          have f2 := HD.out.past.cell a2
          have f3 := HD.out.past.cell c1
          have f4 := HD.out.past.cell c2
          have qd := Kd.guess_prod g0 g1 p4 p4'
          have q0 := qd.1
          have q1 := qd.2
          clear qd a0 a1 a2 c1 c2
          by_cases hA : 1000000000 ≤ g
          · have tA : decide (1000000000 ≤ g) = true := decide_eq_true hA
            have hdn := HWN.out.down HGR.out g0 (.inl hA)
            have g2 := hdn.2
            have HDN := Lib.hid hdn.1
            clear hdn
            by_cases hR : 1000000000 ≤ r + v1
            · have tR : decide (1000000000 ≤ r + v1) = true := decide_eq_true hR
              have gd := HWN.out.digit (Kd.step_down HGR.out) hR
              have HST := Lib.hid (HWN.out.stop (Kd.step_down HGR.out) (by omega) gd (.inr hR))
              go_wp2
              repeat (go_quiet (fail); try go_wp2)
              go_meet
              case rel => exact ⟨g - 1, rfl, by omega, gd, ⟨HST.out, HDN.out⟩, HD.out.step _⟩
            · have tR : decide (1000000000 ≤ r + v1) = false := decide_eq_false hR
              go_wp2
              repeat (go_quiet (fail); try go_wp2)
              go_roundg (g - 1).toNat
              case measure => have := HG.out; omega
              case rel => exact ⟨g - 1, r + v1, rfl, rfl, by omega, by omega, by omega, by omega, rfl, Kd.step_down HGR.out, HDN.out, HD.out.step _⟩
          · have tA : decide (1000000000 ≤ g) = false := decide_eq_false hA
            by_cases hB : r * 1000000000 + u2 < g * v2
            · have tB : decide (r * 1000000000 + u2 < g * v2) = true := decide_eq_true hB
              have hdn := HWN.out.down HGR.out g0 (.inr hB)
              have g2 := hdn.2
              have HDN := Lib.hid hdn.1
              clear hdn
              by_cases hR : 1000000000 ≤ r + v1
              · have tR : decide (1000000000 ≤ r + v1) = true := decide_eq_true hR
                have gd := HWN.out.digit (Kd.step_down HGR.out) hR
                have HST := Lib.hid (HWN.out.stop (Kd.step_down HGR.out) (by omega) gd (.inr hR))
                go_wp2
                repeat (go_quiet (fail); try go_wp2)
                go_meet
                case rel => exact ⟨g - 1, rfl, by omega, gd, ⟨HST.out, HDN.out⟩, HD.out.step _⟩
              · have tR : decide (1000000000 ≤ r + v1) = false := decide_eq_false hR
                go_wp2
                repeat (go_quiet (fail); try go_wp2)
                go_roundg (g - 1).toNat
                case measure => have := HG.out; omega
                case rel => exact ⟨g - 1, r + v1, rfl, rfl, by omega, by omega, by omega, by omega, rfl, Kd.step_down HGR.out, HDN.out, HD.out.step _⟩
            · have tB : decide (r * 1000000000 + u2 < g * v2) = false := decide_eq_false hB
              have HST := Lib.hid (HWN.out.stop HGR.out g0 (by omega) (.inl (by omega)))
              go_wp2
              repeat (go_quiet (fail); try go_wp2)
              go_meet
              case rel => exact ⟨g, rfl, g0, by omega, ⟨HST.out, HGW.out⟩, HD.out.step _⟩
      case rest =>
        obtain ⟨g, rfl, g0, g1, HGG, HDR⟩ := hcut
        have HOc := Lib.hid (HO.out.past HDR.out.past)
        have HPc := Lib.hid (HP.out.past HDR.out.past)
        have HCc : Hid (∀ j, j < m2 → wc.cell? ⟨gv, j, none⟩ = some (.int .u32 (rd vs j))) := fun t ht => HDR.out.past.cell (HC.out t ht)
        clear a0 a1 a2 c1 c2 x1 x2 x3 x4 n1 n2 z1 z2 HO HP HC
        go_wp2_with fail
        go_loopg [14, 124] m2 (fun gg bv iv wx => ∃ (i : Nat) (b : Int) (ol : List Int), i ≤ m2 ∧ iv = .int .i64 i ∧ bv = .int .i64 b ∧ 0 ≤ b ∧ b ≤ 1000000000 ∧ Hid (gg = m2 - i) ∧ Hid (ol.length = N) ∧ Hid (Dg.Dig 1000000000 ol) ∧ Hid (Dg.val 1000000000 ol - 1000000000 ^ (i + j) * b = Dg.val 1000000000 os - 1000000000 ^ j * (g * Dg.val 1000000000 (vs.take i))) ∧ Hid (∀ t, j + m2 ≤ t → rd ol t = rd os t) ∧ Hid (Own w wx 247 .u32 (.slice (some ⟨gu, 0, none⟩) N cu) ol) ∧ Hid (Own w wx 247 .u32 (.slice (some ⟨gq, 0, none⟩) K K) qs) ∧ Hid (∀ j, j < m2 → wx.cell? ⟨gv, j, none⟩ = some (.int .u32 (rd vs j))))
        case atStart => exact ⟨0, 0, os, Nat.zero_le _, rfl, rfl, by omega, by omega, rfl, HLO, HDO, by simp [Hid], fun t _ => rfl, HOc, HPc, HCc⟩
        case round =>
          clear HOc HPc HCc
          obtain ⟨i, b, ol, hi, rfl, rfl, b0, b1', HG, HLL, HDL, HVL, HTL, HOL, HPL, HCL⟩ := hrel
          by_cases him : i < m2
          · have e12 := HOL.out.at_ (i + j) (by have := HLL.out; omega)
            have e1 := e12.1
            have e2 := e12.2
            have e3 := HCL.out i him
            have dx := rd_dig HDL.out (by omega) (i + j)
            have dv := rd_dig HDS.out (by omega) i
            obtain ⟨x0, hx0⟩ : ∃ x, rd ol (i + j) = x := ⟨_, rfl⟩
            obtain ⟨vi, hvi⟩ : ∃ x, rd vs i = x := ⟨_, rfl⟩
            rw [hx0] at e1 dx
            rw [hvi] at e3 dv
            have HX0 := Lib.hid hx0
            have HVI := Lib.hid hvi
            clear hx0 hvi e12
            obtain ⟨d0, d1⟩ := dx
            obtain ⟨d2, d3⟩ := dv
            have pd := prod_bd g0 g1 d2 d3
            have q0 := pd.1
            have q1 := pd.2
            clear pd
            have r0 := Int.emod_nonneg (g * vi) (show (1000000000 : Int) ≠ 0 by omega)
            have r1 := Int.emod_lt_of_pos (g * vi) (show (0 : Int) < 1000000000 by omega)
            have s0 : 0 ≤ g * vi / 1000000000 := Int.ediv_nonneg q0 (by omega)
            have s1 : g * vi / 1000000000 < 1000000000 := by omega
            have hij : (i : Int) + (j : Int) < (N : Int) := by omega
            have s2 : g * vi / 1000000000 ≤ 999999998 := by omega
            by_cases hx : x0 - b - g * vi % 1000000000 < 0
            · by_cases hx2 : x0 - b - g * vi % 1000000000 + 1000000000 < 0
              · go_wp2
                go_quiet (fail)
                go_wp2
                go_roundg (m2 - (i + 1))
                case measure => have := HG.out; omega
                case rel => exact ⟨i + 1, g * vi / 1000000000 + 1 + 1, ol.set (i + j) (x0 - b - g * vi % 1000000000 + 1000000000 + 1000000000), by omega, by go_num, rfl, by omega, by omega, rfl, by simp [Hid, HLL.out], HDL.out.set _ (by omega) (by omega), Kd.sub_step (c := 2) (p := g * vi) (by have := HLL.out; omega) HVL.out (by rw [HVI.out]) (by rw [HX0.out]; omega) (by omega), fun t ht => by rw [rd_set (by have := HLL.out; omega), if_neg (by omega)]; exact HTL.out t ht, (HOL.out.drewN _).set (by have := HLL.out; omega) _, (HPL.out.drewN _).other HNE.out.2.1 HNE.out.2.2.2.1 _, fun t ht => by rw [World.cell?_setCell_other _ _ _ _ (blk_ne HNE.out.1)]; exact HCL.out t ht⟩
              · go_wp2
                go_quiet (fail)
                go_wp2
                go_roundg (m2 - (i + 1))
                case measure => have := HG.out; omega
                case rel => exact ⟨i + 1, g * vi / 1000000000 + 1, ol.set (i + j) (x0 - b - g * vi % 1000000000 + 1000000000), by omega, by go_num, rfl, by omega, by omega, rfl, by simp [Hid, HLL.out], HDL.out.set _ (by omega) (by omega), Kd.sub_step (c := 1) (p := g * vi) (by have := HLL.out; omega) HVL.out (by rw [HVI.out]) (by rw [HX0.out]; omega) (by omega), fun t ht => by rw [rd_set (by have := HLL.out; omega), if_neg (by omega)]; exact HTL.out t ht, (HOL.out.drewN _).set (by have := HLL.out; omega) _, (HPL.out.drewN _).other HNE.out.2.1 HNE.out.2.2.2.1 _, fun t ht => by rw [World.cell?_setCell_other _ _ _ _ (blk_ne HNE.out.1)]; exact HCL.out t ht⟩
            · go_wp2
              go_quiet (fail)
              go_wp2
              go_roundg (m2 - (i + 1))
              case measure => have := HG.out; omega
              case rel => exact ⟨i + 1, g * vi / 1000000000, ol.set (i + j) (x0 - b - g * vi % 1000000000), by omega, by go_num, rfl, by omega, by omega, rfl, by simp [Hid, HLL.out], HDL.out.set _ (by omega) (by omega), Kd.sub_step (c := 0) (p := g * vi) (by have := HLL.out; omega) HVL.out (by rw [HVI.out]) (by rw [HX0.out]; omega) (by omega), fun t ht => by rw [rd_set (by have := HLL.out; omega), if_neg (by omega)]; exact HTL.out t ht, (HOL.out.drewN _).set (by have := HLL.out; omega) _, (HPL.out.drewN _).other HNE.out.2.1 HNE.out.2.2.2.1 _, fun t ht => by rw [World.cell?_setCell_other _ _ _ _ (blk_ne HNE.out.1)]; exact HCL.out t ht⟩
          · have hie : i = m2 := by omega
            subst hie
            have e12 := HOL.out.at_ (j + i) (by have := HLL.out; omega)
            have e1 := e12.1
            have e2 := e12.2
            have e3 := HPL.out.at_ j (by have := HLQ.out; omega)
            have e4 := e3.2
            have e5 := e3.1
            have dx := rd_dig HDL.out (by omega) (j + i)
            obtain ⟨x0, hx0⟩ : ∃ x, rd ol (j + i) = x := ⟨_, rfl⟩
            rw [hx0] at e1 dx
            obtain ⟨d0, d1⟩ := dx
            clear e12 e3
            have HSG := Lib.hid (Kd.sign (V := V) (g := g) (b := b) HLL.out hjN HDL.out (fun t ht => by rw [HTL.out t (by omega)]; exact HZ.out t (by omega)) (by have := HVL.out; rw [List.take_of_length_le (by rw [HLS.out]; exact Nat.le_refl _), HVV2.out, Nat.add_comm] at this; exact this) rfl HWL.out.1 HWL.out.2.1 HWL.out.2.2)
            have HX0 := Lib.hid hx0
            clear hx0
            have HVLT : Hid (V < 1000000000 ^ i) := by
              have := Dg.val_lt (b := 1000000000) (by omega) HDS.out
              rw [HLS.out, HVV2.out] at this
              exact this
            have HVL2 : Hid (Dg.val 1000000000 ol - 1000000000 ^ (j + i) * b = Dg.val 1000000000 os - 1000000000 ^ j * (g * V)) := by
              have := HVL.out
              rw [List.take_of_length_le (by rw [HLS.out]; exact Nat.le_refl _), HVV2.out, Nat.add_comm] at this
              exact this
            have HV2 : Hid (Dg.val 1000000000 os + V * Dg.val 1000000000 qs = Dg.val 1000000000 us) := by
              have := HV.out
              rw [HVV2.out] at this
              exact this
            by_cases hx : x0 - b < 0
            · have HVG : Hid (W < V * g) := HSG.out.2 (by rw [HX0.out]; omega)
              have gp := Kd.guess_pos HWN.out.nonneg.1 g0 HVG.out
              clear e2 e4 e5
              go_wp2_with fail
              go_loopg [18, 189] i (fun gg cv iv wx => ∃ (t : Nat) (cy : Int) (oa : List Int), t ≤ i ∧ iv = .int .i64 t ∧ cv = .int .u32 cy ∧ 0 ≤ cy ∧ cy ≤ 1 ∧ Hid (gg = i - t) ∧ Hid (oa.length = N) ∧ Hid (Dg.Dig 1000000000 oa) ∧ Hid (Dg.val 1000000000 oa + 1000000000 ^ (t + j) * cy = Dg.val 1000000000 ol + 1000000000 ^ j * Dg.val 1000000000 (vs.take t)) ∧ Hid (∀ s, j + i ≤ s → rd oa s = rd ol s) ∧ Hid (Own w wx 247 .u32 (.slice (some ⟨gu, 0, none⟩) N cu) oa) ∧ Hid (Own w wx 247 .u32 (.slice (some ⟨gq, 0, none⟩) K K) qs) ∧ Hid (∀ j, j < i → wx.cell? ⟨gv, j, none⟩ = some (.int .u32 (rd vs j))))
              case atStart => exact ⟨0, 0, ol, Nat.zero_le _, rfl, rfl, by omega, by omega, rfl, HLL, HDL, by simp [Hid], fun t _ => rfl, HOL, HPL, HCL⟩
              case round =>
                clear HOL HPL HCL e1
                obtain ⟨t, cy, oa, ht, rfl, rfl, cy0, cy1, HG2, HLA, HDA, HVA, HTA, HOA, HPA, HCA⟩ := hrel
                by_cases hti : t < i
                · have e12 := HOA.out.at_ (t + j) (by have := HLA.out; omega)
                  have e1 := e12.1
                  have e2 := e12.2
                  have e3 := HCA.out t hti
                  have dx := rd_dig HDA.out (by omega) (t + j)
                  have dv := rd_dig HDS.out (by omega) t
                  obtain ⟨xa, hxa⟩ : ∃ x, rd oa (t + j) = x := ⟨_, rfl⟩
                  obtain ⟨vi, hvi⟩ : ∃ x, rd vs t = x := ⟨_, rfl⟩
                  rw [hxa] at e1 dx
                  rw [hvi] at e3 dv
                  have HXA := Lib.hid hxa
                  have HVI := Lib.hid hvi
                  clear hxa hvi e12
                  obtain ⟨f0, f1⟩ := dx
                  obtain ⟨f2, f3⟩ := dv
                  have htj : (t : Int) + (j : Int) < (N : Int) := by omega
                  go_wp2
                  go_quiet (fail)
                  go_wp2
                  go_roundg (i - (t + 1))
                  case measure => have := HG2.out; omega
                  case rel => exact ⟨t + 1, (xa + vi + cy) / 1000000000, oa.set (t + j) ((xa + vi + cy) % 1000000000), by omega, by go_num, rfl, by omega, by omega, rfl, by simp [Hid, HLA.out], HDA.out.set _ (by omega) (by omega), Kd.add_step (by have := HLA.out; omega) HVA.out (by rw [HXA.out, HVI.out]), fun s hs => by rw [rd_set (by have := HLA.out; omega), if_neg (by omega)]; exact HTA.out s hs, (HOA.out.drewN _).set (by have := HLA.out; omega) _, (HPA.out.drewN _).other HNE.out.2.1 HNE.out.2.2.2.1 _, fun s hs => by rw [World.cell?_setCell_other _ _ _ _ (blk_ne HNE.out.1)]; exact HCA.out s hs⟩
                · have hte : t = i := by omega
                  subst hte
                  have e12 := HOA.out.at_ (j + t) (by have := HLA.out; omega)
                  have e1 := e12.1
                  have e2 := e12.2
                  have e3 := HPA.out.at_ j (by have := HLQ.out; omega)
                  have e4 := e3.2
                  have e5 := e3.1
                  clear e12 e3
                  have HVA2 : Hid (Dg.val 1000000000 oa + 1000000000 ^ (j + t) * cy = Dg.val 1000000000 ol + 1000000000 ^ j * V) := by
                    have := HVA.out
                    rw [List.take_of_length_le (by rw [HLS.out]; exact Nat.le_refl _), HVV2.out, Nat.add_comm t j] at this
                    exact this
                  have HFIN := Lib.hid (Kd.fin (V := V) (g := g - 1) (x := x0 - b + cy) (b := b - cy) (T := Dg.val 1000000000 us) HLA.out hjN HDA.out (fun s hs => by rw [HTA.out s (by omega), HTL.out s (by omega)]; exact HZ.out s (by omega)) (Kd.add_back HVL2.out HVA2.out) (by rw [HTA.out _ (Nat.le_refl _), HX0.out]; omega) HVLT.out HWL.out.1 HWL.out.2.1 HWL.out.2.2 HGG.out.1 (by rw [Int.sub_add_cancel]; exact HVG.out) (by omega) (by omega) HLQ.out (by omega) HDQ.out HQ.out HV2.out).1
                  go_wp2
                  go_roundg j
                  case measure => have := HGS.out; omega
                  case rel => exact ⟨j, oa.set (j + t) 0, qs.set j (g - 1), rfl, by omega, by go_num, HFIN.out.1, HFIN.out.2.1, HFIN.out.2.2.1, HFIN.out.2.2.2.1, by rw [HVV2.out]; exact HFIN.out.2.2.2.2.1, by rw [HVV2.out]; exact HFIN.out.2.2.2.2.2.1, HFIN.out.2.2.2.2.2.2.1, HFIN.out.2.2.2.2.2.2.2, (HOA.out.set (by have := HLA.out; omega) _).other HNE.out.2.1.symm HNE.out.2.2.2.2 _, (HPA.out.other HNE.out.2.1 HNE.out.2.2.2.1 _).set (by have := HLQ.out; omega) _, fun s hs => by rw [World.cell?_setCell_other _ _ _ _ (blk_ne HNE.out.2.2.1.symm), World.cell?_setCell_other _ _ _ _ (blk_ne HNE.out.1)]; exact HCA.out s hs⟩
            · have HVG : Hid (V * g ≤ W) := HSG.out.1 (by rw [HX0.out]; omega)
              have HFIN := Lib.hid (Kd.fin (V := V) (g := g) (x := x0 - b) (b := b) (T := Dg.val 1000000000 us) HLL.out hjN HDL.out (fun s hs => by rw [HTL.out s (by omega)]; exact HZ.out s (by omega)) HVL2.out (by rw [HX0.out]) HVLT.out HWL.out.1 HWL.out.2.1 HWL.out.2.2 HVG.out HGG.out.2 g0 g1 HLQ.out (by omega) HDQ.out HQ.out HV2.out).1
              go_wp2
              go_roundg j
              case measure => have := HGS.out; omega
              case rel => exact ⟨j, ol.set (j + i) 0, qs.set j g, rfl, by omega, by go_num, HFIN.out.1, HFIN.out.2.1, HFIN.out.2.2.1, HFIN.out.2.2.2.1, by rw [HVV2.out]; exact HFIN.out.2.2.2.2.1, by rw [HVV2.out]; exact HFIN.out.2.2.2.2.2.1, HFIN.out.2.2.2.2.2.2.1, HFIN.out.2.2.2.2.2.2.2, (HOL.out.set (by have := HLL.out; omega) _).other HNE.out.2.1.symm HNE.out.2.2.2.2 _, (HPL.out.other HNE.out.2.1 HNE.out.2.2.2.1 _).set (by have := HLQ.out; omega) _, fun s hs => by rw [World.cell?_setCell_other _ _ _ _ (blk_ne HNE.out.2.2.1.symm), World.cell?_setCell_other _ _ _ _ (blk_ne HNE.out.1)]; exact HCL.out s hs⟩

end Go.Proofs.YtdcjibjldfjllaaGreat
