/- Helpers of the proof, joined: Num5 Num6 Num7 Kd. -/
import Derived.Test.YtdcjibjldfjllaaGreatPGb
import Derived.RegionTactic
set_option linter.unusedVariables false
set_option linter.unusedSimpArgs false
/- Whole numbers: comparison, difference; small divisions. -/
namespace Go.Proofs.YtdcjibjldfjllaaGreat
open Go.RowKit

set_option maxRecDepth 100000 in
set_option maxHeartbeats 800000 in
theorem whole_cmp (s t : Bool) (A B : Option Addr) (n c m d : Nat) (x y : Int) (w : World) (hx : RW w s A n c x) (hy : RW w t B m d y) :
    Calls Tryz.prog 154 #[.agg #[.bool s, .slice A n c], .agg #[.bool t, .slice B m d]] w fun e w' => Past w w' ∧ e = .returned (.int .i64 (cmpZ x y)) := by
  have HS := Lib.hid hx.1
  have HR := Lib.hid hx.2
  have HT := Lib.hid hy.1
  have HQ := Lib.hid hy.2
  clear hx hy
  by_cases hst : s = t
  · subst hst
    cases s
    · go_enter Tryz.func154, Tryz.ntmps154
      go_wp2_with (go_at_call 207; refine (num_size _ _ _ _ _ _ _ _ _ (HR.out.past (by repeat (first | exact Past.refl _ | apply Past.alloc | apply Past.drew | apply Past.drewN))) (HQ.out.past (by repeat (first | exact Past.refl _ | apply Past.alloc | apply Past.drew | apply Past.drewN)))).mono ?_; rintro e w' ⟨⟨q, rfl⟩, rfl⟩)
      go_ret
      exact ⟨(by repeat (first | exact Past.refl _ | apply Past.alloc | apply Past.drew | apply Past.drewN)), ret_int (by rw [cmpSize_dg]; have h1 := HS.out; have h2 := HT.out; simp at h1 h2; unfold cmpN cmpZ; split <;> split <;> first | rfl | omega | (split <;> first | rfl | omega))⟩
    · go_enter Tryz.func154, Tryz.ntmps154
      go_wp2_with (go_at_call 207; refine (num_size _ _ _ _ _ _ _ _ _ (HQ.out.past (by repeat (first | exact Past.refl _ | apply Past.alloc | apply Past.drew | apply Past.drewN))) (HR.out.past (by repeat (first | exact Past.refl _ | apply Past.alloc | apply Past.drew | apply Past.drewN)))).mono ?_; rintro e w' ⟨⟨q, rfl⟩, rfl⟩)
      go_ret
      exact ⟨(by repeat (first | exact Past.refl _ | apply Past.alloc | apply Past.drew | apply Past.drewN)), ret_int (by rw [cmpSize_dg]; have h1 := HS.out; have h2 := HT.out; simp at h1 h2; unfold cmpN cmpZ; split <;> split <;> first | rfl | omega | (split <;> first | rfl | omega))⟩
  · have hst' : (s != t) = true := by simpa using hst
    clear hst
    cases s
    · cases t
      · simp at hst'
      · go_enter Tryz.func154, Tryz.ntmps154
        go_wp2
        go_ret
        exact ⟨(by repeat (first | exact Past.refl _ | apply Past.alloc | apply Past.drew | apply Past.drewN)), ret_int (by have h1 := HS.out; have h2 := HT.out; simp at h1 h2; unfold cmpZ; rw [if_neg (by omega), if_pos (by omega)])⟩
    · cases t
      · go_enter Tryz.func154, Tryz.ntmps154
        go_wp2
        go_ret
        exact ⟨(by repeat (first | exact Past.refl _ | apply Past.alloc | apply Past.drew | apply Past.drewN)), ret_int (by have h1 := HS.out; have h2 := HT.out; simp at h1 h2; unfold cmpZ; rw [if_pos (by omega)])⟩
      · simp at hst'

theorem len_neg (z : Int) : len (-z) = len z := by unfold len; rw [Int.natAbs_neg]

theorem len2 {l : List Int} (h : l.length = 2) : ∃ y z, l = [y, z] := by
  match l, h with
  | [y, z], _ => exact ⟨y, z, rfl⟩
theorem gcd_step {p q : Int} (hp : 0 ≤ p) (hq : 0 ≤ q) : Nat.gcd q.toNat (p % q).toNat = Nat.gcd p.toNat q.toNat := by
  obtain ⟨a, rfl⟩ := Int.eq_ofNat_of_zero_le hp
  obtain ⟨b, rfl⟩ := Int.eq_ofNat_of_zero_le hq
  rw [← Int.natCast_emod]
  simp only [Int.toNat_natCast]
  rw [Nat.gcd_comm b, ← Nat.gcd_rec, Nat.gcd_comm]

/-! ### words of two digits -/
set_option maxRecDepth 100000 in
set_option maxHeartbeats 800000 in
theorem num_word (A : Option Addr) (n c : Nat) (x : Nat) (w : World) (hx : RD w A n c x) (hn : n ≤ 2) :
    Calls Tryz.prog 245 #[.slice A n c] w fun e w' => Drew w w' ∧ e = .returned (.int .i64 x) := by
  have HL := Lib.hid hx.len
  have HB := Lib.hid hx
  clear hx
  have h3 : n = 0 ∨ n = 1 ∨ n = 2 := by omega
  rcases h3 with rfl | rfl | rfl
  · go_enter Tryz.func245, Tryz.ntmps245
    go_wp2
    refine wp_loop_rounds 1 ?_
    rw [rounds_succ]
    go_wp2
    go_ret
    exact ⟨Drew.refl w, ret_int (by have h := dg_val x; rw [List.eq_nil_of_length_eq_zero HL.out] at h; simpa using h)⟩
  · obtain ⟨b, o, rfl, hc⟩ := HB.out.at_ (by omega)
    have e0 := hc 0 (by omega)
    have hd := rd_dig (dg_dig x) (by omega) 0
    have hd1 := hd.1
    have hd2 := hd.2
    have HV : Hid (rd (dg x) 0 = (x : Int)) := by
      have h := dg_val x
      obtain ⟨y, hy⟩ : ∃ y, dg x = [y] := List.length_eq_one_iff.1 HL.out
      rw [hy] at h ⊢
      simpa [rd, Hid] using h
    clear hc hd
    simp only [Nat.add_zero] at e0
    go_enter Tryz.func245, Tryz.ntmps245
    go_wp2
    refine wp_loop_rounds 2 ?_
    rw [rounds_succ]
    go_wp2
    rw [rounds_succ]
    go_wp2
    go_ret
    exact ⟨Drew.refl w, ret_int HV.out⟩
  · obtain ⟨b, o, rfl, hc⟩ := HB.out.at_ (by omega)
    have e0 := hc 0 (by omega)
    have e1 := hc 1 (by omega)
    have hd := rd_dig (dg_dig x) (by omega) 0
    have hd1 := hd.1
    have hd2 := hd.2
    have hd' := rd_dig (dg_dig x) (by omega) 1
    have hd3 := hd'.1
    have hd4 := hd'.2
    have HV : Hid (rd (dg x) 1 * 1000000000 + rd (dg x) 0 = (x : Int)) := by
      have h := dg_val x
      obtain ⟨y, z, hy⟩ : ∃ y z, dg x = [y, z] := len2 HL.out
      rw [hy] at h ⊢
      simp [rd, Hid] at h ⊢
      omega
    clear hc hd hd'
    simp only [Nat.add_zero] at e0
    go_enter Tryz.func245, Tryz.ntmps245
    go_wp2
    refine wp_loop_rounds 3 ?_
    rw [rounds_succ]
    go_wp2
    rw [rounds_succ]
    go_wp2
    rw [rounds_succ]
    go_wp2
    go_ret
    exact ⟨Drew.refl w, ret_int HV.out⟩

set_option maxRecDepth 100000 in
set_option maxHeartbeats 800000 in
theorem num_small (x y : Int) (w : World) (hx : 0 ≤ x) (hy : 0 ≤ y) (hx2 : x < 1000000000000000000) (hy2 : y < 1000000000000000000) :
    Calls Tryz.prog 244 #[.int .i64 x, .int .i64 y] w fun e w' => Drew w w' ∧ e = .returned (.int .i64 (Nat.gcd x.toNat y.toNat)) := by
  go_enter Tryz.func244, Tryz.ntmps244
  go_wp2
  go_loopw [0, 1] (fun a b w' => ∃ p q : Int, a = .int .i64 p ∧ b = .int .i64 q ∧ 0 ≤ p ∧ 0 ≤ q ∧ p < 1000000000000000000 ∧ q < 1000000000000000000 ∧ Hid (Nat.gcd p.toNat q.toNat = Nat.gcd x.toNat y.toNat) ∧ Hid (Drew w w')) (fun _ b _ => (intOf b).toNat)
  case atStart => exact ⟨x, y, rfl, rfl, hx, hy, hx2, hy2, rfl, Drew.refl w⟩
  case round =>
    obtain ⟨p, q, rfl, rfl, hp, hq, hp2, hq2, HG, HD⟩ := hrel
    by_cases h0 : 0 < q
    · go_wp2
      repeat (go_quiet (fail); try go_wp2)
      have hm1 := Int.emod_nonneg p (show q ≠ 0 by omega)
      have hm2 := Int.emod_lt_of_pos p h0
      go_roundw
      case rel => exact ⟨q, p % q, rfl, rfl, hq, hm1, hq2, by omega, (gcd_step hp hq).trans HG.out, by first | exact HD.out | exact HD.out.step _⟩
      case measure => simp [intOf]; omega
    · have hq0 : q = 0 := by omega
      have HQ := Lib.hid hq0
      clear hq0
      go_wp2
      go_ret
      exact ⟨HD.out, ret_int (by rw [← HG.out, HQ.out]; simp; omega)⟩
end Go.Proofs.YtdcjibjldfjllaaGreat

/- Product of whole numbers. -/
namespace Go.Proofs.YtdcjibjldfjllaaGreat
open Go.RowKit

theorem mul_inner {b : Int} {os Y : List Int} {i j : Nat} {V x c t : Int} (hij : i + j < os.length) (h : Dg.val b os + b ^ (i + j) * c = V + b ^ i * (x * Dg.val b (Y.take j))) (ht : t = c + x * rd Y j + rd os (i + j)) :
    Dg.val b (os.set (i + j) (t % b)) + b ^ (i + (j + 1)) * (t / b) = V + b ^ i * (x * Dg.val b (Y.take (j + 1))) := by
  rw [Dg.val_set _ _ _ _ hij, Dg.val_take_succ', show i + (j + 1) = (i + j) + 1 by omega, Int.pow_succ, Int.mul_assoc, Int.mul_add x, Int.mul_add (b ^ i)]
  have e1 : b ^ (i + j) * (t % b) + b ^ (i + j) * (b * (t / b)) = b ^ (i + j) * t := by
    rw [← Int.mul_add, Int.emod_add_mul_ediv]
  have e2 : b ^ (i + j) * t = b ^ (i + j) * c + b ^ (i + j) * (x * rd Y j) + b ^ (i + j) * rd os (i + j) := by
    rw [ht, Int.mul_add, Int.mul_add]
  have e3 : b ^ i * (x * (b ^ j * Y.getD j 0)) = b ^ (i + j) * (x * rd Y j) := by
    unfold rd
    rw [Int.pow_add, Int.mul_assoc, Int.mul_left_comm x]
  rw [e3, Int.mul_sub]
  unfold rd at e2 ⊢
  omega

theorem mul_last {b : Int} {os Y : List Int} {i m : Nat} {V x c : Int} (hi : i + m < os.length) (hm : Y.length = m) (h : Dg.val b os + b ^ (i + m) * c = V + b ^ i * (x * Dg.val b (Y.take m))) (h0 : rd os (i + m) = 0) :
    Dg.val b (os.set (i + m) c) = V + b ^ i * (x * Dg.val b Y) := by
  rw [Dg.val_set _ _ _ _ hi]
  unfold rd at h0
  rw [List.take_of_length_le (by omega)] at h
  rw [h0, Int.sub_zero]
  exact h

theorem mul_outer {b : Int} {X Y os : List Int} {i : Nat} {x : Int} (h : Dg.val b os = Dg.val b (X.take i) * Dg.val b Y + b ^ i * (x * Dg.val b Y)) (hx : x = rd X i) :
    Dg.val b os = Dg.val b (X.take (i + 1)) * Dg.val b Y := by
  rw [h, Dg.val_take_succ', Int.add_mul, hx, Int.mul_assoc]
  rfl

theorem rd_set {l : List Int} {i j : Nat} {v : Int} (h : i < l.length) : rd (l.set i v) j = if j = i then v else rd l j := Dg.getD_set h

theorem rd_replicate (n t : Nat) : rd (List.replicate n 0) t = 0 := by
  unfold rd
  simp only [List.getD_eq_getElem?_getD, List.getElem?_replicate]
  split <;> rfl

theorem mul_sign {s t : Bool} {x y : Int} (hs : s = decide (x < 0)) (ht : t = decide (y < 0)) : x * y = if (s != t) = true then -((x.natAbs : Int) * (y.natAbs : Int)) else (x.natAbs : Int) * (y.natAbs : Int) := by
  subst hs ht
  by_cases hx : x < 0 <;> by_cases hy : y < 0
  · rw [if_neg (by simp [hx, hy]), show (x.natAbs : Int) = -x by omega, show (y.natAbs : Int) = -y by omega, Int.neg_mul_neg]
  · rw [if_pos (by simp [hx, hy]), show (x.natAbs : Int) = -x by omega, show (y.natAbs : Int) = y by omega, Int.neg_mul, Int.neg_neg]
  · rw [if_pos (by simp [hx, hy]), show (x.natAbs : Int) = x by omega, show (y.natAbs : Int) = -y by omega, Int.mul_neg, Int.neg_neg]
  · rw [if_neg (by simp [hx, hy]), show (x.natAbs : Int) = x by omega, show (y.natAbs : Int) = y by omega]

theorem prod_bd {x y : Int} (hx0 : 0 ≤ x) (hx : x < 1000000000) (hy0 : 0 ≤ y) (hy : y < 1000000000) : 0 ≤ x * y ∧ x * y ≤ 999999998000000001 := by
  constructor
  · exact Int.mul_nonneg hx0 hy0
  · calc x * y ≤ 999999999 * y := Int.mul_le_mul_of_nonneg_right (by omega) hy0
      _ ≤ 999999999 * 999999999 := Int.mul_le_mul_of_nonneg_left (by omega) (by omega)
      _ = 999999998000000001 := by decide

set_option maxRecDepth 100000 in
set_option maxHeartbeats 2000000 in
theorem whole_mul (s t : Bool) (A B : Option Addr) (n c m d : Nat) (x y : Int) (w : World) (hx : RW w s A n c x) (hy : RW w t B m d y) (hn : n < 68719476736) (hm : m < 68719476736) :
    Calls Tryz.prog 145 #[.agg #[.bool s, .slice A n c], .agg #[.bool t, .slice B m d]] w (AnsW (x * y) w) := by
  have HS := Lib.hid hx.1
  have HX := Lib.hid hx.2
  have HT := Lib.hid hy.1
  have HY := Lib.hid hy.2
  have HLX := Lib.hid hx.2.len
  have HLY := Lib.hid hy.2.len
  have DX := Lib.hid (dg_dig x.natAbs)
  have DY := Lib.hid (dg_dig y.natAbs)
  clear hx hy
  obtain ⟨xs, hxs⟩ : ∃ xs, dg x.natAbs = xs := ⟨_, rfl⟩
  obtain ⟨ys, hys⟩ : ∃ ys, dg y.natAbs = ys := ⟨_, rfl⟩
  rw [hxs] at HX HLX DX
  rw [hys] at HY HLY DY
  have HXS := Lib.hid hxs
  have HYS := Lib.hid hys
  clear hxs hys
  obtain ⟨i0, hi0, hz0, hs0, hb0⟩ := info_parts info_u32
  have HI : Hid (Tryz.prog.info? 247 = some i0 ∧ i0.zero = some (.int .u32 0) ∧ i0.size = 1 ∧ i0.bytes ≤ 16) := ⟨hi0, hz0, hs0, by omega⟩
  clear hi0 hz0 hs0 hb0
  obtain ⟨wb, hwb⟩ : ∃ wb, (((w.alloc (.cells #[.bool s, .slice A n c] 129)).alloc (.cells #[.bool t, .slice B m d] 129)).alloc (.cells #[.bool false, .slice none 0 0] 129)) = wb := ⟨_, rfl⟩
  have b0 : wb.cell? ⟨w.heap.size, 0, none⟩ = some (.bool s) := by rw [← hwb]; simp [go_sem]
  have b1 : wb.cell? ⟨w.heap.size, 1, none⟩ = some (.slice A n c) := by rw [← hwb]; simp [go_sem]
  have b2 : wb.cell? ⟨w.heap.size + 1, 0, none⟩ = some (.bool t) := by rw [← hwb]; simp [go_sem]
  have b3 : wb.cell? ⟨w.heap.size + 1, 1, none⟩ = some (.slice B m d) := by rw [← hwb]; simp [go_sem]
  have b4 : wb.cell? ⟨w.heap.size + 1 + 1, 0, none⟩ = some (.bool false) := by rw [← hwb]; simp [go_sem]
  have b5 : wb.cell? ⟨w.heap.size + 1 + 1, 1, none⟩ = some (.slice none 0 0) := by rw [← hwb]; simp [go_sem]
  have b6 : wb.frozen? ⟨w.heap.size + 1 + 1, 0, none⟩ = false := by rw [← hwb]; simp [go_sem]
  have b7 : wb.frozen? ⟨w.heap.size + 1 + 1, 1, none⟩ = false := by rw [← hwb]; simp [go_sem]
  have HPB : Hid (Past w wb) := by rw [← hwb]; exact (((Past.refl _).alloc _).alloc _).alloc _
  have HB0 := Lib.hid b0
  have HB1 := Lib.hid b1
  have HB2 := Lib.hid b2
  have HB3 := Lib.hid b3
  have HB46 : Hid (wb.cell? ⟨w.heap.size + 1 + 1, 0, none⟩ = some (.bool false) ∧ wb.frozen? ⟨w.heap.size + 1 + 1, 0, none⟩ = false) := ⟨b4, b6⟩
  have HB57 : Hid (wb.cell? ⟨w.heap.size + 1 + 1, 1, none⟩ = some (.slice none 0 0) ∧ wb.frozen? ⟨w.heap.size + 1 + 1, 1, none⟩ = false) := ⟨b5, b7⟩
  clear b0 b1 b2 b3 b4 b5 b6 b7
  have HWB := Lib.hid hwb
  clear hwb
  go_enter Tryz.func145, Tryz.ntmps145
  go_wp2_with (first | (at_make; refine wpList_mkn (w0 := wb) (k := .u32) Tryz.underlying127 HI.out.1 HI.out.2.1 HI.out.2.2.1 HI.out.2.2.2 (by rw [HWB.out]; exact Past.refl _) rfl rfl .i64 .i64 (n + m) _ _ rfl rfl (by omega) (by omega) (by omega) ?_; intro g w1 hown hp1 hg hpp; have k1 := hp1.cell HB1.out; have HG : Hid (wb.heap.size ≤ g) := (hown.1.lt g rfl).1; clear hg hpp hp1))
  go_loopw [6, 7, 8, 9, 10, 22, 30] (fun _ _ _ _ _ iv _ wr => ∃ (i : Nat) (os : List Int), i ≤ n ∧ iv = .int .i64 i ∧ Hid (os.length = n + m) ∧ Hid (Dg.Dig 1000000000 os) ∧ Hid (Dg.val 1000000000 os = Dg.val 1000000000 (xs.take i) * Dg.val 1000000000 ys) ∧ Hid (∀ t, i + m ≤ t → rd os t = 0) ∧ Hid (Own wb wr 247 .u32 (.slice (some ⟨g, 0, none⟩) (n + m) (n + m)) os)) (fun _ _ _ _ _ iv _ _ => n - (intOf iv).toNat)
  case atStart => exact ⟨0, List.replicate (n + m) 0, Nat.zero_le _, rfl, by simp [Hid], Dg.dig_replicate_zero (by omega) _, by simp [Hid, Dg.val_replicate_zero], fun t _ => rd_replicate _ _, hown⟩
  case round =>
    clear hown k1
    obtain ⟨i, os, hi, rfl, HLO, HDO, HV, HZ, HO⟩ := hrel
    by_cases hin : i < n
    · obtain ⟨b1, o1, rfl, hc1⟩ := HX.out.at_ (by omega)
      have e1 := (HPB.out.trans HO.out.2).cell (hc1 i (by omega))
      clear hc1
      have k3 := HO.out.2.cell HB3.out
      have hxd := rd_dig DX.out (by omega) i
      have hx0 := hxd.1
      have hx1 := hxd.2
      clear hxd
      go_wp2
      go_loopw [8, 9, 10, 30] (fun cv _ _ jv wr => ∃ (j : Nat) (os : List Int) (q : Int), j ≤ m ∧ jv = .int .i64 j ∧ cv = .int .u64 q ∧ 0 ≤ q ∧ q < 1000000000 ∧ Hid (os.length = n + m) ∧ Hid (Dg.Dig 1000000000 os) ∧ Hid (Dg.val 1000000000 os + 1000000000 ^ (i + j) * q = Dg.val 1000000000 (xs.take i) * Dg.val 1000000000 ys + 1000000000 ^ i * (rd xs i * Dg.val 1000000000 (ys.take j))) ∧ Hid (∀ t, i + m ≤ t → rd os t = 0) ∧ Hid (Own wb wr 247 .u32 (.slice (some ⟨g, 0, none⟩) (n + m) (n + m)) os)) (fun _ _ _ jv _ => m - (intOf jv).toNat)
      case atStart => exact ⟨0, os, 0, Nat.zero_le _, rfl, rfl, by omega, by omega, HLO, HDO, by simp [Hid, HV.out], HZ, HO⟩
      case round =>
        clear e1 k3 HO HZ HV HDO HLO
        obtain ⟨j, os, q, hj, rfl, rfl, hq0, hq1, HLO, HDO, HV, HZ, HO⟩ := hrel
        have k3 := HO.out.2.cell HB3.out
        by_cases hjm : j < m
        · obtain ⟨b2, o2, rfl, hc2⟩ := HY.out.at_ (by omega)
          have e2 := (HPB.out.trans HO.out.2).cell (hc2 j (by omega))
          have e34 := HO.out.at_ (i + j) (by have := HLO.out; omega)
          have e3 := e34.1
          have e4 := e34.2
          have hyd := rd_dig DY.out (by omega) j
          have hy0 := hyd.1
          have hy1 := hyd.2
          have hod := rd_dig HDO.out (by omega) (i + j)
          have ho0 := hod.1
          have ho1 := hod.2
          have hpd := prod_bd hx0 hx1 hy0 hy1
          have hp0 := hpd.1
          have hp1 := hpd.2
          clear e34 hc2 hyd hod hpd
          have es : (i : Int) + (j : Int) = ((i + j : Nat) : Int) := by omega
          have HES := Lib.hid es
          clear es
          go_wp2
          go_roundw
          case rel => exact ⟨j + 1, os.set (i + j) ((q + (rd xs i * rd ys j + rd os (i + j))) % 1000000000), (q + (rd xs i * rd ys j + rd os (i + j))) / 1000000000, by omega, by go_num, rfl, by omega, by omega, by simp [Hid, HLO.out], HDO.out.set _ (by omega) (by omega), mul_inner (by have := HLO.out; omega) HV.out (by omega), fun t ht => by rw [rd_set (by have := HLO.out; omega), if_neg (by omega)]; exact HZ.out t ht, HO.out.set (by have := HLO.out; omega) _⟩
          case measure => simp [intOf]; omega
        · have hje : j = m := by omega
          subst hje
          have e34 := HO.out.at_ (i + j) (by have := HLO.out; omega)
          have e3 := e34.1
          have e4 := e34.2
          clear e34
          have es : (i : Int) + (j : Int) = ((i + j : Nat) : Int) := by omega
          have HES := Lib.hid es
          clear es
          go_wp2
          go_roundw
          case rel => exact ⟨i + 1, os.set (i + j) q, by omega, by go_num, by simp [Hid, HLO.out], HDO.out.set _ (by omega) (by omega), mul_outer (mul_last (by have := HLO.out; omega) HLY.out HV.out (HZ.out _ (Nat.le_refl _))) rfl, fun t ht => by rw [rd_set (by have := HLO.out; omega), if_neg (by omega)]; exact HZ.out t (by omega), HO.out.set (by have := HLO.out; omega) _⟩
          case measure => simp [intOf]; omega
    · have hie : i = n := by omega
      have HIE := Lib.hid hie
      clear hie
      have k0 := HO.out.2.cell HB0.out
      have k2 := HO.out.2.cell HB2.out
      obtain ⟨q0, q1⟩ := HO.out.2.free HB46.out.1 HB46.out.2
      obtain ⟨q2, q3⟩ := HO.out.2.free HB57.out.1 HB57.out.2
      have hrr : RInts wr .u32 (some ⟨g, 0, none⟩) (n + m) (n + m) os := by
        obtain ⟨A', c', h1, h2⟩ := HO.out.reads
        simp only [Value.slice.injEq] at h1
        obtain ⟨rfl, _, rfl⟩ := h1
        rw [HLO.out] at h2
        exact h2
      have HRR := Lib.hid hrr
      clear hrr
      go_wp2_with fail
      refine (num_signedW _ _ _ _ _ (x * y) _ HRR.out HDO.out ?_).mono ?_
      · rw [HV.out, HIE.out, List.take_of_length_le (by have := HLX.out; omega), ← HXS.out, ← HYS.out, dg_val, dg_val]
        exact mul_sign HS.out HT.out
      rintro e w2 ⟨hp2, s2, A2, n2, c2, rfl, hr2⟩
      obtain ⟨r0, r1⟩ := hp2.free q0 q1
      obtain ⟨r2, r3⟩ := hp2.free q2 q3
      go_wp2
      exact bodyPost_ret (v := .agg #[.bool s2, .slice A2 n2 c2]) (by simp [results, Tryz.results145, go_sem, r0, r2]) rfl (AnsW.store hr2 (HPB.out.trans HO.out.2) hp2 (by omega) (by simp [r0]) (by simp [r2]) _ _)

end Go.Proofs.YtdcjibjldfjllaaGreat

/- Division by one digit; multiplication by one digit. -/
namespace Go.Proofs.YtdcjibjldfjllaaGreat
open Go.RowKit

theorem info_i : ∃ i, Tryz.prog.info? 247 = some i ∧ i.zero = some (.int .u32 0) ∧ i.size = 1 ∧ i.bytes ≤ 16 := by
  obtain ⟨i, h1, h2, h3, h4⟩ := info_parts info_u32
  exact ⟨i, h1, h2, h3, by omega⟩

theorem short_step {U b : Int} {X os : List Int} {k : Nat} {r t : Int} (hk : k < X.length) (hl : os.length = X.length) (h : Dg.val U (X.drop (k + 1)) = b * Dg.val U (os.drop (k + 1)) + r) (ht : t = r * U + rd X k) :
    Dg.val U (X.drop k) = b * Dg.val U ((os.set k (t / b)).drop k) + t % b := by
  have e1 : (os.set k (t / b)).drop k = t / b :: os.drop (k + 1) := by
    rw [Dg.drop_cons_getD (by simp; omega), Dg.getD_set (by omega), if_pos rfl, List.drop_set, if_pos (by omega)]
  rw [Dg.val_drop_succ U hk, h, e1, Dg.val_cons, Int.mul_add b, Int.mul_left_comm b U, Int.mul_add U]
  have e2 := Int.emod_add_mul_ediv t b
  have e3 : U * r = r * U := Int.mul_comm _ _
  unfold rd at ht
  omega

theorem digit_div {t b U : Int} (hb : 0 < b) (ht : t < b * U) (h0 : 0 ≤ t) : 0 ≤ t / b ∧ t / b < U :=
  ⟨Int.ediv_nonneg h0 (by omega), Int.ediv_lt_of_lt_mul hb (by rw [Int.mul_comm]; exact ht)⟩

set_option maxRecDepth 100000 in
set_option maxHeartbeats 2000000 in
theorem num_short (A : Option Addr) (n c : Nat) (xs : List Int) (b : Int) (w : World) (hx : RInts w .u32 A n c xs) (dx : Dg.Dig 1000000000 xs) (hn : n < 68719476736) (hb0 : 0 < b) (hb1 : b ≤ 1000000000) :
    Calls Tryz.prog 267 #[.slice A n c, .int .u32 b] w fun e w' => Past w w' ∧ ∃ C k c' zs r, e = .returned (.tuple #[.slice C k c', .int .u32 r]) ∧ RInts w' .u32 C k c' zs ∧ Dg.Dig 1000000000 zs ∧ Dg.val 1000000000 xs = b * Dg.val 1000000000 zs + r ∧ 0 ≤ r ∧ r < b ∧ k = n := by
  have HX := Lib.hid hx
  have HLX := Lib.hid hx.len
  have DX := Lib.hid dx
  have HI := Lib.hid info_i
  clear hx dx
  obtain ⟨i0, hi⟩ := HI.out
  have HI := Lib.hid hi
  clear hi
  go_enter Tryz.func267, Tryz.ntmps267
  go_wp2_with (first | (at_make; refine wpList_mkn (w0 := w) (k := .u32) Tryz.underlying127 HI.out.1 HI.out.2.1 HI.out.2.2.1 HI.out.2.2.2 (Past.refl _) rfl rfl .i64 .i64 n _ _ rfl rfl (by omega) (by omega) (by omega) ?_; intro g w1 hown hp1 hg hpp; clear hg hpp hp1))
  go_loopw [7, 8] (fun rv iv wr => ∃ (k : Nat) (os : List Int) (r : Int), k ≤ n ∧ iv = .int .i64 ((k : Int) - 1) ∧ rv = .int .u64 r ∧ 0 ≤ r ∧ r < b ∧ Hid (os.length = n) ∧ Hid (Dg.Dig 1000000000 os) ∧ Hid (Dg.val 1000000000 (xs.drop k) = b * Dg.val 1000000000 (os.drop k) + r) ∧ Hid (Own w wr 247 .u32 (.slice (some ⟨g, 0, none⟩) n n) os)) (fun _ iv _ => (intOf iv + 1).toNat)
  case atStart => exact ⟨n, List.replicate n 0, 0, Nat.le_refl _, rfl, rfl, by omega, by omega, by simp [Hid], Dg.dig_replicate_zero (by omega) _, by rw [List.drop_of_length_le (by rw [HLX.out]; exact Nat.le_refl _), List.drop_of_length_le (by simp)]; simp [Hid], hown⟩
  case round =>
    clear hown
    obtain ⟨k, os, r, hk, rfl, rfl, hr0, hr1, HLO, HDO, HV, HO⟩ := hrel
    cases k with
    | zero =>
      have hrr : RInts wr .u32 (some ⟨g, 0, none⟩) n n os := by
        obtain ⟨A', c', h1, h2⟩ := HO.out.reads
        simp only [Value.slice.injEq] at h1
        obtain ⟨rfl, _, rfl⟩ := h1
        rw [HLO.out] at h2
        exact h2
      have HRR := Lib.hid hrr
      clear hrr
      go_wp2
      go_ret2
      exact ⟨HO.out.2, _, _, _, os, r, rfl, HRR.out, HDO.out, by have := HV.out; simpa using this, hr0, hr1, rfl⟩
    | succ k =>
      obtain ⟨b1, o1, rfl, hc1⟩ := HX.out.at_ (by omega)
      have e1 := HO.out.2.cell (hc1 k (by omega))
      clear hc1
      have e34 := HO.out.at_ k (by have := HLO.out; omega)
      have e3 := e34.1
      have e4 := e34.2
      clear e34
      have ek : ((k + 1 : Nat) : Int) - 1 = (k : Int) := by omega
      simp only [ek]
      clear ek
      have hxd := rd_dig DX.out (by omega) k
      have hx0 := hxd.1
      have hx1 := hxd.2
      clear hxd
      have h0 : (0 : Int) ≤ k := by omega
      have h1 : (k : Int) < n := by omega
      have hbne : ¬ b = 0 := by omega
      go_wp2
      have hqd := digit_div (t := r * 1000000000 + rd xs k) (U := 1000000000) hb0 (by omega) (by omega)
      have hq0 := hqd.1
      have hq1 := hqd.2
      have hm0 := Int.emod_nonneg (r * 1000000000 + rd xs k) (show b ≠ 0 by omega)
      have hm1 := Int.emod_lt_of_pos (r * 1000000000 + rd xs k) hb0
      clear hqd
      go_region
      all_goals go_wp2
      all_goals go_roundw
      case rel => exact ⟨k, os.set k ((r * 1000000000 + rd xs k) / b), (r * 1000000000 + rd xs k) % b, by omega, rfl, rfl, hm0, hm1, by simp [Hid, HLO.out], HDO.out.set _ hq0 hq1, short_step (by have := HLX.out; omega) (by have := HLO.out; have := HLX.out; omega) HV.out rfl, (HO.out.set (by have := HLO.out; omega) _).drew⟩
      case measure => simp [intOf]

theorem scaled_step {U b : Int} {X os : List Int} {i : Nat} {q t : Int} (hl : os.length = i) (h : Dg.val U os + U ^ i * q = b * Dg.val U (X.take i)) (ht : t = q + rd X i * b) :
    Dg.val U (os ++ [t % U]) + U ^ (i + 1) * (t / U) = b * Dg.val U (X.take (i + 1)) := by
  rw [Dg.val_snoc, hl, Dg.val_take_succ', Int.pow_succ, Int.mul_assoc, Int.mul_add b]
  have e : U ^ i * (t % U) + U ^ i * (U * (t / U)) = U ^ i * t := by
    rw [← Int.mul_add, Int.emod_add_mul_ediv]
  have e2 : U ^ i * t = U ^ i * q + b * (U ^ i * rd X i) := by
    rw [ht, Int.mul_add, Int.mul_left_comm b, Int.mul_comm b]
  unfold rd at e2
  omega

theorem carry_bd {x b q : Int} (hx0 : 0 ≤ x) (hx : x < 1000000000) (hb : 0 < b) (hb1 : b ≤ 1000000000) (hq : q < b) : 0 ≤ x * b ∧ x * b ≤ 999999999000000000 ∧ q + x * b < 1000000000 * b := by
  refine ⟨Int.mul_nonneg hx0 (by omega), ?_, ?_⟩
  · calc x * b ≤ 999999999 * b := Int.mul_le_mul_of_nonneg_right (by omega) (by omega)
      _ ≤ 999999999 * 1000000000 := Int.mul_le_mul_of_nonneg_left hb1 (by omega)
      _ = 999999999000000000 := by decide
  · have : x * b ≤ 999999999 * b := Int.mul_le_mul_of_nonneg_right (by omega) (by omega)
    omega

set_option maxRecDepth 100000 in
set_option maxHeartbeats 2000000 in
theorem num_scaled (A : Option Addr) (n c : Nat) (xs : List Int) (b : Int) (w : World) (hx : RInts w .u32 A n c xs) (dx : Dg.Dig 1000000000 xs) (hn : n < 68719476736) (hb0 : 0 < b) (hb1 : b ≤ 1000000000) :
    Calls Tryz.prog 273 #[.slice A n c, .int .u32 b] w fun e w' => ∃ v zs, e = .returned v ∧ Own w w' 247 .u32 v zs ∧ Dg.Dig 1000000000 zs ∧ Dg.val 1000000000 zs = b * Dg.val 1000000000 xs ∧ zs.length = n + 1 := by
  have HX := Lib.hid hx
  have HLX := Lib.hid hx.len
  have DX := Lib.hid dx
  clear hx dx
  go_enter Tryz.func273, Tryz.ntmps273
  go_wp2_with (first | (at_make; refine wpList_mk0 (k := .u32) el_u32 (Past.refl w) rfl rfl .i64 .i64 (n + 1) _ rfl rfl (by omega) (by omega) ?_; intro v0 w0 hown hp0))
  go_loopw [5, 6, 8, 15] (fun v cv _ iv wr => ∃ (i : Nat) (os : List Int) (q : Int), i ≤ n ∧ iv = .int .i64 i ∧ cv = .int .u64 q ∧ 0 ≤ q ∧ q < b ∧ Hid (os.length = i) ∧ Hid (Dg.Dig 1000000000 os) ∧ Hid (Dg.val 1000000000 os + 1000000000 ^ i * q = b * Dg.val 1000000000 (xs.take i)) ∧ Hid (Own w wr 247 .u32 v os)) (fun _ _ _ iv _ => n - (intOf iv).toNat)
  case atStart => exact ⟨0, [], 0, Nat.zero_le _, rfl, rfl, by omega, by omega, rfl, Dg.Dig.nil _, by simp [Hid], hown⟩
  case round =>
    clear hown hp0
    obtain ⟨i, os, q, hi, rfl, rfl, hq0, hq1, HLO, HDO, HV, HO⟩ := hrel
    by_cases hin : i < n
    · obtain ⟨b1, o1, rfl, hc1⟩ := HX.out.at_ (by omega)
      have e1 := HO.out.2.cell (hc1 i (by omega))
      clear hc1
      have hxd := rd_dig DX.out (by omega) i
      have hx0 := hxd.1
      have hx1 := hxd.2
      have hcb := carry_bd hx0 hx1 hb0 hb1 hq1
      have hc0 := hcb.1
      have hc1 := hcb.2.1
      have hc2 := hcb.2.2
      clear hxd hcb
      go_wp2_with (first | (at_builtin; refine wpList_app el_u32 (HO.out.alloc _) rfl rfl rfl _ _ _ rfl (cell_new1 _ _ _) ?_ ?_; (have := HLO.out; omega); intro v1 w1 hown1 hp1))
      go_roundw
      case rel => exact ⟨i + 1, os ++ [(q + rd xs i * b) % 1000000000], (q + rd xs i * b) / 1000000000, by omega, by go_num, rfl, by omega, by omega, by simp [Hid, HLO.out], HDO.out.snoc (by omega) (by omega), scaled_step HLO.out HV.out rfl, hown1⟩
      case measure => simp [intOf]; omega
    · have hie : i = n := by omega
      have HIE := Lib.hid hie
      clear hie
      go_wp2_with (first | (at_builtin; refine wpList_app el_u32 (HO.out.alloc _) rfl rfl rfl _ _ _ rfl (cell_new1 _ _ _) ?_ ?_; (have := HLO.out; omega); intro v1 w1 hown1 hp1))
      go_ret
      exact ⟨v1, os ++ [q], rfl, hown1, HDO.out.snoc (by omega) (by omega), by rw [Dg.val_snoc, HLO.out, HV.out, List.take_of_length_le (by have := HLX.out; have := HIE.out; omega)], by simp [HLO.out, HIE.out]⟩

end Go.Proofs.YtdcjibjldfjllaaGreat

/- Division of digits by digits: the arithmetic of Knuth's algorithm D. -/
namespace Go.Proofs.YtdcjibjldfjllaaGreat
open Go.RowKit
namespace Kd
theorem mul_le {a b c : Int} (h : a ≤ b) (hc : 0 ≤ c) : a * c ≤ b * c := Int.mul_le_mul_of_nonneg_right h hc

/-- The first guess is not too small. -/
theorem guess0 {E U v0 v1 v2 w0 u2 top V W g : Int} (hE : 0 < E) (hU : 0 < U) (hV : V = v0 + E * (v2 + U * v1)) (hW : W = w0 + E * (u2 + U * top)) (hv0 : 0 ≤ v0) (hv2 : 0 ≤ v2) (hw0 : w0 < E) (hu2 : u2 < U)
    (hg : top < v1 * (g + 1)) (hg0 : 0 ≤ g) : W < V * (g + 1) := by
  have a1 : W + 1 ≤ E * (U * (top + 1)) := by
    have : E * (u2 + 1) ≤ E * U := Int.mul_le_mul_of_nonneg_left (by omega) (by omega)
    grind
  have a2 : E * (U * (top + 1)) ≤ E * (U * (v1 * (g + 1))) :=
    Int.mul_le_mul_of_nonneg_left (Int.mul_le_mul_of_nonneg_left (by omega) (by omega)) (by omega)
  have a3 : E * (U * (v1 * (g + 1))) ≤ V * (g + 1) := by
    have : E * (U * v1) ≤ V := by
      have := Int.mul_nonneg (show 0 ≤ E by omega) hv2
      grind
    have := mul_le this (show 0 ≤ g + 1 by omega)
    grind
  omega

/-- The head of the window is below the divisor's. -/
theorem top_bd {E U v0 v1 v2 w0 u2 top V W : Int} (hE : 0 < E) (hU : 0 < U) (hV : V = v0 + E * (v2 + U * v1)) (hW : W = w0 + E * (u2 + U * top)) (hv0 : v0 < E) (hv2 : v2 < U) (hw0 : 0 ≤ w0) (hu2 : 0 ≤ u2)
    (h : W < U * V) : top < U * (v1 + 1) := by
  have a1 : E * (U * top) ≤ W := by
    have := Int.mul_nonneg (show 0 ≤ E by omega) hu2
    grind
  have a2 : V ≤ E * (U * (v1 + 1)) := by
    have : E * (v2 + 1) ≤ E * U := Int.mul_le_mul_of_nonneg_left (by omega) (by omega)
    grind
  have a3 : U * V ≤ U * (E * (U * (v1 + 1))) := Int.mul_le_mul_of_nonneg_left a2 (by omega)
  have a4 : (E * U) * top < (E * U) * (U * (v1 + 1)) := by grind
  exact Int.lt_of_mul_lt_mul_left a4 (Int.le_of_lt (Int.mul_pos hE hU))

/-- The next guess is not too small. -/
theorem guess_down {E U v0 v1 v2 w0 u2 top V W g rest : Int} (hE : 0 < E) (hV : V = v0 + E * (v2 + U * v1)) (hW : W = w0 + E * (u2 + U * top)) (hv0 : 0 ≤ v0) (hw0 : w0 < E)
    (hg : g * v1 + rest = top) (hg0 : 0 ≤ g) (h : g * v2 > rest * U + u2) : W < V * g := by
  have a1 : E * (rest * U + u2 + 1) ≤ E * (g * v2) := Int.mul_le_mul_of_nonneg_left (by omega) (by omega)
  have a2 := Int.mul_nonneg hv0 hg0
  have e1 : V * g = v0 * g + E * v2 * g + E * U * top - E * U * rest := by grind
  have e2 : W = w0 + E * u2 + E * U * top := by grind
  have e3 : E * U * rest + E * u2 + E ≤ E * v2 * g := by grind
  omega
theorem guess_down' {U V W g : Int} (hV : 0 ≤ V) (h : W < U * V) (hg : U ≤ g) : W < V * g := by
  have := mul_le hg hV
  grind

/-- The last guess is at most one too great. -/
theorem guess_end {E U v0 v1 v2 w0 u2 top V W g rest : Int} (hE : 0 < E) (hU : 0 < U) (hV : V = v0 + E * (v2 + U * v1)) (hW : W = w0 + E * (u2 + U * top)) (hv0 : v0 < E) (hv00 : 0 ≤ v0) (hv1 : 1 ≤ v1) (hv2 : 0 ≤ v2) (hv2' : v2 < U) (hw0 : 0 ≤ w0) (hu2 : 0 ≤ u2)
    (hg : g * v1 + rest = top) (hg0 : 0 ≤ g) (hgU : g < U) (h : g * v2 ≤ rest * U + u2 ∨ U ≤ rest) : V * (g - 1) ≤ W := by
  have h' : g * v2 ≤ rest * U + u2 := by
    rcases h with h | h
    · exact h
    · have b1 := mul_le h (show 0 ≤ U by omega)
      have b2 : g * v2 ≤ U * v2 := mul_le (by omega) hv2
      have b3 : U * v2 ≤ U * U := Int.mul_le_mul_of_nonneg_left (by omega) (by omega)
      omega
  have a1 : E * (g * v2) ≤ E * (rest * U + u2) := Int.mul_le_mul_of_nonneg_left h' (by omega)
  have a2 : v0 * g ≤ E * g := mul_le (by omega) hg0
  have a3 : E * g ≤ E * (U * v1) := by
    refine Int.mul_le_mul_of_nonneg_left ?_ (by omega)
    have : U * 1 ≤ U * v1 := Int.mul_le_mul_of_nonneg_left hv1 (by omega)
    omega
  have a4 := Int.mul_nonneg (show 0 ≤ E by omega) hv2
  have e1 : V * (g - 1) = v0 * g + E * v2 * g + E * U * top - E * U * rest - V := by grind
  have e2 : W = w0 + E * u2 + E * U * top := by grind
  have e3 : E * v2 * g ≤ E * U * rest + E * u2 := by grind
  have e4 : V = v0 + E * v2 + E * U * v1 := by grind
  have e5 : E * (U * v1) = E * U * v1 := by grind
  omega

/-- A break leaves a guess that is a digit. -/
theorem guess_digit {U v1 g rest top : Int} (hv1 : 1 ≤ v1) (hg : g * v1 + rest = top) (ht : top < U * (v1 + 1)) (hr : U ≤ rest) : g < U := by
  have : g * v1 < U * v1 := by grind
  exact Int.lt_of_mul_lt_mul_right this (by omega)
theorem guess_max {U v1 g rest top : Int} (hv1 : 1 ≤ v1) (hg : g * v1 + rest = top) (ht : top < U * (v1 + 1)) (hU : 0 < U) (hr : 0 ≤ rest) : g < 2 * U := by
  have b : U * (v1 + 1) ≤ U * (2 * v1) := Int.mul_le_mul_of_nonneg_left (by omega) (by omega)
  have : g * v1 < (2 * U) * v1 := by grind
  exact Int.lt_of_mul_lt_mul_right this (by omega)
open Dg
theorem sub_step {U : Int} {os Y : List Int} {i j : Nat} {T g bo p x b' c : Int} (hij : i + j < os.length) (h : val U os - U ^ (i + j) * bo = T - U ^ j * (g * val U (Y.take i))) (hp : p = g * rd Y i)
    (hx : x = rd os (i + j) - bo - p % U + c * U) (hb : b' = p / U + c) :
    val U (os.set (i + j) x) - U ^ (i + 1 + j) * b' = T - U ^ j * (g * val U (Y.take (i + 1))) := by
  rw [val_set _ _ _ _ hij, val_take_succ', show i + 1 + j = (i + j) + 1 by omega, Int.pow_succ]
  have e0 : U * (p / U) + p % U = p := by have := Int.emod_add_mul_ediv p U; omega
  have e1 : U ^ (i + j) = U ^ j * U ^ i := by rw [Nat.add_comm, Int.pow_add]
  unfold rd at hp hx
  rw [e1] at h ⊢
  generalize U ^ j = a at *
  generalize U ^ i = b at *
  generalize p / U = d at *
  generalize p % U = r at *
  grind
theorem add_step {U : Int} {os Y : List Int} {i j : Nat} {T cy y : Int} (hij : i + j < os.length) (h : val U os + U ^ (i + j) * cy = T + U ^ j * val U (Y.take i))
    (hy : y = rd os (i + j) + rd Y i + cy) :
    val U (os.set (i + j) (y % U)) + U ^ (i + 1 + j) * (y / U) = T + U ^ j * val U (Y.take (i + 1)) := by
  rw [val_set _ _ _ _ hij, val_take_succ', show i + 1 + j = (i + j) + 1 by omega, Int.pow_succ]
  have e0 : U * (y / U) + y % U = y := by have := Int.emod_add_mul_ediv y U; omega
  have e1 : U ^ (i + j) = U ^ j * U ^ i := by rw [Nat.add_comm, Int.pow_add]
  unfold rd at hy
  rw [e1] at h ⊢
  generalize U ^ j = a at *
  generalize U ^ i = b at *
  generalize y / U = d at *
  generalize y % U = r at *
  grind
theorem val_zeros {U : Int} : ∀ {l : List Int}, (∀ t, rd l t = 0) → val U l = 0
  | [], _ => rfl
  | x :: xs, h => by
    have h0 : x = 0 := h 0
    rw [val_cons, val_zeros (l := xs) (fun t => h (t + 1)), h0]; simp
theorem val_low {U : Int} {l : List Int} {s : Nat} (h : ∀ t, s ≤ t → rd l t = 0) : val U l = val U (l.take s) := by
  by_cases hs : s ≤ l.length
  · rw [val_take_drop U l s hs, val_zeros (l := l.drop s), Int.mul_zero, Int.add_zero]
    intro t
    have := h (s + t) (by omega)
    unfold rd at this ⊢
    rw [List.getD_eq_getElem?_getD, List.getElem?_drop, ← List.getD_eq_getElem?_getD]; exact this
  · rw [List.take_of_length_le (by omega)]
theorem val_low_lt {U : Int} (hU : 0 < U) {l : List Int} (hd : Dig U l) {s : Nat} (hs : s ≤ l.length) (h : ∀ t, s ≤ t → rd l t = 0) : val U l < U ^ s := by
  rw [val_low h]
  have := val_lt hU (hd.take s)
  rwa [List.length_take, Nat.min_eq_left hs] at this
theorem val_split {U : Int} {l : List Int} {k : Nat} (h : k < l.length) : val U l = val U (l.take k) + U ^ k * (rd l k + U * val U (l.drop (k + 1))) := by
  rw [val_take_drop U l k (by omega), val_drop_succ U h]; rfl
theorem rd_drop {l : List Int} (j k : Nat) : rd (l.drop j) k = rd l (j + k) := by
  unfold rd
  rw [List.getD_eq_getElem?_getD, List.getElem?_drop, ← List.getD_eq_getElem?_getD]

/-- The divisor. -/
theorem divisor {U : Int} {v : List Int} {m : Nat} (hl : v.length = m + 2) : val U v = val U (v.take m) + U ^ m * (rd v m + U * rd v (m + 1)) := by
  rw [val_split (show m < v.length by omega)]
  have := val_drop_succ U (show m + 1 < v.length by omega)
  rw [this, List.drop_of_length_le (by omega : v.length ≤ m + 1 + 1)]
  simp [rd]
/-- The window. -/
theorem window {U : Int} {u : List Int} {j m : Nat} (hl : j + m + 2 < u.length) (h : ∀ t, j + m + 3 ≤ t → rd u t = 0) :
    val U u = val U (u.take j) + U ^ j * val U (u.drop j) ∧ val U (u.drop j) = val U ((u.drop j).take m) + U ^ m * (rd u (j + m) + U * (rd u (j + m + 2) * U + rd u (j + m + 1))) := by
  refine ⟨val_take_drop U u j (by omega), ?_⟩
  rw [val_split (show m < (u.drop j).length by simp; omega), rd_drop, List.drop_drop]
  have e1 := val_drop_succ U (l := u) (i := j + m + 1) (by omega)
  have e2 := val_drop_succ U (l := u) (i := j + m + 2) (by omega)
  have e3 : val U (u.drop (j + m + 3)) = 0 := val_zeros (fun t => by rw [rd_drop]; exact h _ (by omega))
  rw [show j + (m + 1) = j + m + 1 by omega, e1, show j + m + 1 + 1 = j + m + 2 by omega, e2, show j + m + 2 + 1 = j + m + 3 by omega, e3]
  unfold rd
  grind

/-- A round's end. -/
theorem round_end {U L W V g x N0 N1 a b : Int} (hV : V < b) (ha : 0 < a) (hb : 0 < b) (h0 : N0 = L + a * W) (hL0 : 0 ≤ L) (hL : L < a) (hg0 : V * g ≤ W) (hg1 : W < V * (g + 1))
    (h1 : N1 = N0 - a * (g * V) - a * b * x) (hN0 : 0 ≤ N1) (hN : N1 < a * b) : x = 0 ∧ N1 < a * V := by
  have e1 : a * (V * g) ≤ a * W := Int.mul_le_mul_of_nonneg_left hg0 (by omega)
  have e2 : a * (W + 1) ≤ a * (V * (g + 1)) := Int.mul_le_mul_of_nonneg_left (by omega) (by omega)
  have e3 : a * V < a * b := Int.mul_lt_mul_of_pos_left hV ha
  have e4 : a * (g * V) = a * (V * g) := by grind
  have e5 : a * (W + 1) = a * W + a := by grind
  have e6 : a * (V * (g + 1)) = a * (V * g) + a * V := by grind
  have hab : 0 < a * b := Int.mul_pos ha hb
  have hx : x = 0 := by
    rcases Int.lt_trichotomy x 0 with h | h | h
    · have : a * b * (-x) ≥ a * b * 1 := Int.mul_le_mul_of_nonneg_left (by omega) (by omega)
      have e7 : a * b * (-x) = - (a * b * x) := by grind
      omega
    · exact h
    · have : a * b * x ≥ a * b * 1 := Int.mul_le_mul_of_nonneg_left (by omega) (by omega)
      omega
  refine ⟨hx, ?_⟩
  subst hx
  omega

/-- The divisor keeps its length. -/
theorem scaled_len {ys vs : List Int} {m : Nat} {k y1 : Int} (hl : ys.length = m) (hm : 2 ≤ m) (dy : Dig 1000000000 ys) (cy : Dg.Can ys) (h1 : rd ys (m - 1) = y1) (hk : (y1 + 1) * k ≤ 1000000000) (hk1 : 1 ≤ k)
    (dv : Dig 1000000000 vs) (cv : Dg.Can vs) (hv : val 1000000000 vs = k * val 1000000000 ys) : vs.length = m := by
  have hne : ys ≠ [] := by intro e; rw [e] at hl; simp at hl; omega
  have a1 : (1000000000 : Int) ^ (m - 1) ≤ val 1000000000 ys := by rw [← hl]; exact pow_le_val (by omega) dy cy hne
  have hE : (0 : Int) < 1000000000 ^ (m - 1) := pow_pos (by omega) _
  have a2 : val 1000000000 ys < 1000000000 ^ (m - 1) * (y1 + 1) := by
    rw [val_split (U := 1000000000) (show m - 1 < ys.length by omega), List.drop_of_length_le (by omega), val_nil, Int.mul_zero, Int.add_zero, h1, Int.mul_add, Int.mul_one]
    have := val_lt (b := 1000000000) (by omega) (dy.take (m - 1))
    rw [List.length_take, Nat.min_eq_left (by omega)] at this
    omega
  have a3 : val 1000000000 vs < 1000000000 ^ m := by
    rw [hv, show m = (m - 1) + 1 by omega, Int.pow_succ]
    have b1 : k * val 1000000000 ys < k * (1000000000 ^ (m - 1) * (y1 + 1)) := Int.mul_lt_mul_of_pos_left a2 (by omega)
    have b2 : (1000000000 : Int) ^ (m - 1) * ((y1 + 1) * k) ≤ 1000000000 ^ (m - 1) * 1000000000 := Int.mul_le_mul_of_nonneg_left hk (by omega)
    have b3 : k * (1000000000 ^ (m - 1) * (y1 + 1)) = (1000000000 : Int) ^ (m - 1) * ((y1 + 1) * k) := by
      generalize (1000000000 : Int) ^ (m - 1) = E
      grind
    omega
  have a4 := length_le_of_val (b := 1000000000) (by omega) dv cv a3
  have a5 : val 1000000000 ys ≤ val 1000000000 vs := by
    rw [hv]
    have : 1 * val 1000000000 ys ≤ k * val 1000000000 ys := mul_le hk1 (by omega)
    omega
  rcases Nat.lt_or_ge vs.length m with h | h
  · have b1 := val_lt (b := 1000000000) (by omega) dv
    have b2 := pow_mono (b := 1000000000) (by omega) (show vs.length ≤ m - 1 by omega)
    omega
  · omega

theorem start {xs ys us vs : List Int} {n m K : Nat} {k : Int} (hlx : xs.length = n) (dx : Dig 1000000000 xs) (hly : ys.length = m) (hm : 2 ≤ m) (dy : Dig 1000000000 ys) (cy : Dg.Can ys) (hk : 1 ≤ k)
    (hu : val 1000000000 us = k * val 1000000000 xs) (hv : val 1000000000 vs = k * val 1000000000 ys) (hK : n = K + (m - 1)) : val 1000000000 us < 1000000000 ^ K * val 1000000000 vs := by
  have hne : ys ≠ [] := by intro e; rw [e] at hly; simp at hly; omega
  have a1 : (1000000000 : Int) ^ (m - 1) ≤ val 1000000000 ys := by rw [← hly]; exact pow_le_val (by omega) dy cy hne
  have a2 := val_lt (b := 1000000000) (by omega) dx
  rw [hlx, hK, Int.pow_add] at a2
  have hE : (0 : Int) < 1000000000 ^ K := pow_pos (by omega) _
  have a3 : (1000000000 : Int) ^ K * 1000000000 ^ (m - 1) ≤ 1000000000 ^ K * val 1000000000 ys := Int.mul_le_mul_of_nonneg_left a1 (by omega)
  rw [hu, hv]
  have a4 : k * val 1000000000 xs < k * (1000000000 ^ K * val 1000000000 ys) := Int.mul_lt_mul_of_pos_left (by omega) (by omega)
  generalize (1000000000 : Int) ^ K = E at *
  grind
theorem finish {xs ys us vs os qs zs : List Int} {m : Nat} {k r : Int} (hk : 1 ≤ k) (hu : val 1000000000 us = k * val 1000000000 xs) (hv : val 1000000000 vs = k * val 1000000000 ys)
    (h : val 1000000000 os + val 1000000000 vs * val 1000000000 qs = val 1000000000 us) (hb : val 1000000000 os < 1000000000 ^ 0 * val 1000000000 vs) (hz : ∀ t, 0 + m ≤ t → rd os t = 0)
    (hs : val 1000000000 (os.take m) = k * val 1000000000 zs + r) (hr0 : 0 ≤ r) (hr1 : r < k) :
    val 1000000000 xs = val 1000000000 ys * val 1000000000 qs + val 1000000000 zs ∧ val 1000000000 zs < val 1000000000 ys := by
  rw [Nat.zero_add] at hz
  rw [← val_low hz] at hs
  rw [Int.pow_zero, Int.one_mul] at hb
  generalize val 1000000000 os = O at *
  generalize val 1000000000 xs = X at *
  generalize val 1000000000 ys = Y at *
  generalize val 1000000000 qs = Q at *
  generalize val 1000000000 zs = Z at *
  generalize val 1000000000 us = T at *
  generalize val 1000000000 vs = V at *
  have e1 : k * (X - Y * Q - Z) = r := by grind
  have e2 : X - Y * Q - Z = 0 := by
    generalize X - Y * Q - Z = D at e1
    rcases Int.lt_trichotomy D 0 with h | h | h
    · have : k * (-D) ≥ 1 * 1 := by
        have := Int.mul_le_mul_of_nonneg_left (show 1 ≤ -D by omega) (show 0 ≤ k by omega)
        omega
      have : k * (-D) = -(k * D) := by grind
      omega
    · exact h
    · have := Int.mul_le_mul_of_nonneg_left (show 1 ≤ D by omega) (show 0 ≤ k by omega)
      omega
  refine ⟨by omega, ?_⟩
  have e3 : k * Z < k * Y := by omega
  exact Int.lt_of_mul_lt_mul_left e3 (by omega)

theorem top_ne {vs : List Int} {m : Nat} (hl : vs.length = m) (hm : 0 < m) (h : Dg.Can vs) : rd vs (m - 1) ≠ 0 := by
  have hne : vs ≠ [] := by intro e; rw [e] at hl; simp at hl; omega
  have := h hne
  rw [List.getLast_eq_getElem] at this
  unfold rd
  rw [Dg.getD_eq (by omega)]
  simp only [hl] at this
  exact this
/-- What is known of a window and the divisor. -/
def Wn (v1 v2 u2 top V W : Int) : Prop :=
  ∃ E v0 w0 : Int, (0 < E ∧ V = v0 + E * (v2 + 1000000000 * v1) ∧ 0 ≤ v0 ∧ v0 < E) ∧ (W = w0 + E * (u2 + 1000000000 * top) ∧ 0 ≤ w0 ∧ w0 < E ∧ W < 1000000000 * V) ∧ (1 ≤ v1 ∧ v1 < 1000000000 ∧ 0 ≤ v2 ∧ v2 < 1000000000) ∧ 0 ≤ u2 ∧ u2 < 1000000000 ∧ 0 ≤ top
/-- The window and the divisor of a round. -/
theorem win {os vs : List Int} {N m j k : Nat} (hk : m = k + 2) (hlo : os.length = N) (hj : j + m < N) (hlv : vs.length = m) (ho : Dig 1000000000 os) (hv : Dig 1000000000 vs) (ht : rd vs (m - 1) ≠ 0)
    (hz : ∀ t, j + 1 + m ≤ t → rd os t = 0) (hb : val 1000000000 os < 1000000000 ^ (j + 1) * val 1000000000 vs) :
    ∃ W L : Int, Wn (rd vs (m - 1)) (rd vs (m - 2)) (rd os (j + m - 2)) (rd os (j + m) * 1000000000 + rd os (j + m - 1)) (val 1000000000 vs) W ∧ (val 1000000000 os = L + 1000000000 ^ j * W ∧ 0 ≤ L ∧ L < 1000000000 ^ j) := by
  subst hk
  have hd := divisor (U := 1000000000) hlv
  have hw := window (U := 1000000000) (u := os) (j := j) (m := k) (by omega) (fun t ht => hz t (by omega))
  have lv : (vs.take k).length = k := by rw [List.length_take]; omega
  have lw : ((os.drop j).take k).length = k := by rw [List.length_take, List.length_drop]; omega
  have ll : (os.take j).length = j := by rw [List.length_take]; omega
  have b1 := val_nonneg (b := 1000000000) (by omega) (hv.take k)
  have b2 := val_lt (b := 1000000000) (by omega) (hv.take k)
  have b3 := val_nonneg (b := 1000000000) (by omega) ((ho.drop j).take k)
  have b4 := val_lt (b := 1000000000) (by omega) ((ho.drop j).take k)
  have b5 := val_nonneg (b := 1000000000) (by omega) (ho.take j)
  have b6 := val_lt (b := 1000000000) (by omega) (ho.take j)
  rw [lv] at b2
  rw [lw] at b4
  rw [ll] at b6
  have r0 : ∀ t, 0 ≤ rd os t ∧ rd os t < 1000000000 := fun t => ho.getD (by omega) t
  have r1 : ∀ t, 0 ≤ rd vs t ∧ rd vs t < 1000000000 := fun t => hv.getD (by omega) t
  have q0 := r0 (j + (k + 2))
  have q1 := r0 (j + (k + 2) - 1)
  have q2 := r0 (j + (k + 2) - 2)
  have q3 := r1 (k + 2 - 1)
  have q4 := r1 (k + 2 - 2)
  refine ⟨_, _, ⟨1000000000 ^ k, _, _, ⟨pow_pos (by omega) _, hd, b1, b2⟩, ⟨hw.2, b3, b4, ?_⟩, ⟨by omega, q3.2, q4.1, q4.2⟩, q2.1, q2.2, by omega⟩, hw.1, b5, b6⟩
  have hE : (0 : Int) < 1000000000 ^ j := pow_pos (by omega) _
  rw [hw.1, Int.pow_succ] at hb
  have : (1000000000 : Int) ^ j * val 1000000000 (os.drop j) < 1000000000 ^ j * (1000000000 * val 1000000000 vs) := by
    rw [← Int.mul_assoc]; omega
  exact Int.lt_of_mul_lt_mul_left this (by omega)

theorem Wn.nonneg {v1 v2 u2 top V W : Int} (h : Wn v1 v2 u2 top V W) : 0 ≤ W ∧ 0 < V := by
  obtain ⟨E, v0, w0, ⟨h1, h2, h3, h4⟩, ⟨h5, h6, h7, h8⟩, ⟨h9, h10, h11, h12⟩, h13, h14, h15⟩ := h
  have a : 0 ≤ E * (u2 + 1000000000 * top) := Int.mul_nonneg (by omega) (by omega)
  have b : 0 < E * (v2 + 1000000000 * v1) := Int.mul_pos (by omega) (by omega)
  omega
theorem Wn.enter {v1 v2 u2 top V W : Int} (h : Wn v1 v2 u2 top V W) :
    0 ≤ top / v1 ∧ top / v1 < 2000000000 ∧ 0 ≤ top % v1 ∧ top % v1 < 1000000000 ∧ top / v1 * v1 + top % v1 = top ∧ W < V * (top / v1 + 1) := by
  obtain ⟨E, v0, w0, ⟨h1, h2, h3, h4⟩, ⟨h5, h6, h7, h8⟩, ⟨h9, h10, h11, h12⟩, h13, h14, h15⟩ := h
  have d : top / v1 * v1 + top % v1 = top := Int.ediv_mul_add_emod top v1
  have m0 := Int.emod_nonneg top (show v1 ≠ 0 by omega)
  have m1 := Int.emod_lt_of_pos top (show 0 < v1 by omega)
  have g0 : 0 ≤ top / v1 := Int.ediv_nonneg h15 (by omega)
  have tb := top_bd h1 (by omega : (0 : Int) < 1000000000) h2 h5 h4 h12 h6 h13 h8
  have gm := guess_max h9 d tb (by omega) m0
  refine ⟨g0, by omega, m0, by omega, d, ?_⟩
  refine guess0 h1 (by omega : (0 : Int) < 1000000000) h2 h5 h3 h11 h7 h14 ?_ g0
  have : v1 * (top / v1 + 1) = top / v1 * v1 + v1 := by grind
  omega
theorem Wn.down {v1 v2 u2 top V W g r : Int} (h : Wn v1 v2 u2 top V W) (hg : g * v1 + r = top) (hg0 : 0 ≤ g) (h' : 1000000000 ≤ g ∨ r * 1000000000 + u2 < g * v2) : W < V * (g - 1 + 1) ∧ 1 ≤ g := by
  have hn := h.nonneg
  obtain ⟨E, v0, w0, ⟨h1, h2, h3, h4⟩, ⟨h5, h6, h7, h8⟩, ⟨h9, h10, h11, h12⟩, h13, h14, h15⟩ := h
  have a : W < V * g := by
    rcases h' with h' | h'
    · exact guess_down' (by omega) h8 h'
    · exact guess_down h1 h2 h5 h3 h7 hg hg0 h'
  refine ⟨by rw [Int.sub_add_cancel]; exact a, ?_⟩
  rcases Int.lt_or_le g 1 with h0 | h0
  · have : g = 0 := by omega
    subst this
    omega
  · exact h0
theorem Wn.stop {v1 v2 u2 top V W g r : Int} (h : Wn v1 v2 u2 top V W) (hg : g * v1 + r = top) (hg0 : 0 ≤ g) (hgU : g < 1000000000) (h' : g * v2 ≤ r * 1000000000 + u2 ∨ 1000000000 ≤ r) : V * (g - 1) ≤ W := by
  obtain ⟨E, v0, w0, ⟨h1, h2, h3, h4⟩, ⟨h5, h6, h7, h8⟩, ⟨h9, h10, h11, h12⟩, h13, h14, h15⟩ := h
  exact guess_end h1 (by omega) h2 h5 h4 h3 h9 h11 h12 h6 h13 hg hg0 hgU h'
theorem Wn.digit {v1 v2 u2 top V W g r : Int} (h : Wn v1 v2 u2 top V W) (hg : g * v1 + r = top) (hr : 1000000000 ≤ r) : g < 1000000000 := by
  obtain ⟨E, v0, w0, ⟨h1, h2, h3, h4⟩, ⟨h5, h6, h7, h8⟩, ⟨h9, h10, h11, h12⟩, h13, h14, h15⟩ := h
  exact guess_digit h9 hg (top_bd h1 (by omega : (0 : Int) < 1000000000) h2 h5 h4 h12 h6 h13 h8) hr
theorem step_down {g r v1 top : Int} (h : g * v1 + r = top) : (g - 1) * v1 + (r + v1) = top := by grind
theorem guess_prod {g v2 : Int} (h0 : 0 ≤ g) (h1 : g < 2000000000) (h2 : 0 ≤ v2) (h3 : v2 < 1000000000) : 0 ≤ g * v2 ∧ g * v2 ≤ 2000000000000000000 := by
  refine ⟨Int.mul_nonneg h0 h2, ?_⟩
  calc g * v2 ≤ 2000000000 * v2 := Int.mul_le_mul_of_nonneg_right (by omega) (by omega)
    _ ≤ 2000000000 * 1000000000 := Int.mul_le_mul_of_nonneg_left (by omega) (by omega)
    _ = 2000000000000000000 := by decide

/-- What a round of the outer loop leaves. -/
def Out (os qs : List Int) (V T : Int) (j m N K : Nat) : Prop :=
  os.length = N ∧ Dig 1000000000 os ∧ qs.length = K ∧ Dig 1000000000 qs ∧ val 1000000000 os + V * val 1000000000 qs = T ∧ val 1000000000 os < 1000000000 ^ j * V ∧ (∀ t, j + m ≤ t → rd os t = 0) ∧ ∀ t, t < j → rd qs t = 0
theorem zero_top {ol : List Int} {j m N : Nat} (hl : ol.length = N) (hj : j + m < N) (hd : Dig 1000000000 ol) (hz : ∀ t, j + m + 1 ≤ t → rd ol t = 0) :
    Dig 1000000000 (ol.set (j + m) 0) ∧ (∀ t, j + m ≤ t → rd (ol.set (j + m) 0) t = 0) ∧ val 1000000000 (ol.set (j + m) 0) = val 1000000000 ol - 1000000000 ^ (j + m) * rd ol (j + m) ∧ 0 ≤ val 1000000000 (ol.set (j + m) 0) ∧
      val 1000000000 (ol.set (j + m) 0) < 1000000000 ^ (j + m) := by
  have d := hd.set (j + m) (v := 0) (by omega) (by omega)
  have z : ∀ t, j + m ≤ t → rd (ol.set (j + m) 0) t = 0 := by
    intro t ht
    rw [rd_set (by omega)]
    split
    · rfl
    · exact hz t (by omega)
  refine ⟨d, z, ?_, val_nonneg (by omega) d, val_low_lt (by omega) d (by simp; omega) z⟩
  rw [val_set _ _ _ _ (by omega), Int.zero_sub, Int.mul_neg]
  unfold rd
  omega
theorem fin {os ol qs : List Int} {j m N K : Nat} {V T g x b W L : Int} (hl : ol.length = N) (hj : j + m < N) (hd : Dig 1000000000 ol) (hz : ∀ t, j + m + 1 ≤ t → rd ol t = 0)
    (hv : val 1000000000 ol - 1000000000 ^ (j + m) * b = val 1000000000 os - 1000000000 ^ j * (g * V)) (hx : x = rd ol (j + m) - b) (hV : V < 1000000000 ^ m)
    (hos : val 1000000000 os = L + 1000000000 ^ j * W) (hL0 : 0 ≤ L) (hL : L < 1000000000 ^ j) (hg0 : V * g ≤ W) (hg1 : W < V * (g + 1)) (hgd : 0 ≤ g) (hgd' : g < 1000000000)
    (hlq : qs.length = K) (hjK : j < K) (hdq : Dig 1000000000 qs) (hq : ∀ t, t < j + 1 → rd qs t = 0) (hT : val 1000000000 os + V * val 1000000000 qs = T) : Out (ol.set (j + m) 0) (qs.set j g) V T j m N K ∧ x = 0 := by
  obtain ⟨d, z, hval, h0, h1⟩ := zero_top hl hj hd hz
  have hE : (0 : Int) < 1000000000 ^ j := pow_pos (by omega) _
  have hM : (0 : Int) < 1000000000 ^ m := pow_pos (by omega) _
  rw [Int.pow_add] at hv hval h1
  have hr := round_end (U := 0) (L := L) (W := W) (V := V) (g := g) (x := x) (N0 := val 1000000000 os) (N1 := val 1000000000 (ol.set (j + m) 0)) (a := 1000000000 ^ j) (b := 1000000000 ^ m) hV hE hM hos hL0 hL hg0 hg1
    (by rw [hval, hx]; generalize (1000000000 : Int) ^ j = a at *; generalize (1000000000 : Int) ^ m = c at *; grind) h0 h1
  refine ⟨⟨by simp [hl], d, by simp [hlq], hdq.set _ hgd hgd', ?_, hr.2, z, ?_⟩, hr.1⟩
  · rw [hval, val_set 1000000000 qs j g (by omega), ← hT]
    have hq0 := hq j (by omega)
    unfold rd at hq0
    rw [hq0]
    have hx0 := hr.1
    generalize (1000000000 : Int) ^ j = a at *
    generalize (1000000000 : Int) ^ m = c at *
    grind
  · intro t ht
    rw [rd_set (by omega), if_neg (by omega)]
    exact hq t (by omega)
/-- The sign of the last difference tells whether the guess was too great. -/
theorem sign {os ol : List Int} {j m N : Nat} {V g x b W L : Int} (hl : ol.length = N) (hj : j + m < N) (hd : Dig 1000000000 ol) (hz : ∀ t, j + m + 1 ≤ t → rd ol t = 0)
    (hv : val 1000000000 ol - 1000000000 ^ (j + m) * b = val 1000000000 os - 1000000000 ^ j * (g * V)) (hx : x = rd ol (j + m) - b)
    (hos : val 1000000000 os = L + 1000000000 ^ j * W) (hL0 : 0 ≤ L) (hL : L < 1000000000 ^ j) : (0 ≤ x → V * g ≤ W) ∧ (x < 0 → W < V * g) := by
  obtain ⟨d, z, hval, h0, h1⟩ := zero_top hl hj hd hz
  have hE : (0 : Int) < 1000000000 ^ j := pow_pos (by omega) _
  have hM : (0 : Int) < 1000000000 ^ (j + m) := pow_pos (by omega) _
  generalize (1000000000 : Int) ^ (j + m) = A at *
  generalize (1000000000 : Int) ^ j = a at *
  have e : val 1000000000 (ol.set (j + m) 0) + A * x = L + a * W - a * (V * g) := by rw [hx, hval]; grind
  constructor
  · intro hx0
    have p : 0 ≤ A * x := Int.mul_nonneg (by omega) hx0
    rcases Int.lt_or_le W (V * g) with h | h
    · have : a * (W + 1) ≤ a * (V * g) := Int.mul_le_mul_of_nonneg_left (by omega) (by omega)
      have e2 : a * (W + 1) = a * W + a := by grind
      omega
    · exact h
  · intro hx0
    have p : A * 1 ≤ A * (-x) := Int.mul_le_mul_of_nonneg_left (by omega) (by omega)
    have e2 : A * (-x) = -(A * x) := by grind
    rcases Int.lt_or_le W (V * g) with h | h
    · exact h
    · have : a * (V * g) ≤ a * W := Int.mul_le_mul_of_nonneg_left h (by omega)
      omega
theorem guess_pos {W V g : Int} (hW : 0 ≤ W) (hg : 0 ≤ g) (h : W < V * g) : 1 ≤ g := by
  rcases Int.lt_or_le g 1 with h0 | h0
  · have : g = 0 := by omega
    subst this
    omega
  · exact h0
theorem add_back {v0 o0 V a A g b c : Int} (h1 : v0 - A * b = o0 - a * (g * V)) {v1 : Int} (h2 : v1 + A * c = v0 + a * V) : v1 - A * (b - c) = o0 - a * ((g - 1) * V) := by grind
end Kd
end Go.Proofs.YtdcjibjldfjllaaGreat
