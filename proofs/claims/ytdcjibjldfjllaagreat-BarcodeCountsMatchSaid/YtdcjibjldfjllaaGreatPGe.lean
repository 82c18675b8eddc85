/- Helpers of the proof, joined: Num8 Num9 Num10 Num11 Num12 Num13 RowU. -/
import Derived.Test.YtdcjibjldfjllaaGreatPGc
import Derived.Test.YtdcjibjldfjllaaGreatPGd
import Derived.Test.YtdcjibjldfjllaaGreatPGa
import Derived.Test.YtdcjibjldfjllaaGreatPGb
set_option linter.unusedVariables false
set_option linter.unusedSimpArgs false
/- Division of digits. -/
namespace Go.Proofs.YtdcjibjldfjllaaGreat
open Go.RowKit

/-- A pair of digit lists: quotient and remainder of x by y. -/
def AnsQ (x y : Nat) (w : World) (e : Ending) (w' : World) : Prop :=
  Past w w' ∧ ∃ C k c D l d qs rs, e = .returned (.tuple #[.slice C k c, .slice D l d]) ∧ RInts w' .u32 C k c qs ∧ RInts w' .u32 D l d rs ∧ Dg.Dig 1000000000 qs ∧ Dg.Dig 1000000000 rs ∧ Dg.val 1000000000 qs = ((x / y : Nat) : Int) ∧ Dg.val 1000000000 rs = ((x % y : Nat) : Int)

theorem nat_div_of {x y : Nat} {q r : Int} (h : (x : Int) = (y : Int) * q + r) (h0 : 0 ≤ r) (h1 : r < y) (hq : 0 ≤ q) : q = ((x / y : Nat) : Int) ∧ r = ((x % y : Nat) : Int) := by
  obtain ⟨a, rfl⟩ := Int.eq_ofNat_of_zero_le hq
  obtain ⟨b, rfl⟩ := Int.eq_ofNat_of_zero_le h0
  have h2 : x = y * a + b := by
    rw [← Int.natCast_mul, ← Int.natCast_add] at h
    omega
  have h3 : b < y := by omega
  have h4 : 0 < y := by omega
  subst h2
  constructor
  · rw [Nat.mul_add_div h4, Nat.div_eq_of_lt h3, Nat.add_zero]
  · rw [Nat.mul_add_mod, Nat.mod_eq_of_lt h3]

set_option maxRecDepth 100000 in
set_option maxHeartbeats 2000000 in
theorem num_parts (A B : Option Addr) (n c m d : Nat) (x y : Nat) (w : World) (hx : RD w A n c x) (hy : RD w B m d y) (hn : n < 34359738368) (hm : m < 34359738368) (h0 : 0 < y) :
    Calls Tryz.prog 246 #[.slice A n c, .slice B m d] w (AnsQ x y w) := by
  have HX := Lib.hid hx
  have HY := Lib.hid hy
  have HLX := Lib.hid hx.len
  have HLY := Lib.hid hy.len
  clear hx hy
  by_cases hL : x < y
  · have hb : cmpSize (dg x) (dg y) < 0 := by rw [cmpSize_dg, cmpN, if_pos hL]; omega
    go_enter Tryz.func246, Tryz.ntmps246
    go_wp2_with (go_at_call 207; refine (num_size _ _ _ _ _ _ _ _ _ HX.out HY.out).mono ?_; rintro e w' ⟨⟨q, rfl⟩, rfl⟩)
    go_ret2
    exact ⟨(by repeat (first | exact Past.refl _ | (refine Past.trans ?_ hp1) | apply Past.alloc | apply Past.drew | apply Past.drewN)), none, 0, 0, A, n, c, [], dg x, rfl, RInts.nil _ _ _ _ (by omega), HX.out.past (by repeat (first | exact Past.refl _ | (refine Past.trans ?_ hp1) | apply Past.alloc | apply Past.drew | apply Past.drewN)), Dg.Dig.nil _, dg_dig x, by rw [Nat.div_eq_of_lt hL]; rfl, by rw [Nat.mod_eq_of_lt hL, dg_val]⟩
  · have hb : ¬ cmpSize (dg x) (dg y) < 0 := by
      rw [cmpSize_dg, cmpN, if_neg hL]; split <;> omega
    have hle := dg_le (Nat.le_of_not_lt hL)
    rw [HLX.out, HLY.out] at hle
    have hpos : 0 < m := by rw [← HLY.out]; exact dg_pos.2 h0
    by_cases hm1 : m = 1
    · subst hm1
      obtain ⟨b1, o1, rfl, hc⟩ := HY.out.at_ (by omega)
      have e0 := hc 0 (by omega)
      clear hc
      simp only [Nat.add_zero] at e0
      have HV : Hid (rd (dg y) 0 = (y : Int)) := by
        have h := dg_val y
        obtain ⟨z, hz⟩ : ∃ z, dg y = [z] := List.length_eq_one_iff.1 HLY.out
        rw [hz] at h ⊢
        simpa [rd, Hid] using h
      have hyd := (rd_dig (dg_dig y) (by omega) 0).2
      have hyp : 0 < rd (dg y) 0 := by rw [HV.out]; omega
      clear hm hpos
      go_enter Tryz.func246, Tryz.ntmps246
      go_wp2_with fail
      refine (num_size _ _ _ _ _ _ _ _ _ HX.out HY.out).mono ?_
      rintro e w' ⟨⟨q, rfl⟩, rfl⟩
      go_wp2_with fail
      refine (num_short _ _ _ _ _ _ (HX.out.past (by repeat (first | exact Past.refl _ | (refine Past.trans ?_ hp1) | apply Past.alloc | apply Past.drew | apply Past.drewN))) (dg_dig _) (by omega) hyp (by omega)).mono ?_
      rintro e w' ⟨hp1, C, k, c', zs, r, rfl, hr1, hd1, hv1, hr0, hr2, hk1⟩
      have HV1 := Lib.hid hv1
      clear hv1
      subst hk1
      go_wp2_with fail
      go_outline
      refine (num_trim _ _ _ [r] _ (RInts.one _ _ _ _)).mono ?_
      rintro e w' ⟨⟨q2, rfl⟩, k2, rfl, hr3⟩
      go_wp2
      go_ret2
      have hr4 : Dg.Dig 1000000000 [r] := Dg.Dig.cons hr0 (by omega) (Dg.Dig.nil _)
      have hv := HV1.out
      rw [dg_val, HV.out] at hv
      have hq0 := Dg.val_nonneg (b := 1000000000) (by omega) hd1
      obtain ⟨g1, g2⟩ := nat_div_of hv hr0 (by rw [← HV.out]; exact hr2) hq0
      exact ⟨(by repeat (first | exact Past.refl _ | (refine Past.trans ?_ hp1) | apply Past.alloc | apply Past.drew | apply Past.drewN)), _, _, _, _, _, _, zs, Dg.trim [r], rfl, hr1.past (by repeat (first | exact Past.refl _ | (refine Past.trans ?_ hp1) | apply Past.alloc | apply Past.drew | apply Past.drewN)), hr3.past (by repeat (first | exact Past.refl _ | (refine Past.trans ?_ hp1) | apply Past.alloc | apply Past.drew | apply Past.drewN)), hd1, Dg.trim_dig hr4, g1, by rw [Dg.val_trim]; simpa using g2⟩
    · have hm2 : 2 ≤ m := by omega
      have hmb : ((m : Int) == 1) = false := by rw [beq_eq_false_iff_ne]; omega
      go_enter Tryz.func246, Tryz.ntmps246
      go_wp2_with fail
      refine (num_size _ _ _ _ _ _ _ _ _ HX.out HY.out).mono ?_
      rintro e w' ⟨⟨q, rfl⟩, rfl⟩
      go_wp2_with fail
      refine (num_long _ _ _ _ _ _ _ _ _ (HX.out.past (by repeat (first | exact Past.refl _ | (refine Past.trans ?_ hp1) | apply Past.alloc | apply Past.drew | apply Past.drewN))) (HY.out.past (by repeat (first | exact Past.refl _ | (refine Past.trans ?_ hp1) | apply Past.alloc | apply Past.drew | apply Past.drewN))) (dg_dig _) (dg_dig _) (by omega) hm2 hle (Dg.toD_can 1000000000 (by omega) _)).mono ?_
      rintro e w1 ⟨hp1, C, k, c', D, l, d', qs, rs, rfl, hr1, hr2, hd1, hd2, hv1, hlt⟩
      have HV1 := Lib.hid hv1
      have HLT := Lib.hid hlt
      clear hv1 hlt
      go_wp2
      go_ret2
      have hv := HV1.out
      have hlt := HLT.out
      rw [dg_val, dg_val] at hv
      rw [dg_val] at hlt
      obtain ⟨g1, g2⟩ := nat_div_of hv (Dg.val_nonneg (b := 1000000000) (by omega) hd2) hlt (Dg.val_nonneg (b := 1000000000) (by omega) hd1)
      exact ⟨(by repeat (first | exact Past.refl _ | (refine Past.trans ?_ hp1) | apply Past.alloc | apply Past.drew | apply Past.drewN)), _, _, _, _, _, _, qs, rs, rfl, hr1, hr2, hd1, hd2, g1, g2⟩

end Go.Proofs.YtdcjibjldfjllaaGreat

/- A whole number of an int; greatest common divisors. -/
namespace Go.Proofs.YtdcjibjldfjllaaGreat
open Go.RowKit

theorem dg_step {p : Int} (h : 0 < p) : dg p.toNat = p % 1000000000 :: dg (p / 1000000000).toNat := by
  obtain ⟨n, rfl⟩ := Int.eq_ofNat_of_zero_le (Int.le_of_lt h)
  have h1 : 0 < n := by omega
  simp only [Int.toNat_natCast]
  unfold dg
  rw [Dg.toD_pos (by omega) h1]
  congr 1

theorem u64_neg {z : Int} (h1 : -1000000000000000000 ≤ z) (hz : z < 0) : IntKind.u64.wrap (-IntKind.u64.wrap z) = -z := by
  have e1 : IntKind.u64.wrap z = z + 18446744073709551616 := by
    simp only [IntKind.wrap, IntKind.bits, IntKind.signed]
    simp
    omega
  rw [e1]
  simp only [IntKind.wrap, IntKind.bits, IntKind.signed]
  simp
  omega

set_option maxRecDepth 100000 in
set_option maxHeartbeats 2000000 in
theorem num_of (z : Int) (w : World) (h1 : -1000000000000000000 ≤ z) (h2 : z ≤ 1000000000000000000) :
    Calls Tryz.prog 155 #[.int .i64 z] w (AnsW z w) := by
  obtain ⟨wb, hwb⟩ : ∃ wb, (w.alloc (.cells #[.bool false, .slice none 0 0] 129)) = wb := ⟨_, rfl⟩
  have HB4 : Hid (wb.cell? ⟨w.heap.size, 0, none⟩ = some (.bool false) ∧ wb.frozen? ⟨w.heap.size, 0, none⟩ = false) := by rw [← hwb]; simp [go_sem, Hid]
  have HB5 : Hid (wb.cell? ⟨w.heap.size, 1, none⟩ = some (.slice none 0 0) ∧ wb.frozen? ⟨w.heap.size, 1, none⟩ = false) := by rw [← hwb]; simp [go_sem, Hid]
  have HPB : Hid (Past w wb) := by rw [← hwb]; exact (Past.refl _).alloc _
  have HWB := Lib.hid hwb
  clear hwb
  by_cases hz : z < 0
  · go_enter Tryz.func155, Tryz.ntmps155
    go_wp2
    go_loopw [3, 5] (fun uv v wr => ∃ (p : Int) (os : List Int), uv = .int .u64 p ∧ 0 ≤ p ∧ p ≤ 1000000000000000000 ∧ Hid (os ++ dg p.toNat = dg z.natAbs) ∧ Hid (Own wb wr 247 .u32 v os)) (fun uv _ _ => (intOf uv).toNat)
    case atStart => exact ⟨-z, [], by rw [u64_neg h1 hz], by omega, by omega, by rw [show (-z : Int).toNat = z.natAbs by omega]; rfl, by rw [HWB.out]; exact Own.nil (Past.refl _) _ _⟩
    case round =>
      obtain ⟨p, os, rfl, hp0, hp1, HE, HO⟩ := hrel
      have hlo : os.length < 1099511627776 := by
        have h3 := congrArg List.length HE.out
        have h4 := Dg.toD_length_le (b := 1000000000) (n := z.natAbs) (k := 3) (by omega) (by omega)
        rw [List.length_append] at h3
        unfold dg at h3
        omega
      have HLO := Lib.hid hlo
      clear hlo
      by_cases hpos : 0 < p
      · go_wp2_with (first | (at_builtin; refine wpList_app el_u32 (HO.out.alloc _) rfl rfl rfl _ _ _ rfl (cell_new1 _ _ _) HLO.out ?_; intro v1 w1 hown1 hp1))
        go_roundw
        case rel => exact ⟨p / 1000000000, os ++ [p % 1000000000], rfl, by omega, by omega, by rw [← HE.out, dg_step hpos]; simp [Hid], hown1⟩
        case measure => simp [intOf]; omega
      · have hp2 : p = 0 := by omega
        subst hp2
        obtain ⟨A', c', hv, hr⟩ := HO.out.reads
        have HR : Hid (RInts wr .u32 A' os.length c' os) := hr
        subst hv
        clear hr
        obtain ⟨q0, q1⟩ := HO.out.2.free HB4.out.1 HB4.out.2
        obtain ⟨q2, q3⟩ := HO.out.2.free HB5.out.1 HB5.out.2
        go_wp2
        have hE : os = dg z.natAbs := by
          have h3 := HE.out
          rw [show (0 : Int).toNat = 0 from rfl, (dg_nil 0).2 rfl, List.append_nil] at h3
          exact h3
        exact bodyPost_ret (v := .agg #[.bool true, .slice A' os.length c']) (by simp [results, Tryz.results155, go_sem, q0, q2]) rfl (AnsW.store ⟨by simp [hz], by rw [← hE]; exact HR.out⟩ HPB.out HO.out.2 (by omega) (by simp [q0]) (by simp [q2]) _ _)
  · go_enter Tryz.func155, Tryz.ntmps155
    go_wp2
    go_loopw [3, 5] (fun uv v wr => ∃ (p : Int) (os : List Int), uv = .int .u64 p ∧ 0 ≤ p ∧ p ≤ 1000000000000000000 ∧ Hid (os ++ dg p.toNat = dg z.natAbs) ∧ Hid (Own wb wr 247 .u32 v os)) (fun uv _ _ => (intOf uv).toNat)
    case atStart => exact ⟨z, [], rfl, by omega, by omega, by rw [show (z : Int).toNat = z.natAbs by omega]; rfl, by rw [HWB.out]; exact Own.nil (Past.refl _) _ _⟩
    case round =>
      obtain ⟨p, os, rfl, hp0, hp1, HE, HO⟩ := hrel
      have hlo : os.length < 1099511627776 := by
        have h3 := congrArg List.length HE.out
        have h4 := Dg.toD_length_le (b := 1000000000) (n := z.natAbs) (k := 3) (by omega) (by omega)
        rw [List.length_append] at h3
        unfold dg at h3
        omega
      have HLO := Lib.hid hlo
      clear hlo
      by_cases hpos : 0 < p
      · go_wp2_with (first | (at_builtin; refine wpList_app el_u32 (HO.out.alloc _) rfl rfl rfl _ _ _ rfl (cell_new1 _ _ _) HLO.out ?_; intro v1 w1 hown1 hp1))
        go_roundw
        case rel => exact ⟨p / 1000000000, os ++ [p % 1000000000], rfl, by omega, by omega, by rw [← HE.out, dg_step hpos]; simp [Hid], hown1⟩
        case measure => simp [intOf]; omega
      · have hp2 : p = 0 := by omega
        subst hp2
        obtain ⟨A', c', hv, hr⟩ := HO.out.reads
        have HR : Hid (RInts wr .u32 A' os.length c' os) := hr
        subst hv
        clear hr
        obtain ⟨q0, q1⟩ := HO.out.2.free HB4.out.1 HB4.out.2
        obtain ⟨q2, q3⟩ := HO.out.2.free HB5.out.1 HB5.out.2
        go_wp2
        have hE : os = dg z.natAbs := by
          have h3 := HE.out
          rw [show (0 : Int).toNat = 0 from rfl, (dg_nil 0).2 rfl, List.append_nil] at h3
          exact h3
        exact bodyPost_ret (v := .agg #[.bool false, .slice A' os.length c']) (by simp [results, Tryz.results155, go_sem, q0, q2]) rfl (AnsW.store ⟨by simp [hz], by rw [← hE]; exact HR.out⟩ HPB.out HO.out.2 (by omega) (by simp [q0]) (by simp [q2]) _ _)

end Go.Proofs.YtdcjibjldfjllaaGreat

/- The greatest common divisor. -/
namespace Go.Proofs.YtdcjibjldfjllaaGreat
open Go.RowKit

theorem dg_lt {x k : Nat} (h : (dg x).length ≤ k) : x < 1000000000 ^ k := by
  have h1 := Dg.val_lt (b := 1000000000) (by omega) (dg_dig x)
  rw [dg_val] at h1
  have h2 : (1000000000 : Int) ^ (dg x).length ≤ 1000000000 ^ k := Dg.pow_mono (by omega) h
  have h3 : ((1000000000 ^ k : Nat) : Int) = (1000000000 : Int) ^ k := by rw [Int.natCast_pow]; rfl
  omega

/-- Two digit lists, and what they lead to. -/
def GRel (wb wr : World) (x y g : Nat) (p q : Nat) (A : Option Addr) (n c : Nat) (B : Option Addr) (m d : Nat) : Prop :=
  Past wb wr ∧ RD wr A n c p ∧ RD wr B m d q ∧ Nat.gcd p q = g ∧ n < 34359738368 ∧ m < 34359738368

set_option maxRecDepth 100000 in
set_option maxHeartbeats 2000000 in
theorem whole_gcd (s t : Bool) (A B : Option Addr) (n c m d : Nat) (x y : Int) (w : World) (hx : RW w s A n c x) (hy : RW w t B m d y) (hn : n < 34359738368) (hm : m < 34359738368) :
    Calls Tryz.prog 202 #[.agg #[.bool s, .slice A n c], .agg #[.bool t, .slice B m d]] w (AnsW (Nat.gcd x.natAbs y.natAbs) w) := by
  have HX := Lib.hid hx.2
  have HY := Lib.hid hy.2
  have HNM := Lib.hid (And.intro hn hm)
  clear hx hy hn hm
  obtain ⟨wb, hwb⟩ : ∃ wb, (((w.alloc (.cells #[.bool s, .slice A n c] 129)).alloc (.cells #[.bool t, .slice B m d] 129)).alloc (.cells #[.bool false, .slice none 0 0] 129)) = wb := ⟨_, rfl⟩
  have HB4 : Hid (wb.cell? ⟨w.heap.size + 1 + 1, 0, none⟩ = some (.bool false) ∧ wb.frozen? ⟨w.heap.size + 1 + 1, 0, none⟩ = false) := by rw [← hwb]; simp [go_sem, Hid]
  have HB5 : Hid (wb.cell? ⟨w.heap.size + 1 + 1, 1, none⟩ = some (.slice none 0 0) ∧ wb.frozen? ⟨w.heap.size + 1 + 1, 1, none⟩ = false) := by rw [← hwb]; simp [go_sem, Hid]
  have HPB : Hid (Past w wb) := by rw [← hwb]; exact (((Past.refl _).alloc _).alloc _).alloc _
  have HWB := Lib.hid hwb
  clear hwb
  go_enter Tryz.func202, Tryz.ntmps202
  go_wp2
  repeat (go_quiet (fail); try go_wp2)
  go_loopg [5, 6] y.natAbs (fun gk u v wr => ∃ (p : Nat) (A : Option Addr) (n c : Nat) (B : Option Addr) (m d : Nat), u = .slice A n c ∧ v = .slice B m d ∧ Hid (GRel wb wr x.natAbs y.natAbs (Nat.gcd x.natAbs y.natAbs) p gk A n c B m d))
  case atStart => exact ⟨x.natAbs, A, n, c, B, m, d, rfl, rfl, by rw [HWB.out]; exact (Past.refl _).drewN _, HX.out.past (HPB.out.trans (by rw [HWB.out]; exact (Past.refl _).drewN _)), HY.out.past (HPB.out.trans (by rw [HWB.out]; exact (Past.refl _).drewN _)), rfl, HNM.out⟩
  case round =>
    clear HX HY HNM
    obtain ⟨p, A, n, c, B, m, d, rfl, rfl, HR⟩ := hrel
    have HA := Lib.hid HR.out.2.1
    have HB := Lib.hid HR.out.2.2.1
    have hn := HR.out.2.2.2.2.1
    have hm := HR.out.2.2.2.2.2
    by_cases h0 : 0 < gk
    · have hm0 : 0 < m := by rw [← HB.out.len]; exact dg_pos.2 h0
      by_cases hs : n ≤ 2 ∧ m ≤ 2
      · obtain ⟨hs1, hs2⟩ := hs
        have HPB1 : Hid (p < 1000000000000000000) := dg_lt (k := 2) (by have := HA.out.len; omega)
        have HPB2 : Hid (gk < 1000000000000000000) := dg_lt (k := 2) (by have := HB.out.len; omega)
        obtain ⟨q0, q1⟩ := HR.out.1.free HB4.out.1 HB4.out.2
        obtain ⟨q2, q3⟩ := HR.out.1.free HB5.out.1 HB5.out.2
        go_wp2_with fail
        refine (num_word _ _ _ p _ HA.out hs1).mono ?_
        rintro e w' ⟨⟨k1, rfl⟩, rfl⟩
        go_wp2_with fail
        refine (num_word _ _ _ gk _ (HB.out.past ((Past.refl _).drewN _)) hs2).mono ?_
        rintro e w' ⟨⟨k2, rfl⟩, rfl⟩
        go_wp2_with fail
        refine (num_small _ _ _ (by omega) (by omega) (by have := HPB1.out; omega) (by have := HPB2.out; omega)).mono ?_
        rintro e w' ⟨⟨k3, rfl⟩, rfl⟩
        rw [Int.toNat_natCast, Int.toNat_natCast, HR.out.2.2.2.1]
        have HGB : Hid (Nat.gcd x.natAbs y.natAbs < 1000000000000000000) := by
          rw [← HR.out.2.2.2.1]
          exact Nat.lt_of_le_of_lt (Nat.gcd_le_right _ h0) HPB2.out
        go_wp2_with fail
        refine (num_of _ _ (by omega) (by have := HGB.out; omega)).mono ?_
        rintro e w2 ⟨hp2, s2, A2, n2, c2, rfl, hr2⟩
        obtain ⟨r0, r1⟩ := hp2.free (a := ⟨w.heap.size + 1 + 1, 0, none⟩) (v := .bool false) (by simp [q0]) (by simp [q1])
        obtain ⟨r2, r3⟩ := hp2.free (a := ⟨w.heap.size + 1 + 1, 1, none⟩) (v := .slice none 0 0) (by simp [q2]) (by simp [q3])
        go_wp2
        exact bodyPost_ret (v := .agg #[.bool s2, .slice A2 n2 c2]) (by simp [results, Tryz.results202, go_sem, r0, r2]) rfl (AnsW.store hr2 (HPB.out.trans (HR.out.1.drewN _)) hp2 (by omega) (by simp [r0]) (by simp [r2]) _ _)
      · by_cases hs1 : n ≤ 2
        · have hs2 : ¬ m ≤ 2 := fun h => hs ⟨hs1, h⟩
          clear hs
          go_wp2_with fail
          refine (num_parts _ _ _ _ _ _ p gk _ HA.out HB.out hn hm h0).mono ?_
          rintro e w1 ⟨hp1, C, k, c1, D, l, d1, qs, rs, rfl, hr1, hr2, hd1, hd2, hv1, hv2⟩
          have HV2 := Lib.hid hv2
          have HV1 := Lib.hid hv1
          clear hv1 hv2
          go_wp2_with fail
          refine (num_trim _ _ _ _ _ hr2).mono ?_
          rintro e w' ⟨⟨k2, rfl⟩, l2, rfl, hr3⟩
          have hr4 : RD w1 D l2 d1 (p % gk) := by
            have h5 := dig_val_toD hd2
            rw [HV2.out, Int.toNat_natCast] at h5
            unfold RD
            rw [← h5]; exact hr3
          have HR4 := Lib.hid hr4
          clear hr3 hr4
          have hl2 : l2 < 34359738368 := by
            have h6 := HR4.out.len
            have h7 := dg_le (Nat.le_of_lt (Nat.mod_lt p h0))
            rw [h6, HB.out.len] at h7
            omega
          go_wp2
          go_roundg (p % gk)
          case measure => exact Nat.mod_lt _ h0
          case rel => exact ⟨gk, B, m, d, D, l2, d1, rfl, rfl, (HR.out.1.trans hp1).drewN _, HB.out.past (hp1.drewN _), HR4.out.past ((Past.refl _).drewN _), by rw [← HR.out.2.2.2.1, Nat.gcd_comm p, Nat.gcd_rec gk p, Nat.gcd_comm], hm, hl2⟩
        · clear hs
          go_wp2_with fail
          refine (num_parts _ _ _ _ _ _ p gk _ HA.out HB.out hn hm h0).mono ?_
          rintro e w1 ⟨hp1, C, k, c1, D, l, d1, qs, rs, rfl, hr1, hr2, hd1, hd2, hv1, hv2⟩
          have HV2 := Lib.hid hv2
          have HV1 := Lib.hid hv1
          clear hv1 hv2
          go_wp2_with fail
          refine (num_trim _ _ _ _ _ hr2).mono ?_
          rintro e w' ⟨⟨k2, rfl⟩, l2, rfl, hr3⟩
          have hr4 : RD w1 D l2 d1 (p % gk) := by
            have h5 := dig_val_toD hd2
            rw [HV2.out, Int.toNat_natCast] at h5
            unfold RD
            rw [← h5]; exact hr3
          have HR4 := Lib.hid hr4
          clear hr3 hr4
          have hl2 : l2 < 34359738368 := by
            have h6 := HR4.out.len
            have h7 := dg_le (Nat.le_of_lt (Nat.mod_lt p h0))
            rw [h6, HB.out.len] at h7
            omega
          go_wp2
          go_roundg (p % gk)
          case measure => exact Nat.mod_lt _ h0
          case rel => exact ⟨gk, B, m, d, D, l2, d1, rfl, rfl, (HR.out.1.trans hp1).drewN _, HB.out.past (hp1.drewN _), HR4.out.past ((Past.refl _).drewN _), by rw [← HR.out.2.2.2.1, Nat.gcd_comm p, Nat.gcd_rec gk p, Nat.gcd_comm], hm, hl2⟩
    · have hm0 : m = 0 := by
        have h1 := HB.out.len
        rw [(dg_nil gk).2 (by omega)] at h1
        simpa using h1.symm
      subst hm0
      obtain ⟨q0, q1⟩ := HR.out.1.free HB4.out.1 HB4.out.2
      obtain ⟨q2, q3⟩ := HR.out.1.free HB5.out.1 HB5.out.2
      go_wp2
      have hg : Nat.gcd x.natAbs y.natAbs = p := by
        rw [← HR.out.2.2.2.1, show gk = 0 by omega, Nat.gcd_zero_right]
      rw [hg]
      exact bodyPost_ret (v := .agg #[.bool false, .slice A n c]) (by simp [results, Tryz.results202, go_sem, q0, q2]) rfl (AnsW.store (show RW wr false A n c (p : Int) from ⟨by simp, by rw [Int.natAbs_natCast]; exact HA.out⟩) HPB.out HR.out.1 (by omega) (by simp [q0]) (by simp [q2]) _ _)

end Go.Proofs.YtdcjibjldfjllaaGreat

/- Division without a remainder. -/
namespace Go.Proofs.YtdcjibjldfjllaaGreat
open Go.RowKit

theorem div_sign {s t : Bool} {x y : Int} (hs : s = decide (x < 0)) (ht : t = decide (y < 0)) (h0 : y ≠ 0) (hd : y ∣ x) : x / y = if (s != t) = true then -((x.natAbs / y.natAbs : Nat) : Int) else ((x.natAbs / y.natAbs : Nat) : Int) := by
  obtain ⟨z, rfl⟩ := hd
  have h1 : y * z / y = z := Int.mul_ediv_cancel_left z h0
  have h2 : (y * z).natAbs / y.natAbs = z.natAbs := by
    rw [Int.natAbs_mul, Nat.mul_div_cancel_left _ (by omega)]
  rw [h1, h2]
  subst hs ht
  have h3 : decide (y * z < 0) = (decide (y < 0) != decide (z < 0)) ∨ z = 0 := by
    rcases Int.lt_trichotomy z 0 with hz | hz | hz
    · left
      rcases Int.lt_or_gt_of_ne h0 with hy | hy
      · have h4 : ¬ (y * z < 0) := by have := Int.mul_pos_of_neg_of_neg hy hz; omega
        simp [h4, hy, hz]
      · have h4 := Int.mul_neg_of_pos_of_neg hy hz
        have h5 : ¬ y < 0 := by omega
        simp [h4, hz, h5]
    · right; exact hz
    · left
      rcases Int.lt_or_gt_of_ne h0 with hy | hy
      · have h4 := Int.mul_neg_of_neg_of_pos hy hz
        have h6 : ¬ z < 0 := by omega
        simp [h4, hy, h6]
      · have h4 : ¬ (y * z < 0) := by have := Int.mul_pos hy hz; omega
        have h5 : ¬ y < 0 := by omega
        have h6 : ¬ z < 0 := by omega
        simp [h4, h5, h6]
  rcases h3 with h3 | h3
  · rw [h3]
    cases hy : decide (y < 0) <;> cases hz : decide (z < 0) <;> simp at hy hz ⊢ <;> omega
  · subst h3
    simp

set_option maxRecDepth 100000 in
set_option maxHeartbeats 2000000 in
theorem whole_div (s t : Bool) (A B : Option Addr) (n c m d : Nat) (x y : Int) (w : World) (hx : RW w s A n c x) (hy : RW w t B m d y) (hn : n < 34359738368) (hm : m < 34359738368) (h0 : y ≠ 0) (hd : y ∣ x) :
    Calls Tryz.prog 204 #[.agg #[.bool s, .slice A n c], .agg #[.bool t, .slice B m d]] w fun e w' => Past w w' ∧ ∃ s1 A1 n1 c1 v2, e = .returned (.tuple #[.agg #[.bool s1, .slice A1 n1 c1], v2]) ∧ RW w' s1 A1 n1 c1 (x / y) := by
  have HS := Lib.hid hx.1
  have HX := Lib.hid hx.2
  have HT := Lib.hid hy.1
  have HY := Lib.hid hy.2
  have HD := Lib.hid hd
  have HN0 : Hid (0 < y.natAbs) := by unfold Hid; omega
  have H00 := Lib.hid h0
  clear hx hy hd h0
  obtain ⟨wb, hwb⟩ : ∃ wb, ((((w.alloc (.cells #[.bool s, .slice A n c] 129)).alloc (.cells #[.bool t, .slice B m d] 129)).alloc (.cells #[.bool false, .slice none 0 0] 129)).alloc (.cells #[.bool false, .slice none 0 0] 129)) = wb := ⟨_, rfl⟩
  have HB0 : Hid (wb.cell? ⟨w.heap.size, 0, none⟩ = some (.bool s) ∧ wb.cell? ⟨w.heap.size + 1, 0, none⟩ = some (.bool t)) := by rw [← hwb]; simp [go_sem, Hid]
  have HB4 : Hid (wb.cell? ⟨w.heap.size + 1 + 1, 0, none⟩ = some (.bool false) ∧ wb.frozen? ⟨w.heap.size + 1 + 1, 0, none⟩ = false) := by rw [← hwb]; simp [go_sem, Hid]
  have HB5 : Hid (wb.cell? ⟨w.heap.size + 1 + 1, 1, none⟩ = some (.slice none 0 0) ∧ wb.frozen? ⟨w.heap.size + 1 + 1, 1, none⟩ = false) := by rw [← hwb]; simp [go_sem, Hid]
  have HB6 : Hid (wb.cell? ⟨w.heap.size + 1 + 1 + 1, 0, none⟩ = some (.bool false) ∧ wb.frozen? ⟨w.heap.size + 1 + 1 + 1, 0, none⟩ = false) := by rw [← hwb]; simp [go_sem, Hid]
  have HB7 : Hid (wb.cell? ⟨w.heap.size + 1 + 1 + 1, 1, none⟩ = some (.slice none 0 0) ∧ wb.frozen? ⟨w.heap.size + 1 + 1 + 1, 1, none⟩ = false) := by rw [← hwb]; simp [go_sem, Hid]
  have HPB : Hid (Past w wb) := by rw [← hwb]; exact ((((Past.refl _).alloc _).alloc _).alloc _).alloc _
  have HWB := Lib.hid hwb
  clear hwb
  go_enter Tryz.func204, Tryz.ntmps204
  go_wp2_with fail
  refine (num_parts _ _ _ _ _ _ x.natAbs y.natAbs _ (HX.out.past (by rw [← HWB.out] at HPB; exact HPB.out)) (HY.out.past (by rw [← HWB.out] at HPB; exact HPB.out)) hn hm HN0.out).mono ?_
  rintro e w1 ⟨hp1, C, k, c1, D, l, d1, qs, rs, rfl, hr1, hr2, hd1, hd2, hv1, hv2⟩
  rw [HWB.out] at hp1
  have HV2 := Lib.hid hv2
  have HV1 := Lib.hid hv1
  clear hv1 hv2
  have kk := keep2 hp1 HB0.out
  obtain ⟨k0, k1⟩ := kk
  obtain ⟨q0, q1⟩ := hp1.free HB4.out.1 HB4.out.2
  obtain ⟨q2, q3⟩ := hp1.free HB5.out.1 HB5.out.2
  obtain ⟨q4, q5⟩ := hp1.free HB6.out.1 HB6.out.2
  obtain ⟨q6, q7⟩ := hp1.free HB7.out.1 HB7.out.2
  go_wp2_with fail
  go_region_held3 (fun w' => w'.cell? ⟨w.heap.size, 0, none⟩ = some (.bool s) ∧ w'.cell? ⟨w.heap.size + 1, 0, none⟩ = some (.bool t)) (first | (refine keep2 hp3 ?_; assumption) | (refine keep2 hp2 ?_; assumption) | (refine keepst2 ?_ ?_ (by assumption) <;> (dsimp only; omega)) | go_keep)
    (first
      | (go_at_call 205; ((with_reducible refine (num_signedW _ _ _ _ qs (x / y) _ ?_ hd1 ?_).mono ?_); (first | exact hr1 | exact hr1.past (Past.refl _).drew); (rw [HV1.out]; exact div_sign HS.out HT.out H00.out HD.out)); rintro e w2 ⟨hp2, s2, A2, n2, c2, rfl, hr3⟩; obtain ⟨r0, r1⟩ := hp2.free (a := ⟨w.heap.size + 1 + 1, 0, none⟩) (v := .bool false) (by simp [q0]) (by simp [q1]); obtain ⟨r2, r3⟩ := hp2.free (a := ⟨w.heap.size + 1 + 1, 1, none⟩) (v := .slice none 0 0) (by simp [q2]) (by simp [q3]); obtain ⟨r4, r5⟩ := hp2.free (a := ⟨w.heap.size + 1 + 1 + 1, 0, none⟩) (v := .bool false) (by simp [q4]) (by simp [q5]); obtain ⟨r6, r7⟩ := hp2.free (a := ⟨w.heap.size + 1 + 1 + 1, 1, none⟩) (v := .slice none 0 0) (by simp [q6]) (by simp [q7]))
      | (go_at_call 205; ((with_reducible refine (num_signedW _ D _ _ rs 0 _ ?_ hd2 ?_).mono ?_); (exact (hr2.past ((Past.refl _).drew)).past hp2); (rw [HV2.out, Nat.mod_eq_zero_of_dvd (Int.natAbs_dvd_natAbs.2 HD.out)]; simp)); rintro e w3 ⟨hp3, s3, A3, n3, c3, rfl, hr4⟩; obtain ⟨u0, u1⟩ := hp3.free r0 r1; obtain ⟨u2, u3⟩ := hp3.free r2 r3; obtain ⟨u4, u5⟩ := hp3.free r4 r5; obtain ⟨u6, u7⟩ := hp3.free r6 r7))
  have hr3' := hr3.past hp3
  have HR3 := Lib.hid hr3'
  have HR4 := Lib.hid hr4
  clear hr3 hr3' hr4 k0 k1 q0 q1 q2 q3 q4 q5 q6 q7 r0 r1 r2 r3 r4 r5 r6 r7 hr1 hr2 hd1 hd2
  have n4 : ∀ x, ((w3.setCell ⟨w.heap.size + 1 + 1, 0, none⟩ (.bool s2)).setCell ⟨w.heap.size + 1 + 1, 1, none⟩ (.slice A2 n2 c2)).cell? ⟨w.heap.size + 1 + 1 + 1, 0, none⟩ ≠ some (.int .u32 x) := by
    intro x
    rw [set2_cell (by dsimp only; omega) u4]; simp
  have n5 : ∀ x, ((w3.setCell ⟨w.heap.size + 1 + 1, 0, none⟩ (.bool s2)).setCell ⟨w.heap.size + 1 + 1, 1, none⟩ (.slice A2 n2 c2)).cell? ⟨w.heap.size + 1 + 1 + 1, 1, none⟩ ≠ some (.int .u32 x) := by
    intro x
    rw [set2_cell (by dsimp only; omega) u6]; simp
  have HR3' := Lib.hid ((HR3.out.store2 (by simp [u0]) (by simp [u2]) (.bool s2) (.slice A2 n2 c2)).store2 n4 n5 (.bool s3) (.slice A3 n3 c3))
  have HR4' := Lib.hid ((HR4.out.store2 (by simp [u0]) (by simp [u2]) (.bool s2) (.slice A2 n2 c2)).store2 n4 n5 (.bool s3) (.slice A3 n3 c3))
  clear n4 n5
  have HPP : Hid (Past w ((((w3.setCell ⟨w.heap.size + 1 + 1, 0, none⟩ (.bool s2)).setCell ⟨w.heap.size + 1 + 1, 1, none⟩ (.slice A2 n2 c2)).setCell ⟨w.heap.size + 1 + 1 + 1, 0, none⟩ (.bool s3)).setCell ⟨w.heap.size + 1 + 1 + 1, 1, none⟩ (.slice A3 n3 c3))) :=
    ((((((HPB.out.trans hp1).drew.trans hp2).trans hp3).setCell (by dsimp only; omega) _).setCell (by dsimp only; omega) _).setCell (by dsimp only; omega) _).setCell (by dsimp only; omega) _
  go_wp2_with fail
  refine (whole_sign _ _ _ _ 0 _ HR4'.out).mono ?_
  rintro e w4 ⟨hp4, rfl⟩
  obtain ⟨c0, f0⟩ := hp4.free (a := ⟨w.heap.size + 1 + 1, 0, none⟩) (v := .bool s2) (by simp [go_sem, u0, u2, u4, u6]) (by simp [go_sem, u1, u3, u5, u7])
  obtain ⟨c1', f1⟩ := hp4.free (a := ⟨w.heap.size + 1 + 1, 1, none⟩) (v := .slice A2 n2 c2) (by simp [go_sem, u0, u2, u4, u6]) (by simp [go_sem, u1, u3, u5, u7])
  obtain ⟨c2', f2⟩ := hp4.free (a := ⟨w.heap.size + 1 + 1 + 1, 0, none⟩) (v := .bool s3) (by simp [go_sem, u0, u2, u4, u6]) (by simp [go_sem, u1, u3, u5, u7])
  obtain ⟨c3', f3⟩ := hp4.free (a := ⟨w.heap.size + 1 + 1 + 1, 1, none⟩) (v := .slice A3 n3 c3) (by simp [go_sem, u0, u2, u4, u6]) (by simp [go_sem, u1, u3, u5, u7])
  have hz : cmpZ 0 0 = 0 := rfl
  clear u0 u1 u2 u3 u4 u5 u6 u7 hp1 hp2 hp3
  have HP4 := Lib.hid hp4
  clear hp4
  go_wp2
  go_region
  all_goals go_wp2
  refine bodyPost_ret (v := .tuple #[.agg #[.bool s2, .slice A2 n2 c2], .agg #[.bool s3, .slice A3 n3 c3]]) ?_ rfl ⟨?_, s2, A2, n2, c2, _, rfl, ?_⟩
  · simp [results, Tryz.results204, go_sem, c0, c1', c2', c3']
  · repeat (first | exact HPP.out.trans HP4.out | (refine Past.setCell ?_ (by dsimp only; omega) _) | apply Past.drew)
  · refine RW.store2 (RW.store2 ((HR3'.out.past HP4.out).past (Past.refl _).drew) ?_ ?_ _ _) ?_ ?_ _ _
    all_goals (intro x; simp [go_sem, c0, c1', c2', c3'])

end Go.Proofs.YtdcjibjldfjllaaGreat

/- Rational numbers: the quotient of two whole numbers. -/
namespace Go.Proofs.YtdcjibjldfjllaaGreat
open Go.RowKit

/-- A rational number in memory: numerator and denominator (no digits: 1). -/
def RQ (w : World) (s : Bool) (A : Option Addr) (n c : Nat) (t : Bool) (B : Option Addr) (m d : Nat) (q : Rat) : Prop :=
  RW w s A n c q.num ∧ (RW w t B m d (q.den : Int) ∨ q.den = 1 ∧ RW w t B m d 0)
theorem RQ.past {w w1 : World} {s : Bool} {A : Option Addr} {n c : Nat} {t : Bool} {B : Option Addr} {m d : Nat} {q : Rat} (h : RQ w s A n c t B m d q) (hp : Past w w1) : RQ w1 s A n c t B m d q :=
  ⟨h.1.past hp, h.2.elim (fun h => .inl (h.past hp)) (fun h => .inr ⟨h.1, h.2.past hp⟩)⟩
/-- A call that answers a rational number. -/
def AnsR (q : Rat) (w : World) (e : Ending) (w' : World) : Prop := Past w w' ∧ ∃ s A n c t B m d, e = .returned (.agg #[.bool s, .slice A n c, .bool t, .slice B m d]) ∧ RQ w' s A n c t B m d q

theorem set4_cell {w : World} {b : Nat} {u0 u1 u2 u3 : Value} {a : Addr} {v : Value} (n : a.block ≠ b) (h : w.cell? a = some v) : ((((w.setCell ⟨b, 0, none⟩ u0).setCell ⟨b, 1, none⟩ u1).setCell ⟨b, 2, none⟩ u2).setCell ⟨b, 3, none⟩ u3).cell? a = some v := by
  rw [World.cell?_setCell_other _ _ _ _ (by rintro rfl; exact n rfl), World.cell?_setCell_other _ _ _ _ (by rintro rfl; exact n rfl)]
  exact set2_cell n h
theorem RW.store4 {z : Int} {w1 : World} {b : Nat} {s : Bool} {A : Option Addr} {n c : Nat} (h : RW w1 s A n c z)
    (h0 : ∀ x, w1.cell? ⟨b, 0, none⟩ ≠ some (.int .u32 x)) (h1 : ∀ x, w1.cell? ⟨b, 1, none⟩ ≠ some (.int .u32 x)) (h2 : ∀ x, w1.cell? ⟨b, 2, none⟩ ≠ some (.int .u32 x)) (h3 : ∀ x, w1.cell? ⟨b, 3, none⟩ ≠ some (.int .u32 x)) (v0 v1 v2 v3 : Value) :
    RW ((((w1.setCell ⟨b, 0, none⟩ v0).setCell ⟨b, 1, none⟩ v1).setCell ⟨b, 2, none⟩ v2).setCell ⟨b, 3, none⟩ v3) s A n c z := by
  refine ((h.store2 h0 h1 v0 v1).setCell (fun x => ?_) _).setCell (fun x => ?_) _
  · rw [World.cell?_setCell_other _ _ _ _ (by simp), World.cell?_setCell_other _ _ _ _ (by simp)]
    exact h2 x
  · rw [World.cell?_setCell_other _ _ _ _ (by simp), World.cell?_setCell_other _ _ _ _ (by simp), World.cell?_setCell_other _ _ _ _ (by simp)]
    exact h3 x
theorem RQ.store4 {q : Rat} {w1 : World} {b : Nat} {s : Bool} {A : Option Addr} {n c : Nat} {t : Bool} {B : Option Addr} {m d : Nat} (h : RQ w1 s A n c t B m d q)
    (h0 : ∀ x, w1.cell? ⟨b, 0, none⟩ ≠ some (.int .u32 x)) (h1 : ∀ x, w1.cell? ⟨b, 1, none⟩ ≠ some (.int .u32 x)) (h2 : ∀ x, w1.cell? ⟨b, 2, none⟩ ≠ some (.int .u32 x)) (h3 : ∀ x, w1.cell? ⟨b, 3, none⟩ ≠ some (.int .u32 x)) (v0 v1 v2 v3 : Value) :
    RQ ((((w1.setCell ⟨b, 0, none⟩ v0).setCell ⟨b, 1, none⟩ v1).setCell ⟨b, 2, none⟩ v2).setCell ⟨b, 3, none⟩ v3) s A n c t B m d q :=
  ⟨h.1.store4 h0 h1 h2 h3 _ _ _ _, h.2.elim (fun h => .inl (h.store4 h0 h1 h2 h3 _ _ _ _)) (fun h => .inr ⟨h.1, h.2.store4 h0 h1 h2 h3 _ _ _ _⟩)⟩
theorem AnsR.store {q : Rat} {w wa w1 : World} {b : Nat} {s : Bool} {A : Option Addr} {n c : Nat} {t : Bool} {B : Option Addr} {m d : Nat} (h : RQ w1 s A n c t B m d q) (hp0 : Past w wa) (hp : Past wa w1) (hb : w.heap.size ≤ b)
    (h0 : ∀ x, w1.cell? ⟨b, 0, none⟩ ≠ some (.int .u32 x)) (h1 : ∀ x, w1.cell? ⟨b, 1, none⟩ ≠ some (.int .u32 x)) (h2 : ∀ x, w1.cell? ⟨b, 2, none⟩ ≠ some (.int .u32 x)) (h3 : ∀ x, w1.cell? ⟨b, 3, none⟩ ≠ some (.int .u32 x)) (v0 v1 v2 v3 : Value) :
    AnsR q w (.returned (.agg #[.bool s, .slice A n c, .bool t, .slice B m d])) ((((w1.setCell ⟨b, 0, none⟩ v0).setCell ⟨b, 1, none⟩ v1).setCell ⟨b, 2, none⟩ v2).setCell ⟨b, 3, none⟩ v3) :=
  ⟨((((hp0.trans hp).setCell hb _).setCell hb _).setCell hb _).setCell hb _, s, A, n, c, t, B, m, d, rfl, h.store4 h0 h1 h2 h3 _ _ _ _⟩

theorem AnsR.alloc {q : Rat} {w w' : World} {e : Ending} (h : AnsR q w e w') (o : Obj) : AnsR q w e (w'.alloc o) := by
  obtain ⟨hp, s, A, n, c, t, B, m, d, rfl, hr⟩ := h
  exact ⟨hp.alloc o, s, A, n, c, t, B, m, d, rfl, hr.past ((Past.refl _).alloc o)⟩

theorem RQ.make {w : World} {s : Bool} {A : Option Addr} {n c : Nat} {t : Bool} {B : Option Addr} {m d : Nat} {x y : Int} (h0 : 0 < y) (hn : RW w s A n c (x / (Nat.gcd x.natAbs y.natAbs : Nat))) (hd : RW w t B m d (y / (Nat.gcd x.natAbs y.natAbs : Nat))) : RQ w s A n c t B m d (mkRat x y.toNat) := by
  have e0 : y.natAbs = y.toNat := by omega
  have e1 : y.toNat ≠ 0 := by omega
  refine ⟨?_, .inl ?_⟩
  · rw [Rat.num_mkRat, if_neg e1, Nat.gcd_comm, ← e0]
    exact hn
  · rw [Rat.den_mkRat, if_neg e1, Nat.gcd_comm, ← e0, Int.natCast_ediv]
    have : ((y.natAbs : Nat) : Int) = y := by omega
    rw [this]
    exact hd

set_option maxRecDepth 100000 in
set_option maxHeartbeats 4000000 in
theorem num_over (s t : Bool) (A B : Option Addr) (n c m d : Nat) (x y : Int) (w : World) (hx : RW w s A n c x) (hy : RW w t B m d y) (hn : n < 34359738368) (hm : m < 34359738368) (h0 : 0 < y) :
    Calls Tryz.prog 144 #[.agg #[.bool s, .slice A n c], .agg #[.bool t, .slice B m d]] w (AnsR (mkRat x y.toNat) w) := by
  have HX := Lib.hid hx
  have HY := Lib.hid hy
  have HY0 := Lib.hid h0
  clear hx hy h0
  obtain ⟨wb, hwb⟩ : ∃ wb, (((w.alloc (.cells #[.bool s, .slice A n c] 129)).alloc (.cells #[.bool t, .slice B m d] 129)).alloc (.cells #[.bool false, .slice none 0 0, .bool false, .slice none 0 0] 131)) = wb := ⟨_, rfl⟩
  have b0 : wb.cell? ⟨w.heap.size, 0, none⟩ = some (.bool s) ∧ wb.frozen? ⟨w.heap.size, 0, none⟩ = false := by rw [← hwb]; simp [go_sem]
  have b1 : wb.cell? ⟨w.heap.size, 1, none⟩ = some (.slice A n c) ∧ wb.frozen? ⟨w.heap.size, 1, none⟩ = false := by rw [← hwb]; simp [go_sem]
  have b2 : wb.cell? ⟨w.heap.size + 1, 0, none⟩ = some (.bool t) ∧ wb.frozen? ⟨w.heap.size + 1, 0, none⟩ = false := by rw [← hwb]; simp [go_sem]
  have b3 : wb.cell? ⟨w.heap.size + 1, 1, none⟩ = some (.slice B m d) ∧ wb.frozen? ⟨w.heap.size + 1, 1, none⟩ = false := by rw [← hwb]; simp [go_sem]
  have b4 : wb.cell? ⟨w.heap.size + 1 + 1, 0, none⟩ = some (.bool false) ∧ wb.frozen? ⟨w.heap.size + 1 + 1, 0, none⟩ = false := by rw [← hwb]; simp [go_sem]
  have b5 : wb.cell? ⟨w.heap.size + 1 + 1, 1, none⟩ = some (.slice none 0 0) ∧ wb.frozen? ⟨w.heap.size + 1 + 1, 1, none⟩ = false := by rw [← hwb]; simp [go_sem]
  have b6 : wb.cell? ⟨w.heap.size + 1 + 1, 2, none⟩ = some (.bool false) ∧ wb.frozen? ⟨w.heap.size + 1 + 1, 2, none⟩ = false := by rw [← hwb]; simp [go_sem]
  have b7 : wb.cell? ⟨w.heap.size + 1 + 1, 3, none⟩ = some (.slice none 0 0) ∧ wb.frozen? ⟨w.heap.size + 1 + 1, 3, none⟩ = false := by rw [← hwb]; simp [go_sem]
  have HB := Lib.hid (And.intro b0 (And.intro b1 (And.intro b2 (And.intro b3 (And.intro b4 (And.intro b5 (And.intro b6 b7)))))))
  clear b0 b1 b2 b3 b4 b5 b6 b7
  have HPB : Hid (Past w wb) := by rw [← hwb]; exact (((Past.refl _).alloc _).alloc _).alloc _
  have HWB := Lib.hid hwb
  clear hwb
  have hc1 : ¬ cmpZ y 0 < 0 := by have := HY0.out; unfold cmpZ; split <;> (try split) <;> omega
  go_enter Tryz.func144, Tryz.ntmps144
  go_wp2_with fail
  refine (whole_sign _ _ _ _ y _ (HY.out.past (by rw [← HWB.out] at HPB; exact HPB.out))).mono ?_
  rintro e w1 ⟨hp1, rfl⟩
  rw [HWB.out] at hp1
  have HP1 := Lib.hid hp1
  clear hp1
  have hc := HB.out
  obtain ⟨⟨k0, _⟩, ⟨k1, _⟩, ⟨k2, _⟩, ⟨k3, _⟩, _⟩ := hc
  replace k0 := HP1.out.cell k0
  replace k1 := HP1.out.cell k1
  replace k2 := HP1.out.cell k2
  replace k3 := HP1.out.cell k3
  go_wp2_with fail
  refine (whole_gcd _ _ _ _ _ _ _ _ x y _ (HX.out.past (HPB.out.trans HP1.out)) (HY.out.past (HPB.out.trans HP1.out)) hn hm).mono ?_
  rintro e w2 ⟨hp2, s2, A2, n2, c2, rfl, hr2⟩
  clear k0 k1 k2 k3
  have hs2 : s2 = false := by rw [hr2.1]; simp
  subst hs2
  have HP2 := Lib.hid (HP1.out.trans hp2)
  have HG := Lib.hid hr2
  clear hr2 hp2 HP1
  have HX2 := Lib.hid (HX.out.past (HPB.out.trans HP2.out))
  have HY2 := Lib.hid (HY.out.past (HPB.out.trans HP2.out))
  have HC : Hid ((w2.cell? ⟨w.heap.size, 0, none⟩ = some (.bool s) ∧ w2.frozen? ⟨w.heap.size, 0, none⟩ = false) ∧ (w2.cell? ⟨w.heap.size, 1, none⟩ = some (.slice A n c) ∧ w2.frozen? ⟨w.heap.size, 1, none⟩ = false) ∧
      (w2.cell? ⟨w.heap.size + 1, 0, none⟩ = some (.bool t) ∧ w2.frozen? ⟨w.heap.size + 1, 0, none⟩ = false) ∧ (w2.cell? ⟨w.heap.size + 1, 1, none⟩ = some (.slice B m d) ∧ w2.frozen? ⟨w.heap.size + 1, 1, none⟩ = false) ∧
      (w2.cell? ⟨w.heap.size + 1 + 1, 0, none⟩ = some (.bool false) ∧ w2.frozen? ⟨w.heap.size + 1 + 1, 0, none⟩ = false) ∧ (w2.cell? ⟨w.heap.size + 1 + 1, 1, none⟩ = some (.slice none 0 0) ∧ w2.frozen? ⟨w.heap.size + 1 + 1, 1, none⟩ = false) ∧
      (w2.cell? ⟨w.heap.size + 1 + 1, 2, none⟩ = some (.bool false) ∧ w2.frozen? ⟨w.heap.size + 1 + 1, 2, none⟩ = false) ∧ (w2.cell? ⟨w.heap.size + 1 + 1, 3, none⟩ = some (.slice none 0 0) ∧ w2.frozen? ⟨w.heap.size + 1 + 1, 3, none⟩ = false)) := by
    obtain ⟨⟨i0, g0⟩, ⟨i1, g1⟩, ⟨i2, g2⟩, ⟨i3, g3⟩, ⟨i4, g4⟩, ⟨i5, g5⟩, ⟨i6, g6⟩, ⟨i7, g7⟩⟩ := HB.out
    exact ⟨HP2.out.free i0 g0, HP2.out.free i1 g1, HP2.out.free i2 g2, HP2.out.free i3 g3, HP2.out.free i4 g4, HP2.out.free i5 g5, HP2.out.free i6 g6, HP2.out.free i7 g7⟩
  have HG1 : Hid (0 < Nat.gcd x.natAbs y.natAbs) := by unfold Hid; exact Nat.gcd_pos_of_pos_right _ (by have := HY0.out; omega)
  have HDX : Hid (((Nat.gcd x.natAbs y.natAbs : Nat) : Int) ∣ x) := by unfold Hid; rw [← Int.dvd_natAbs]; exact Int.natCast_dvd_natCast.2 (Nat.gcd_dvd_left _ _)
  have HDY : Hid (((Nat.gcd x.natAbs y.natAbs : Nat) : Int) ∣ y) := by unfold Hid; rw [← Int.dvd_natAbs]; exact Int.natCast_dvd_natCast.2 (Nat.gcd_dvd_right _ _)
  have HN2 : Hid (n2 < 34359738368) := by
    have h1 := HG.out.2.len
    have h2 := dg_le (Nat.gcd_le_right x.natAbs (show 0 < y.natAbs by have := HY0.out; omega))
    rw [Int.natAbs_natCast] at h1
    rw [h1, HY.out.2.len] at h2
    unfold Hid
    omega
  have hn2 : 0 < n2 := by
    have h1 := HG.out.2.len
    rw [Int.natAbs_natCast] at h1
    rw [← h1]
    exact dg_pos.2 HG1.out
  obtain ⟨l0, l1, l2, l3⟩ : w2.cell? ⟨w.heap.size, 0, none⟩ = some (.bool s) ∧ w2.cell? ⟨w.heap.size, 1, none⟩ = some (.slice A n c) ∧ w2.cell? ⟨w.heap.size + 1, 0, none⟩ = some (.bool t) ∧ w2.cell? ⟨w.heap.size + 1, 1, none⟩ = some (.slice B m d) := ⟨HC.out.1.1, HC.out.2.1.1, HC.out.2.2.1.1, HC.out.2.2.2.1.1⟩
  have hbs : w.heap.size + 1 + 1 < w2.heap.size := World.block_lt_of_cell? w2 _ HC.out.2.2.2.2.1.1
  have hbs0 : w.heap.size < w2.heap.size := by omega
  have hbs1 : w.heap.size + 1 < w2.heap.size := by omega
  by_cases h1n : 1 < n2
  · have hd1 : ((Nat.gcd x.natAbs y.natAbs : Nat) : Int) ∣ x := HDX.out
    have hd2 : ((Nat.gcd x.natAbs y.natAbs : Nat) : Int) ∣ y := HDY.out
    have hg0 : ((Nat.gcd x.natAbs y.natAbs : Nat) : Int) ≠ 0 := by have := HG1.out; omega
    have HDD := Lib.hid (And.intro hd1 (And.intro hd2 hg0))
    clear hd1 hd2 hg0
    go_wp2_with fail
    refine (whole_div _ _ _ _ _ _ _ _ x (Nat.gcd x.natAbs y.natAbs : Nat) _ (HX2.out.past ((Past.refl _).alloc _)) (HG.out.past ((Past.refl _).alloc _)) hn HN2.out HDD.out.2.2 HDD.out.1).mono ?_
    rintro e w3 ⟨hp3, s3, A3, n3, c3, v3, rfl, hr3⟩
    have HR3 := Lib.hid hr3
    clear hr3
    have j5 := hp3.cell (a := ⟨w2.heap.size, 0, none⟩) (v := .bool false) (by simp [go_sem])
    have j6 := hp3.cell (a := ⟨w2.heap.size, 1, none⟩) (v := .slice A2 n2 c2) (by simp [go_sem])
    have HJ := Lib.hid hp3
    have hp3' := (Past.refl w2).alloc (.cells #[.bool false, .slice A2 n2 c2] 129)
    have hp4 := hp3'.trans hp3
    obtain ⟨⟨i0, g0⟩, ⟨i1, g1⟩, ⟨i2, g2⟩, ⟨i3, g3⟩, ⟨i4, g4⟩, ⟨i5, g5⟩, ⟨i6, g6⟩, ⟨i7, g7⟩⟩ := HC.out
    have m0 := hp4.free i0 g0
    have m1 := hp4.free i1 g1
    have m2 := hp4.free i2 g2
    have m3 := hp4.free i3 g3
    have m4 := hp4.free i4 g4
    have m5 := hp4.free i5 g5
    have m6 := hp4.free i6 g6
    have m7 := hp4.free i7 g7
    clear i0 g0 i1 g1 i2 g2 i3 g3 i4 g4 i5 g5 i6 g6 i7 g7
    have hbs : w.heap.size + 1 + 1 < w2.heap.size := World.block_lt_of_cell? w2 _ HC.out.2.2.2.2.1.1
    obtain ⟨m0, f0⟩ := m0
    obtain ⟨m1, f1⟩ := m1
    obtain ⟨m2, f2⟩ := m2
    obtain ⟨m3, f3⟩ := m3
    have HM := Lib.hid (And.intro m4 (And.intro m5 (And.intro m6 m7)))
    have HP4 := Lib.hid hp4
    clear hp3 hp3' hp4 m4 m5 m6 m7
    have nm0 : ∀ x, w3.cell? ⟨w.heap.size, 0, none⟩ ≠ some (.int .u32 x) := by intro x; rw [m0]; simp
    have nm1 : ∀ x, w3.cell? ⟨w.heap.size, 1, none⟩ ≠ some (.int .u32 x) := by intro x; rw [m1]; simp
    have HY3 := Lib.hid ((HY2.out.past HP4.out).store2 nm0 nm1 (.bool s3) (.slice A3 n3 c3))
    have HG3 := Lib.hid (((HG.out.past ((Past.refl _).alloc _)).past HJ.out).store2 nm0 nm1 (.bool s3) (.slice A3 n3 c3))
    have HR3' := Lib.hid (HR3.out.store2 nm0 nm1 (.bool s3) (.slice A3 n3 c3))
    clear nm0 nm1
    go_wp2_with fail
    refine (whole_div _ _ _ _ _ _ _ _ y (Nat.gcd x.natAbs y.natAbs : Nat) _ HY3.out HG3.out hm HN2.out HDD.out.2.2 HDD.out.2.1).mono ?_
    rintro e w4 ⟨hp5, s4, A4, n4, c4, v4, rfl, hr4⟩
    have HR4 := Lib.hid hr4
    clear hr4
    have HR5 := Lib.hid (HR3'.out.past hp5)
    have p0 := hp5.cell (a := ⟨w.heap.size, 0, none⟩) (v := .bool s3) (by simp [go_sem, m0, m1])
    have p1 := hp5.cell (a := ⟨w.heap.size, 1, none⟩) (v := .slice A3 n3 c3) (by simp [go_sem, m0, m1])
    obtain ⟨p2, g2⟩ := hp5.free (set2_cell (a := ⟨w.heap.size + 1, 0, none⟩) (by dsimp only; omega) m2) (by simp [go_sem, f2])
    obtain ⟨p3, g3⟩ := hp5.free (set2_cell (a := ⟨w.heap.size + 1, 1, none⟩) (by dsimp only; omega) m3) (by simp [go_sem, f3])
    obtain ⟨⟨m4, f4⟩, ⟨m5, f5⟩, ⟨m6, f6⟩, ⟨m7, f7⟩⟩ := HM.out
    obtain ⟨p4, g4⟩ := hp5.free (set2_cell (a := ⟨w.heap.size + 1 + 1, 0, none⟩) (by dsimp only; omega) m4) (by simp [go_sem, f4])
    obtain ⟨p5, g5⟩ := hp5.free (set2_cell (a := ⟨w.heap.size + 1 + 1, 1, none⟩) (by dsimp only; omega) m5) (by simp [go_sem, f5])
    obtain ⟨p6, g6⟩ := hp5.free (set2_cell (a := ⟨w.heap.size + 1 + 1, 2, none⟩) (by dsimp only; omega) m6) (by simp [go_sem, f6])
    obtain ⟨p7, g7⟩ := hp5.free (set2_cell (a := ⟨w.heap.size + 1 + 1, 3, none⟩) (by dsimp only; omega) m7) (by simp [go_sem, f7])
    have HPW : Hid (Past w ((w4.setCell ⟨w.heap.size + 1, 0, none⟩ (.bool s4)).setCell ⟨w.heap.size + 1, 1, none⟩ (.slice A4 n4 c4))) :=
      ((((((HPB.out.trans HP2.out).trans HP4.out).setCell (by dsimp only; omega) _).setCell (by dsimp only; omega) _).trans hp5).setCell (by dsimp only; omega) _).setCell (by dsimp only; omega) _
    clear m0 m1 m2 m3 m4 m5 m6 m7 f0 f1 f2 f3 f4 f5 f6 f7 hp5 l0 l1 l2 l3
    go_wp2
    refine bodyPost_ret (v := .agg #[.bool s3, .slice A3 n3 c3, .bool s4, .slice A4 n4 c4]) ?_ rfl (AnsR.store (RQ.make HY0.out (HR5.out.store2 ?_ ?_ _ _) (HR4.out.store2 ?_ ?_ _ _)) HPW.out (Past.refl _) (by omega) ?_ ?_ ?_ ?_ _ _ _ _)
    · simp [results, Tryz.results144, go_sem, p0, p1, p2, p3, p4, p5, p6, p7]
    all_goals (intro x; simp [go_sem, p2, p3, p4, p5, p6, p7])
  · have hn1 : n2 = 1 := by omega
    subst hn1
    obtain ⟨b1, o1, rfl, hc1⟩ := HG.out.2.at_ (by omega)
    have e0 := hc1 0 (by omega)
    simp only [Nat.add_zero, Int.natAbs_natCast] at e0
    clear hc1
    have hb1 := World.block_lt_of_cell? w2 _ e0
    dsimp only at hb1
    have HV : Hid (rd (dg (Nat.gcd x.natAbs y.natAbs)) 0 = ((Nat.gcd x.natAbs y.natAbs : Nat) : Int)) := by
      have h := dg_val (Nat.gcd x.natAbs y.natAbs)
      have hl := HG.out.2.len
      rw [Int.natAbs_natCast] at hl
      obtain ⟨z, hz⟩ : ∃ z, dg (Nat.gcd x.natAbs y.natAbs) = [z] := List.length_eq_one_iff.1 hl
      rw [hz] at h ⊢
      simpa [rd, Hid] using h
    by_cases hg1 : 1 < rd (dg (Nat.gcd x.natAbs y.natAbs)) 0
    · have hd1 : ((Nat.gcd x.natAbs y.natAbs : Nat) : Int) ∣ x := HDX.out
      have hd2 : ((Nat.gcd x.natAbs y.natAbs : Nat) : Int) ∣ y := HDY.out
      have hg0 : ((Nat.gcd x.natAbs y.natAbs : Nat) : Int) ≠ 0 := by have := HG1.out; omega
      have HDD := Lib.hid (And.intro hd1 (And.intro hd2 hg0))
      clear hd1 hd2 hg0
      go_wp2_with fail
      refine (whole_div _ _ _ _ _ _ _ _ x (Nat.gcd x.natAbs y.natAbs : Nat) _ (HX2.out.past ((Past.refl _).alloc _)) (HG.out.past ((Past.refl _).alloc _)) hn HN2.out HDD.out.2.2 HDD.out.1).mono ?_
      rintro e w3 ⟨hp3, s3, A3, n3, c3, v3, rfl, hr3⟩
      have HR3 := Lib.hid hr3
      clear hr3
      have j5 := hp3.cell (a := ⟨w2.heap.size, 0, none⟩) (v := .bool false) (by simp [go_sem])
      have j6 := hp3.cell (a := ⟨w2.heap.size, 1, none⟩) (v := .slice (some ⟨b1, o1, none⟩) 1 c2) (by simp [go_sem])
      have HJ := Lib.hid hp3
      have hp3' := (Past.refl w2).alloc (.cells #[.bool false, .slice (some ⟨b1, o1, none⟩) 1 c2] 129)
      have hp4 := hp3'.trans hp3
      obtain ⟨⟨i0, g0⟩, ⟨i1, g1⟩, ⟨i2, g2⟩, ⟨i3, g3⟩, ⟨i4, g4⟩, ⟨i5, g5⟩, ⟨i6, g6⟩, ⟨i7, g7⟩⟩ := HC.out
      have m0 := hp4.free i0 g0
      have m1 := hp4.free i1 g1
      have m2 := hp4.free i2 g2
      have m3 := hp4.free i3 g3
      have m4 := hp4.free i4 g4
      have m5 := hp4.free i5 g5
      have m6 := hp4.free i6 g6
      have m7 := hp4.free i7 g7
      clear i0 g0 i1 g1 i2 g2 i3 g3 i4 g4 i5 g5 i6 g6 i7 g7
      have hbs : w.heap.size + 1 + 1 < w2.heap.size := World.block_lt_of_cell? w2 _ HC.out.2.2.2.2.1.1
      obtain ⟨m0, f0⟩ := m0
      obtain ⟨m1, f1⟩ := m1
      obtain ⟨m2, f2⟩ := m2
      obtain ⟨m3, f3⟩ := m3
      have HM := Lib.hid (And.intro m4 (And.intro m5 (And.intro m6 m7)))
      have HP4 := Lib.hid hp4
      clear hp3 hp3' hp4 m4 m5 m6 m7
      have nm0 : ∀ x, w3.cell? ⟨w.heap.size, 0, none⟩ ≠ some (.int .u32 x) := by intro x; rw [m0]; simp
      have nm1 : ∀ x, w3.cell? ⟨w.heap.size, 1, none⟩ ≠ some (.int .u32 x) := by intro x; rw [m1]; simp
      have HY3 := Lib.hid ((HY2.out.past HP4.out).store2 nm0 nm1 (.bool s3) (.slice A3 n3 c3))
      have HG3 := Lib.hid (((HG.out.past ((Past.refl _).alloc _)).past HJ.out).store2 nm0 nm1 (.bool s3) (.slice A3 n3 c3))
      have HR3' := Lib.hid (HR3.out.store2 nm0 nm1 (.bool s3) (.slice A3 n3 c3))
      clear nm0 nm1
      go_wp2_with fail
      refine (whole_div _ _ _ _ _ _ _ _ y (Nat.gcd x.natAbs y.natAbs : Nat) _ HY3.out HG3.out hm HN2.out HDD.out.2.2 HDD.out.2.1).mono ?_
      rintro e w4 ⟨hp5, s4, A4, n4, c4, v4, rfl, hr4⟩
      have HR4 := Lib.hid hr4
      clear hr4
      have HR5 := Lib.hid (HR3'.out.past hp5)
      have p0 := hp5.cell (a := ⟨w.heap.size, 0, none⟩) (v := .bool s3) (by simp [go_sem, m0, m1])
      have p1 := hp5.cell (a := ⟨w.heap.size, 1, none⟩) (v := .slice A3 n3 c3) (by simp [go_sem, m0, m1])
      obtain ⟨p2, g2⟩ := hp5.free (set2_cell (a := ⟨w.heap.size + 1, 0, none⟩) (by dsimp only; omega) m2) (by simp [go_sem, f2])
      obtain ⟨p3, g3⟩ := hp5.free (set2_cell (a := ⟨w.heap.size + 1, 1, none⟩) (by dsimp only; omega) m3) (by simp [go_sem, f3])
      obtain ⟨⟨m4, f4⟩, ⟨m5, f5⟩, ⟨m6, f6⟩, ⟨m7, f7⟩⟩ := HM.out
      obtain ⟨p4, g4⟩ := hp5.free (set2_cell (a := ⟨w.heap.size + 1 + 1, 0, none⟩) (by dsimp only; omega) m4) (by simp [go_sem, f4])
      obtain ⟨p5, g5⟩ := hp5.free (set2_cell (a := ⟨w.heap.size + 1 + 1, 1, none⟩) (by dsimp only; omega) m5) (by simp [go_sem, f5])
      obtain ⟨p6, g6⟩ := hp5.free (set2_cell (a := ⟨w.heap.size + 1 + 1, 2, none⟩) (by dsimp only; omega) m6) (by simp [go_sem, f6])
      obtain ⟨p7, g7⟩ := hp5.free (set2_cell (a := ⟨w.heap.size + 1 + 1, 3, none⟩) (by dsimp only; omega) m7) (by simp [go_sem, f7])
      have HPW : Hid (Past w ((w4.setCell ⟨w.heap.size + 1, 0, none⟩ (.bool s4)).setCell ⟨w.heap.size + 1, 1, none⟩ (.slice A4 n4 c4))) :=
        ((((((HPB.out.trans HP2.out).trans HP4.out).setCell (by dsimp only; omega) _).setCell (by dsimp only; omega) _).trans hp5).setCell (by dsimp only; omega) _).setCell (by dsimp only; omega) _
      clear m0 m1 m2 m3 m4 m5 m6 m7 f0 f1 f2 f3 f4 f5 f6 f7 hp5 l0 l1 l2 l3
      go_wp2
      refine bodyPost_ret (v := .agg #[.bool s3, .slice A3 n3 c3, .bool s4, .slice A4 n4 c4]) ?_ rfl (AnsR.store (RQ.make HY0.out (HR5.out.store2 ?_ ?_ _ _) (HR4.out.store2 ?_ ?_ _ _)) HPW.out (Past.refl _) (by omega) ?_ ?_ ?_ ?_ _ _ _ _)
      · simp [results, Tryz.results144, go_sem, p0, p1, p2, p3, p4, p5, p6, p7]
      all_goals (intro x; simp [go_sem, p2, p3, p4, p5, p6, p7])
    · have HGE : Hid (Nat.gcd x.natAbs y.natAbs = 1) := by
        have h1 := HV.out
        have h2 := HG1.out
        unfold Hid
        omega
      obtain ⟨⟨m4, f4⟩, ⟨m5, f5⟩, ⟨m6, f6⟩, ⟨m7, f7⟩⟩ := HC.out.2.2.2.2
      have HPW := Lib.hid (HPB.out.trans HP2.out)
      clear l0 l1 l2 l3
      obtain ⟨l0, l1, l2, l3⟩ : w2.cell? ⟨w.heap.size, 0, none⟩ = some (.bool s) ∧ w2.cell? ⟨w.heap.size, 1, none⟩ = some (.slice A n c) ∧ w2.cell? ⟨w.heap.size + 1, 0, none⟩ = some (.bool t) ∧ w2.cell? ⟨w.heap.size + 1, 1, none⟩ = some (.slice B m d) := ⟨HC.out.1.1, HC.out.2.1.1, HC.out.2.2.1.1, HC.out.2.2.2.1.1⟩
      go_wp2
      refine bodyPost_ret (v := .agg #[.bool s, .slice A n c, .bool t, .slice B m d]) ?_ rfl (AnsR.alloc (AnsR.store (b := w.heap.size + 1 + 1) (RQ.make HY0.out (by rw [HGE.out, show ((1 : Nat) : Int) = 1 from rfl, Int.ediv_one]; exact HX2.out) (by rw [HGE.out, show ((1 : Nat) : Int) = 1 from rfl, Int.ediv_one]; exact HY2.out)) HPW.out (Past.refl _) (by omega) ?_ ?_ ?_ ?_ _ _ _ _) _)
      · simp [results, Tryz.results144, go_sem, m4, m5, m6, m7, hbs]
      all_goals (intro x; simp [m4, m5, m6, m7])

end Go.Proofs.YtdcjibjldfjllaaGreat

/- Rational numbers: denominator, sum, difference, product, comparison. -/
namespace Go.Proofs.YtdcjibjldfjllaaGreat
open Go.RowKit

theorem len_mul (x y : Int) : len (x * y) ≤ len x + len y := by
  unfold len
  have h1 := dg_lt (x := x.natAbs) (Nat.le_refl _)
  have h2 := dg_lt (x := y.natAbs) (Nat.le_refl _)
  refine Dg.toD_length_le (by omega) ?_
  rw [Int.natAbs_mul, Nat.pow_add]
  exact Nat.mul_lt_mul'' h1 h2
theorem len_add (x y : Int) : len (x + y) ≤ max (len x) (len y) + 1 := by
  unfold len
  have h1 := dg_lt (x := x.natAbs) (Nat.le_refl _)
  have h2 := dg_lt (x := y.natAbs) (Nat.le_refl _)
  refine Dg.toD_length_le (by omega) ?_
  generalize (dg x.natAbs).length = a at *
  generalize (dg y.natAbs).length = b at *
  have h3 : 1000000000 ^ a ≤ 1000000000 ^ (max a b) := Nat.pow_le_pow_right (by omega) (by omega)
  have h4 : 1000000000 ^ b ≤ 1000000000 ^ (max a b) := Nat.pow_le_pow_right (by omega) (by omega)
  rw [Nat.pow_succ]
  have := Int.natAbs_add_le x y
  omega
theorem len_one : len 1 = 1 := by
  unfold len
  have h := Dg.toD_length_le (b := 1000000000) (n := 1) (k := 1) (by omega) (by omega)
  have h2 : 0 < (dg 1).length := dg_pos.2 (by omega)
  unfold dg at *
  simp only [Int.natAbs_one]
  omega

/-- How long the parts of a rational number are. -/
def lenQ (q : Rat) : Nat := max (len q.num) (len q.den)
theorem RQ.lens {w : World} {s : Bool} {A : Option Addr} {n c : Nat} {t : Bool} {B : Option Addr} {m d : Nat} {q : Rat} (h : RQ w s A n c t B m d q) : n ≤ lenQ q ∧ m ≤ lenQ q ∧ len q.num ≤ lenQ q ∧ len (q.den : Int) ≤ lenQ q := by
  have h1 := h.1.len
  unfold lenQ
  refine ⟨by omega, ?_, by omega, by omega⟩
  rcases h.2 with h2 | ⟨_, h2⟩
  · have := h2.len; omega
  · have h3 := h2.len
    have : len 0 = 0 := by unfold len; simp [dg_nil]
    omega

set_option maxRecDepth 100000 in
set_option maxHeartbeats 2000000 in
theorem ratio_den (s t : Bool) (A B : Option Addr) (n c m d : Nat) (q : Rat) (w : World) (hq : RQ w s A n c t B m d q) :
    Calls Tryz.prog 146 #[.agg #[.bool s, .slice A n c, .bool t, .slice B m d]] w (AnsW (q.den : Int) w) := by
  have HQ := Lib.hid hq
  clear hq
  obtain ⟨wb, hwb⟩ : ∃ wb, ((w.alloc (.cells #[.bool s, .slice A n c, .bool t, .slice B m d] 131)).alloc (.cells #[.bool false, .slice none 0 0] 129)) = wb := ⟨_, rfl⟩
  have HB : Hid ((wb.cell? ⟨w.heap.size, 2, none⟩ = some (.bool t) ∧ wb.cell? ⟨w.heap.size, 3, none⟩ = some (.slice B m d)) ∧ (wb.cell? ⟨w.heap.size + 1, 0, none⟩ = some (.bool false) ∧ wb.frozen? ⟨w.heap.size + 1, 0, none⟩ = false) ∧ (wb.cell? ⟨w.heap.size + 1, 1, none⟩ = some (.slice none 0 0) ∧ wb.frozen? ⟨w.heap.size + 1, 1, none⟩ = false)) := by rw [← hwb]; simp [go_sem, Hid]
  have HPB : Hid (Past w wb) := by rw [← hwb]; exact ((Past.refl _).alloc _).alloc _
  have HWB := Lib.hid hwb
  clear hwb
  have hd0 : (q.den : Int) ≠ 0 := by have := q.den_pos; omega
  have HD0 := Lib.hid hd0
  clear hd0
  rcases HQ.out.2 with h2 | ⟨h1, h2⟩
  · have H2 := Lib.hid h2
    clear h2
    have hcz : (cmpZ (q.den : Int) 0 == 0) = false := by
      have := HD0.out
      rw [beq_eq_false_iff_ne]
      unfold cmpZ
      split <;> (try split) <;> omega
    go_enter Tryz.func146, Tryz.ntmps146
    go_wp2_with fail
    refine (whole_sign _ _ _ _ (q.den : Int) _ (H2.out.past (by rw [← HWB.out] at HPB; exact HPB.out))).mono ?_
    rintro e w1 ⟨hp1, rfl⟩
    rw [HWB.out] at hp1
    have k2 := hp1.cell HB.out.1.1
    have k3 := hp1.cell HB.out.1.2
    obtain ⟨k4, f4⟩ := hp1.free HB.out.2.1.1 HB.out.2.1.2
    obtain ⟨k5, f5⟩ := hp1.free HB.out.2.2.1 HB.out.2.2.2
    go_wp2
    exact bodyPost_ret (v := .agg #[.bool t, .slice B m d]) (by simp [results, Tryz.results146, go_sem, k4, k5]) rfl (AnsW.store (H2.out.past (HPB.out.trans hp1)) HPB.out hp1 (by omega) (by simp [k4]) (by simp [k5]) _ _)
  · have H2 := Lib.hid h2
    have H1 := Lib.hid h1
    clear h2 h1
    have hcz : cmpZ 0 0 = 0 := rfl
    go_enter Tryz.func146, Tryz.ntmps146
    go_wp2_with fail
    refine (whole_sign _ _ _ _ 0 _ (H2.out.past (by rw [← HWB.out] at HPB; exact HPB.out))).mono ?_
    rintro e w1 ⟨hp1, rfl⟩
    rw [HWB.out] at hp1
    obtain ⟨k4, f4⟩ := hp1.free HB.out.2.1.1 HB.out.2.1.2
    obtain ⟨k5, f5⟩ := hp1.free HB.out.2.2.1 HB.out.2.2.2
    go_wp2_with fail
    refine (num_of 1 _ (by omega) (by omega)).mono ?_
    rintro e w2 ⟨hp2, s2, A2, n2, c2, rfl, hr2⟩
    obtain ⟨r0, r1⟩ := hp2.free k4 f4
    obtain ⟨r2, r3⟩ := hp2.free k5 f5
    go_wp2
    rw [H1.out]
    exact bodyPost_ret (v := .agg #[.bool s2, .slice A2 n2 c2]) (by simp [results, Tryz.results146, go_sem, r0, r2]) rfl (AnsW.store hr2 (HPB.out.trans hp1) hp2 (by omega) (by simp [r0]) (by simp [r2]) _ _)

/-- Eight cells that are held. -/
def Held8 (w : World) (a b : Nat) (v0 v1 v2 v3 u0 u1 u2 u3 : Value) : Prop :=
  w.cell? ⟨a, 0, none⟩ = some v0 ∧ w.cell? ⟨a, 1, none⟩ = some v1 ∧ w.cell? ⟨a, 2, none⟩ = some v2 ∧ w.cell? ⟨a, 3, none⟩ = some v3 ∧ w.cell? ⟨b, 0, none⟩ = some u0 ∧ w.cell? ⟨b, 1, none⟩ = some u1 ∧ w.cell? ⟨b, 2, none⟩ = some u2 ∧ w.cell? ⟨b, 3, none⟩ = some u3
theorem keep8 {w w1 : World} {a b : Nat} {v0 v1 v2 v3 u0 u1 u2 u3 : Value} (hp : Past w w1) (h : Held8 w a b v0 v1 v2 v3 u0 u1 u2 u3) : Held8 w1 a b v0 v1 v2 v3 u0 u1 u2 u3 := by
  obtain ⟨h0, h1, h2, h3, h4, h5, h6, h7⟩ := h
  exact ⟨hp.cell h0, hp.cell h1, hp.cell h2, hp.cell h3, hp.cell h4, hp.cell h5, hp.cell h6, hp.cell h7⟩
theorem keepst8 {w : World} {a b g : Nat} {v0 v1 v2 v3 u0 u1 u2 u3 x0 x1 x2 x3 : Value} (ha : a ≠ g) (hb : b ≠ g) (h : Held8 w a b v0 v1 v2 v3 u0 u1 u2 u3) : Held8 ((((w.setCell ⟨g, 0, none⟩ x0).setCell ⟨g, 1, none⟩ x1).setCell ⟨g, 2, none⟩ x2).setCell ⟨g, 3, none⟩ x3) a b v0 v1 v2 v3 u0 u1 u2 u3 := by
  obtain ⟨h0, h1, h2, h3, h4, h5, h6, h7⟩ := h
  exact ⟨set4_cell ha h0, set4_cell ha h1, set4_cell ha h2, set4_cell ha h3, set4_cell hb h4, set4_cell hb h5, set4_cell hb h6, set4_cell hb h7⟩

end Go.Proofs.YtdcjibjldfjllaaGreat

/- Rows that hold no digits: an append leaves all digits as they are. -/
namespace Go.Proofs.YtdcjibjldfjllaaGreat
open Go.RowKit

def isU : Value → Bool
  | .int .u32 _ => true
  | _ => false
/-- The own block of v holds no digit. -/
def NoU (w : World) (v : Value) : Prop := ∀ g, v.ownBlock = some g → ∀ j u, w.cell? ⟨g, j, none⟩ = some u → isU u = false
/-- All digits are as they were. -/
def KeepU (w w' : World) : Prop := ∀ b o u, isU u = true → w.cell? ⟨b, o, none⟩ = some u → w'.cell? ⟨b, o, none⟩ = some u

theorem Past.keepU {w w1 : World} (h : Past w w1) : KeepU w w1 := fun _ _ _ _ hc => h.cell hc
theorem KeepU.trans {w w1 w2 : World} (h : KeepU w w1) (k : KeepU w1 w2) : KeepU w w2 := fun b o u hu hc => k b o u hu (h b o u hu hc)
theorem RInts.keepU {w w1 : World} {A : Option Addr} {n c : Nat} {xs : List Int} (h : RInts w .u32 A n c xs) (hp : KeepU w w1) : RInts w1 .u32 A n c xs :=
  ⟨h.1, h.2.1, h.2.2.1, fun hn => by
    obtain ⟨b, off, e, hc⟩ := h.2.2.2 hn
    exact ⟨b, off, e, fun j hj => hp _ _ _ rfl (hc j hj)⟩⟩
theorem RW.keepU {w w1 : World} {s : Bool} {A : Option Addr} {n c : Nat} {z : Int} (h : RW w s A n c z) (hp : KeepU w w1) : RW w1 s A n c z := ⟨h.1, h.2.keepU hp⟩

theorem cell_congr {w w' : World} {b : Nat} (h : w'.heap[b]? = w.heap[b]?) (o : Nat) : w'.cell? ⟨b, o, none⟩ = w.cell? ⟨b, o, none⟩ := by
  simp [World.cell?, h]

theorem NoU.past {w w1 : World} {v : Value} {base : Nat} {e : TypeId} {size n : Nat} {xs : List Value} (h : NoU w v) (ho : w.ownsRow base e size v n xs) (hp : Past w w1) : NoU w1 v := by
  intro g hg j u hu
  have hlt := (ho.lt g hg).2
  have e := hp.block g hlt
  rw [cell_congr e j] at hu
  exact h g hg j u hu

theorem mem_zeroCells {z : Array Value} {n : Nat} {u : Value} (h : u ∈ (Builtin.zeroCells z n).toList) : u ∈ z.toList := by
  unfold Builtin.zeroCells at h
  simp only [Array.toList_map, List.mem_map, Array.mem_toList_iff, Array.mem_range] at h
  obtain ⟨i, hi, rfl⟩ := h
  have hz : 0 < z.size := by
    rcases Nat.eq_zero_or_pos z.size with h0 | h0
    · rw [h0] at hi; omega
    · exact h0
  have hm := Nat.mod_lt i hz
  rw [getElem!_pos z (i % z.size) hm]
  simp

theorem run_append_U {P : Program} (w : World) (base : Nat) (t ty e : TypeId) (i : TypeInfo) (z : Value) (ht : P.underlying t = some (.slice e)) (hi : P.info? e = some i) (hz : i.zero = some z) (hzs : z.cells.size = i.size) (hsz : 0 < i.size)
    (v : Value) (n : Nat) (xs : List Value) (hown : w.ownsRow base e i.size v n xs) (hno : NoU w v)
    (a : Addr) (c : Nat) (news : List Value) (hl : news.length = 1 * i.size) (hnews : ∀ j u, news[j]? = some u → w.cell? (a.add j) = some u) (h1 : ∀ u ∈ news, u.oneCell' = true)
    (h63 : n + 1 ≤ maxLen) (hbytes : (n + 1) * i.bytes ≤ 140737488355328) (hbase : base ≤ w.heap.size) (hnu : ∀ u ∈ news, isU u = false) (hzu : ∀ u ∈ z.cells.toList, isU u = false) :
    ∃ v' w', (Builtin.append_ #[t, t] ty #[v, .slice (some a) 1 c]).run P w = .ok v' w' ∧ w'.ownsRow base e i.size v' (n + 1) (xs ++ news) ∧ w.grownBy w' v.ownBlock ∧ NoU w' v' ∧ KeepU w w' := by
  obtain ⟨v', w', hr, h2, h3, h4⟩ := run_append_own (P := P) w base t ty e i z i.size i.bytes ht hi hz rfl rfl hzs hsz v n xs hown a 1 c news hl hnews h1 h63 hbytes hbase
  have hsmall : n + 1 ≤ 9223372036854775807 := by simp only [maxLen] at h63; omega
  refine ⟨v', w', hr, h2, h3, ?_, ?_⟩
  · -- a new block
    have fresh : ∀ (cs : Array Value) (m k : Nat), v' = .slice (some ⟨w.heap.size, 0, none⟩) m k → w' = w.drew.alloc (.cells cs e) → (∀ u ∈ cs.toList, isU u = false) → NoU w' v' := by
      intro cs m k hv hw hcs g hg j u hu
      subst hv hw
      simp only [Value.ownBlock, Option.some.injEq] at hg
      subst hg
      rw [cell_of_row _ w.heap.size j cs e (0, 0) (heap_alloc_new w.drew _)] at hu
      exact hcs u (List.mem_of_getElem? (by simpa using hu))
    rcases hown.2 with ⟨rfl, rfl⟩ | ⟨g, cap, cur, rfl, hbg, hg, hnc, hcm, hcs, htake⟩
    · have hr2 := run_append_nil (P := P) w t ty e i z ht hi hz a 1 c news hl hnews (by omega) (by omega) (by have hb := hbytes; simp only [Nat.zero_add] at hb; omega)
      rw [hr] at hr2
      injection hr2 with e1 e2
      refine fresh _ _ _ e1 e2 ?_
      intro u hu
      simp only [Array.toList_append, List.mem_append] at hu
      rcases hu with hu | hu
      · exact hnu u hu
      · exact hzu u (mem_zeroCells hu)
    · have hxs : ∀ u ∈ xs, isU u = false := by
        intro u hu
        obtain ⟨j, hj⟩ := List.getElem?_of_mem hu
        have := hown.cells (g := g) rfl j u hj
        rw [add_plain] at this
        exact hno g rfl j u this
      by_cases hroom : n + 1 ≤ cap
      · have hfit : n * i.size + news.length ≤ cur.size := by rw [hl, hcs, ← Nat.add_mul]; exact Nat.mul_le_mul_right _ hroom
        have hr2 := run_append_room (P := P) w t ty e i ht hi g n cap cur hg a 1 c news hl hnews h1 hroom hfit
        rw [hr] at hr2
        injection hr2 with e1 e2
        intro g' hg' j u hu
        subst e1 e2
        simp only [Value.ownBlock, Option.some.injEq] at hg'
        subst hg'
        rw [cell_setRow_same w g j cur _ e _ hg] at hu
        have hm := List.mem_of_getElem? (show (cur.toList.take (n * i.size) ++ news ++ cur.toList.drop (n * i.size + news.length))[j]? = some u by simpa using hu)
        have hcur : ∀ u ∈ cur.toList, isU u = false := by
          intro u hu
          obtain ⟨j, hj⟩ := List.getElem?_of_mem hu
          refine hno g rfl j u ?_
          rw [cell_of_row w g j cur e (0, 0) hg]
          simpa using hj
        simp only [List.mem_append] at hm
        rcases hm with (hm | hm) | hm
        · exact hcur u (List.mem_of_mem_take hm)
        · exact hnu u hm
        · exact hcur u (List.mem_of_mem_drop hm)
      · have holds : ∀ j u, xs[j]? = some u → w.cell? ((⟨g, 0, none⟩ : Addr).add j) = some u := hown.cells (g := g) rfl
        have hr2 := run_append_grow (P := P) w t ty e i z ht hi hz ⟨g, 0, none⟩ n cap xs hown.1 holds a 1 c news hl hnews (by omega) (by omega) (growslice_fits (by omega) hbytes)
        rw [hr] at hr2
        injection hr2 with e1 e2
        refine fresh _ _ _ e1 e2 ?_
        intro u hu
        simp only [Array.toList_append, List.mem_append] at hu
        rcases hu with (hu | hu) | hu
        · exact hxs u hu
        · exact hnu u hu
        · exact hzu u (mem_zeroCells hu)
  · intro b o u hu hc
    have hlt : b < w.heap.size := World.block_lt_of_cell? w _ hc
    rw [cell_congr (h3.block b hlt ?_) o]
    · exact hc
    · intro hb
      have := hno b hb.symm o u hc
      rw [hu] at this
      cases this

/-- A row of the call's own that holds no digits. -/
def OwnU {α : Type} (w0 w : World) (R : Rep α) (e : TypeId) (v : Value) (xs : List α) : Prop := OwnS w0 w R e v xs ∧ NoU w v
section
variable {α : Type} {w0 w w1 : World} {R : Rep α} {e : TypeId} {v : Value} {xs : List α}
theorem OwnU.nil (h : Past w0 w) (R : Rep α) (e : TypeId) : OwnU w0 w R e (.slice none 0 0) [] := ⟨OwnS.nil h R e, by intro g hg; cases hg⟩
theorem OwnU.past (h : OwnU w0 w R e v xs) (hp : Past w w1) : OwnU w0 w1 R e v xs := ⟨h.1.past hp, h.2.past h.1.1 hp⟩
theorem OwnU.alloc (h : OwnU w0 w R e v xs) (o : Obj) : OwnU w0 (w.alloc o) R e v xs := h.past ((Past.refl _).alloc o)
end

structure ElU (P : Program) {α : Type} (R : Rep α) (t e : TypeId) : Prop where
  t : P.underlying t = some (.slice e)
  i : ∃ i z, P.info? e = some i ∧ i.zero = some z ∧ i.size = R.sz ∧ i.bytes ≤ 128 ∧ z.cells.size = R.sz ∧ ∀ u ∈ z.cells.toList, isU u = false
  u : ∀ y, ∀ u ∈ R.enc y, isU u = false

/-- 'append(out, y)'. -/
theorem wpList_appU {P : Program} {w : World} {ops : Array Oper} {rest : List Oper} {o : Oper} {a : Act} {Q : Exit → Act → World → Prop} {w0 : World} {α : Type} {R : Rep α} {xs : List α} {e : TypeId} {s x : Operand} {t : TypeId} (he : ElU P R t e) {v : Value}
    (hown : OwnU w0 w R e v xs) (hgd : o.guard = none)
    (ho : o.op = .call { callee := .builtin .append, args := #[s, x], argTypes := #[t, t] })
    (hs : a.eval s = v) (ad : Addr) (c : Nat) (y : α) (hx : a.eval x = .slice (some ad) 1 c) (hc : ∀ i u, (R.enc y)[i]? = some u → w.cell? (ad.add i) = some u) (hlen : xs.length < 1000000000000)
    (h : ∀ v' w', OwnU w0 w' R e v' (xs ++ [y]) → Past w0 w' → KeepU w w' → wpList P ops Q rest (a.put o.dst v') w') : wpList P ops Q (o :: rest) a w := by
  obtain ⟨i, z, hi, hz, hsize, hby, hzs, hzu⟩ := he.i
  have hb : (xs.length + 1) * i.bytes ≤ 140737488355328 :=
    Nat.le_trans (Nat.mul_le_mul_left _ hby) (by omega)
  refine wpList_plain hgd fun K hK => ?_
  have hown1 := hown.1.1
  rw [← hsize] at hown1
  obtain ⟨v', w', hr, h2, h3, h4, h5⟩ := run_append_U (P := P) w w0.heap.size t o.type e i z he.t hi hz (by rw [hzs, hsize]) (by rw [hsize]; exact R.pos) v xs.length _ hown1 hown.2 ad c (R.enc y) (by rw [R.len, Nat.one_mul, hsize]) hc (R.one y) (by unfold maxLen; omega) hb hown.1.2.size (he.u y) hzu
  unfold Oper.wp execOp
  simp only [ho, resolve, invoke, builtin, Sem.run_bind, Sem.run_pure, Result.andThen_ok, List.map_toArray, List.map_cons, List.map_nil, hs, hx, hr]
  have hp : Past w0 w' := hown.1.2.grown h3 (fun k hk => (hown.1.1.lt k hk).1)
  refine hK _ _ (h v' w' ⟨⟨?_, hp⟩, h4⟩ hp h5)
  have e1 : (xs ++ [y]).length = xs.length + 1 := by simp
  have e2 : (xs ++ [y]).flatMap R.enc = xs.flatMap R.enc ++ R.enc y := by simp
  rw [e1, e2, ← hsize]
  exact h2

end Go.Proofs.YtdcjibjldfjllaaGreat
