/- Helpers of the proof, joined: Dec12 Dec13 Fr8. -/
import Derived.Test.YtdcjibjldfjllaaGreatPGxa
import Derived.Test.YtdcjibjldfjllaaGreatPGl
set_option linter.unusedVariables false
set_option linter.unusedSimpArgs false
/- The reference's whole numbers: quotients by positive numbers of any length. -/
namespace Go.Proofs.YtdcjibjldfjllaaGreat
open Go.RowKit

theorem RInts.from_ {w : World} {k : IntKind} {ad : Addr} {n c : Nat} {xs : List Int} (h : RInts w k (some ad) n c xs) (st : Nat) (hs : st ≤ n) : RInts w k (some (ad.add st)) (n - st) (c - st) (xs.drop st) := by
  have hl := h.len
  have hc := h.cap
  have hb := h.big
  refine ⟨by rw [List.length_drop, hl], by omega, by omega, fun hp => ?_⟩
  obtain ⟨b, o, hA, hx⟩ := h.at_ (by omega)
  injection hA with hA
  subst hA
  have h1 : (⟨b, o, none⟩ : Addr).add st = ⟨b, o + st, none⟩ := by unfold Addr.add; split <;> simp_all
  refine ⟨b, o + st, by rw [h1], fun j hj => ?_⟩
  have := hx (st + j) (by omega)
  rw [rd_drop, Nat.add_assoc]
  exact this

theorem dgt_lt10 (n : Nat) : n < 10 ^ (dgt n).length := by
  have h := Dg.val_lt (b := 10) (by omega) (dgt_dig n)
  rw [dgt_val] at h
  have e : ((10 ^ (dgt n).length : Nat) : Int) = (10 : Int) ^ (dgt n).length := by rw [Int.natCast_pow]; rfl
  omega
theorem quo_pos {x y : Int} {N M : Nat} (hN : x.natAbs = N) (hM : y = M) (h : decide (x < 0) = false) : x / y = ((N / M : Nat) : Int) ∧ x % y = ((N % M : Nat) : Int) := by
  have hx : x = (N : Int) := by have := of_decide_eq_false h; omega
  rw [hx, hM]
  exact ⟨(Int.natCast_ediv _ _).symm, (Int.natCast_emod _ _).symm⟩
theorem quo_neg0 {x y : Int} {N M : Nat} (hN : x.natAbs = N) (hM : y = M) (h : decide (x < 0) = true) (h0 : N % M = 0) : x / y = -((N / M : Nat) : Int) ∧ x % y = -((N % M : Nat) : Int) := by
  have hx : x = -(N : Int) := by have := of_decide_eq_true h; omega
  have hd : (M : Int) ∣ (N : Int) := Int.natCast_dvd_natCast.2 (Nat.dvd_of_mod_eq_zero h0)
  rw [hx, hM, h0]
  exact ⟨by rw [Int.neg_ediv_of_dvd hd, Int.natCast_ediv], by rw [Int.emod_eq_zero_of_dvd (Int.dvd_neg.2 hd)]; rfl⟩
theorem quo_neg1 {x y : Int} {N M : Nat} (hN : x.natAbs = N) (hM : y = M) (h : decide (x < 0) = true) (h0 : N % M ≠ 0) (hM0 : 0 < M) : x / y = -((N / M : Nat) : Int) - 1 ∧ x % y = -((N % M : Nat) : Int) + y := by
  have hx : x = -(N : Int) := by have := of_decide_eq_true h; omega
  have e := Nat.div_add_mod N M
  have l := Nat.mod_lt N hM0
  have e2 : (N : Int) = (M : Int) * ((N / M : Nat) : Int) + ((N % M : Nat) : Int) := by rw [← Int.natCast_mul, ← Int.natCast_add, e]
  have e3 : x = (-((N % M : Nat) : Int) + (M : Int)) + (M : Int) * (-((N / M : Nat) : Int) - 1) := by
    rw [hx, e2, Int.mul_sub, Int.mul_neg, Int.mul_one]; omega
  rw [hM]
  constructor
  · conv => lhs; rw [e3]
    rw [Int.add_mul_ediv_left _ _ (by omega), Int.ediv_eq_zero_of_lt (by omega) (by omega), Int.zero_add]
  · conv => lhs; rw [e3]
    rw [Int.add_mul_emod_self_left, Int.emod_eq_of_lt (by omega) (by omega)]
theorem RInts.fromN {w : World} {k : IntKind} {n c : Nat} {xs : List Int} (h : RInts w k none n c xs) (st : Nat) (hs : st ≤ n) : RInts w k none (n - st) (c - st) (xs.drop st) := by
  have hl := h.len
  have hc := h.cap
  have hb := h.big
  refine ⟨by rw [List.length_drop, hl], by omega, by omega, fun hp => ?_⟩
  obtain ⟨b, o, hA, hx⟩ := h.at_ (by omega)
  cases hA

set_option maxRecDepth 100000 in
set_option maxHeartbeats 8000000 in
theorem ref_quotient_long (x y : Int) (w : World) (hx : tlen x ≤ 100000000) (hy : tlen y ≤ 100000000) (hy0 : 0 < y) (hlong : 9 < dcount (dtx x) ∨ 9 < dcount (dtx y)) :
    Calls Tryz.prog 151 #[.string (tZ x), .string (tZ y)] w fun e w' => Past w w' ∧ e = .returned (.tuple #[.string (tZ (x / y)), .string (tZ (x % y))]) := by
  have HX := Lib.hid hx
  have HY := Lib.hid hy
  have HLX := Lib.hid (dgt_length_le x)
  have HLY := Lib.hid (dgt_length_le y)
  have HS1 : ∃ m1 b1, Hid ((if 9 < dcount (dtx x) then Value.tuple #[.int .i64 0, .bool false] else .tuple #[.int .i64 x, .bool true]) = .tuple #[.int .i64 m1, .bool b1]) ∧ Hid (b1 = true → dcount (dtx x) ≤ 9) := by
    by_cases h : 9 < dcount (dtx x)
    · exact ⟨0, false, by rw [if_pos h]; exact rfl, fun h1 => by cases h1⟩
    · exact ⟨x, true, by rw [if_neg h]; exact rfl, fun _ => by omega⟩
  have HS2 : ∃ m1 b1, Hid ((if 9 < dcount (dtx y) then Value.tuple #[.int .i64 0, .bool false] else .tuple #[.int .i64 y, .bool true]) = .tuple #[.int .i64 m1, .bool b1]) ∧ Hid (b1 = true → dcount (dtx y) ≤ 9) := by
    by_cases h : 9 < dcount (dtx y)
    · exact ⟨0, false, by rw [if_pos h]; exact rfl, fun h1 => by cases h1⟩
    · exact ⟨y, true, by rw [if_neg h]; exact rfl, fun _ => by omega⟩
  obtain ⟨m1, b1, HV1, HB1⟩ := HS1
  obtain ⟨m2, b2, HV2, HB2⟩ := HS2
  have HBB : Hid (b1 = true → b2 = true → False) := fun h1 h2 => by have := HB1.out h1; have := HB2.out h2; omega
  obtain ⟨N, hN⟩ : ∃ N, x.natAbs = N := ⟨_, rfl⟩
  obtain ⟨M, hM⟩ : ∃ M, y.natAbs = M := ⟨_, rfl⟩
  have hM0 : 0 < M := by omega
  have hYn : dgt M ≠ [] := fun h => by rw [dgt_nil] at h; omega
  have hYl : 0 < (dgt M).length := List.length_pos_iff.2 hYn
  obtain ⟨px, hpx⟩ : ∃ p, decide (x < 0) = p := ⟨_, rfl⟩
  have hpy : decide (y < 0) = false := decide_eq_false (by omega)
  rw [hN] at HLX
  rw [hM] at HLY
  have HNM : Hid (x.natAbs = N ∧ y.natAbs = M ∧ decide (x < 0) = px ∧ 0 < M ∧ y = M) := ⟨hN, hM, hpx, hM0, by omega⟩
  have D1 : ∀ w, Calls Tryz.prog 130 #[.string (tZ x)] w (AnsD px (dgt N) w) := fun w => by
    have h := ref_digitsZ x w (by omega)
    rw [hN, hpx] at h
    exact h
  have D2 : ∀ w, Calls Tryz.prog 130 #[.string (tZ y)] w (AnsD false (dgt M) w) := fun w => by
    have h := ref_digitsZ y w (by omega)
    rw [hM, hpy] at h
    exact h
  have HD1 := Lib.hid D1
  have HD2 := Lib.hid D2
  have HYL := Lib.hid hYl
  clear hlong hN hM hM0 hYn hYl hpx hpy D1 D2 hx hy hy0
  obtain ⟨st, hst⟩ : ∃ st, (dgt N).length + 1 - (dgt M).length = st := ⟨_, rfl⟩
  have HST : Hid ((dgt N).length + 1 - (dgt M).length = st) := hst
  have HR0 : Hid (N / 10 ^ st < M) := by rw [← hst]; exact div_start N M HNM.out.2.2.2.1
  clear hst
  have go1 : ∀ b1 b2 : Bool, (b1 = true → b2 = true → False) → True := fun _ _ _ => trivial
  clear go1
  go_enter Tryz.func151, Tryz.ntmps151
  go_wp2_with fail
  refine (ref_short x _ (by have := HX.out; omega)).mono ?_
  rintro e w1 ⟨hp1, rfl⟩
  rw [HV1.out]
  go_wp2_with fail
  refine (ref_short y _ (by have := HY.out; omega)).mono ?_
  rintro e w2 ⟨hp2, rfl⟩
  rw [HV2.out]
  have HP2 := Lib.hid (hp1.trans hp2)
  clear hp1 hp2
  have hbb : b1 = false ∨ (b1 = true ∧ b2 = false) := by
    cases b1 with
    | false => exact Or.inl rfl
    | true => cases b2 with
      | false => exact Or.inr ⟨rfl, rfl⟩
      | true => exact absurd rfl (fun h => HBB.out h rfl)
  go_upto_region 3 with fail
  go_cut [37] (fun v wx => v = .bool false ∧ wx = w2)
  case first =>
    rcases hbb with rfl | ⟨rfl, rfl⟩
    · go_wp2_with fail
      go_meet
      case rel => exact ⟨rfl, rfl⟩
    · go_wp2_with fail
      go_meet
      case rel => exact ⟨rfl, rfl⟩
  case rest =>
    obtain ⟨rfl, rfl⟩ := hcut
    clear hbb
    go_wp2_with fail
    refine (HD1.out _).mono ?_
    rintro e w3 ⟨hp3, A3, n3, c3, rfl, hr3⟩
    have hn3 := hr3.len
    have HR3 := Lib.hid hr3
    have HP3 := Lib.hid (HP2.out.trans hp3)
    clear hp3 hr3
    go_wp2_with fail
    refine (HD2.out _).mono ?_
    rintro e w4 ⟨hp4, A4, n4, c4, rfl, hr4⟩
    have hn4 := hr4.len
    have HR4 := Lib.hid hr4
    have HR3' := Lib.hid (HR3.out.past hp4)
    have HP4 := Lib.hid (HP3.out.trans hp4)
    have h4 : 1 ≤ n4 := by have := HYL.out; omega
    have h4b : n4 ≤ 100000000 := by have := HLY.out; have := HY.out; omega
    have h3b : n3 ≤ 100000000 := by have := HLX.out; have := HX.out; omega
    have hst : n3 + 1 - n4 = st := by have := HST.out; omega
    have HN34 : Hid (n3 + 1 - n4 = st ∧ (dgt N).length = n3 ∧ (dgt M).length = n4) := ⟨hst, hn3, hn4⟩
    have HMY : Hid ((if (1 : Int) < (n4 : Int) then (n4 : Int) - 1 else 0) = (n4 : Int) - 1) := by
      unfold Hid
      split <;> omega
    have HMX : Hid ((if (n4 : Int) - 1 < (n3 : Int) then (n3 : Int) - ((n4 : Int) - 1) else 0) = (st : Int)) := by
      unfold Hid
      split <;> omega
    have HMY2 : Hid (max 0 ((n4 : Int) - 1) = (n4 : Int) - 1) := by
      unfold Hid
      omega
    have HMX2 : Hid (max 0 ((n3 : Int) - ((n4 : Int) - 1)) = (st : Int)) := by
      unfold Hid
      omega
    clear hp4 hr4 hn3 hn4 hst
    go_upto_region 12 with fail
    first
      | rw [HMY.out, HMX.out]
      | rw [HMY2.out, HMX2.out]
    go_cut [18] (fun rv wx => ∃ (A : Option Addr) (n c : Nat), rv = .slice A n c ∧ Hid (RInts wx .i64 A n c (dgt (N / 10 ^ st))) ∧ Hid (Past w4 wx))
    case first =>
      have hst3 : st ≤ n3 := by have := HN34.out; omega
      have hc3 : n3 ≤ c3 := HR3'.out.cap
      have hcb : c3 ≤ 9223372036854775807 := HR3'.out.big
      have HTD := Lib.hid (trim_drop_dgt N st)
      have HLN : Hid ((dgt N).length = n3) := HN34.out.2.1
      have HPA : Hid (Past w4 (w4.alloc (.cells #[] 3))) := (Past.refl _).alloc _
      have HR6 := Lib.hid (HR3'.out.past HPA.out)
      by_cases hcs : c3 = st
      · have HNIL : Hid ([] = dgt (N / 10 ^ st)) := by show _ = _; rw [← HTD.out, List.drop_of_length_le (by have := HLN.out; omega)]; rfl
        have hn3 : n3 = st := by omega
        clear hc3 hst3
        subst hcs
        subst hn3
        cases A3 with
        | none =>
          go_wp2_with fail
          refine (ref_trim _ _ _ [] _ (RInts.nil _ _ _ _ (by omega))).mono ?_
          rintro e w6 ⟨hd6, m6, rfl, hr6⟩
          go_wp2_with fail
          go_meet
          case rel => exact ⟨_, _, _, rfl, by rw [← HNIL.out]; exact hr6.past hd6.past, HPA.out.trans hd6.past⟩
        | some ad =>
          go_wp2_with fail
          refine (ref_trim _ _ _ [] _ (RInts.nil _ _ _ _ (by omega))).mono ?_
          rintro e w6 ⟨hd6, m6, rfl, hr6⟩
          go_wp2_with fail
          go_meet
          case rel => exact ⟨_, _, _, rfl, by rw [← HNIL.out]; exact hr6.past hd6.past, HPA.out.trans hd6.past⟩
      · have HO0 : Hid (Own w4 (w4.alloc (.cells #[] 3)) 3 .i64 (.slice (some ⟨w4.heap.size, 0, none⟩) 0 0) []) := Own.made0 (Past.refl _) _ _
        cases A3 with
        | none =>
          have HS5 := Lib.hid (HR6.out.fromN st hst3)
          go_wp2_with (first
            | (at_builtin; (refine wpList_apps (s := .tmp 80) (x := .tmp 83) (ys := List.drop st (dgt N)) el_int HO0.out (by rfl) (by rfl) (by rfl) none (n3 - st) (c3 - st) (by rfl) HS5.out (by simp; omega) ?_; intro v6 w6 hown6 hp6; obtain ⟨A6, n6, c6, rfl, hr6⟩ := hown6.reads2; have HR7 := Lib.hid hr6; clear hown6 hr6)))
          refine (ref_trim _ _ _ _ _ HR7.out).mono ?_
          rintro e w7 ⟨hd7, m7, rfl, hr7⟩
          go_wp2_with fail
          go_meet
          case rel => exact ⟨_, _, _, rfl, by rw [← HTD.out]; exact hr7.past hd7.past, hp6.trans hd7.past⟩
        | some ad =>
          have HS5 := Lib.hid (HR6.out.from_ st hst3)
          go_wp2_with (first
            | (at_builtin; (refine wpList_apps (s := .tmp 80) (x := .tmp 83) (ys := List.drop st (dgt N)) el_int HO0.out (by rfl) (by rfl) (by rfl) (some (ad.add st)) (n3 - st) (c3 - st) (by rfl) HS5.out (by simp; omega) ?_; intro v6 w6 hown6 hp6; obtain ⟨A6, n6, c6, rfl, hr6⟩ := hown6.reads2; have HR7 := Lib.hid hr6; clear hown6 hr6)))
          refine (ref_trim _ _ _ _ _ HR7.out).mono ?_
          rintro e w7 ⟨hd7, m7, rfl, hr7⟩
          go_wp2_with fail
          go_meet
          case rel => exact ⟨_, _, _, rfl, by rw [← HTD.out]; exact hr7.past hd7.past, hp6.trans hd7.past⟩
    case rest =>
      obtain ⟨A5, n5, c5, rfl, HR5, HP5⟩ := hcut
      have HR4c := Lib.hid (HR4.out.past HP5.out)
      have HR3c := Lib.hid (HR3'.out.past HP5.out)
      have HPc := Lib.hid (HP4.out.trans HP5.out)
      have hst3 : st ≤ n3 := by have := HN34.out; omega
      have HO0 : Hid (Own wc wc 3 .i64 (.slice none 0 0) []) := Own.nil (Past.refl _) _ _
      have HM0 : Hid (0 < M) := HNM.out.2.2.2.1
      clear HR3 HR4
      go_wp2_with fail
      go_loopg [17, 18, 19] st (fun gg qv rv iv wr => ∃ (k : Nat) (i : Int) (A : Option Addr) (n c : Nat) (qs : List Int) (vq : Value), vq = qv ∧ rv = .slice A n c ∧ iv = .int .i64 i ∧ Hid (i + 1 = k) ∧ k ≤ st ∧ Hid (gg = k) ∧ Hid (RInts wr .i64 A n c (dgt (N / 10 ^ k % M))) ∧ Hid (Own wc wr 3 .i64 vq qs) ∧ Hid (Dg.Dig 10 qs) ∧ Hid (qs.length = st - k) ∧ Hid (Dg.val 10 qs.reverse = ((N / 10 ^ k / M : Nat) : Int)) ∧ Hid (Apart A n c vq))
      case atStart => exact ⟨st, _, _, _, _, [], _, rfl, rfl, rfl, by unfold Hid; omega, Nat.le_refl _, rfl, by rw [Nat.mod_eq_of_lt HR0.out]; exact HR5.out, HO0.out, Dg.Dig.nil _, by simp [Hid], by rw [Nat.div_eq_of_lt HR0.out]; exact rfl, fun _ b _ h => by cases h⟩
      case round =>
        clear HO0 HR5
        obtain ⟨k, i, A, n, c, qs, vq, rfl, rfl, rfl, HI, hk, HG, HR, HO, HDQ, HQL, HQV, HAP⟩ := hrel
        by_cases hk0 : k = 0
        · have hi : i = -1 := by have := HI.out; omega
          have HQE : Hid (Dg.val 10 qs.reverse = ((N / M : Nat) : Int)) := by have h := HQV.out; rw [hk0, Nat.pow_zero, Nat.div_one] at h; exact h
          have HRE : Hid (RInts wr .i64 A n c (dgt (N % M))) := by have h := HR.out; rw [hk0, Nat.pow_zero, Nat.div_one] at h; exact h
          have HQL2 : Hid (qs.length = st) := by have := HQL.out; unfold Hid; omega
          have HPR : Hid (Past wc wr) := HO.out.2
          obtain ⟨Aq, nq, cq, rfl, hrq⟩ := HO.out.reads2
          have HNQ : Hid (qs.length = nq) := hrq.len
          have hnq : nq ≤ 100000000 := by have := HNQ.out; have := HQL2.out; omega
          clear hk0 HR HQV HQL HG HI hk hrq
          subst hi
          go_wp2_with fail
          go_loopg [21] nq (fun gg iv wx => ∃ (i : Nat) (zs : List Int), iv = .int .i64 i ∧ i ≤ nq ∧ Hid (gg = nq - i) ∧ Hid (RevTo qs zs i) ∧ Hid (Own wc wx 3 .i64 (.slice Aq nq cq) zs) ∧ Hid (RInts wx .i64 A n c (dgt (N % M))) ∧ Hid (Apart A n c (.slice Aq nq cq)))
          case atStart => exact ⟨0, qs, rfl, Nat.zero_le _, rfl, RevTo.start qs, HO.out, HRE.out, HAP.out⟩
          case round =>
            clear HO HRE
            obtain ⟨i, zs, rfl, hi, HG, HRV, HO, HRE, HAP⟩ := hrel
            have hzl : zs.length = nq := by have := HRV.out.1; have := HNQ.out; omega
            by_cases hlt : i < nq / 2
            · obtain ⟨g, cg, hgc, _, _, _, _, hcl, hfr⟩ := HO.out.form (by omega)
              simp only [Value.slice.injEq] at hgc
              obtain ⟨rfl, hgn, rfl⟩ := hgc
              have hlt' : (i : Int) < (nq : Int) / 2 := by omega
              obtain ⟨jj, hjj⟩ : ∃ jj : Nat, jj + 1 + i = nq := ⟨nq - 1 - i, by omega⟩
              have z2 : (nq : Int) - 1 - (i : Int) = (jj : Int) := by omega
              have z1 : IntKind.i64.wrap ((nq : Int) - 1 - (i : Int)) = (jj : Int) := by rw [z2, IntKind.wrap_i64]; omega
              have z3 : IntKind.i64.wrap ((nq : Int) - 1) = (nq : Int) - 1 := by rw [IntKind.wrap_i64]; omega
              have c1 := hcl i (by omega)
              have f1 := hfr i
              have c2 := hcl jj (by omega)
              have f2 := hfr jj
              have hjn : jj < nq := by omega
              have hin : i < nq := by omega
              have hne : i ≠ jj := by omega
              have HST : Hid (RevTo qs ((zs.set i (rd zs jj)).set jj (rd zs i)) (i + 1)) := by
                have h := RevTo.step HRV.out (by have := HNQ.out; omega)
                rw [show qs.length - 1 - i = jj by have := HNQ.out; omega] at h
                exact h
              have HZL := Lib.hid hzl
              have HJJ := Lib.hid hjj
              clear hcl hfr hgn z2 hjj hzl hlt
              go_wp2
              go_region
              all_goals go_wp2
              go_roundg (nq - (i + 1))
              case measure => have := HG.out; omega
              case rel =>
                have hap : 0 < n → ∀ b, (Value.slice A n c).ownBlock = some b → b ≠ g := fun hp b hb e => HAP.out hp b hb (by rw [e]; rfl)
                exact ⟨i + 1, _, by go_num, by omega, rfl, HST.out, ((HO.out.set (by have := HZL.out; omega) _).set (by rw [List.length_set]; have := HZL.out; omega) _).drew, ((HRE.out.setFar hap _ _).setFar hap _ _).past (Past.refl _).drew, HAP.out⟩
            · have hlt' : ¬ (i : Int) < (nq : Int) / 2 := by omega
              have HRD : Hid (zs = qs.reverse) := HRV.out.done (by have := HNQ.out; omega)
              have HOR := Lib.hid HO.out
              have HRQ : Hid (RInts wr .i64 Aq nq cq qs.reverse) := by
                obtain ⟨A', n', c', he, hr⟩ := HO.out.reads2
                simp only [Value.slice.injEq] at he
                obtain ⟨rfl, rfl, rfl⟩ := he
                rw [HRD.out] at hr
                exact hr
              have HDR : Hid (Dg.Dig 10 qs.reverse) := fun z hz => HDQ.out z (List.mem_reverse.1 hz)
              have HWR := Lib.hid (HPc.out.trans HO.out.2)
              obtain ⟨z1, hz1⟩ : ∃ z, (if px then -((N / M : Nat) : Int) else ((N / M : Nat) : Int)) = z := ⟨_, rfl⟩
              obtain ⟨z2, hz2⟩ : ∃ z, (if px then -((N % M : Nat) : Int) else ((N % M : Nat) : Int)) = z := ⟨_, rfl⟩
              have HZ1 : Hid ((if px then -Dg.val 10 qs.reverse else Dg.val 10 qs.reverse) = z1) := by rw [HQE.out]; exact hz1
              have HZ2 : Hid ((if px then -Dg.val 10 (dgt (N % M)) else Dg.val 10 (dgt (N % M))) = z2) := by rw [dgt_val]; exact hz2
              have HNC : Hid (n ≤ 100000000) := by
                have h1 := HRE.out.len
                have h2 := dgt_len_mono (Nat.le_of_lt (Nat.mod_lt N HM0.out))
                have := HLY.out; have := HY.out
                unfold Hid; omega
              have HB2 : Hid (tlen z1 ≤ 1000000000 ∧ tlen z2 ≤ 1000000000) := by
                have h1 := tlen_le z1
                have h2 := tlen_le z2
                have a1 : z1.natAbs = N / M := by rw [← hz1]; split <;> first | exact Int.natAbs_natCast _ | (rw [Int.natAbs_neg]; exact Int.natAbs_natCast _)
                have a2 : z2.natAbs = N % M := by rw [← hz2]; split <;> first | exact Int.natAbs_natCast _ | (rw [Int.natAbs_neg]; exact Int.natAbs_natCast _)
                rw [a1] at h1
                rw [a2] at h2
                have b1 := dgt_len_mono (Nat.div_le_self N M)
                have b2 := dgt_len_mono (Nat.mod_le N M)
                have := HLX.out; have := HX.out
                unfold Hid; omega
              have ht2 : ((tZ z2).toList == [48]) = decide (z2 = 0) := toList_tZ z2
              obtain ⟨bz, hbz⟩ : ∃ b, decide (z2 = 0) = b := ⟨_, rfl⟩
              rw [hbz] at ht2
              have ht3 : ((tZ z2).toList != [48]) = !bz := by unfold bne; rw [ht2]
              have HFIN : Hid ((px = false ∨ bz = true → x / y = z1 ∧ x % y = z2) ∧ (px = true → bz = false → x / y = z1 - 1 ∧ x % y = z2 + y)) := by
                have hN := HNM.out.1
                have hy := HNM.out.2.2.2.2
                have hp := HNM.out.2.2.1
                constructor
                · intro h
                  cases px with
                  | false =>
                    rw [← hz1, ← hz2]
                    exact quo_pos hN hy hp
                  | true =>
                    have hb : bz = true := h.resolve_left (by simp)
                    rw [hb] at hbz
                    have h0 := of_decide_eq_true hbz
                    rw [← hz2] at h0
                    rw [← hz1, ← hz2]
                    rw [if_pos rfl] at h0
                    exact quo_neg0 hN hy hp (by omega)
                · intro h1 h2
                  subst h1
                  rw [h2] at hbz
                  have h0 := of_decide_eq_false hbz
                  rw [← hz2] at h0
                  rw [← hz1, ← hz2]
                  rw [if_pos rfl] at h0
                  exact quo_neg1 hN hy hp (by omega) HM0.out
              clear hz1 hz2 hbz hlt HOR HO HRV HQE HAP hzl
              go_wp2_with fail
              refine (ref_textZ px Aq nq cq qs.reverse z1 _ HRQ.out HDR.out HZ1.out (by omega)).mono ?_
              rintro e w5 ⟨hp5, rfl⟩
              have HRE5 := Lib.hid (HRE.out.past hp5)
              have HWR5 := Lib.hid (HWR.out.trans hp5)
              clear hp5
              go_wp2_with fail
              refine (ref_textZ px A n c (dgt (N % M)) z2 _ HRE5.out (dgt_dig _) HZ2.out (by have := HNC.out; omega)).mono ?_
              rintro e w6 ⟨hp6, rfl⟩
              have HWR6 := Lib.hid (HWR5.out.trans hp6)
              clear hp6
              cases bz with
              | true =>
                obtain ⟨q1, q2⟩ := HFIN.out.1 (Or.inr rfl)
                have HQ1 := Lib.hid q1
                have HQ2 := Lib.hid q2
                clear q1 q2
                go_wp2
                go_ret2
                exact ⟨HWR6.out, by rw [HQ1.out, HQ2.out]; rfl⟩
              | false =>
                cases px with
                | false =>
                  obtain ⟨q1, q2⟩ := HFIN.out.1 (Or.inl rfl)
                  have HQ1 := Lib.hid q1
                  have HQ2 := Lib.hid q2
                  clear q1 q2
                  go_wp2
                  go_ret2
                  exact ⟨HWR6.out, by rw [HQ1.out, HQ2.out]; rfl⟩
                | true =>
                  obtain ⟨q1, q2⟩ := HFIN.out.2 rfl rfl
                  have HQ1 := Lib.hid q1
                  have HQ2 := Lib.hid q2
                  have C1 : ∀ w, Calls Tryz.prog 210 #[.string (tZ z1), .string ⟨#[49]⟩] w fun e w' => Past w w' ∧ e = .returned (.string (tZ (z1 - 1))) := fun w => by
                    have h := ref_minus z1 ((1 : Nat) : Int) w HB2.out.1 (Nat.le_trans (dcount_short (z := ((1 : Nat) : Int)) (by omega) (by omega)).2 (by decide)) (Nat.le_trans (dcount_short (z := -((1 : Nat) : Int)) (by omega) (by omega)).2 (by decide))
                    rw [tZ_one] at h
                    exact h
                  have HC1 := Lib.hid C1
                  clear q1 q2 C1
                  go_wp2_with fail
                  refine (HC1.out _).mono ?_
                  rintro e w7 ⟨hp7, rfl⟩
                  go_wp2_with fail
                  refine (ref_plus z2 y _ HB2.out.2 (by have := HY.out; omega)).mono ?_
                  rintro e w8 ⟨hp8, rfl⟩
                  go_wp2
                  go_ret2
                  exact ⟨(HWR6.out.trans hp7).trans hp8, by rw [HQ1.out, HQ2.out]; rfl⟩
        · obtain ⟨wo, hwo⟩ : ∃ x, x = wr := ⟨_, rfl⟩
          subst hwo
          obtain ⟨k', rfl⟩ : ∃ k', k = k' + 1 := ⟨k - 1, by omega⟩
          have hi : i = (k' : Int) := by have := HI.out; omega
          subst hi
          have hkn : k' < n3 := by omega
          obtain ⟨b3, o3, rfl, hx3⟩ := HR3c.out.at_ (by omega)
          have e3 := hx3 k' hkn
          have e3 := HO.out.2.cell e3
          rw [rd_dgt N k' (by have := HN34.out; omega)] at e3
          obtain ⟨dd, hdd⟩ : ∃ dd, N / 10 ^ k' % 10 = dd := ⟨_, rfl⟩
          obtain ⟨rr, hrr⟩ : ∃ rr, N / 10 ^ (k' + 1) % M = rr := ⟨_, rfl⟩
          obtain ⟨R, hRR⟩ : ∃ R, dd + 10 * rr = R := ⟨_, rfl⟩
          have hdn := div_next N M k' HM0.out
          rw [hdd, hrr, hRR] at hdn
          have HDN := Lib.hid hdn
          have HDD : Hid (dd < 10) := by rw [← hdd]; exact Nat.mod_lt _ (by omega)
          have HRR := Lib.hid hRR
          rw [hdd] at e3
          rw [hrr] at HR
          have HRL : Hid ((dgt rr).length ≤ 100000000) := by
            have h1 : rr < M := by rw [← hrr]; exact Nat.mod_lt _ HM0.out
            have h2 := dgt_len_mono (Nat.le_of_lt h1)
            have := HLY.out; have := HY.out
            unfold Hid; omega
          have HRN : Hid (n = (dgt rr).length) := HR.out.len.symm
          clear hdd hrr hRR hdn hx3
          have HO1 : Hid (Own wo (wo.alloc (.cells #[.int .i64 dd] 3)) 3 .i64 (.slice (some ⟨wo.heap.size, 0, none⟩) 1 1) [(dd : Int)]) := Own.made1 (Past.refl _) _ _ _
          have HRA := Lib.hid (HR.out.past ((Past.refl wo).alloc (.cells #[.int .i64 (dd : Int)] 3)))
          go_wp2_with (first
            | (at_builtin; (refine wpList_apps (s := .tmp 96) (x := .tmp 97) (ys := dgt rr) el_int HO1.out (by rfl) (by rfl) (by rfl) A n c (by rfl) HRA.out (by have := HRN.out; have := HRL.out; simp; omega) ?_; intro v6 w6 hown6 hp6; have hf6 := hown6.fresh; obtain ⟨A6, n6, c6, rfl, hr6⟩ := hown6.reads2; have HR7 := Lib.hid hr6; have HP6 := Lib.hid hp6; have HF6 := Lib.hid hf6; clear hown6 hr6 hp6 hf6)))
          refine (ref_trim _ _ _ _ _ HR7.out).mono ?_
          rintro e w7 ⟨hd7, m7, rfl, hr7⟩
          have HR8 : Hid (RInts w7 .i64 A6 m7 c6 (dgt R)) := by
            have h := hr7.past hd7.past
            have h2 : Dg.trim ([(dd : Int)] ++ dgt rr) = dgt R := by rw [← HRR.out]; exact trim_cons_dgt dd rr HDD.out
            rw [h2] at h
            exact h
          have HP7 := Lib.hid (HP6.out.trans hd7.past)
          clear HR7 HP6 hr7 hd7 HRA HO1 HR
          go_wp2_with fail
          go_loopg [18, 20] R (fun gg rv kv wx => ∃ (t : Nat) (A : Option Addr) (n c : Nat), rv = .slice A n c ∧ kv = .int .i64 t ∧ Hid (t * M ≤ R) ∧ Hid (gg = R - t * M) ∧ Hid (RInts wx .i64 A n c (dgt (R - t * M))) ∧ Hid (Past w7 wx) ∧ Hid (FreshV wo.heap.size (.slice A n c)))
          case atStart => exact ⟨0, _, _, _, rfl, rfl, by simp [Hid], by simp [Hid], by simpa [Hid] using HR8.out, Past.refl _, HF6.out.slice⟩
          case round =>
            clear HR8
            obtain ⟨t, A, n, c, rfl, rfl, HTM, HG2, HRT, HPT, HFT⟩ := hrel
            obtain ⟨u, hu⟩ : ∃ u, R - t * M = u := ⟨_, rfl⟩
            rw [hu] at HRT
            have HU := Lib.hid hu
            clear hu
            have HP8 := Lib.hid (HP7.out.trans HPT.out)
            have HR4x := Lib.hid (HR4c.out.past (HO.out.2.trans HP8.out))
            have ht10 : t < 10 := by
              have h1 := HTM.out
              have h2 := HDN.out.2.2
              rcases Nat.lt_or_ge t 10 with h | h
              · exact h
              · have := Nat.mul_le_mul_right M h; omega
            by_cases hlt : u < M
            · have HC : Hid (cmpSize (dgt u) (dgt M) = -1) := by show _ = _; rw [cmp10]; unfold cmpN; rw [if_pos hlt]
              have hdm : R / M = t ∧ R % M = u := by
                have h1 := HTM.out
                have h2 := HU.out
                have e : R = u + M * t := by rw [Nat.mul_comm M t]; omega
                exact ⟨by rw [e, Nat.add_mul_div_left _ _ HM0.out, Nat.div_eq_of_lt hlt, Nat.zero_add], by rw [e, Nat.add_mul_mod_self_left, Nat.mod_eq_of_lt hlt]⟩
              have HDM := Lib.hid hdm
              have HO2 := Lib.hid (HO.out.past HP8.out)
              clear hdm hlt
              go_wp2_with fail
              refine (ref_size A A4 n n4 c c4 (dgt u) (dgt M) _ HRT.out HR4x.out).mono ?_
              rintro e w8 ⟨hd8, rfl⟩
              rw [HC.out]
              have HO3 := Lib.hid (HO2.out.past hd8.past)
              have HRT3 := Lib.hid (HRT.out.past hd8.past)
              have HQB : Hid (qs.length < 1099511627776) := by have := HQL.out; unfold Hid; omega
              have HNE : Hid (∀ b, (Value.slice A n c).ownBlock = some b → vq.ownBlock ≠ some b) := fun b hb he => by
                have h1 := HFT.out b hb
                have h2 := (HO.out.1.lt b he).2
                omega
              clear HO2 HRT HO
              go_wp2_with (first | (at_builtin; refine wpList_appF el_int (HO3.out.alloc _) rfl rfl rfl _ _ _ rfl (cell_new1 _ _ _) HQB.out ?_; intro v9 w9 hown9 hp9 hl9))
              have HO9 := Lib.hid hown9
              have HRK : Hid (RInts w9 .i64 A n c (dgt u)) := (HRT3.out.past ((Past.refl w8).alloc _)).grown hp9 (fun _ b hb he => HNE.out b hb he)
              go_roundg k'
              case measure => have := HG.out; omega
              case rel =>
                refine ⟨k', (k' : Int) - 1, A, n, c, qs ++ [(t : Int)], v9, rfl, rfl, rfl, by unfold Hid; omega, by omega, rfl, ?_, HO9.out, HDQ.out.snoc (by omega) (by omega), by rw [List.length_append]; have := HQL.out; show _ = _; simp; omega, ?_, ?_⟩
                · rw [HDN.out.2.1, HDM.out.2]
                  exact HRK.out
                · show _ = _
                  rw [snoc_rev, HQV.out, HDN.out.1, HDM.out.1]
                  omega
                · intro hp b hb he
                  rcases hl9 with h | h
                  · exact HNE.out b hb (h ▸ he)
                  · rw [h] at he
                    injection he with he
                    have h1 := HRT3.out.lt hp b hb
                    have h2 : b = w8.heap.size + 1 := by rw [← he]; simp
                    omega
            · have HC : ∃ cv, cmpSize (dgt u) (dgt M) = cv ∧ 0 ≤ cv := by
                refine ⟨_, rfl, ?_⟩
                rw [cmp10]; unfold cmpN; rw [if_neg hlt]; split <;> omega
              obtain ⟨cv, hcv, hcv0⟩ := HC
              have HCV := Lib.hid hcv
              have hMu : M ≤ u := by omega
              have HMU := Lib.hid hMu
              have HUB : Hid ((dgt u).length ≤ 1000000000) := by
                have h1 : u ≤ 10 * M := by have := HDN.out.2.2; have := HU.out; omega
                have h2 := dgt_len_mono h1
                have h3 : (dgt (10 * M)).length ≤ (dgt M).length + 1 := by
                  refine Dg.toD_length_le (by omega) ?_
                  have := dgt_lt10 M
                  rw [Nat.pow_succ]; omega
                have := HLY.out; have := HY.out
                unfold Hid; omega
              have HNU : Hid (n = (dgt u).length ∧ n4 = (dgt M).length) := ⟨HRT.out.len.symm, HR4x.out.len.symm⟩
              clear hcv hMu hlt
              go_wp2_with fail
              refine (ref_size A A4 n n4 c c4 (dgt u) (dgt M) _ HRT.out HR4x.out).mono ?_
              rintro e w8 ⟨hd8, rfl⟩
              rw [HCV.out]
              go_wp2_with fail
              refine (ref_differenceF A A4 n n4 c c4 (dgt u) (dgt M) _ (HRT.out.past hd8.past) (HR4x.out.past hd8.past) (dgt_dig _) (dgt_dig _) (by have := HNU.out; have := HUB.out; omega) (by have := HNU.out; have := dgt_len_mono HMU.out; omega) (by rw [dgt_val, dgt_val]; have := HMU.out; omega)).mono ?_
              rintro e w9 ⟨hp9, A9, n9, c9, rfl, hr9, hf9⟩
              have HR9 := Lib.hid hr9
              have HP9 := Lib.hid (HPT.out.trans (hd8.past.trans hp9))
              have HF9 : Hid (FreshV wo.heap.size (.slice A9 n9 c9)) := fun g hg => Nat.le_trans (Nat.le_trans HP8.out.size hd8.past.size) (hf9 g hg)
              clear hr9 hp9 hd8 hf9
              go_wp2_with fail
              have HTS : Hid ((t + 1) * M = t * M + M) := Nat.succ_mul t M
              go_roundg (R - (t + 1) * M)
              case measure => have := HG2.out; have := HTS.out; have := HMU.out; have := HU.out; have := HM0.out; omega
              case rel =>
                refine ⟨t + 1, A9, n9, c9, rfl, by go_num, ?_, rfl, ?_, HP9.out, HF9.out⟩
                · have := HTS.out; have := HMU.out; have := HU.out; have := HM0.out; unfold Hid; omega
                · have e : (Dg.val 10 (dgt u) - Dg.val 10 (dgt M)).toNat = R - (t + 1) * M := by
                    rw [dgt_val, dgt_val]; have := HTS.out; have := HMU.out; have := HU.out; omega
                  rw [← e]
                  exact HR9.out

end Go.Proofs.YtdcjibjldfjllaaGreat

/- The reference's whole numbers: quotients and the greatest common divisor, of any length. -/
namespace Go.Proofs.YtdcjibjldfjllaaGreat
open Go.RowKit

theorem ref_quotient (x y : Int) (w : World) (hx : tlen x ≤ 100000000) (hy : tlen y ≤ 100000000) (hy0 : 0 < y) (hxy : 0 ≤ x ∨ y ∣ x) :
    Calls Tryz.prog 151 #[.string (tZ x), .string (tZ y)] w fun e w' => Past w w' ∧ e = .returned (.tuple #[.string (tZ (x / y)), .string (tZ (x % y))]) := by
  by_cases h1 : dcount (dtx x) ≤ 9
  · by_cases h2 : dcount (dtx y) ≤ 9
    · exact ref_quotient_short x y w (by omega) (by omega) h1 h2 hy0 hxy
    · exact ref_quotient_long x y w hx hy hy0 (Or.inr (by omega))
  · exact ref_quotient_long x y w hx hy hy0 (Or.inl (by omega))

set_option maxRecDepth 100000 in
set_option maxHeartbeats 4000000 in
theorem ref_divisor (x y : Int) (w : World) (hx : tlen x ≤ 10000000) (hy : tlen y ≤ 10000000) :
    Calls Tryz.prog 150 #[.string (tZ x), .string (tZ y)] w fun e w' => Past w w' ∧ e = .returned (.string (tZ (Nat.gcd x.natAbs y.natAbs : Nat))) := by
  obtain ⟨K, hK⟩ : ∃ K, max x.natAbs y.natAbs = K := ⟨_, rfl⟩
  have HKL : Hid ((dgt K).length ≤ 10000000) := by
    have h1 := dgt_length_le x
    have h2 := dgt_length_le y
    rcases Nat.le_total x.natAbs y.natAbs with h | h
    · have : K = y.natAbs := by omega
      rw [this]; unfold Hid; omega
    · have : K = x.natAbs := by omega
      rw [this]; unfold Hid; omega
  have HTL : Hid (∀ a : Nat, a ≤ K → tlen (a : Int) ≤ 10000001) := fun a ha => by
    have h1 := tlen_le (a : Int)
    have h2 := dgt_len_mono ha
    have := HKL.out
    rw [Int.natAbs_natCast] at h1
    omega
  have HXB : Hid (x.natAbs ≤ K ∧ y.natAbs ≤ K) := by unfold Hid; omega
  have HX := Lib.hid hx
  have HY := Lib.hid hy
  clear hx hy hK
  go_enter Tryz.func150, Tryz.ntmps150
  go_wp2_with fail
  refine (ref_positive x _ (by have := HX.out; omega)).mono ?_
  rintro e w1 ⟨hp1, rfl⟩
  go_wp2_with fail
  refine (ref_positive y _ (by have := HY.out; omega)).mono ?_
  rintro e w2 ⟨hp2, rfl⟩
  go_wp2
  go_loopw [5, 6] (fun xv yv wr => ∃ a b : Nat, xv = .string (tZ a) ∧ yv = .string (tZ b) ∧ Hid (a ≤ K ∧ b ≤ K) ∧ Hid (Nat.gcd a b = Nat.gcd x.natAbs y.natAbs) ∧ Hid (Past w2 wr)) (fun _ yv _ => match yv with | .string t => (intV (byt t)).toNat | _ => 0)
  case atStart => exact ⟨x.natAbs, y.natAbs, rfl, rfl, HXB, rfl, Past.refl _⟩
  case round =>
    obtain ⟨a, b, rfl, rfl, HAB, HG, HPR⟩ := hrel
    have hms : ∀ b : Nat, (intV (byt (tZ b))).toNat = b := fun b => by rw [byt_tZ, intV_dtx]; omega
    by_cases hb0 : b = 0
    · have HR : Hid (a = Nat.gcd x.natAbs y.natAbs) := by rw [← HG.out, hb0, Nat.gcd_zero_right]; exact rfl
      have ht : ((tZ b).toList == [48]) = true := by rw [toList_tZ, hb0]; rfl
      clear hb0
      go_wp2
      go_ret
      exact ⟨(hp1.trans hp2).trans HPR.out, by rw [← HR.out]; rfl⟩
    · have ht : ((tZ b).toList == [48]) = false := by rw [toList_tZ, decide_eq_false (by omega)]
      have HB0 : Hid (0 < b) := by unfold Hid; omega
      clear hb0
      go_wp2_with fail
      refine (ref_quotient a b _ (by have := HTL.out a HAB.out.1; omega) (by have := HTL.out b HAB.out.2; omega) (by have := HB0.out; omega) (Or.inl (by omega))).mono ?_
      rintro e w3 ⟨hp3, rfl⟩
      rw [← Int.natCast_emod]
      go_wp2
      go_roundw
      case rel => exact ⟨b, a % b, rfl, rfl, ⟨HAB.out.2, Nat.le_trans (Nat.mod_le _ _) HAB.out.1⟩, by rw [← HG.out, Nat.gcd_comm a b, Nat.gcd_rec b a, Nat.gcd_comm]; exact rfl, HPR.out.trans hp3⟩
      case measure =>
        show (intV (byt (tZ ((a : Int) % (b : Int))))).toNat < (intV (byt (tZ (b : Int)))).toNat
        rw [← Int.natCast_emod, hms, hms]
        exact Nat.mod_lt _ HB0.out

end Go.Proofs.YtdcjibjldfjllaaGreat

/- The reference's rational numbers: Reduced, Plus, Minus, Times, of any length. -/
namespace Go.Proofs.YtdcjibjldfjllaaGreat
open Go.RowKit

set_option maxRecDepth 100000 in
set_option maxHeartbeats 4000000 in
theorem fr_reducedL (x y : Int) (w : World) (hx : tlen x ≤ 10000000) (hy1 : 0 < y) (hy : tlen y ≤ 10000000) :
    Calls Tryz.prog 94 #[.string (tZ x), .string (tZ y)] w fun r w' => Past w w' ∧ r = .returned (.string (tQ (mkRat x y.toNat))) := by
  obtain ⟨g, hg⟩ : ∃ g : Nat, Nat.gcd x.natAbs y.natAbs = g := ⟨_, rfl⟩
  have hg0 : 0 < g := by rw [← hg]; exact Nat.gcd_pos_of_pos_right _ (by omega)
  have hgy : g ≤ y.natAbs := by rw [← hg]; exact Nat.gcd_le_right _ (by omega)
  have hdx : (g : Int) ∣ x := by rw [← hg, ← Int.dvd_natAbs]; exact Int.natCast_dvd_natCast.2 (Nat.gcd_dvd_left _ _)
  have hdy : (g : Int) ∣ y := by rw [← hg, ← Int.dvd_natAbs]; exact Int.natCast_dvd_natCast.2 (Nat.gcd_dvd_right _ _)
  have e0 : y.natAbs = y.toNat := by omega
  have e1 : y.toNat ≠ 0 := by omega
  have HN : Hid ((mkRat x y.toNat).num = x / g) := by rw [Rat.num_mkRat, if_neg e1, Nat.gcd_comm, ← e0, hg]; exact rfl
  have HD : Hid (((mkRat x y.toNat).den : Int) = y / g) := by
    rw [Rat.den_mkRat, if_neg e1, Nat.gcd_comm, ← e0, hg, Int.natCast_ediv]
    have : ((y.natAbs : Nat) : Int) = y := by omega
    rw [this]
    exact rfl
  have HG := Lib.hid hg
  have HDX := Lib.hid hdx
  have HDY := Lib.hid hdy
  obtain ⟨q, hq⟩ : ∃ q, mkRat x y.toNat = q := ⟨_, rfl⟩
  rw [hq] at HN HD ⊢
  have SX := Lib.hid hx
  have SY := Lib.hid hy
  have SG : Hid (tlen (g : Int) ≤ 10000001) := by
    have h1 := tlen_le (g : Int)
    have h2 := dgt_len_mono hgy
    have h3 := dgt_length_le y
    rw [Int.natAbs_natCast] at h1
    unfold Hid; omega
  have HB : Hid (0 < y ∧ 0 < g) := ⟨hy1, hg0⟩
  have hc : ¬ cmpZ y 0 < 0 := by unfold cmpZ; rw [if_neg (by omega)]; split <;> omega
  have hcb : decide (cmpZ y 0 < 0) = false := decide_eq_false hc
  have h01 := toList_one (g : Int)
  clear hg hdx hdy e0 e1 hq hx hy hy1 hg0 hgy hc
  have zero : (⟨#[48]⟩ : ByteArray) = tZ 0 := rfl
  have c0 : ∀ w, Calls Tryz.prog 77 #[.string (tZ y), .string ⟨#[48]⟩] w fun e w' => Past w w' ∧ e = .returned (.int .i64 (cmpZ y 0)) := fun w => ref_compare y 0 w (by have := SY.out; omega) (by decide)
  have c1 : ∀ w, Calls Tryz.prog 150 #[.string (tZ x), .string (tZ y)] w fun e w' => Past w w' ∧ e = .returned (.string (tZ (g : Int))) := fun w => by
    have h := ref_divisor x y w SX.out SY.out
    rw [HG.out] at h
    exact h
  have C0 := Lib.hid c0
  have C1 := Lib.hid c1
  clear c0 c1 zero
  obtain ⟨bd, hbd⟩ : ∃ b, decide ((q.den : Int) = 1) = b := ⟨_, rfl⟩
  have hd1 := toList_one (q.den : Int)
  rw [hbd] at hd1
  have HBD := Lib.hid hbd
  clear hbd
  obtain ⟨bg, hbg⟩ : ∃ b, decide ((g : Int) = 1) = b := ⟨_, rfl⟩
  rw [hbg] at h01
  have HBG := Lib.hid hbg
  clear hbg
  have HSN : Hid (tlen q.num ≤ 10000002 ∧ tlen (q.den : Int) ≤ 10000002) := by
    have h1 := tlen_le q.num
    have h2 := tlen_le (q.den : Int)
    have a1 : q.num.natAbs ≤ x.natAbs := by rw [HN.out]; exact Int.natAbs_ediv_le_natAbs _ _
    have a2 : ((q.den : Int)).natAbs ≤ y.natAbs := by rw [HD.out]; exact Int.natAbs_ediv_le_natAbs _ _
    have b1 := dgt_len_mono a1
    have b2 := dgt_len_mono a2
    have c1 := dgt_length_le x
    have c2 := dgt_length_le y
    have := SX.out
    have := SY.out
    unfold Hid; omega
  have z1 : (tZ q.num).size ≤ 10000002 := by rw [tZ_size]; exact HSN.out.1
  have z2 : (tZ (q.den : Int)).size ≤ 10000002 := by rw [tZ_size]; exact HSN.out.2
  have hs1 : ¬ 9223372036854775807 < (tZ q.num).size + 1 := by omega
  have hs2 : ¬ 9223372036854775807 < (tZ q.num).size + 1 + (tZ (q.den : Int)).size := by omega
  clear z1 z2
  cases bg with
  | true =>
    have hx : x = q.num := by rw [HN.out, of_decide_eq_true HBG.out, Int.ediv_one]
    have hy : y = (q.den : Int) := by rw [HD.out, of_decide_eq_true HBG.out, Int.ediv_one]
    clear HN HD HDX HDY HB SX SY HG
    subst hx
    subst hy
    go_enter Tryz.func94, Tryz.ntmps94
    go_wp2_with fail
    refine (C0.out _).mono ?_
    rintro e w1 ⟨hp1, rfl⟩
    go_wp2_with fail
    refine (C1.out _).mono ?_
    rintro e w2 ⟨hp2, rfl⟩
    cases bd with
    | true =>
      have HT : Hid (tQ q = tZ q.num) := tQ_one (by have := of_decide_eq_true HBD.out; omega)
      go_wp2
      go_ret
      exact ⟨hp1.trans hp2, by rw [HT.out]; rfl⟩
    | false =>
      have HT : Hid (tQ q = tZ q.num ++ ⟨#[47]⟩ ++ tZ (q.den : Int)) := tQ_more (by have := of_decide_eq_false HBD.out; omega)
      go_wp2
      go_ret
      exact ⟨hp1.trans hp2, by rw [HT.out]; rfl⟩
  | false =>
    go_enter Tryz.func94, Tryz.ntmps94
    go_wp2_with fail
    refine (C0.out _).mono ?_
    rintro e w1 ⟨hp1, rfl⟩
    go_wp2_with fail
    refine (C1.out _).mono ?_
    rintro e w2 ⟨hp2, rfl⟩
    go_wp2_with fail
    refine (ref_quotient x g _ (by have := SX.out; omega) (by have := SG.out; omega) (by have := HB.out; omega) (Or.inr HDX.out)).mono ?_
    rintro e w3 ⟨hp3, rfl⟩
    go_wp2_with fail
    refine (ref_quotient y g _ (by have := SY.out; omega) (by have := SG.out; omega) (by have := HB.out; omega) (Or.inl (by have := HB.out; omega))).mono ?_
    rintro e w4 ⟨hp4, rfl⟩
    rw [← HN.out, ← HD.out]
    cases bd with
    | true =>
      have HT : Hid (tQ q = tZ q.num) := tQ_one (by have := of_decide_eq_true HBD.out; omega)
      go_wp2
      go_ret
      exact ⟨((hp1.trans hp2).trans hp3).trans hp4, by rw [HT.out]; rfl⟩
    | false =>
      have HT : Hid (tQ q = tZ q.num ++ ⟨#[47]⟩ ++ tZ (q.den : Int)) := tQ_more (by have := of_decide_eq_false HBD.out; omega)
      go_wp2
      go_ret
      exact ⟨((hp1.trans hp2).trans hp3).trans hp4, by rw [HT.out]; rfl⟩

theorem redC {x y : Int} (hx : tlen x ≤ 10000000) (hy1 : 0 < y) (hy : tlen y ≤ 10000000) : RedC x y := fun w => fr_reducedL x y w hx hy1 hy
theorem den_pos' (p q : Rat) : 0 < (p.den : Int) * (q.den : Int) := Int.mul_pos (by have := p.den_pos; omega) (by have := q.den_pos; omega)
theorem tlen_add (x y : Int) : tlen (x + y) ≤ tlen x + tlen y + 2 := by
  have h := dlen10_add x y
  have h1 := tlen_le (x + y)
  have h2 := dgt_length_le x
  have h3 := dgt_length_le y
  unfold dlen10 at h
  omega
theorem frl_plus (p q : Rat) (w : World) (hp : tlQ p ≤ 1000000) (hq : tlQ q ≤ 1000000) :
    Calls Tryz.prog 33 #[.string (tQ p), .string (tQ q)] w fun r w' => Past w w' ∧ r = .returned (.string (tQ (p + q))) := by
  have h1 := tlen_mul p.num q.den
  have h2 := tlen_mul q.num p.den
  have h3 := tlen_add (p.num * q.den) (q.num * p.den)
  have h4 := tlen_mul (p.den : Int) (q.den : Int)
  refine fr_plus p q w (by omega) (by omega) (redC ?_ (den_pos' p q) ?_) <;> (unfold tlQ at hp hq; omega)
theorem frl_minus (p q : Rat) (w : World) (hp : tlQ p ≤ 1000000) (hq : tlQ q ≤ 1000000) :
    Calls Tryz.prog 117 #[.string (tQ p), .string (tQ q)] w fun r w' => Past w w' ∧ r = .returned (.string (tQ (p - q))) := by
  have h1 := tlen_mul p.num q.den
  have h2 := tlen_mul (-q.num) p.den
  have h3 := tlen_add (p.num * q.den) (-q.num * p.den)
  have h4 := tlen_mul (p.den : Int) (q.den : Int)
  have h5 : tlen (-q.num) ≤ tlen q.num + 1 := by
    have a := tlen_le (-q.num)
    have b := dgt_length_le q.num
    rw [Int.natAbs_neg] at a
    omega
  refine fr_minus p q w (by omega) (by omega) (redC ?_ (den_pos' p q) ?_)
  · rw [Int.sub_eq_add_neg, ← Int.neg_mul]; unfold tlQ at hp hq; omega
  · unfold tlQ at hp hq; omega

end Go.Proofs.YtdcjibjldfjllaaGreat
