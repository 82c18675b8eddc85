/- Helpers of the proof, joined: Va7 Va8 Va9 Va10 Va11 Va12 Va13. -/
import Derived.Test.YtdcjibjldfjllaaGreatPGya
import Derived.Test.YtdcjibjldfjllaaGreatPGp
import Derived.Test.YtdcjibjldfjllaaGreatPGm
import Derived.Test.YtdcjibjldfjllaaGreatPGxe
import Derived.Test.YtdcjibjldfjllaaGreatPGt
set_option linter.unusedVariables false
set_option linter.unusedSimpArgs false
/- The reference's Cmp of any two valid bars; a valid bar as a dimension and two numbers. -/
namespace Go.Proofs.YtdcjibjldfjllaaGreat
open Go.RowKit

/-- Its dimension is small, its ends are no longer than 10^7. -/
def VB.okL (v : VB) : Prop := 0 ≤ v.d ∧ v.d ≤ 4 ∧ tlE (some v.q) ≤ 10000000 ∧ tlE v.e ≤ 10000000
/-- The dimension and the numbers of a bar. -/
def decB (b : Bar) : VB := ⟨b.d, valR (byt b.x), eV (byt b.y)⟩

theorem decB_ok {b : Bar} (h : validB b = true) (hf : b.x.size ≤ 1000000 ∧ b.y.size ≤ 1000000) : (decB b).enc = b ∧ (decB b).okL := by
  obtain ⟨d, x, y⟩ := b
  unfold validB at h
  simp only [Bool.and_eq_true, decide_eq_true_eq] at h
  obtain ⟨⟨⟨⟨h1, h2⟩, h3⟩, h4⟩, _⟩ := h
  have hx : okE (byt x) = true := by unfold okE; rw [h3]; simp
  obtain ⟨e2, l2⟩ := tE_of_ok h4
  have hr : okR (byt x) = true := by unfold okV at h3; rw [Bool.and_eq_true] at h3; exact h3.1
  have e1 : x = tQ (valR (byt x)) := by
    apply byt_inj
    rw [byt_tQ]
    exact rtx_valR hr
  have l1 := tlQ_size (valR (byt x))
  rw [← e1] at l1
  simp only at hf
  refine ⟨?_, h1, h2, ?_, ?_⟩
  · unfold VB.enc decB
    simp only
    rw [← e2]
    exact congrArg (fun z => Bar.mk d z y) e1.symm
  · show tlQ _ ≤ _
    exact Nat.le_trans l1 (by omega)
  · show tlE _ ≤ _
    exact Nat.le_trans l2 (by omega)

set_option maxRecDepth 100000 in
set_option maxHeartbeats 4000000 in
theorem ref_cmpL (a b : VB) (w : World) (ha : a.okL) (hb : b.okL) :
    Calls Tryz.prog 64 #[.agg #[.int .i64 a.d, .string (tE (some a.q)), .string (tE a.e)], .agg #[.int .i64 b.d, .string (tE (some b.q)), .string (tE b.e)]] w fun e w' => Past w w' ∧ e = .returned (.int .i64 (cmpV a b)) := by
  obtain ⟨d, q, e⟩ := a
  obtain ⟨d', q', e'⟩ := b
  have HQ := Lib.hid (fr_compare (some q) (some q'))
  have HE := Lib.hid (fr_compare e e')
  have HB : Hid ((tlE (some q) ≤ 10000000 ∧ tlE (some q') ≤ 10000000) ∧ tlE e ≤ 10000000 ∧ tlE e' ≤ 10000000) := ⟨⟨ha.2.2.1, hb.2.2.1⟩, ha.2.2.2, hb.2.2.2⟩
  have p0 : 0 ≤ d := ha.1
  have p1 : d ≤ 4 := ha.2.1
  have p2 : 0 ≤ d' := hb.1
  have p3 : d' ≤ 4 := hb.2.1
  have HCV : Hid (cmpV ⟨d, q, e⟩ ⟨d', q', e'⟩ = if d ≠ d' then d - d' else if cmpE (some q) (some q') ≠ 0 then cmpE (some q) (some q') else cmpE e e') := rfl
  clear ha hb
  dsimp only
  generalize tE (some q) = x at *
  generalize tE (some q') = x' at *
  generalize tE e = y at *
  generalize tE e' = y' at *
  have HK : Hid ((((w.alloc (.cells #[.int .i64 d, .string x, .string y] 94)).alloc (.cells #[.int .i64 d', .string x', .string y'] 94)).cell? ⟨w.heap.size, 2, none⟩ = some (.string y)) ∧ (((w.alloc (.cells #[.int .i64 d, .string x, .string y] 94)).alloc (.cells #[.int .i64 d', .string x', .string y'] 94)).cell? ⟨w.heap.size + 1, 2, none⟩ = some (.string y'))) := by unfold Hid; simp [go_sem]
  by_cases hd : d = d'
  · have hdb : (d != d') = false := by simp [hd]
    obtain ⟨c1, hc1⟩ : ∃ c, cmpE (some q) (some q') = c := ⟨_, rfl⟩
    have HC1 := Lib.hid hc1
    by_cases h1 : c1 = 0
    · have h1b : (c1 != 0) = false := by simp [h1]
      have HR : Hid (cmpV ⟨d, q, e⟩ ⟨d', q', e'⟩ = cmpE e e') := by show _ = _; rw [HCV.out, if_neg (by simp [hd]), hc1, if_neg (by simp [h1])]
      clear hd hc1 h1
      go_enter Tryz.func64, Tryz.ntmps64
      go_wp2_with fail
      refine (HQ.out _ HB.out.1.1 HB.out.1.2).mono ?_
      rintro e w1 ⟨hp1, rfl⟩
      rw [HC1.out]
      have k1 := hp1.cell HK.out.1
      have k2 := hp1.cell HK.out.2
      go_wp2_with fail
      refine (HE.out _ HB.out.2.1 HB.out.2.2).mono ?_
      rintro e w2 ⟨hp2, rfl⟩
      go_wp2
      go_ret
      exact ⟨((((Past.refl _).alloc _).alloc _).trans hp1).trans hp2, by rw [HR.out]; rfl⟩
    · have h1b : (c1 != 0) = true := by simp [h1]
      have HR : Hid (cmpV ⟨d, q, e⟩ ⟨d', q', e'⟩ = c1) := by show _ = _; rw [HCV.out, if_neg (by simp [hd]), hc1, if_pos h1]
      clear hd hc1 h1
      go_enter Tryz.func64, Tryz.ntmps64
      go_wp2_with fail
      refine (HQ.out _ HB.out.1.1 HB.out.1.2).mono ?_
      rintro e w1 ⟨hp1, rfl⟩
      rw [HC1.out]
      go_wp2
      go_ret
      exact ⟨(((Past.refl _).alloc _).alloc _).trans hp1, by rw [HR.out]; rfl⟩
  · have hdb : (d != d') = true := by simp [hd]
    have HR : Hid (cmpV ⟨d, q, e⟩ ⟨d', q', e'⟩ = d - d') := by show _ = _; rw [HCV.out, if_pos hd]
    go_enter Tryz.func64, Tryz.ntmps64
    go_wp2
    go_ret
    exact ⟨((Past.refl _).alloc _).alloc _, by rw [HR.out]; rfl⟩

end Go.Proofs.YtdcjibjldfjllaaGreat

/- The laws' bound on bars: how many, and how long their ends are. -/
namespace Go.Proofs.YtdcjibjldfjllaaGreat
open Go.RowKit

/-- An end of a bar has more than 200 bytes. -/
def wideB (b : Bar) : Bool := decide (200 < b.x.size) || decide (200 < b.y.size)
def longB (l : List Bar) (m : Int) : Bool := decide (m < l.length) || l.any wideB

set_option maxRecDepth 100000 in
set_option maxHeartbeats 4000000 in
theorem law_long (A : Option Addr) (n c : Nat) (bs : List Bar) (m : Int) (w : World) (hx : Rows w rBar A n c bs) (hm : m ≤ 1000000) :
    Calls Tryz.prog 14 #[.slice A n c, .int .i64 m] w fun e w' => Past w w' ∧ e = .returned (.bool (longB bs m)) := by
  have HX := Lib.hid hx
  have HL := Lib.hid hx.len
  clear hx
  by_cases hbig : m < (n : Int)
  · have HR : Hid (longB bs m = true) := by unfold longB; rw [HL.out, decide_eq_true hbig]; exact rfl
    go_enter Tryz.func14, Tryz.ntmps14
    go_wp2
    go_ret
    exact ⟨Past.refl _, by rw [HR.out]; rfl⟩
  · have HR : Hid (longB bs m = (bs.drop 0).any wideB) := by unfold longB; rw [HL.out, decide_eq_false hbig, List.drop_zero]; exact Bool.false_or _
    go_enter Tryz.func14, Tryz.ntmps14
    go_wp2_with fail
    go_loopw [13] (fun iv w' => ∃ i : Nat, i ≤ n ∧ iv = .int .i64 i ∧ Hid (longB bs m = (bs.drop i).any wideB) ∧ Hid (Past w w')) (fun iv _ => n - (intOf iv).toNat)
    case atStart => exact ⟨0, Nat.zero_le _, rfl, HR, Past.refl _⟩
    case round =>
      obtain ⟨i, hi, rfl, HO, HP⟩ := hrel
      by_cases hin : i < n
      · have hil : i < bs.length := by have := HL.out; omega
        obtain ⟨b1, o1, rfl, hc1⟩ := HX.out.bar (by omega)
        have hbi := (hc1 i hil).past HP.out
        have HS : Hid ((bs.drop i).any wideB = (wideB bs[i] || (bs.drop (i + 1)).any wideB)) := by unfold Hid; rw [List.drop_eq_getElem_cons hil, List.any_cons]
        generalize bs[i] = b at *
        obtain ⟨d, x, y⟩ := b
        have e0 : wr.cell? ⟨b1, o1 + i * 3, none⟩ = some (.int .i64 d) := hbi.1
        have e1 : wr.cell? ⟨b1, o1 + i * 3 + 1, none⟩ = some (.string x) := hbi.2.1
        have e2 : wr.cell? ⟨b1, o1 + i * 3 + 2, none⟩ = some (.string y) := hbi.2.2
        clear hc1 hbi
        by_cases h1 : (200 : Int) < (x.size : Int)
        · have HV : Hid (longB bs m = true) := by
            rw [HO.out, HS.out]
            unfold wideB
            rw [decide_eq_true (by simp only; omega)]
            exact rfl
          have hb1 : decide ((200 : Int) < (x.size : Int)) = true := decide_eq_true h1
          clear h1
          go_wp2
          go_ret
          exact ⟨HP.out.alloc _, by rw [HV.out]; rfl⟩
        · have hb1 : decide ((200 : Int) < (x.size : Int)) = false := decide_eq_false h1
          by_cases h2 : (200 : Int) < (y.size : Int)
          · have HV : Hid (longB bs m = true) := by
              rw [HO.out, HS.out]
              unfold wideB
              rw [decide_eq_true (p := 200 < y.size) (by omega), Bool.or_true]
              exact rfl
            have hb2 : decide ((200 : Int) < (y.size : Int)) = true := decide_eq_true h2
            clear h1 h2
            go_wp2
            go_ret
            exact ⟨HP.out.alloc _, by rw [HV.out]; rfl⟩
          · have HV : Hid (longB bs m = (bs.drop (i + 1)).any wideB) := by
              rw [HO.out, HS.out]
              unfold wideB
              rw [decide_eq_false (p := 200 < y.size) (by omega), decide_eq_false (p := 200 < x.size) (by omega)]
              exact rfl
            have hb2 : decide ((200 : Int) < (y.size : Int)) = false := decide_eq_false h2
            clear h1 h2
            go_wp2
            go_roundw
            case rel => exact ⟨i + 1, by omega, by go_num, HV, HP.out.alloc _⟩
            case measure => simp [intOf]; omega
      · have HV : Hid (longB bs m = false) := by
          rw [HO.out, List.drop_eq_nil_of_le (by have := HL.out; omega)]
          exact rfl
        go_wp2
        go_ret
        exact ⟨HP.out, by rw [HV.out]; rfl⟩

end Go.Proofs.YtdcjibjldfjllaaGreat

/- The reference's Sorted on valid bars with ends of any length. -/
namespace Go.Proofs.YtdcjibjldfjllaaGreat
open Go.RowKit

end Go.Proofs.YtdcjibjldfjllaaGreat

/- The reference's Normal on any bars. -/
namespace Go.Proofs.YtdcjibjldfjllaaGreat
open Go.RowKit

end Go.Proofs.YtdcjibjldfjllaaGreat

/- barcode.Normal's change of a bar: none, if it is valid. -/
namespace Go.Proofs.YtdcjibjldfjllaaGreat
open Go.RowKit

end Go.Proofs.YtdcjibjldfjllaaGreat

/- barcode.Normal. -/
namespace Go.Proofs.YtdcjibjldfjllaaGreat
open Go.RowKit

end Go.Proofs.YtdcjibjldfjllaaGreat

/- barcode.compare and the reference's Cmp agree on valid bars. -/
namespace Go.Proofs.YtdcjibjldfjllaaGreat
open Go.RowKit

theorem dec_lt {a b : Bar} (ha : validB a = true) (hb : validB b = true) : ltB a b = ltV (decB a) (decB b) := by
  have ends : ∀ {b : Bar}, validB b = true → (okE (byt b.x) = true ∧ okE (byt b.y) = true) ∧ eV (byt b.x) = some (valR (byt b.x)) := by
    intro b hb
    unfold validB at hb
    simp only [Bool.and_eq_true, decide_eq_true_eq] at hb
    obtain ⟨⟨⟨⟨_, _⟩, h3⟩, h4⟩, _⟩ := hb
    refine ⟨⟨by unfold okE; rw [h3]; simp, h4⟩, ?_⟩
    unfold eV
    have : isInf (byt b.x) = false := by
      cases hi : isInf (byt b.x) with
      | false => rfl
      | true =>
        have e := (isInf_iff _).1 hi
        rw [e] at h3
        exact absurd h3 (by decide)
    rw [this]
    rfl
  obtain ⟨⟨a1, a2⟩, a3⟩ := ends ha
  obtain ⟨⟨b1, b2⟩, b3⟩ := ends hb
  unfold ltB ltV
  apply decide_eq_decide.2
  have e1 : cmpB a b = orI (cmpZ (decB a).d (decB b).d) (orI (cmpE (some (decB a).q) (some (decB b).q)) (cmpE (decB a).e (decB b).e)) := by
    unfold cmpB cmpT decB
    rw [a1, a2, b1, b2, a3, b3]
    rfl
  rw [e1]
  generalize decB a = u
  generalize decB b = v
  unfold cmpV orI
  have hz := cmpZ_sign u.d v.d
  by_cases hd : u.d = v.d
  · rw [if_pos (hz.2.2 hd), if_neg (show ¬ u.d ≠ v.d by simp [hd])]
    by_cases hq : cmpE (some u.q) (some v.q) = 0
    · rw [if_pos hq, if_neg (show ¬ cmpE (some u.q) (some v.q) ≠ 0 by simp [hq])]
    · rw [if_neg hq, if_pos (show cmpE (some u.q) (some v.q) ≠ 0 from hq)]
  · rw [if_neg (fun h => hd (hz.2.1 h)), if_pos hd, hz.1]
    omega

end Go.Proofs.YtdcjibjldfjllaaGreat
