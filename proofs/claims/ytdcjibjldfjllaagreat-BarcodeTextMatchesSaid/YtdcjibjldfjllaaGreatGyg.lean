/- Helpers of the proof, joined: Tx1 LwTx. -/
import Derived.Test.YtdcjibjldfjllaaGreatGo
import Derived.Test.YtdcjibjldfjllaaGreatGyc
import Derived.Test.YtdcjibjldfjllaaGreatGyf
set_option linter.unusedVariables false
set_option linter.unusedSimpArgs false
/- torusref08.Digits of a digit; torusref20.Text. -/
namespace Go.Proofs.YtdcjibjldfjllaaGreat
open Go.RowKit

theorem ref_digit1 (n : Int) (w : World) (h0 : 0 ≤ n) (h4 : n ≤ 4) :
    Calls Tryz.prog 65 #[.int .i64 n] w fun e w' => w' = w ∧ e = .returned (.string ⟨#[UInt8.ofNat (48 + n).toNat]⟩) := by
  have hcases : n = 0 ∨ n = 1 ∨ n = 2 ∨ n = 3 ∨ n = 4 := by omega
  rcases hcases with rfl | rfl | rfl | rfl | rfl <;> (
    go_enter Tryz.func65, Tryz.ntmps65
    go_wp2
    go_ret
    exact ⟨rfl, rfl⟩)

theorem txt_flat (bs : List Bar) : (txtB bs).size = (bs.flatMap barBytes).length := by
  show (bs.flatMap barBytes).toArray.size = _
  simp

set_option maxRecDepth 100000 in
set_option maxHeartbeats 4000000 in
theorem ref_barText (A : Option Addr) (n c : Nat) (bs : List Bar) (w : World) (hx : Rows w rBar A n c bs) (hf : ∀ b ∈ bs, (0 ≤ b.d ∧ b.d ≤ 4) ∧ b.x.size ≤ 1000 ∧ b.y.size ≤ 1000) (hn : n ≤ 2048) :
    Calls Tryz.prog 17 #[.slice A n c] w fun e w' => Past w w' ∧ e = .returned (.string (txtB bs)) := by
  have HX := Lib.hid hx
  have HL := Lib.hid hx.len
  have HF := Lib.hid hf
  clear hx hf
  go_enter Tryz.func17, Tryz.ntmps17
  go_wp2_with fail
  go_loopg [3, 4] n (fun gg sv iv wr => ∃ (i : Nat) (s : ByteArray), sv = .string s ∧ iv = .int .i64 i ∧ i ≤ n ∧ Hid (gg = n - i) ∧ Hid (s.data.toList = (bs.take i).flatMap barBytes) ∧ Hid (s.size ≤ i * 2004) ∧ Hid (Past w wr))
  case atStart => exact ⟨0, ⟨#[]⟩, rfl, rfl, Nat.zero_le _, rfl, rfl, Nat.zero_le _, Past.refl _⟩
  case round =>
    obtain ⟨i, s, rfl, rfl, hi, HG, HS, HZ, HP⟩ := hrel
    by_cases hin : i < n
    · have hil : i < bs.length := by have := HL.out; omega
      obtain ⟨b1, o1, rfl, hc1⟩ := HX.out.bar (by omega)
      have hbi := (hc1 i hil).past HP.out
      obtain ⟨b, hbe⟩ : ∃ b, bs[i] = b := ⟨_, rfl⟩
      rw [hbe] at hbi
      have hfb := HF.out b (by rw [← hbe]; exact List.getElem_mem hil)
      have HFT := Lib.hid (flat_take hil hbe)
      clear hc1 hbe
      obtain ⟨d, x, y⟩ := b
      have d0 : 0 ≤ d := hfb.1.1
      have d4 : d ≤ 4 := hfb.1.2
      have sx : x.size ≤ 1000 := hfb.2.1
      have sy : y.size ≤ 1000 := hfb.2.2
      have ss : s.size ≤ 4104192 := by have := HZ.out; omega
      have e0 : wr.cell? ⟨b1, o1 + i * 3, none⟩ = some (.int .i64 d) := hbi.1
      have e1 : wr.cell? ⟨b1, o1 + i * 3 + 1, none⟩ = some (.string x) := hbi.2.1
      have e2 : wr.cell? ⟨b1, o1 + i * 3 + 2, none⟩ = some (.string y) := hbi.2.2
      have F3 := Lib.hid (And.intro e0 (And.intro e1 e2))
      have PD : Hid (Past wr wr.drew) := (Past.refl wr).drew
      clear hbi hfb e0 e1 e2
      have hiz : (i : Int) < (n : Int) := by omega
      obtain ⟨t, ht⟩ : ∃ t : ByteArray, t = ⟨#[UInt8.ofNat (48 + d).toNat]⟩ := ⟨_, rfl⟩
      have st : t.size = 1 := by rw [ht]; rfl
      have q1 : (⟨#[32]⟩ : ByteArray).size = 1 := rfl
      have q2 : (⟨#[10]⟩ : ByteArray).size = 1 := rfl
      have C : Hid (∀ w, Calls Tryz.prog 65 #[.int .i64 d] w fun e w' => w' = w ∧ e = .returned (.string t)) := fun w => by rw [ht]; exact ref_digit1 d w d0 d4
      have HT := Lib.hid ht
      clear ht
      have w1 : s.size + t.size ≤ 9223372036854775807 := by omega
      have w2 : (s ++ t).size + (⟨#[32]⟩ : ByteArray).size ≤ 9223372036854775807 := by simp only [ByteArray.size_append, q1, q2, st]; omega
      have w3 : (s ++ t ++ ⟨#[32]⟩).size + x.size ≤ 9223372036854775807 := by simp only [ByteArray.size_append, q1, q2, st]; omega
      have w4 : (s ++ t ++ ⟨#[32]⟩ ++ x).size + (⟨#[32]⟩ : ByteArray).size ≤ 9223372036854775807 := by simp only [ByteArray.size_append, q1, q2, st]; omega
      have w5 : (s ++ t ++ ⟨#[32]⟩ ++ x ++ ⟨#[32]⟩).size + y.size ≤ 9223372036854775807 := by simp only [ByteArray.size_append, q1, q2, st]; omega
      have w6 : (s ++ t ++ ⟨#[32]⟩ ++ x ++ ⟨#[32]⟩ ++ y).size + (⟨#[10]⟩ : ByteArray).size ≤ 9223372036854775807 := by simp only [ByteArray.size_append, q1, q2, st]; omega
      have a1 : ∀ w : World, (Op.stringOp .add s t).run Tryz.prog w = .ok (.string (s ++ t)) w := fun w => run_string_add_sum w _ _ w1
      have a2 : ∀ w : World, (Op.stringOp .add (s ++ t) ⟨#[32]⟩).run Tryz.prog w = .ok (.string (s ++ t ++ ⟨#[32]⟩)) w := fun w => run_string_add_sum w _ _ w2
      have a3 : ∀ w : World, (Op.stringOp .add (s ++ t ++ ⟨#[32]⟩) x).run Tryz.prog w = .ok (.string (s ++ t ++ ⟨#[32]⟩ ++ x)) w := fun w => run_string_add_sum w _ _ w3
      have a4 : ∀ w : World, (Op.stringOp .add (s ++ t ++ ⟨#[32]⟩ ++ x) ⟨#[32]⟩).run Tryz.prog w = .ok (.string (s ++ t ++ ⟨#[32]⟩ ++ x ++ ⟨#[32]⟩)) w := fun w => run_string_add_sum w _ _ w4
      have a5 : ∀ w : World, (Op.stringOp .add (s ++ t ++ ⟨#[32]⟩ ++ x ++ ⟨#[32]⟩) y).run Tryz.prog w = .ok (.string (s ++ t ++ ⟨#[32]⟩ ++ x ++ ⟨#[32]⟩ ++ y)) w := fun w => run_string_add_sum w _ _ w5
      have a6 : ∀ w : World, (Op.stringOp .add (s ++ t ++ ⟨#[32]⟩ ++ x ++ ⟨#[32]⟩ ++ y) ⟨#[10]⟩).run Tryz.prog w = .ok (.string (s ++ t ++ ⟨#[32]⟩ ++ x ++ ⟨#[32]⟩ ++ y ++ ⟨#[10]⟩)) w := fun w => run_string_add_sum w _ _ w6
      clear w1 w2 w3 w4 w5 w6
      go_wp2_with fail
      go_region_held3 (fun w' => w'.cell? ⟨b1, o1 + i * 3, none⟩ = some (.int .i64 d) ∧ w'.cell? ⟨b1, o1 + i * 3 + 1, none⟩ = some (.string x) ∧ w'.cell? ⟨b1, o1 + i * 3 + 2, none⟩ = some (.string y)) (first | assumption | (refine keep3 PD.out ?_; exact F3.out))
        (first
          | (go_at_call 65; ((with_reducible refine (C.out _).mono ?_)); rintro e w1 ⟨rfl, rfl⟩))
      go_wp2_with fail
      go_roundg (n - (i + 1))
      case measure => have := HG.out; omega
      case rel => exact ⟨i + 1, _, rfl, by go_num, by omega, rfl, by show _ = _; rw [HFT.out, ← HS.out, HT.out]; simp [barBytes], by have := HZ.out; show _ ≤ _; simp only [ByteArray.size_append, q1, q2, st]; omega, HP.out.trans PD.out⟩
    · have HE : Hid (s = txtB bs) := by
        refine ba_ext ?_
        rw [HS.out, List.take_of_length_le (by have := HL.out; omega)]
        rfl
      go_wp2
      go_ret
      exact ⟨HP.out, by rw [← HE.out]; rfl⟩

end Go.Proofs.YtdcjibjldfjllaaGreat

/- BarcodeTextMatches: the walk. -/
namespace Go.Proofs.YtdcjibjldfjllaaGreat
open Go.RowKit

theorem txt_bd : ∀ (bs : List Bar), (∀ b ∈ bs, b.x.size ≤ 200 ∧ b.y.size ≤ 200) → (bs.flatMap barBytes).length ≤ 404 * bs.length
  | [], _ => by simp
  | b :: bs, h => by
    rw [List.flatMap_cons, List.length_append, barBytes_len, List.length_cons]
    have h1 := h b (by simp)
    have h2 := txt_bd bs (fun c hc => h c (by simp [hc]))
    omega

theorem parseP_len (s : ByteArray) : ∀ (k p : Nat) (acc : List Bar), s.size - p ≤ k → p ≤ s.size → acc.length ≤ p → (parseP s p acc).1.length ≤ s.size
  | k, p, acc, hk, hps, ha => by
    by_cases hp : p < s.size
    · cases h : stepP s p with
      | inl a => rw [parseP_bad hp h]; simp
      | inr bq =>
        obtain ⟨b, q⟩ := bq
        have hq := stepP_next h
        rw [parseP_go hp h]
        match k, hk with
        | 0, hk => omega
        | k + 1, hk => exact parseP_len s k q (acc ++ [b]) (by omega) hq.2 (by simp; omega)
    · rw [parseP_end hp]
      split
      · simp
      · simp only; omega
theorem parseB_len (s : ByteArray) : (parseB s).1.length ≤ 65536 := by
  unfold parseB
  split
  · simp
  · have := parseP_len s s.size 0 [] (by omega) (by omega) (by simp)
    omega

set_option maxRecDepth 100000 in
set_option maxHeartbeats 8000000 in
theorem law_text (A : Option Addr) (n c : Nat) (bs : List Bar) (s : ByteArray) (w : World) (hx : Rows w rBar A n c bs) :
    Calls Tryz.prog 3 #[.slice A n c, .string s] w fun e w' => Past w w' ∧ e = .returned (.bool true) := by
  have HX := Lib.hid hx
  have HLEN := Lib.hid hx.len
  clear hx
  cases hl : longB bs 40 with
  | true =>
    have HL := Lib.hid hl
    clear hl
    go_enter Tryz.func3, Tryz.ntmps3
    go_wp2_with fail
    refine (law_long A n c bs 40 _ HX.out (by decide)).mono ?_
    rintro e w1 ⟨hp1, rfl⟩
    rw [HL.out]
    go_wp2_with fail
    refine (law_awake _).mono ?_
    rintro e w2 ⟨hp2, rfl⟩
    go_wp2
    go_ret
    exact ⟨hp1.trans hp2, rfl⟩
  | false =>
    obtain ⟨l1, l2⟩ := longB_false hl
    have HL := Lib.hid hl
    have hn : n ≤ 40 := by have := HLEN.out; omega
    have HB : Hid (∀ b ∈ bs, b.x.size ≤ 1000000 ∧ b.y.size ≤ 1000000) := fun b hb => by have := l2 b hb; omega
    have HBF : Hid (∀ b ∈ bs, b.fit) := fun b hb => ⟨by have := l2 b hb; omega, by have := l2 b hb; omega⟩
    have HL2 := Lib.hid l2
    have HTB := Lib.hid (txt_bd bs l2)
    clear hl l1 l2
    by_cases hmid : 2000 < s.size ∧ s.size ≤ 65536
    · have hm1 : (2000 : Int) < (s.size : Int) := by omega
      have hm2 : (s.size : Int) ≤ 65536 := by omega
      go_enter Tryz.func3, Tryz.ntmps3
      go_wp2_with fail
      refine (law_long A n c bs 40 _ HX.out (by decide)).mono ?_
      rintro e w1 ⟨hp1, rfl⟩
      rw [HL.out]
      go_wp2_with fail
      refine (law_awake _).mono ?_
      rintro e w2 ⟨hp2, rfl⟩
      go_wp2
      go_ret
      exact ⟨hp1.trans hp2, rfl⟩
    · have HOKS : Hid (s.size ≤ 2000 ∨ 65536 < s.size) := by unfold Hid; omega
      obtain ⟨pl, hpl⟩ : ∃ pl, (parseB s).1 = pl := ⟨_, rfl⟩
      obtain ⟨pa, hpa⟩ : ∃ pa, (parseB s).2.1 = pa := ⟨_, rfl⟩
      obtain ⟨pe, hpe⟩ : ∃ pe, (parseB s).2.2 = pe := ⟨_, rfl⟩
      have C1 := Lib.hid (bar_parseG s)
      have C2 := Lib.hid (ref_parseG s)
      rw [hpl, hpa, hpe] at C1 C2
      have HPL : Hid (pl.length ≤ 1000000) := by
        show _ ≤ _
        rw [← hpl]
        have := parseB_len s
        omega
      clear hpl hpa hpe
      have hch : (2000 : Int) < (s.size : Int) ∧ ¬ (s.size : Int) ≤ 65536 ∨ ¬ (2000 : Int) < (s.size : Int) := by omega
      clear hmid
      rcases hch with ⟨hm1, hm2⟩ | hm1
      all_goals
        go_enter Tryz.func3, Tryz.ntmps3
        go_wp2_with fail
        refine (law_long A n c bs 40 _ HX.out (by decide)).mono ?_
        rintro e w1 ⟨hp1, rfl⟩
        rw [HL.out]
        have P1 := Lib.hid hp1
        clear hp1
        go_wp2_with fail
        refine (ref_checkG A n c bs _ (HX.out.past P1.out) HB.out).mono ?_
        rintro e w2 ⟨hp2, rfl⟩
        have P2 := Lib.hid (P1.out.trans hp2)
        clear hp2
        have HFMT : Hid (checkB bs = 0 → formatB bs = (txtB bs, 0)) := fun h => by
          unfold formatB
          rw [h, if_neg (by simp), if_neg (by have := HTB.out; have := HLEN.out; omega)]
        have HFM2 : Hid (checkB bs ≠ 0 → formatB bs = (⟨#[]⟩, checkB bs)) := fun h => by
          unfold formatB
          rw [if_pos h]
        have HDIM : Hid (checkB bs = 0 → ∀ b ∈ bs, (0 ≤ b.d ∧ b.d ≤ 4) ∧ b.x.size ≤ 1000 ∧ b.y.size ≤ 1000) := fun h b hb => by
          have h1 := (chkFrom_valid (checkB_ok h).2 b hb).1
          have h2 := HL2.out b hb
          exact ⟨validB_dim h1, by omega, by omega⟩
        have CF := Lib.hid (bar_format A n c bs)
        generalize checkB bs = ck at HFMT HFM2 HDIM ⊢
        by_cases hck : ck = 0
        · have HF := HFMT.out hck
          have HD := Lib.hid (HDIM.out hck)
          rw [HF] at CF
          subst hck
          go_wp2_with fail
          refine (ref_barText A n c bs _ (HX.out.past P2.out) HD.out (by omega)).mono ?_
          rintro e w3 ⟨hp3, rfl⟩
          have P3 := Lib.hid (P2.out.trans hp3)
          clear hp3
          try dsimp only at CF
          generalize txtB bs = tx at CF ⊢
          go_wp2_with fail
          refine (CF.out _ (HX.out.past P3.out) HBF.out).mono ?_
          rintro e w4 ⟨hp4, rfl⟩
          have P4 := Lib.hid (P3.out.trans hp4)
          clear hp4
          go_wp2_with fail
          refine (C1.out _).mono ?_
          rintro e w5 ⟨hp5, v5, rfl, ho5⟩
          obtain ⟨A5, c5, rfl, hr5⟩ := ho5.reads
          obtain ⟨m, hm⟩ : ∃ m, pl.length = m := ⟨_, rfl⟩
          rw [hm] at hr5 ⊢
          have HR5 := Lib.hid hr5
          have P5 := Lib.hid (P4.out.trans hp5)
          clear hp5 ho5 hr5
          go_wp2_with fail
          refine (C2.out _).mono ?_
          rintro e w6 ⟨hp6, v6, rfl, ho6⟩
          obtain ⟨A6, c6, rfl, hr6⟩ := ho6.reads
          rw [hm] at hr6 ⊢
          have HR6 := Lib.hid hr6
          have HR56 := Lib.hid (HR5.out.past hp6)
          have P6 := Lib.hid (P5.out.trans hp6)
          have HM : Hid (m ≤ 1000000) := by rw [← hm]; exact HPL.out
          clear hp6 ho6 hr6 hm
          go_wp2_with fail
          refine (ref_same A5 A6 m c5 c6 pl _ HR56.out HR6.out HM.out).mono ?_
          rintro e w7 ⟨hp7, rfl⟩
          have P7 := Lib.hid (P6.out.trans hp7)
          clear hp7
          go_wp2_with fail
          refine (law_awake _).mono ?_
          rintro e w8 ⟨hp8, rfl⟩
          go_wp2
          go_ret
          exact ⟨P7.out.trans hp8, rfl⟩
        · have HF := HFM2.out hck
          have hckb : (ck == 0) = false := by simp [hck]
          rw [HF] at CF
          have P3 := Lib.hid P2.out
          try dsimp only at CF
          go_wp2_with fail
          refine (CF.out _ (HX.out.past P3.out) HBF.out).mono ?_
          rintro e w4 ⟨hp4, rfl⟩
          have P4 := Lib.hid (P3.out.trans hp4)
          clear hp4
          go_wp2_with fail
          refine (C1.out _).mono ?_
          rintro e w5 ⟨hp5, v5, rfl, ho5⟩
          obtain ⟨A5, c5, rfl, hr5⟩ := ho5.reads
          obtain ⟨m, hm⟩ : ∃ m, pl.length = m := ⟨_, rfl⟩
          rw [hm] at hr5 ⊢
          have HR5 := Lib.hid hr5
          have P5 := Lib.hid (P4.out.trans hp5)
          clear hp5 ho5 hr5
          go_wp2_with fail
          refine (C2.out _).mono ?_
          rintro e w6 ⟨hp6, v6, rfl, ho6⟩
          obtain ⟨A6, c6, rfl, hr6⟩ := ho6.reads
          rw [hm] at hr6 ⊢
          have HR6 := Lib.hid hr6
          have HR56 := Lib.hid (HR5.out.past hp6)
          have P6 := Lib.hid (P5.out.trans hp6)
          have HM : Hid (m ≤ 1000000) := by rw [← hm]; exact HPL.out
          clear hp6 ho6 hr6 hm
          go_wp2_with fail
          refine (ref_same A5 A6 m c5 c6 pl _ HR56.out HR6.out HM.out).mono ?_
          rintro e w7 ⟨hp7, rfl⟩
          have P7 := Lib.hid (P6.out.trans hp7)
          clear hp7
          go_wp2_with fail
          refine (law_awake _).mono ?_
          rintro e w8 ⟨hp8, rfl⟩
          go_wp2
          go_ret
          exact ⟨P7.out.trans hp8, rfl⟩

end Go.Proofs.YtdcjibjldfjllaaGreat
