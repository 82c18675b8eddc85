/- Helpers of the proof, joined: Va1 Va2 Va3 Va4 Va5 Va6. -/
import Derived.Test.YtdcjibjldfjllaaGreatPGl
import Derived.Test.YtdcjibjldfjllaaGreatPGxb
import Derived.Test.YtdcjibjldfjllaaGreatPGj
import Derived.Test.YtdcjibjldfjllaaGreatPGk
import Derived.Test.YtdcjibjldfjllaaGreatPGm
set_option linter.unusedVariables false
set_option linter.unusedSimpArgs false
/- The reference's integers: whether any text is one. -/
namespace Go.Proofs.YtdcjibjldfjllaaGreat
open Go.RowKit

/-- What is left to ask of a text behind its sign and its first byte. -/
def restOk (l : List Int) (i : Nat) : Bool := (l.drop i).all isDg

theorem restOk_step {l : List Int} {i : Nat} (h : i < l.length) (hd : 48 ≤ rd l i ∧ rd l i ≤ 57) : restOk l i = restOk l (i + 1) := by
  unfold restOk
  have e : l.drop i = rd l i :: l.drop (i + 1) := by
    rw [List.drop_eq_getElem_cons h]
    congr 1
    unfold rd
    rw [Dg.getD_eq h]
  rw [e, List.all_cons]
  have : isDg (rd l i) = true := by unfold isDg; simp; omega
  rw [this, Bool.true_and]
theorem restOk_bad {l : List Int} {i : Nat} (h : i < l.length) (hd : rd l i < 48 ∨ 57 < rd l i) : restOk l i = false := by
  unfold restOk
  have e : l.drop i = rd l i :: l.drop (i + 1) := by
    rw [List.drop_eq_getElem_cons h]
    congr 1
    unfold rd
    rw [Dg.getD_eq h]
  rw [e, List.all_cons]
  have : isDg (rd l i) = false := by unfold isDg; simp; omega
  rw [this, Bool.false_and]
theorem restOk_end {l : List Int} {i : Nat} (h : l.length ≤ i) : restOk l i = true := by
  unfold restOk
  rw [List.drop_eq_nil_of_le h]
  rfl

theorem head_rd {l : List Int} {x : Int} (h : 0 < l.length) : (l.head? = some x) ↔ rd l 0 = x := by
  cases l with
  | nil => simp at h
  | cons y t => simp [rd]

theorem okI_nil {l : List Int} (h : l.length = 0) : okI l = false := by
  cases l with
  | nil => rfl
  | cons y t => simp at h
/-- No sign. -/
theorem okI_plain {l : List Int} (h : 0 < l.length) (h45 : rd l 0 ≠ 45) : okI l = if rd l 0 = 48 ∧ 1 < l.length then false else restOk l 0 := by
  have a : ¬ l.head? = some 45 := fun e => h45 ((head_rd h).1 e)
  have b : bodyL l = l := by unfold bodyL; rw [if_neg a]
  have c : signL l = false := by unfold signL; simp [a]
  unfold okI restOk
  rw [b, c, List.drop_zero]
  have d : l.isEmpty = false := by cases l <;> simp at h ⊢
  rw [d]
  by_cases e : rd l 0 = 48
  · have e2 := (head_rd h).2 e
    by_cases f : 1 < l.length
    · simp [e, f, e2]
    · simp [e, f]
  · have e2 : ¬ l.head? = some 48 := fun x => e ((head_rd h).1 x)
    simp [e, e2]
/-- A sign. -/
theorem okI_minus {l : List Int} (h : 0 < l.length) (h45 : rd l 0 = 45) : okI l = if l.length = 1 then false else if rd l 1 = 48 then false else restOk (l.drop 1) 0 := by
  have a : l.head? = some 45 := (head_rd h).2 h45
  have b : bodyL l = l.tail := by unfold bodyL; rw [if_pos a]
  have c : signL l = true := by unfold signL; simp [a]
  unfold okI restOk
  rw [b, c, List.drop_zero]
  cases l with
  | nil => simp at h
  | cons y t =>
    cases t with
    | nil => simp
    | cons z u =>
      have e : rd (y :: z :: u) 1 = z := rfl
      rw [e]
      by_cases f : z = 48
      · simp [f]
      · simp [f]

set_option maxRecDepth 100000 in
set_option maxHeartbeats 4000000 in
theorem ref_whole (s : ByteArray) (w : World) (hs : s.size ≤ 1000000000) :
    Calls Tryz.prog 158 #[.string s] w fun e w' => Past w w' ∧ e = .returned (.bool (okI (byt s))) := by
  obtain ⟨V, hV⟩ : ∃ V, okI (byt s) = V := ⟨_, rfl⟩
  rw [hV]
  have HV := Lib.hid hV
  clear hV
  obtain ⟨n, hn⟩ : ∃ n, s.size = n := ⟨_, rfl⟩
  have HLN : Hid ((byt s).length = n) := by rw [← hn]; exact byt_length s
  have hnb : n ≤ 1000000000 := by omega
  go_enter Tryz.func158, Tryz.ntmps158
  by_cases h0 : n = 0
  · have HVV : Hid (V = false) := by rw [← HV.out]; exact okI_nil (by rw [HLN.out, h0])
    have hs0 : s.size = 0 := by omega
    go_wp2
    go_ret
    exact ⟨Past.refl w, by rw [HVV.out]; rfl⟩
  · have hp : 0 < s.size := by omega
    obtain ⟨y, hy⟩ : ∃ y : Int, (((s[0]'hp).toNat : Nat) : Int) = y := ⟨_, rfl⟩
    have HYR : Hid (y = rd (byt s) 0) := by rw [← hy]; exact byt_at s 0 hp
    have hpi : (0 : Int) < s.size := by omega
    have hnp : 0 < n := by omega
    by_cases h45 : y = 45
    · have hb : (y == 45) = true := by simp [h45]
      have HVV : Hid (V = if (byt s).length = 1 then false else if rd (byt s) 1 = 48 then false else restOk ((byt s).drop 1) 0) := by
        rw [← HV.out]
        exact okI_minus (by rw [HLN.out]; exact hnp) (by rw [← HYR.out]; exact h45)
      clear h45
      obtain ⟨s2, hs2⟩ : ∃ s2, s.extract 1 n = s2 := ⟨_, rfl⟩
      have HB2 : Hid (byt s2 = (byt s).drop 1) := by
        rw [← hs2]
        unfold Hid
        rw [byt_extract, ← HLN.out, List.take_length]
      obtain ⟨m, hm⟩ : ∃ m, s2.size = m := ⟨_, rfl⟩
      have hmn : m + 1 = n := by
        have := congrArg List.length HB2.out
        rw [byt_length, List.length_drop, HLN.out, hm] at this
        omega
      have hle : (1 : Int) ≤ s.size := by omega
      have hle2 : 1 ≤ s.size := by omega
      by_cases hm0 : m = 0
      · have HVF : Hid (V = false) := by rw [HVV.out]; exact if_pos (by rw [HLN.out]; omega)
        have hs20 : s2.size = 0 := by omega
        go_wp2
        repeat (go_quiet (fail); try go_wp2)
        go_ret
        exact ⟨Past.refl w, by rw [HVF.out]; rfl⟩
      · have hp2 : 0 < s2.size := by omega
        obtain ⟨z, hz⟩ : ∃ z : Int, (((s2[0]'hp2).toNat : Nat) : Int) = z := ⟨_, rfl⟩
        have HZR : Hid (z = rd (byt s) 1) := by
          have := byt_at s2 0 hp2
          rw [hz, HB2.out, rd_drop] at this
          exact this
        have hpi2 : (0 : Int) < s2.size := by omega
        have HVG : Hid (V = if z = 48 then false else restOk (byt s2) 0) := by
          rw [HVV.out, if_neg (by rw [HLN.out]; omega), HZR.out, HB2.out]
          exact rfl
        by_cases h48 : z = 48
        · have hc : (z == 48) = true := by simp [h48]
          have HVF : Hid (V = false) := by rw [HVG.out]; exact if_pos h48
          clear h48
          go_wp2
          repeat (go_quiet (fail); try go_wp2)
          go_ret
          exact ⟨Past.refl w, by rw [HVF.out]; rfl⟩
        · have hc : (z == 48) = false := by simp [h48]
          have HVR : Hid (V = restOk (byt s2) 0) := by rw [HVG.out]; exact if_neg h48
          clear h48
          have HP0 : Past w w := Past.refl w
          go_wp2
          go_loopw [4] (fun iv wr => ∃ i : Nat, i ≤ m ∧ iv = .int .i64 i ∧ Hid (V = restOk (byt s2) i) ∧ Hid (Past w wr)) (fun iv _ => m - (intOf iv).toNat)
          case atStart => exact ⟨0, Nat.zero_le _, rfl, HVR, HP0⟩
          case round =>
            obtain ⟨i, hi, rfl, HB, HP⟩ := hrel
            by_cases hin : i < m
            · have his : i < s2.size := by omega
              obtain ⟨x, hx⟩ : ∃ x : Int, (((s2[i]'his).toNat : Nat) : Int) = x := ⟨_, rfl⟩
              have HXR : Hid (x = rd (byt s2) i) := by rw [← hx]; exact byt_at s2 i his
              have h0i : (0 : Int) ≤ i := by omega
              have h1i : (i : Int) < s2.size := by omega
              have HIL : Hid (i < (byt s2).length) := by unfold Hid; rw [byt_length]; exact his
              by_cases h1 : x < 48
              · have hb1 : decide (x < 48) = true := by simp [h1]
                have HVV : Hid (V = false) := by rw [HB.out]; exact restOk_bad HIL.out (.inl (by rw [← HXR.out]; exact h1))
                clear h1
                go_wp2
                go_ret
                exact ⟨HP.out, by rw [HVV.out]; rfl⟩
              · by_cases h2 : 57 < x
                · have hb1 : decide (x < 48) = false := by simp [h1]
                  have hb2 : decide (57 < x) = true := by simp [h2]
                  have HVV : Hid (V = false) := by rw [HB.out]; exact restOk_bad HIL.out (.inr (by rw [← HXR.out]; exact h2))
                  clear h1 h2
                  go_wp2
                  go_ret
                  exact ⟨HP.out, by rw [HVV.out]; rfl⟩
                · have hb1 : decide (x < 48) = false := by simp [h1]
                  have hb2 : decide (57 < x) = false := by simp [h2]
                  have HB2 : Hid (V = restOk (byt s2) (i + 1)) := by rw [HB.out]; exact restOk_step HIL.out (by rw [← HXR.out]; omega)
                  clear h1 h2
                  go_wp2
                  go_roundw
                  case rel => exact ⟨i + 1, by omega, by go_num, HB2, HP⟩
                  case measure => simp [intOf]; omega
            · have HVV : Hid (V = true) := by rw [HB.out]; exact restOk_end (by rw [byt_length]; omega)
              go_wp2
              go_ret
              exact ⟨HP.out, by rw [HVV.out]; rfl⟩
    · have hb : (y == 45) = false := by simp [h45]
      have HVV : Hid (V = if rd (byt s) 0 = 48 ∧ 1 < n then false else restOk (byt s) 0) := by
        rw [← HV.out, ← HLN.out]
        exact okI_plain (by rw [HLN.out]; exact hnp) (by rw [← HYR.out]; exact h45)
      clear h45
      by_cases h48 : y = 48
      · have hc : (y == 48) = true := by simp [h48]
        by_cases h1 : 1 < n
        · have HVV : Hid (V = false) := by rw [HVV.out]; exact if_pos ⟨by rw [← HYR.out]; exact h48, h1⟩
          have h1s : (1 : Int) < s.size := by omega
          clear h48
          go_wp2
          go_ret
          exact ⟨Past.refl w, by rw [HVV.out]; rfl⟩
        · have HVR : Hid (V = restOk (byt s) 0) := by rw [HVV.out]; exact if_neg fun h => h1 h.2
          have h1s : decide ((1 : Int) < (n : Int)) = false := by simp; omega
          obtain rfl : n = 1 := by omega
          clear h48
          go_wp2
          go_loopw [4] (fun iv wr => ∃ i : Nat, i ≤ 1 ∧ iv = .int .i64 i ∧ Hid (V = restOk (byt s) i) ∧ Hid (Past w wr)) (fun iv _ => 1 - (intOf iv).toNat)
          case atStart => exact ⟨0, Nat.zero_le _, rfl, HVR, Past.refl w⟩
          case round =>
            obtain ⟨i, hi, rfl, HB, HP⟩ := hrel
            by_cases hin : i < 1
            · have his : i < (s).size := by omega
              obtain ⟨x, hx⟩ : ∃ x : Int, ((((s)[i]'his).toNat : Nat) : Int) = x := ⟨_, rfl⟩
              have HXR : Hid (x = rd (byt s) i) := by rw [← hx]; exact byt_at s i his
              have h0i : (0 : Int) ≤ i := by omega
              have h1i : (i : Int) < (s).size := by omega
              have HIL : Hid (i < (byt s).length) := by unfold Hid; rw [byt_length]; exact his
              by_cases h1 : x < 48
              · have hb1 : decide (x < 48) = true := by simp [h1]
                have HVV : Hid (V = false) := by rw [HB.out]; exact restOk_bad HIL.out (.inl (by rw [← HXR.out]; exact h1))
                clear h1
                go_wp2
                go_ret
                exact ⟨HP.out, by rw [HVV.out]; rfl⟩
              · by_cases h2 : 57 < x
                · have hb1 : decide (x < 48) = false := by simp [h1]
                  have hb2 : decide (57 < x) = true := by simp [h2]
                  have HVV : Hid (V = false) := by rw [HB.out]; exact restOk_bad HIL.out (.inr (by rw [← HXR.out]; exact h2))
                  clear h1 h2
                  go_wp2
                  go_ret
                  exact ⟨HP.out, by rw [HVV.out]; rfl⟩
                · have hb1 : decide (x < 48) = false := by simp [h1]
                  have hb2 : decide (57 < x) = false := by simp [h2]
                  have HB2 : Hid (V = restOk (byt s) (i + 1)) := by rw [HB.out]; exact restOk_step HIL.out (by rw [← HXR.out]; omega)
                  clear h1 h2
                  go_wp2
                  go_roundw
                  case rel => exact ⟨i + 1, by omega, by go_num, HB2, HP⟩
                  case measure => simp [intOf]; omega
            · have HVV : Hid (V = true) := by rw [HB.out]; exact restOk_end (by rw [byt_length]; omega)
              go_wp2
              go_ret
              exact ⟨HP.out, by rw [HVV.out]; rfl⟩
      · have hc : (y == 48) = false := by simp [h48]
        have HVR : Hid (V = restOk (byt s) 0) := by rw [HVV.out]; exact if_neg fun h => h48 (by rw [HYR.out]; exact h.1)
        clear h48
        go_wp2
        go_loopw [4] (fun iv wr => ∃ i : Nat, i ≤ n ∧ iv = .int .i64 i ∧ Hid (V = restOk (byt s) i) ∧ Hid (Past w wr)) (fun iv _ => n - (intOf iv).toNat)
        case atStart => exact ⟨0, Nat.zero_le _, rfl, HVR, Past.refl w⟩
        case round =>
          obtain ⟨i, hi, rfl, HB, HP⟩ := hrel
          by_cases hin : i < n
          · have his : i < (s).size := by omega
            obtain ⟨x, hx⟩ : ∃ x : Int, ((((s)[i]'his).toNat : Nat) : Int) = x := ⟨_, rfl⟩
            have HXR : Hid (x = rd (byt s) i) := by rw [← hx]; exact byt_at s i his
            have h0i : (0 : Int) ≤ i := by omega
            have h1i : (i : Int) < (s).size := by omega
            have HIL : Hid (i < (byt s).length) := by unfold Hid; rw [byt_length]; exact his
            by_cases h1 : x < 48
            · have hb1 : decide (x < 48) = true := by simp [h1]
              have HVV : Hid (V = false) := by rw [HB.out]; exact restOk_bad HIL.out (.inl (by rw [← HXR.out]; exact h1))
              clear h1
              go_wp2
              go_ret
              exact ⟨HP.out, by rw [HVV.out]; rfl⟩
            · by_cases h2 : 57 < x
              · have hb1 : decide (x < 48) = false := by simp [h1]
                have hb2 : decide (57 < x) = true := by simp [h2]
                have HVV : Hid (V = false) := by rw [HB.out]; exact restOk_bad HIL.out (.inr (by rw [← HXR.out]; exact h2))
                clear h1 h2
                go_wp2
                go_ret
                exact ⟨HP.out, by rw [HVV.out]; rfl⟩
              · have hb1 : decide (x < 48) = false := by simp [h1]
                have hb2 : decide (57 < x) = false := by simp [h2]
                have HB2 : Hid (V = restOk (byt s) (i + 1)) := by rw [HB.out]; exact restOk_step HIL.out (by rw [← HXR.out]; omega)
                clear h1 h2
                go_wp2
                go_roundw
                case rel => exact ⟨i + 1, by omega, by go_num, HB2, HP⟩
                case measure => simp [intOf]; omega
          · have HVV : Hid (V = true) := by rw [HB.out]; exact restOk_end (by rw [byt_length]; omega)
            go_wp2
            go_ret
            exact ⟨HP.out, by rw [HVV.out]; rfl⟩

end Go.Proofs.YtdcjibjldfjllaaGreat

/- The reference's numbers: how many digits any text has, and whether that is too many. -/
namespace Go.Proofs.YtdcjibjldfjllaaGreat
open Go.RowKit

/-- The number of digits of a text. -/
def digN (l : List Int) : Nat := (bodyL l).length
theorem digN_le (l : List Int) : digN l ≤ l.length := by
  unfold digN bodyL
  split
  · rw [List.length_tail]; omega
  · exact Nat.le_refl _
theorem digN_minus {l : List Int} (h : 0 < l.length) (h45 : rd l 0 = 45) : digN l = l.length - 1 := by
  unfold digN bodyL
  rw [if_pos ((head_rd h).2 h45), List.length_tail]
theorem digN_plain {l : List Int} (h : 0 < l.length) (h45 : rd l 0 ≠ 45) : digN l = l.length := by
  unfold digN bodyL
  rw [if_neg fun e => h45 ((head_rd h).1 e)]
theorem digN_nil {l : List Int} (h : l.length = 0) : digN l = 0 := by
  have := digN_le l
  omega

set_option maxRecDepth 100000 in
set_option maxHeartbeats 4000000 in
theorem ref_digitsN (s : ByteArray) (w : World) (hs : s.size ≤ 1000000000) :
    Calls Tryz.prog 186 #[.string s] w fun e w' => Past w w' ∧ e = .returned (.int .i64 ((digN (byt s) : Nat) : Int)) := by
  obtain ⟨V, hV⟩ : ∃ V, digN (byt s) = V := ⟨_, rfl⟩
  rw [hV]
  have HV := Lib.hid hV
  clear hV
  obtain ⟨n, hn⟩ : ∃ n, s.size = n := ⟨_, rfl⟩
  have HLN : Hid ((byt s).length = n) := by rw [← hn]; exact byt_length s
  have hnb : n ≤ 1000000000 := by omega
  go_enter Tryz.func186, Tryz.ntmps186
  by_cases h0 : n = 0
  · have HVV : Hid (V = 0) := by rw [← HV.out]; exact digN_nil (by rw [HLN.out, h0])
    have hs0 : s.size = 0 := by omega
    go_wp2
    go_ret
    exact ⟨Past.refl w, by rw [HVV.out]; rfl⟩
  · have hp : 0 < s.size := by omega
    obtain ⟨y, hy⟩ : ∃ y : Int, (((s[0]'hp).toNat : Nat) : Int) = y := ⟨_, rfl⟩
    have HYR : Hid (y = rd (byt s) 0) := by rw [← hy]; exact byt_at s 0 hp
    have hpi : (0 : Int) < s.size := by omega
    have hnp : 0 < n := by omega
    by_cases h45 : y = 45
    · have hb : (y == 45) = true := by simp [h45]
      have HVV : Hid ((V : Int) = (n : Int) - 1) := by
        have := digN_minus (l := byt s) (by rw [HLN.out]; exact hnp) (by rw [← HYR.out]; exact h45)
        rw [HV.out, HLN.out] at this
        show (V : Int) = n - 1
        omega
      clear h45
      go_wp2
      go_ret
      exact ⟨Past.refl w, by rw [HVV.out]; rfl⟩
    · have hb : (y == 45) = false := by simp [h45]
      have HVV : Hid (V = n) := by
        have := digN_plain (l := byt s) (by rw [HLN.out]; exact hnp) (by rw [← HYR.out]; exact h45)
        rw [HV.out, HLN.out] at this
        exact this
      clear h45
      go_wp2
      go_ret
      exact ⟨Past.refl w, by rw [HVV.out]; rfl⟩

set_option maxRecDepth 100000 in
set_option maxHeartbeats 4000000 in
theorem ref_longN (s : ByteArray) (w : World) (hs : s.size ≤ 1000000000) :
    Calls Tryz.prog 118 #[.string s] w fun e w' => Past w w' ∧ e = .returned (.bool (decide (1000 < digN (byt s)))) := by
  have C1 := Lib.hid (fun w => ref_digitsN s w hs)
  obtain ⟨V, hV⟩ : ∃ V, digN (byt s) = V := ⟨_, rfl⟩
  rw [hV] at C1 ⊢
  have hb : decide ((1000 : Int) < (V : Int)) = decide (1000 < V) := by
    by_cases h : 1000 < V
    · rw [decide_eq_true h, decide_eq_true (by omega)]
    · rw [decide_eq_false h, decide_eq_false (by omega)]
  obtain ⟨b, hb2⟩ : ∃ b, decide (1000 < V) = b := ⟨_, rfl⟩
  rw [hb2] at hb ⊢
  clear hs hV hb2
  go_enter Tryz.func118, Tryz.ntmps118
  go_wp2_with fail
  refine (C1.out _).mono ?_
  rintro e w1 ⟨hp1, rfl⟩
  go_wp2
  go_ret
  exact ⟨hp1, rfl⟩

/-- Whether a text's numerator or denominator is too long. -/
def longT (l : List Int) : Bool := if 47 ∈ l then decide (1000 < digN (bef 47 l)) || decide (1000 < digN (aft 47 l)) else decide (1000 < digN l)

set_option maxRecDepth 100000 in
set_option maxHeartbeats 4000000 in
theorem ref_longT (s : ByteArray) (w : World) (hs : s.size ≤ 1000000000) :
    Calls Tryz.prog 58 #[.string s] w fun e w' => Past w w' ∧ e = .returned (.bool (longT (byt s))) := by
  have C1 := Lib.hid (fun w => ref_split s w hs)
  obtain ⟨V, hV⟩ : ∃ V, longT (byt s) = V := ⟨_, rfl⟩
  rw [hV]
  have HV := Lib.hid hV
  clear hV
  obtain ⟨s1, s2, b, HS, h1, h2, hVV⟩ : ∃ s1 s2 b, splitV s = .tuple #[.string s1, .string s2, .bool b] ∧ s1.size ≤ 1000000000 ∧ s2.size ≤ 1000000000 ∧ V = (decide (1000 < digN (byt s1)) || decide (1000 < digN (byt s2))) := by
    have hl : (byt s).length ≤ 1000000000 := by rw [byt_length]; exact hs
    unfold splitV
    by_cases h : (47 : Int) ∈ byt s
    · rw [if_pos h]
      have b1 : byt (txt (bef 47 (byt s))) = bef 47 (byt s) := byt_txt fun x hx => byt_byt s x ((List.takeWhile_sublist _).subset hx)
      have b2 : byt (txt (aft 47 (byt s))) = aft 47 (byt s) := byt_txt fun x hx => byt_byt s x (List.mem_of_mem_drop hx)
      refine ⟨_, _, _, rfl, ?_, ?_, ?_⟩
      · rw [txt_size]
        have := bef_le 47 (byt s)
        omega
      · rw [txt_size]
        unfold aft
        rw [List.length_drop]
        omega
      · rw [b1, b2, ← HV.out]
        unfold longT
        rw [if_pos h]
    · rw [if_neg h]
      refine ⟨_, _, _, rfl, hs, by decide, ?_⟩
      rw [← HV.out]
      unfold longT
      rw [if_neg h]
      have : decide (1000 < digN (byt ⟨#[49]⟩)) = false := by decide
      rw [this, Bool.or_false]
  rw [HS] at C1
  have C2 := Lib.hid (fun w => ref_longN s1 w h1)
  have C3 := Lib.hid (fun w => ref_longN s2 w h2)
  obtain ⟨b1, hb1⟩ : ∃ x, decide (1000 < digN (byt s1)) = x := ⟨_, rfl⟩
  obtain ⟨b2, hb2⟩ : ∃ x, decide (1000 < digN (byt s2)) = x := ⟨_, rfl⟩
  rw [hb1] at C2 hVV
  rw [hb2] at C3 hVV
  clear HS h1 h2 hs HV hb1 hb2
  subst hVV
  go_enter Tryz.func58, Tryz.ntmps58
  go_wp2_with fail
  refine (C1.out _).mono ?_
  rintro e w1 ⟨hp1, rfl⟩
  go_wp2_with fail
  refine (C2.out _).mono ?_
  rintro e w2 ⟨hp2, rfl⟩
  cases b1
  · go_wp2_with fail
    refine (C3.out _).mono ?_
    rintro e w3 ⟨hp3, rfl⟩
    go_wp2
    go_ret
    exact ⟨(hp1.trans hp2).trans hp3, rfl⟩
  · go_wp2
    go_ret
    exact ⟨hp1.trans hp2, rfl⟩

end Go.Proofs.YtdcjibjldfjllaaGreat

/- The reference's rational numbers: whether any text is one. -/
namespace Go.Proofs.YtdcjibjldfjllaaGreat
open Go.RowKit

theorem cmp2 (y : Int) : decide ((0 : Int) ≤ cmpZ y 2) = decide (1 < y) := by
  unfold cmpZ
  split
  · rw [decide_eq_false (by omega), decide_eq_false (by omega)]
  · split
    · rw [decide_eq_true (by omega), decide_eq_true (by omega)]
    · rw [decide_eq_true (by omega), decide_eq_true (by omega)]

theorem tZ_of_ok {s : ByteArray} (h : okI (byt s) = true) : s = tZ (intV (byt s)) := by
  apply byt_inj
  rw [byt_tZ]
  exact dtx_intV h

set_option maxRecDepth 100000 in
set_option maxHeartbeats 8000000 in
theorem ref_isT (s : ByteArray) (w : World) (hs : s.size ≤ 1000000) :
    Calls Tryz.prog 102 #[.string s] w fun e w' => Past w w' ∧ e = .returned (.bool (okR (byt s))) := by
  have C1 := Lib.hid (fun w => ref_split s w (by omega))
  obtain ⟨V, hV⟩ : ∃ V, okR (byt s) = V := ⟨_, rfl⟩
  rw [hV]
  have HV := Lib.hid hV
  clear hV
  by_cases hm : (47 : Int) ∈ byt s
  · have b1 : byt (txt (bef 47 (byt s))) = bef 47 (byt s) := byt_txt fun x hx => byt_byt s x ((List.takeWhile_sublist _).subset hx)
    have b2 : byt (txt (aft 47 (byt s))) = aft 47 (byt s) := byt_txt fun x hx => byt_byt s x (List.mem_of_mem_drop hx)
    have HS : splitV s = .tuple #[.string (txt (bef 47 (byt s))), .string (txt (aft 47 (byt s))), .bool true] := by unfold splitV; rw [if_pos hm]
    have n1 : (txt (bef 47 (byt s))).size ≤ 1000000 := by
      rw [txt_size]
      have := bef_le 47 (byt s)
      rw [byt_length] at this
      omega
    have n2 : (txt (aft 47 (byt s))).size ≤ 1000000 := by
      rw [txt_size]
      unfold aft
      rw [List.length_drop, byt_length]
      omega
    have HO : Hid (V = (okI (byt (txt (bef 47 (byt s)))) && okI (byt (txt (aft 47 (byt s)))) && !(intV (byt (txt (bef 47 (byt s)))) == 0) && decide (1 < intV (byt (txt (aft 47 (byt s))))) && (Nat.gcd (intV (byt (txt (bef 47 (byt s))))).natAbs (intV (byt (txt (aft 47 (byt s))))).natAbs == 1))) := by
      rw [← HV.out, b1, b2]
      unfold okR
      rw [if_pos hm]
      exact rfl
    rw [HS] at C1
    generalize txt (bef 47 (byt s)) = s1 at *
    generalize txt (aft 47 (byt s)) = s2 at *
    have C2 := Lib.hid (fun w => ref_whole s1 w (by omega))
    have C3 := Lib.hid (fun w => ref_whole s2 w (by omega))
    have t1 := @tZ_of_ok s1
    have t2 := @tZ_of_ok s2
    clear b1 b2 HS HV hm
    have N1 := Lib.hid n1
    have N2 := Lib.hid n2
    clear n1 n2 hs
    go_enter Tryz.func102, Tryz.ntmps102
    by_cases k1 : okI (byt s1) = true
    · by_cases k2 : okI (byt s2) = true
      · have t1 := t1 k1
        have t2 := t2 k2
        rw [k1] at C2 HO
        rw [k2] at C3 HO
        generalize intV (byt s1) = x at *
        generalize intV (byt s2) = y at *
        clear k1 k2
        subst t1 t2
        have L1 : Hid (tlen x ≤ 1000000) := by have := N1.out; rw [tZ_size] at this; exact this
        have L2 : Hid (tlen y ≤ 1000000) := by have := N2.out; rw [tZ_size] at this; exact this
        have two : (⟨#[50]⟩ : ByteArray) = tZ 2 := by decide +kernel
        have C4 : Hid (∀ w, Calls Tryz.prog 77 #[.string (tZ y), .string ⟨#[50]⟩] w fun e w' => Past w w' ∧ e = .returned (.int .i64 (cmpZ y 2))) := fun w => by
          rw [two]
          exact ref_compare y 2 w (by have := L2.out; omega) (by decide +kernel)
        have C5 : Hid (∀ w, Calls Tryz.prog 150 #[.string (tZ x), .string (tZ y)] w fun e w' => Past w w' ∧ e = .returned (.string (tZ (Nat.gcd x.natAbs y.natAbs : Nat)))) := fun w => ref_divisor x y w (by have := L1.out; omega) (by have := L2.out; omega)
        have z0 := toList_tZ x
        have z1 := toList_one (Nat.gcd x.natAbs y.natAbs : Nat)
        have z2 := cmp2 y
        have hg : decide (((Nat.gcd x.natAbs y.natAbs : Nat) : Int) = 1) = (Nat.gcd x.natAbs y.natAbs == 1) := by
          rw [Bool.eq_iff_iff]
          simp
          omega
        have hx : decide (x = 0) = (x == 0) := by rw [Bool.eq_iff_iff]; simp
        rw [hg] at z1
        rw [hx] at z0
        generalize (Nat.gcd x.natAbs y.natAbs == 1) = q1 at *
        generalize Nat.gcd x.natAbs y.natAbs = g at *
        generalize (x == 0) = q0 at *
        generalize decide (1 < y) = q2 at *
        generalize cmpZ y 2 = c at *
        clear hg hx two L1 L2 N1 N2 t1 t2
        go_wp2_with fail
        refine (C1.out _).mono ?_
        rintro e w1 ⟨hp1, rfl⟩
        go_wp2_with fail
        refine (C2.out _).mono ?_
        rintro e w2 ⟨hp2, rfl⟩
        go_wp2_with fail
        refine (C3.out _).mono ?_
        rintro e w3 ⟨hp3, rfl⟩
        cases q0
        · go_wp2_with fail
          refine (C4.out _).mono ?_
          rintro e w4 ⟨hp4, rfl⟩
          cases q2
          · go_wp2
            go_ret
            exact ⟨((hp1.trans hp2).trans hp3).trans hp4, by rw [HO.out]; rfl⟩
          · go_wp2_with fail
            refine (C5.out _).mono ?_
            rintro e w5 ⟨hp5, rfl⟩
            go_wp2
            go_ret
            exact ⟨(((hp1.trans hp2).trans hp3).trans hp4).trans hp5, by rw [HO.out]; rfl⟩
        · go_wp2
          go_ret
          exact ⟨(hp1.trans hp2).trans hp3, by rw [HO.out]; rfl⟩
      · have k2 : okI (byt s2) = false := by simpa using k2
        rw [k1] at C2 HO
        rw [k2] at C3 HO
        clear t1 t2 k1 k2
        go_wp2_with fail
        refine (C1.out _).mono ?_
        rintro e w1 ⟨hp1, rfl⟩
        go_wp2_with fail
        refine (C2.out _).mono ?_
        rintro e w2 ⟨hp2, rfl⟩
        go_wp2_with fail
        refine (C3.out _).mono ?_
        rintro e w3 ⟨hp3, rfl⟩
        go_wp2
        go_ret
        exact ⟨(hp1.trans hp2).trans hp3, by rw [HO.out]; rfl⟩
    · have k1 : okI (byt s1) = false := by simpa using k1
      rw [k1] at C2 HO
      go_wp2_with fail
      refine (C1.out _).mono ?_
      rintro e w1 ⟨hp1, rfl⟩
      go_wp2_with fail
      refine (C2.out _).mono ?_
      rintro e w2 ⟨hp2, rfl⟩
      go_wp2
      go_ret
      exact ⟨hp1.trans hp2, by rw [HO.out]; rfl⟩
  · have HS : splitV s = .tuple #[.string s, .string ⟨#[49]⟩, .bool false] := by unfold splitV; rw [if_neg hm]
    have HO : Hid (V = okI (byt s)) := by rw [← HV.out]; unfold okR; rw [if_neg hm]; exact rfl
    rw [HS] at C1
    have C2 := Lib.hid (fun w => ref_whole s w (by omega))
    rw [← HO.out] at C2
    clear HS HO HV hm hs
    go_enter Tryz.func102, Tryz.ntmps102
    go_wp2_with fail
    refine (C1.out _).mono ?_
    rintro e w1 ⟨hp1, rfl⟩
    go_wp2_with fail
    refine (C2.out _).mono ?_
    rintro e w2 ⟨hp2, rfl⟩
    cases V
    · go_wp2
      go_ret
      exact ⟨hp1.trans hp2, rfl⟩
    · go_wp2
      go_ret
      exact ⟨hp1.trans hp2, rfl⟩

end Go.Proofs.YtdcjibjldfjllaaGreat

/- The reference's Valid and End on any text. -/
namespace Go.Proofs.YtdcjibjldfjllaaGreat
open Go.RowKit

theorem digN_dtx {z : Int} (h : z ≠ 0) : digN (dtx z) = dlen z := by
  have key : fil (((dgt z.natAbs).map (48 + ·)).reverse) = ((dgt z.natAbs).map (48 + ·)).reverse := by
    have hd := dgt_dig z.natAbs
    unfold fil
    rw [List.filter_eq_self]
    intro x hx
    rw [List.mem_reverse] at hx
    obtain ⟨y, hy, rfl⟩ := List.mem_map.1 hx
    have := hd y hy
    simp
    omega
  unfold digN dlen
  rw [bodyL_dtx]
  unfold dtx
  rw [if_neg h]
  by_cases hn : z < 0
  · rw [if_pos hn]
    have e : fil ([45] ++ ((dgt z.natAbs).map (48 + ·)).reverse) = fil (((dgt z.natAbs).map (48 + ·)).reverse) := by unfold fil; simp
    rw [e, key]
    simp
  · rw [if_neg hn, List.nil_append, key]
    simp
theorem long_dtx (z : Int) : decide (1000 < digN (dtx z)) = decide (1000 < dlen z) := by
  by_cases h : z = 0
  · subst h
    have a : digN (dtx 0) = 1 := rfl
    rw [a, dlen_zero]
    rfl
  · rw [digN_dtx h]
theorem longT_rtx (q : Rat) : longT (rtx q) = longQ q := by
  unfold longT longQ
  by_cases h : q.den = 1
  · rw [rtx_num h, if_neg (no_slash _), long_dtx, h]
    have a : dlen ((1 : Nat) : Int) = 1 := dlen_of (L := 0) (by decide) (by decide)
    rw [a]
    simp
  · rw [rtx_den h, if_pos (slash_app _ _), bef_app (no_slash _), aft_app (no_slash _), long_dtx, long_dtx]
theorem okV_eq (l : List Int) : okV l = (!longT l && okR l) := by
  unfold okV
  by_cases h : okR l = true
  · have e := rtx_valR h
    have e2 : longT l = longQ (valR l) := by
      have := longT_rtx (valR l)
      rw [← e] at this
      exact this
    rw [h, e2]
    simp
  · have h : okR l = false := by simpa using h
    rw [h]
    simp

set_option maxRecDepth 100000 in
set_option maxHeartbeats 8000000 in
theorem ref_validT (s : ByteArray) (w : World) (hs : s.size ≤ 1000000) :
    Calls Tryz.prog 39 #[.string s] w fun e w' => Past w w' ∧ e = .returned (.bool (okV (byt s))) := by
  have C1 := Lib.hid (fun w => ref_longT s w (by omega))
  have C2 := Lib.hid (fun w => ref_isT s w (by omega))
  rw [okV_eq]
  generalize longT (byt s) = b1 at *
  generalize okR (byt s) = b2 at *
  clear hs
  go_enter Tryz.func39, Tryz.ntmps39
  go_wp2_with fail
  refine (C1.out _).mono ?_
  rintro e w1 ⟨hp1, rfl⟩
  cases b1
  · go_wp2_with fail
    refine (C2.out _).mono ?_
    rintro e w2 ⟨hp2, rfl⟩
    go_wp2
    go_ret
    exact ⟨hp1.trans hp2, rfl⟩
  · go_wp2
    go_ret
    exact ⟨hp1, rfl⟩

set_option maxRecDepth 100000 in
set_option maxHeartbeats 8000000 in
theorem ref_endT (s : ByteArray) (w : World) (hs : s.size ≤ 1000000) :
    Calls Tryz.prog 41 #[.string s] w fun e w' => Past w w' ∧ e = .returned (.bool (okE (byt s))) := by
  have C2 := Lib.hid (fun w => ref_validT s w (by omega))
  have hi : (s.toList == [105, 110, 102]) = isInf (byt s) := inf_eq s
  unfold okE
  generalize okV (byt s) = b2 at *
  generalize isInf (byt s) = b1 at *
  clear hs
  go_enter Tryz.func41, Tryz.ntmps41
  cases b1
  · go_wp2_with fail
    refine (C2.out _).mono ?_
    rintro e w2 ⟨hp2, rfl⟩
    go_wp2
    go_ret
    exact ⟨hp2, rfl⟩
  · go_wp2
    go_ret
    exact ⟨Past.refl w, rfl⟩

end Go.Proofs.YtdcjibjldfjllaaGreat

/- The reference's Compare on any two texts that are ends. -/
namespace Go.Proofs.YtdcjibjldfjllaaGreat
open Go.RowKit

theorem tlQ_size (q : Rat) : tlQ q ≤ (tQ q).size + 1 := by
  unfold tQ
  rw [txt_size]
  unfold rtx tlQ tlen
  split
  · rename_i h
    rw [h]
    have : (dtx ((1 : Nat) : Int)).length = 1 := by decide +kernel
    omega
  · simp only [List.length_append, List.length_singleton]
    omega

theorem isInf_iff (l : List Int) : isInf l = true ↔ l = [105, 110, 102] := by unfold isInf; simp

theorem tE_of_ok {s : ByteArray} (h : okE (byt s) = true) : s = tE (eV (byt s)) ∧ tlE (eV (byt s)) ≤ s.size + 1 := by
  unfold eV
  by_cases hi : isInf (byt s) = true
  · rw [if_pos hi]
    refine ⟨?_, Nat.zero_le _⟩
    apply byt_inj
    rw [(isInf_iff _).1 hi]
    rfl
  · rw [if_neg hi]
    unfold okE at h
    have hi2 : isInf (byt s) = false := by simpa using hi
    rw [hi2, Bool.false_or] at h
    unfold okV at h
    have hr : okR (byt s) = true := by
      rw [Bool.and_eq_true] at h
      exact h.1
    have e : s = tQ (valR (byt s)) := by
      apply byt_inj
      rw [byt_tQ]
      exact rtx_valR hr
    have e2 := tlQ_size (valR (byt s))
    rw [← e] at e2
    exact ⟨e, e2⟩

theorem fr_compareT (s t : ByteArray) (w : World) (hs : s.size ≤ 1000000) (ht : t.size ≤ 1000000) (ks : okE (byt s) = true) (kt : okE (byt t) = true) :
    Calls Tryz.prog 24 #[.string s, .string t] w fun r w' => Past w w' ∧ r = .returned (.int .i64 (cmpT (byt s) (byt t))) := by
  obtain ⟨e1, l1⟩ := tE_of_ok ks
  obtain ⟨e2, l2⟩ := tE_of_ok kt
  have h := fr_compare (eV (byt s)) (eV (byt t)) w (by omega) (by omega)
  rw [← e1, ← e2] at h
  unfold cmpT
  rw [ks, kt]
  exact h

end Go.Proofs.YtdcjibjldfjllaaGreat

/- The reference's Valid of any bar. -/
namespace Go.Proofs.YtdcjibjldfjllaaGreat
open Go.RowKit

set_option maxRecDepth 100000 in
set_option maxHeartbeats 8000000 in
theorem ref_barValid (b : Bar) (w : World) (hf : b.x.size ≤ 1000000 ∧ b.y.size ≤ 1000000) :
    Calls Tryz.prog 63 #[b.val] w fun e w' => Past w w' ∧ e = .returned (.bool (validB b)) := by
  have HF := Lib.hid hf
  clear hf
  obtain ⟨d, x, y⟩ := b
  show Calls _ _ #[.agg #[.int .i64 d, .string x, .string y]] w _
  have HB1 : Hid ((w.alloc (.cells #[.int .i64 d, .string x, .string y] 94)).cell? ⟨w.heap.size, 1, none⟩ = some (.string x)) := by unfold Hid; simp [go_sem]
  have HB2 : Hid ((w.alloc (.cells #[.int .i64 d, .string x, .string y] 94)).cell? ⟨w.heap.size, 2, none⟩ = some (.string y)) := by unfold Hid; simp [go_sem]
  by_cases h1 : 0 ≤ d
  · have t1 : decide (0 ≤ d) = true := decide_eq_true h1
    by_cases h2 : d ≤ 4
    · have t2 : decide (d ≤ 4) = true := decide_eq_true h2
      obtain ⟨v3, h3⟩ : ∃ v, okV (byt x) = v := ⟨_, rfl⟩
      cases v3 with
      | false =>
        have HR : Hid (validB ⟨d, x, y⟩ = false) := by unfold validB; simp [h3, Hid]
        have H3 := Lib.hid h3
        go_enter Tryz.func63, Tryz.ntmps63
        go_wp2_with (first | (go_at_call 39; refine (ref_validT x _ HF.out.1).mono ?_; rintro e w1 ⟨hp1, rfl⟩; have k1 := hp1.cell HB1.out; have k2 := hp1.cell HB2.out))
        go_ret
        exact ⟨((Past.refl _).alloc _).trans hp1, by rw [HR.out]; rfl⟩
      | true =>
        obtain ⟨v4, h4⟩ : ∃ v, okE (byt y) = v := ⟨_, rfl⟩
        cases v4 with
        | false =>
          have HR : Hid (validB ⟨d, x, y⟩ = false) := by unfold validB; simp [h4, Hid]
          go_enter Tryz.func63, Tryz.ntmps63
          go_wp2_with (first | (go_at_call 39; refine (ref_validT x _ HF.out.1).mono ?_; rintro e w1 ⟨hp1, rfl⟩; have k1 := hp1.cell HB1.out; have k2 := hp1.cell HB2.out) | (go_at_call 41; refine (ref_endT y _ HF.out.2).mono ?_; rintro e w2 ⟨hp2, rfl⟩; have m1 := hp2.cell k1; have m2 := hp2.cell k2))
          go_ret
          exact ⟨(((Past.refl _).alloc _).trans hp1).trans hp2, by rw [HR.out]; rfl⟩
        | true =>
          obtain ⟨v5, h5⟩ : ∃ v, decide (cmpT (byt x) (byt y) ≤ 0) = v := ⟨_, rfl⟩
          have HR : Hid (validB ⟨d, x, y⟩ = v5) := by
            unfold validB
            show (decide (0 ≤ d) && decide (d ≤ 4) && okV (byt x) && okE (byt y) && decide (cmpT (byt x) (byt y) ≤ 0)) = v5
            rw [t1, t2, h3, h4, h5]; rfl
          have K3 : Hid (okE (byt x) = true) := by unfold Hid okE; rw [h3]; simp
          have K4 := Lib.hid h4
          go_enter Tryz.func63, Tryz.ntmps63
          go_wp2_with (first | (go_at_call 39; refine (ref_validT x _ HF.out.1).mono ?_; rintro e w1 ⟨hp1, rfl⟩; have k1 := hp1.cell HB1.out; have k2 := hp1.cell HB2.out) | (go_at_call 41; refine (ref_endT y _ HF.out.2).mono ?_; rintro e w2 ⟨hp2, rfl⟩; have m1 := hp2.cell k1; have m2 := hp2.cell k2) | (go_at_call 24; refine (fr_compareT x y _ HF.out.1 HF.out.2 K3.out K4.out).mono ?_; rintro e w3 ⟨hp3, rfl⟩))
          go_ret
          exact ⟨((((Past.refl _).alloc _).trans hp1).trans hp2).trans hp3, by rw [HR.out]; rfl⟩
    · have t2 : decide (d ≤ 4) = false := decide_eq_false h2
      have HR : Hid (validB ⟨d, x, y⟩ = false) := by unfold validB; simp [t2, Hid]
      go_enter Tryz.func63, Tryz.ntmps63
      go_wp2_with fail
      go_ret
      exact ⟨(Past.refl _).alloc _, by rw [HR.out]; rfl⟩
  · have t1 : decide (0 ≤ d) = false := decide_eq_false h1
    have HR : Hid (validB ⟨d, x, y⟩ = false) := by unfold validB; simp [t1, Hid]
    go_enter Tryz.func63, Tryz.ntmps63
    go_wp2_with fail
    go_ret
    exact ⟨(Past.refl _).alloc _, by rw [HR.out]; rfl⟩

end Go.Proofs.YtdcjibjldfjllaaGreat
