/- Helpers of the proof, joined: Dec11 Fr1 Fr2 Fr3 Lk Fr4 Fr5 Fr6. -/
import Derived.Test.YtdcjibjldfjllaaGreatPGi
import Derived.Test.YtdcjibjldfjllaaGreatPGj
import Derived.Test.YtdcjibjldfjllaaGreatPGf
import Derived.Test.YtdcjibjldfjllaaGreatPGk
set_option linter.unusedVariables false
set_option linter.unusedSimpArgs false
/- The reference's whole numbers: the greatest common divisor of short ones. -/
namespace Go.Proofs.YtdcjibjldfjllaaGreat
open Go.RowKit

theorem dtx_zero_iff (z : Int) : dtx z = [48] ↔ z = 0 := by
  constructor
  · intro h
    have h1 := dgr_dtx z
    rw [h] at h1
    have h2 : dgt z.natAbs = [] := by rw [← h1]; rfl
    rw [dgt_nil] at h2
    omega
  · rintro rfl; rfl
theorem toList_tZ (z : Int) : ((tZ z).toList == [48]) = decide (z = 0) := by
  rw [Bool.eq_iff_iff]
  simp only [beq_iff_eq, decide_eq_true_eq]
  rw [← dtx_zero_iff, ← byt_tZ, byt_of_toList]
  constructor
  · intro h; rw [h]; rfl
  · intro h
    have h1 : byt (tZ z) = byt (⟨#[48]⟩ : ByteArray) := by rw [byt_of_toList, h]; rfl
    rw [byt_inj h1, Lib.toList_data]

theorem dcount_short {z : Int} (h1 : -1000000000 < z) (h2 : z < 1000000000) : dcount (dtx z) ≤ 9 ∧ tlen z ≤ 10 := by
  have hd : (dgt z.natAbs).length ≤ 9 := Dg.toD_length_le (by omega) (show z.natAbs < 10 ^ 9 by omega)
  unfold dcount tlen
  rw [signL_dtx]
  unfold dtx
  by_cases h0 : z = 0
  · rw [if_pos h0, h0]; simp
  · rw [if_neg h0]
    by_cases hn : z < 0
    · rw [if_pos hn, decide_eq_true hn]; simp; omega
    · rw [if_neg hn, decide_eq_false hn]; simp; omega

theorem bodyL_dtx (z : Int) : bodyL (dtx z) = fil (dtx z) := by
  have hs := signL_dtx z
  unfold signL at hs
  have key : fil (((dgt z.natAbs).map (48 + ·)).reverse) = ((dgt z.natAbs).map (48 + ·)).reverse := by
    unfold fil
    rw [List.filter_eq_self]
    intro x hx
    rw [List.mem_reverse] at hx
    obtain ⟨y, hy, rfl⟩ := List.mem_map.1 hx
    have := dgt_dig z.natAbs y hy
    rw [bne_iff_ne]
    omega
  unfold bodyL
  by_cases hn : z < 0
  · rw [decide_eq_true hn] at hs
    rw [if_pos (of_decide_eq_true hs)]
    unfold dtx
    rw [if_neg (by omega), if_pos hn]
    have e : fil ([45] ++ ((dgt z.natAbs).map (48 + ·)).reverse) = fil (((dgt z.natAbs).map (48 + ·)).reverse) := by unfold fil; simp
    rw [e, key]
    rfl
  · rw [decide_eq_false hn] at hs
    rw [if_neg (of_decide_eq_false hs)]
    unfold dtx
    by_cases h0 : z = 0
    · rw [if_pos h0]; rfl
    · rw [if_neg h0, if_neg hn, List.nil_append, key]
theorem intV_dtx (z : Int) : intV (dtx z) = z := by
  unfold intV
  rw [signL_dtx, bodyL_dtx, decV_dtx]
  by_cases hn : z < 0
  · rw [decide_eq_true hn, if_pos rfl]; omega
  · rw [decide_eq_false hn, if_neg (by simp)]; omega

set_option maxRecDepth 100000 in
set_option maxHeartbeats 4000000 in
theorem ref_divisor_short (x y : Int) (w : World) (hx1 : -1000000000 < x) (hx2 : x < 1000000000) (hy1 : -1000000000 < y) (hy2 : y < 1000000000) :
    Calls Tryz.prog 150 #[.string (tZ x), .string (tZ y)] w fun e w' => Past w w' ∧ e = .returned (.string (tZ (Nat.gcd x.natAbs y.natAbs : Nat))) := by
  have HX := Lib.hid (dcount_short hx1 hx2).2
  have HY := Lib.hid (dcount_short hy1 hy2).2
  have HXB : Hid (x.natAbs < 1000000000 ∧ y.natAbs < 1000000000) := by unfold Hid; omega
  clear hx1 hx2 hy1 hy2
  go_enter Tryz.func150, Tryz.ntmps150
  go_wp2_with fail
  refine (ref_positive x _ (by have := HX.out; omega)).mono ?_
  rintro e w1 ⟨hp1, rfl⟩
  go_wp2_with fail
  refine (ref_positive y _ (by have := HY.out; omega)).mono ?_
  rintro e w2 ⟨hp2, rfl⟩
  go_wp2
  go_loopw [5, 6] (fun xv yv wr => ∃ a b : Nat, xv = .string (tZ a) ∧ yv = .string (tZ b) ∧ Hid (a < 1000000000 ∧ b < 1000000000) ∧ Hid (Nat.gcd a b = Nat.gcd x.natAbs y.natAbs) ∧ Hid (Past w2 wr)) (fun _ yv _ => match yv with | .string t => (intV (byt t)).toNat | _ => 0)
  case atStart => exact ⟨x.natAbs, y.natAbs, rfl, rfl, HXB, rfl, Past.refl _⟩
  case round =>
    obtain ⟨a, b, rfl, rfl, HAB, HG, HPR⟩ := hrel
    have hms : ∀ b : Nat, (intV (byt (tZ b))).toNat = b := fun b => by rw [byt_tZ, intV_dtx]; omega
    by_cases hb0 : b = 0
    · have HR : Hid (a = Nat.gcd x.natAbs y.natAbs) := by rw [← HG.out, hb0, Nat.gcd_zero_right]; exact rfl
      have ht : ((tZ b).toList == [48]) = true := by rw [toList_tZ, hb0]; rfl
      clear hb0
      go_wp2
      go_ret
      exact ⟨(hp1.trans hp2).trans HPR.out, by rw [← HR.out]; rfl⟩
    · have ht : ((tZ b).toList == [48]) = false := by rw [toList_tZ, decide_eq_false (by omega)]
      have HB0 : Hid (0 < b) := by unfold Hid; omega
      clear hb0
      have HA := Lib.hid (dcount_short (z := a) (by omega) (by have := HAB.out; omega))
      have HB := Lib.hid (dcount_short (z := b) (by omega) (by have := HAB.out; omega))
      go_wp2_with fail
      refine (ref_quotient_short a b _ (by have := HA.out; omega) (by have := HB.out; omega) HA.out.1 HB.out.1 (by have := HB0.out; omega) (Or.inl (by omega))).mono ?_
      rintro e w3 ⟨hp3, rfl⟩
      rw [← Int.natCast_emod]
      go_wp2
      go_roundw
      case rel => exact ⟨b, a % b, rfl, rfl, ⟨HAB.out.2, Nat.lt_trans (Nat.mod_lt _ HB0.out) HAB.out.2⟩, by rw [← HG.out, Nat.gcd_comm a b, Nat.gcd_rec b a, Nat.gcd_comm]; exact rfl, HPR.out.trans hp3⟩
      case measure =>
        show (intV (byt (tZ ((a : Int) % (b : Int))))).toNat < (intV (byt (tZ (b : Int)))).toNat
        rw [← Int.natCast_emod, hms, hms]
        exact Nat.mod_lt _ HB0.out

end Go.Proofs.YtdcjibjldfjllaaGreat

/- The reference's rational numbers: numerator and denominator of a text. -/
namespace Go.Proofs.YtdcjibjldfjllaaGreat
open Go.RowKit

theorem bef_first : ∀ {l : List Int} {i : Nat}, i < l.length → rd l i = 47 → (bef 47 l).length ≤ i
  | x :: l, 0, _, h => by
    have : x = 47 := h
    subst this
    simp [bef]
  | x :: l, i + 1, h, hr => by
    have h1 : rd l i = 47 := hr
    have ih := bef_first (l := l) (i := i) (by simpa using h) h1
    unfold bef at *
    rw [List.takeWhile_cons]
    split
    · simp; exact ih
    · simp
theorem bef_next : ∀ {l : List Int} {i : Nat}, i < l.length → rd l i ≠ 47 → i ≤ (bef 47 l).length → i + 1 ≤ (bef 47 l).length
  | x :: l, 0, _, h, _ => by
    have : x ≠ 47 := h
    unfold bef
    rw [List.takeWhile_cons, if_pos (by simpa using this)]
    simp
  | x :: l, i + 1, h, hr, hi => by
    have h1 : rd l i ≠ 47 := hr
    unfold bef at *
    rw [List.takeWhile_cons] at hi ⊢
    split at hi
    · rename_i hx
      rw [if_pos hx]
      have ih := bef_next (l := l) (i := i) (by simpa using h) h1 (by unfold bef; simp at hi; omega)
      unfold bef at ih
      simp
      omega
    · simp at hi

/-- Numerator, denominator, and whether there is a slash. -/
def splitV (s : ByteArray) : Value :=
  if 47 ∈ byt s then .tuple #[.string (txt (bef 47 (byt s))), .string (txt (aft 47 (byt s))), .bool true] else .tuple #[.string s, .string ⟨#[49]⟩, .bool false]

set_option maxRecDepth 100000 in
set_option maxHeartbeats 4000000 in
theorem ref_split (s : ByteArray) (w : World) (hs : s.size ≤ 1000000000) :
    Calls Tryz.prog 76 #[.string s] w fun e w' => Past w w' ∧ e = .returned (splitV s) := by
  obtain ⟨V, hV⟩ : ∃ V, splitV s = V := ⟨_, rfl⟩
  rw [hV]
  have HV := Lib.hid hV
  clear hV
  obtain ⟨n, hn⟩ : ∃ n, s.size = n := ⟨_, rfl⟩
  have HLN : Hid ((byt s).length = n) := by rw [← hn]; exact byt_length s
  have hnb : n ≤ 1000000000 := by omega
  go_enter Tryz.func76, Tryz.ntmps76
  go_wp2
  go_loopw [5] (fun iv wr => ∃ i : Nat, i ≤ n ∧ iv = .int .i64 i ∧ Hid (i ≤ (bef 47 (byt s)).length) ∧ Hid (Past w wr)) (fun iv _ => n - (intOf iv).toNat)
  case atStart => exact ⟨0, Nat.zero_le _, rfl, Nat.zero_le _, Past.refl w⟩
  case round =>
    obtain ⟨i, hi, rfl, HB, HP⟩ := hrel
    by_cases hin : i < n
    · have his : i < s.size := by omega
      obtain ⟨y, hy⟩ : ∃ y : Int, (((s[i]'his).toNat : Nat) : Int) = y := ⟨_, rfl⟩
      have hyr : y = rd (byt s) i := by rw [← hy]; exact byt_at s i his
      have HYR := Lib.hid hyr
      clear hyr
      have h0i : (0 : Int) ≤ i := by omega
      have h1i : (i : Int) < s.size := by omega
      have hil : i < (byt s).length := by rw [byt_length]; exact his
      have HIL := Lib.hid hil
      clear hil
      by_cases h47 : y = 47
      · have hb : (y == 47) = true := by simp [h47]
        have HE : Hid ((bef 47 (byt s)).length = i) := by
          have h1 := bef_first HIL.out (by rw [← HYR.out]; exact h47)
          have h2 := HB.out
          unfold Hid
          omega
        have HVV : Hid (V = .tuple #[.string (s.extract 0 i), .string (s.extract (i + 1) s.size), .bool true]) := by
          have hm : (47 : Int) ∈ byt s := (bef_lt 47 (byt s)).1 (by rw [HE.out]; exact HIL.out)
          rw [← HV.out]
          unfold splitV
          rw [if_pos hm, extract_txt, extract_txt, List.drop_zero, ← byt_length, List.take_length]
          unfold aft
          rw [HE.out]
          have := bef_eq_take 47 (byt s)
          rw [HE.out] at this
          rw [this]
          exact rfl
        clear h47
        have hle : (i : Int) ≤ s.size := by omega
        have hle1 : (i : Int) + 1 ≤ s.size := by omega
        have hle2 : i + 1 ≤ s.size := by omega
        go_wp2
        repeat (go_quiet (fail); try go_wp2)
        go_ret3
        exact ⟨HP.out.drewN _, by rw [HVV.out, hn]; rfl⟩
      · have hb : (y == 47) = false := by simp [h47]
        have HB2 := Lib.hid (bef_next HIL.out (by rw [← HYR.out]; exact h47) HB.out)
        clear h47
        go_wp2
        go_roundw
        case rel => exact ⟨i + 1, by omega, by go_num, HB2, HP⟩
        case measure => simp [intOf]; omega
    · have HVV : Hid (V = .tuple #[.string s, .string ⟨#[49]⟩, .bool false]) := by
        have hm : ¬ (47 : Int) ∈ byt s := by
          intro h
          have h1 := (bef_lt 47 (byt s)).2 h
          have h2 := HB.out
          have h3 := HLN.out
          omega
        rw [← HV.out]
        unfold splitV
        rw [if_neg hm]
        exact rfl
      go_wp2
      go_ret3
      exact ⟨HP.out, by rw [HVV.out]; rfl⟩

end Go.Proofs.YtdcjibjldfjllaaGreat

/- The reference's rational numbers: the texts of numbers. -/
namespace Go.Proofs.YtdcjibjldfjllaaGreat
open Go.RowKit

def tQ (q : Rat) : ByteArray := txt (rtx q)
theorem no_slash (z : Int) : (47 : Int) ∉ dtx z := by
  intro h
  unfold dtx at h
  split at h
  · simp at h
  · rw [List.mem_append] at h
    rcases h with h | h
    · split at h <;> simp at h
    · rw [List.mem_reverse] at h
      obtain ⟨y, hy, he⟩ := List.mem_map.1 h
      have := dgt_dig z.natAbs y hy
      omega
theorem rtx_byt (q : Rat) : Byt (rtx q) := by
  unfold rtx
  split
  · exact dtx_byt _
  · exact ((dtx_byt _).append (by intro x hx; simp at hx; omega)).append (dtx_byt _)
theorem byt_tQ (q : Rat) : byt (tQ q) = rtx q := byt_txt (rtx_byt q)
theorem bef_app {l m : List Int} (h : (47 : Int) ∉ l) : bef 47 (l ++ [47] ++ m) = l := by
  induction l with
  | nil => simp [bef]
  | cons x xs ih =>
    have hx : x ≠ 47 := fun e => h (by simp [e])
    have h2 : (47 : Int) ∉ xs := fun e => h (by simp [e])
    have := ih h2
    unfold bef at *
    simp only [List.cons_append, List.takeWhile_cons]
    rw [if_pos (by simpa using hx), this]
theorem tZ_one : tZ ((1 : Nat) : Int) = ⟨#[49]⟩ := by
  unfold tZ dtx dgt
  rw [if_neg (by simp), if_neg (by simp), show ((1 : Nat) : Int).natAbs = 1 from rfl, Dg.toD_pos (by omega) (by omega), show 1 / 10 = 0 from rfl, Dg.toD_zero]
  rfl
theorem split_tQ (q : Rat) : splitV (tQ q) = .tuple #[.string (tZ q.num), .string (tZ (q.den : Int)), .bool (!decide (q.den = 1))] := by
  unfold splitV
  rw [byt_tQ]
  unfold rtx
  by_cases h : q.den = 1
  · rw [if_pos h, if_neg (no_slash _), h]
    unfold tQ rtx
    rw [if_pos h, tZ_one]
    rfl
  · rw [if_neg h, if_pos (by simp)]
    unfold aft
    rw [bef_app (no_slash _)]
    simp [h, tZ]

end Go.Proofs.YtdcjibjldfjllaaGreat

/- The reference's rational numbers: comparison. -/
namespace Go.Proofs.YtdcjibjldfjllaaGreat
open Go.RowKit

def tE (e : Option Rat) : ByteArray := txt (etx e)
theorem dtx_inj {x y : Int} (h : dtx x = dtx y) : x = y := by rw [← intV_dtx x, h, intV_dtx]
theorem toList_one (z : Int) : ((tZ z).toList == [49]) = decide (z = 1) := by
  rw [Bool.eq_iff_iff]
  simp only [beq_iff_eq, decide_eq_true_eq]
  have e1 : (tZ 1).toList = [49] := by rw [show tZ 1 = ⟨#[49]⟩ from tZ_one, Lib.toList_data]
  constructor
  · intro h
    rw [← e1] at h
    have h2 := toList_inj h
    have h3 : byt (tZ z) = byt (tZ 1) := by rw [h2]
    rw [byt_tZ, byt_tZ] at h3
    exact dtx_inj h3
  · rintro rfl; exact e1
theorem rtx_chars (q : Rat) : ∀ x ∈ rtx q, x ≤ 57 := by
  have hd : ∀ z : Int, ∀ x ∈ dtx z, x ≤ 57 := by
    intro z x h
    unfold dtx at h
    split at h
    · simp at h; omega
    · rw [List.mem_append] at h
      rcases h with h | h
      · split at h <;> simp at h; omega
      · rw [List.mem_reverse] at h
        obtain ⟨y, hy, he⟩ := List.mem_map.1 h
        have := dgt_dig z.natAbs y hy
        omega
  intro x h
  unfold rtx at h
  split at h
  · exact hd _ x h
  · simp only [List.mem_append, List.mem_singleton] at h
    rcases h with (h | h) | h
    · exact hd _ x h
    · omega
    · exact hd _ x h
theorem isInf_rtx (q : Rat) : isInf (rtx q) = false := by
  unfold isInf
  rw [decide_eq_false_iff_not]
  intro h
  have := rtx_chars q 105 (by rw [h]; simp)
  omega
theorem inf_tQ (q : Rat) : ((tQ q).toList == [105, 110, 102]) = false := by rw [inf_eq, byt_tQ, isInf_rtx]

theorem tlen_le (z : Int) : tlen z ≤ (dgt z.natAbs).length + 1 := by
  unfold tlen dtx
  by_cases h : z = 0
  · rw [if_pos h]; simp
  · rw [if_neg h, List.length_append, List.length_reverse, List.length_map]
    have : (if z < 0 then [45] else ([] : List Int)).length ≤ 1 := by split <;> simp
    omega
theorem tlen_mul (x y : Int) : tlen (x * y) ≤ tlen x + tlen y + 1 := by
  have h1 := dgt_length_le x
  have h2 := dgt_length_le y
  have h3 := tlen_le (x * y)
  have h4 : (dgt (x * y).natAbs).length ≤ (dgt x.natAbs).length + (dgt y.natAbs).length := by
    have a1 := Dg.val_lt (b := 10) (by omega) (dgt_dig x.natAbs)
    have a2 := Dg.val_lt (b := 10) (by omega) (dgt_dig y.natAbs)
    rw [dgt_val] at a1 a2
    refine Dg.toD_length_le (by omega) ?_
    rw [Int.natAbs_mul, Nat.pow_add]
    have b1 : x.natAbs < 10 ^ (dgt x.natAbs).length := by
      have : ((x.natAbs : Nat) : Int) < ((10 ^ (dgt x.natAbs).length : Nat) : Int) := by rw [Int.natCast_pow]; exact a1
      exact Int.ofNat_lt.1 this
    have b2 : y.natAbs < 10 ^ (dgt y.natAbs).length := by
      have : ((y.natAbs : Nat) : Int) < ((10 ^ (dgt y.natAbs).length : Nat) : Int) := by rw [Int.natCast_pow]; exact a2
      exact Int.ofNat_lt.1 this
    exact Nat.mul_lt_mul'' b1 b2
  omega

/-- How long the parts of a rational number are, as texts. -/
def tlQ (q : Rat) : Nat := max (tlen q.num) (tlen (q.den : Int))
theorem tQ_size (q : Rat) : (tQ q).size ≤ 2 * tlQ q + 1 := by
  unfold tQ
  rw [txt_size]
  unfold rtx tlQ tlen
  split
  · omega
  · simp only [List.length_append, List.length_singleton]
    omega

end Go.Proofs.YtdcjibjldfjllaaGreat

/- Which texts are read as numbers, and as which: only the text of the number itself. -/
namespace Go.Proofs.YtdcjibjldfjllaaGreat
open Go.RowKit

theorem bodyL_dtx' {z : Int} (h : z ≠ 0) : bodyL (dtx z) = ((dgt z.natAbs).map (48 + ·)).reverse := by
  by_cases hn : z < 0
  · unfold bodyL dtx
    rw [if_neg h, if_pos hn]
    rfl
  · have hs := signL_dtx z
    unfold signL at hs
    rw [decide_eq_false hn] at hs
    unfold bodyL
    rw [if_neg (of_decide_eq_false hs)]
    unfold dtx
    rw [if_neg h, if_neg hn]
    rfl
theorem okI_dtx (z : Int) : okI (dtx z) = true := by
  by_cases h : z = 0
  · subst h; decide
  · have hn : dgt z.natAbs ≠ [] := by rw [Ne, dgt_nil]; omega
    have hall : (((dgt z.natAbs).map (48 + ·)).reverse).all isDg = true := by
      rw [List.all_eq_true]
      intro x hx
      rw [List.mem_reverse] at hx
      obtain ⟨y, hy, rfl⟩ := List.mem_map.1 hx
      have := dgt_dig z.natAbs y hy
      unfold isDg
      simp only [Bool.and_eq_true, decide_eq_true_eq]
      omega
    have hhead : (((dgt z.natAbs).map (48 + ·)).reverse).head? ≠ some 48 := by
      rw [List.head?_reverse, List.getLast?_map, List.getLast?_eq_some_getLast hn]
      have := Dg.toD_can 10 (by omega) z.natAbs hn
      intro e
      simp only [Option.map_some, Option.some.injEq] at e
      unfold dgt at e
      omega
    unfold okI
    rw [bodyL_dtx' h, hall, decide_eq_false hhead]
    simp [hn]
theorem bodyL_back {l : List Int} : l = (if signL l then [45] else []) ++ bodyL l := by
  unfold signL bodyL
  by_cases h : l.head? = some 45
  · simp only [h, decide_true, if_true]
    cases l with
    | nil => cases h
    | cons x xs => simp at h; subst h; rfl
  · simp [h]
theorem digL_back {b : List Int} : b = ((digL b).map (48 + ·)).reverse := by
  unfold digL
  rw [List.map_reverse, List.reverse_reverse, List.map_map]
  conv => lhs; rw [← List.map_id b]
  apply List.map_congr_left
  intro x _
  simp only [id, Function.comp]
  omega
theorem dtx_intV {l : List Int} (h : okI l = true) : l = dtx (intV l) := by
  have hb := bodyL_back (l := l)
  unfold okI at h
  simp only [Bool.and_eq_true, Bool.not_eq_true', Bool.and_eq_false_iff, Bool.or_eq_false_iff, decide_eq_false_iff_not, List.isEmpty_eq_false_iff] at h
  obtain ⟨⟨h1, h2⟩, h3⟩ := h
  by_cases h0 : (bodyL l).head? = some 48
  · rcases h3 with h3 | ⟨h3, h4⟩
    · exact absurd h0 h3
    · rw [h4] at hb
      have hl : bodyL l = [48] := by
        cases hc : bodyL l with
        | nil => exact absurd hc h1
        | cons x xs =>
          rw [hc] at h0 h3
          simp only [List.head?_cons, Option.some.injEq] at h0
          cases xs with
          | nil => rw [h0]
          | cons y ys => simp at h3
      unfold intV
      rw [h4, hl]
      rw [hl] at hb
      rw [hb]
      decide
  · have hd := digL_dig h2
    have hne : digL (bodyL l) ≠ [] := by
      intro e
      have := digL_length (bodyL l)
      rw [e] at this
      exact h1 (List.eq_nil_of_length_eq_zero this.symm)
    have hc : Dg.Can (digL (bodyL l)) := by
      intro hn e
      apply h0
      rw [digL_back (b := bodyL l), List.head?_reverse, List.getLast?_map, List.getLast?_eq_some_getLast hn, e]
      rfl
    have hv : 0 < Dg.val 10 (digL (bodyL l)) := Dg.val_pos_of_can (b := 10) (by omega) hd hc hne
    have ht : digL (bodyL l) = Dg.toD 10 (Dg.val 10 (digL (bodyL l))).toNat := Dg.eq_toD (b := 10) (by omega) hd hc
    have hdv : decV (bodyL l) = Dg.val 10 (digL (bodyL l)) := rfl
    have hdg : dgt (Dg.val 10 (digL (bodyL l))).toNat = digL (bodyL l) := ht.symm
    have hbb := digL_back (b := bodyL l)
    by_cases hs : signL l = true
    · unfold intV
      rw [if_pos hs, hdv]
      unfold dtx
      rw [if_neg (by omega), if_pos (by omega), show (-Dg.val 10 (digL (bodyL l))).natAbs = (Dg.val 10 (digL (bodyL l))).toNat by omega, hdg, ← hbb]
      rw [if_pos hs] at hb
      exact hb
    · unfold intV
      rw [if_neg hs, hdv]
      unfold dtx
      rw [if_neg (by omega), if_neg (by omega), show (Dg.val 10 (digL (bodyL l))).natAbs = (Dg.val 10 (digL (bodyL l))).toNat by omega, hdg, ← hbb]
      rw [if_neg hs] at hb
      exact hb

theorem aft_app {l m : List Int} (h : (47 : Int) ∉ l) : aft 47 (l ++ [47] ++ m) = m := by
  unfold aft
  rw [bef_app h]
  simp
theorem slash_app (l m : List Int) : (47 : Int) ∈ l ++ [47] ++ m := by simp
theorem split_back {l : List Int} (h : (47 : Int) ∈ l) : l = bef 47 l ++ [47] ++ aft 47 l := by
  induction l with
  | nil => cases h
  | cons x xs ih =>
    by_cases hx : x = 47
    · subst hx; simp [bef, aft]
    · have h' : (47 : Int) ∈ xs := by
        rcases List.mem_cons.1 h with e | e
        · exact absurd e.symm hx
        · exact e
      have := ih h'
      have e1 : bef 47 (x :: xs) = x :: bef 47 xs := by unfold bef; rw [List.takeWhile_cons, if_pos (by simpa using hx)]
      unfold aft at this ⊢
      rw [e1]
      simp only [List.length_cons, List.drop_succ_cons, List.cons_append]
      rw [← this]
theorem rtx_num {q : Rat} (h : q.den = 1) : rtx q = dtx q.num := by unfold rtx; rw [if_pos h]
theorem rtx_den {q : Rat} (h : q.den ≠ 1) : rtx q = dtx q.num ++ [47] ++ dtx (q.den : Int) := by unfold rtx; rw [if_neg h]
theorem okR_rtx (q : Rat) : okR (rtx q) = true := by
  unfold okR
  by_cases h : q.den = 1
  · rw [rtx_num h, if_neg (no_slash _)]; exact okI_dtx _
  · rw [rtx_den h, if_pos (slash_app _ _), bef_app (no_slash _), aft_app (no_slash _), intV_dtx, intV_dtx, okI_dtx, okI_dtx]
    have hg : Nat.gcd q.num.natAbs q.den = 1 := q.reduced
    have hd := q.den_pos
    have hn : q.num ≠ 0 := by
      intro e
      rw [e] at hg
      simp at hg
      exact h hg
    simp only [Int.natAbs_natCast, hg]
    simp [hn]
    omega
theorem valR_rtx (q : Rat) : valR (rtx q) = q := by
  unfold valR
  rw [if_pos (okR_rtx q)]
  unfold ratV
  by_cases h : q.den = 1
  · rw [rtx_num h, if_neg (no_slash _), intV_dtx]
    exact Rat.ext (by simp) (by simp [h])
  · rw [rtx_den h, if_pos (slash_app _ _), bef_app (no_slash _), aft_app (no_slash _), intV_dtx, intV_dtx]
    simp [Rat.mkRat_self]
theorem rtx_valR {l : List Int} (h : okR l = true) : l = rtx (valR l) := by
  unfold valR
  rw [if_pos h]
  unfold okR at h
  unfold ratV
  by_cases hs : (47 : Int) ∈ l
  · rw [if_pos hs] at h ⊢
    simp only [Bool.and_eq_true, decide_eq_true_eq, Bool.not_eq_true', beq_eq_false_iff_ne, beq_iff_eq] at h
    obtain ⟨⟨⟨⟨h1, h2⟩, h3⟩, h4⟩, h5⟩ := h
    have hb := split_back hs
    have e1 := dtx_intV h1
    have e2 := dtx_intV h2
    generalize intV (bef 47 l) = x at *
    generalize intV (aft 47 l) = y at *
    have hy : y.toNat ≠ 0 := by omega
    have hg : Nat.gcd x.natAbs y.toNat = 1 := by rw [← h5]; congr 1; omega
    have hg' : Nat.gcd y.toNat x.natAbs = 1 := by rw [Nat.gcd_comm]; exact hg
    have hy' : ¬ y ≤ 0 := by omega
    have hn : (mkRat x y.toNat).num = x := by rw [Rat.num_mkRat]; simp [hg, hg', hy, hy']
    have hd : (mkRat x y.toNat).den = y.toNat := by rw [Rat.den_mkRat]; simp [hg, hg', hy, hy']
    rw [rtx_den (by rw [hd]; omega), hn, hd, show ((y.toNat : Nat) : Int) = y by omega, ← e1, ← e2]
    exact hb
  · rw [if_neg hs] at h ⊢
    rw [rtx_num (by simp)]
    simp only [Rat.num_intCast]
    exact dtx_intV h
theorem eV_rtx (q : Rat) : eV (rtx q) = some q := by
  unfold eV
  rw [isInf_rtx]
  simp [valR_rtx]
end Go.Proofs.YtdcjibjldfjllaaGreat

/- The reference's rational numbers: Compare. -/
namespace Go.Proofs.YtdcjibjldfjllaaGreat
open Go.RowKit

def tlE : Option Rat → Nat
  | none => 0
  | some q => tlQ q

set_option maxRecDepth 100000 in
set_option maxHeartbeats 4000000 in
theorem fr_compare (e f : Option Rat) (w : World) (he : tlE e ≤ 10000000) (hf : tlE f ≤ 10000000) :
    Calls Tryz.prog 24 #[.string (tE e), .string (tE f)] w fun r w' => Past w w' ∧ r = .returned (.int .i64 (cmpE e f)) := by
  have hinf : ((tE none).toList == [105, 110, 102]) = true := by rw [inf_eq, show byt (tE none) = [105, 110, 102] from rfl]; rfl
  cases e with
  | none =>
    cases f with
    | none =>
      go_enter Tryz.func24, Tryz.ntmps24
      go_wp2
      go_ret
      exact ⟨Past.refl w, rfl⟩
    | some r =>
      have h2 : ((tE (some r)).toList == [105, 110, 102]) = false := inf_tQ r
      go_enter Tryz.func24, Tryz.ntmps24
      go_wp2
      go_ret
      exact ⟨Past.refl w, rfl⟩
  | some q =>
    have h1 : ((tE (some q)).toList == [105, 110, 102]) = false := inf_tQ q
    cases f with
    | none =>
      go_enter Tryz.func24, Tryz.ntmps24
      go_wp2
      go_ret
      exact ⟨Past.refl w, rfl⟩
    | some r =>
      have h2 : ((tE (some r)).toList == [105, 110, 102]) = false := inf_tQ r
      have hs1 : (tE (some q)).size ≤ 1000000000 := by have := tQ_size q; have h : tlQ q ≤ 10000000 := he; show (tQ q).size ≤ _; omega
      have hs2 : (tE (some r)).size ≤ 1000000000 := by have := tQ_size r; have h : tlQ r ≤ 10000000 := hf; show (tQ r).size ≤ _; omega
      have c1 : ∀ w, Calls Tryz.prog 76 #[.string (tE (some q))] w fun e w' => Past w w' ∧ e = .returned (.tuple #[.string (tZ q.num), .string (tZ (q.den : Int)), .bool (!decide (q.den = 1))]) := fun w => by have h := ref_split (tE (some q)) w hs1; rw [show splitV (tE (some q)) = _ from split_tQ q] at h; exact h
      have c2 : ∀ w, Calls Tryz.prog 76 #[.string (tE (some r))] w fun e w' => Past w w' ∧ e = .returned (.tuple #[.string (tZ r.num), .string (tZ (r.den : Int)), .bool (!decide (r.den = 1))]) := fun w => by have h := ref_split (tE (some r)) w hs2; rw [show splitV (tE (some r)) = _ from split_tQ r] at h; exact h
      have C1 := Lib.hid c1
      have C2 := Lib.hid c2
      have HE : Hid (tlQ q ≤ 10000000) := he
      have HF : Hid (tlQ r ≤ 10000000) := hf
      have HT : Hid (tlen q.num ≤ 10000000 ∧ tlen (q.den : Int) ≤ 10000000 ∧ tlen r.num ≤ 10000000 ∧ tlen (r.den : Int) ≤ 10000000) := by
        have a := HE.out
        have b := HF.out
        unfold tlQ at a b
        unfold Hid
        omega
      have hn1 := toList_one (q.den : Int)
      have hn2 := toList_one (r.den : Int)
      obtain ⟨b1, hb1⟩ : ∃ b, decide ((q.den : Int) = 1) = b := ⟨_, rfl⟩
      obtain ⟨b2, hb2⟩ : ∃ b, decide ((r.den : Int) = 1) = b := ⟨_, rfl⟩
      rw [hb1] at hn1
      rw [hb2] at hn2
      have HB1 := Lib.hid hb1
      have HB2 := Lib.hid hb2
      clear c1 c2 hb1 hb2 he hf hs1 hs2
      by_cases hbb : b1 = true ∧ b2 = true
      · obtain ⟨rfl, rfl⟩ := hbb
        have HR : Hid (cmpE (some q) (some r) = cmpZ q.num r.num) := by
          have a := of_decide_eq_true HB1.out
          have b := of_decide_eq_true HB2.out
          show cmpQ q r = _
          unfold cmpQ
          rw [a, b, Int.mul_one, Int.mul_one]
        go_enter Tryz.func24, Tryz.ntmps24
        go_wp2_with fail
        refine (C1.out _).mono ?_
        rintro e w1 ⟨hp1, rfl⟩
        go_wp2_with fail
        refine (C2.out _).mono ?_
        rintro e w2 ⟨hp2, rfl⟩
        go_wp2_with fail
        refine (ref_compare q.num r.num _ (by have := HT.out; omega) (by have := HT.out; omega)).mono ?_
        rintro e w3 ⟨hp3, rfl⟩
        go_wp2
        go_ret
        exact ⟨(hp1.trans hp2).trans hp3, by rw [HR.out]; rfl⟩
      · have HR : Hid (cmpE (some q) (some r) = cmpZ (q.num * r.den) (r.num * q.den)) := rfl
        cases b1 with
        | false =>
          go_enter Tryz.func24, Tryz.ntmps24
          go_wp2_with fail
          refine (C1.out _).mono ?_
          rintro e w1 ⟨hp1, rfl⟩
          go_wp2_with fail
          refine (C2.out _).mono ?_
          rintro e w2 ⟨hp2, rfl⟩
          go_wp2_with fail
          refine (ref_times q.num (r.den : Int) _ (by have := HT.out; omega) (by have := HT.out; omega)).mono ?_
          rintro e w3 ⟨hp3, rfl⟩
          go_wp2_with fail
          refine (ref_times r.num (q.den : Int) _ (by have := HT.out; omega) (by have := HT.out; omega)).mono ?_
          rintro e w4 ⟨hp4, rfl⟩
          go_wp2_with fail
          refine (ref_compare (q.num * r.den) (r.num * q.den) _ (by have := HT.out; have := tlen_mul q.num r.den; omega) (by have := HT.out; have := tlen_mul r.num q.den; omega)).mono ?_
          rintro e w5 ⟨hp5, rfl⟩
          go_wp2
          go_ret
          exact ⟨(((hp1.trans hp2).trans hp3).trans hp4).trans hp5, by rw [HR.out]; rfl⟩
        | true =>
          have hb2f : b2 = false := by cases b2 with
            | false => rfl
            | true => exact absurd ⟨rfl, rfl⟩ hbb
          subst hb2f
          clear hbb
          go_enter Tryz.func24, Tryz.ntmps24
          go_wp2_with fail
          refine (C1.out _).mono ?_
          rintro e w1 ⟨hp1, rfl⟩
          go_wp2_with fail
          refine (C2.out _).mono ?_
          rintro e w2 ⟨hp2, rfl⟩
          go_wp2_with fail
          refine (ref_times q.num (r.den : Int) _ (by have := HT.out; omega) (by have := HT.out; omega)).mono ?_
          rintro e w3 ⟨hp3, rfl⟩
          go_wp2_with fail
          refine (ref_times r.num (q.den : Int) _ (by have := HT.out; omega) (by have := HT.out; omega)).mono ?_
          rintro e w4 ⟨hp4, rfl⟩
          go_wp2_with fail
          refine (ref_compare (q.num * r.den) (r.num * q.den) _ (by have := HT.out; have := tlen_mul q.num r.den; omega) (by have := HT.out; have := tlen_mul r.num q.den; omega)).mono ?_
          rintro e w5 ⟨hp5, rfl⟩
          go_wp2
          go_ret
          exact ⟨(((hp1.trans hp2).trans hp3).trans hp4).trans hp5, by rw [HR.out]; rfl⟩

end Go.Proofs.YtdcjibjldfjllaaGreat

/- The reference's rational numbers: quotients of short numbers. -/
namespace Go.Proofs.YtdcjibjldfjllaaGreat
open Go.RowKit

theorem tQ_one {q : Rat} (h : q.den = 1) : tQ q = tZ q.num := by unfold tQ rtx tZ; rw [if_pos h]
theorem tQ_more {q : Rat} (h : q.den ≠ 1) : tQ q = tZ q.num ++ ⟨#[47]⟩ ++ tZ (q.den : Int) := by
  unfold tQ rtx tZ
  rw [if_neg h, txt_append, txt_append]
  rfl

set_option maxRecDepth 100000 in
set_option maxHeartbeats 4000000 in
theorem fr_reduced (x y : Int) (w : World) (hx1 : -1000000000 < x) (hx2 : x < 1000000000) (hy1 : 0 < y) (hy2 : y < 1000000000) :
    Calls Tryz.prog 94 #[.string (tZ x), .string (tZ y)] w fun r w' => Past w w' ∧ r = .returned (.string (tQ (mkRat x y.toNat))) := by
  obtain ⟨g, hg⟩ : ∃ g : Nat, Nat.gcd x.natAbs y.natAbs = g := ⟨_, rfl⟩
  have hg0 : 0 < g := by rw [← hg]; exact Nat.gcd_pos_of_pos_right _ (by omega)
  have hgy : g ≤ y.natAbs := by rw [← hg]; exact Nat.gcd_le_right _ (by omega)
  have hdx : (g : Int) ∣ x := by rw [← hg, ← Int.dvd_natAbs]; exact Int.natCast_dvd_natCast.2 (Nat.gcd_dvd_left _ _)
  have hdy : (g : Int) ∣ y := by rw [← hg, ← Int.dvd_natAbs]; exact Int.natCast_dvd_natCast.2 (Nat.gcd_dvd_right _ _)
  have e0 : y.natAbs = y.toNat := by omega
  have e1 : y.toNat ≠ 0 := by omega
  have HN : Hid ((mkRat x y.toNat).num = x / g) := by rw [Rat.num_mkRat, if_neg e1, Nat.gcd_comm, ← e0, hg]; exact rfl
  have HD : Hid (((mkRat x y.toNat).den : Int) = y / g) := by
    rw [Rat.den_mkRat, if_neg e1, Nat.gcd_comm, ← e0, hg, Int.natCast_ediv]
    have : ((y.natAbs : Nat) : Int) = y := by omega
    rw [this]
    exact rfl
  have HG := Lib.hid hg
  have HDX := Lib.hid hdx
  have HDY := Lib.hid hdy
  obtain ⟨q, hq⟩ : ∃ q, mkRat x y.toNat = q := ⟨_, rfl⟩
  rw [hq] at HN HD ⊢
  have SX := Lib.hid (dcount_short hx1 hx2)
  have SY := Lib.hid (dcount_short (z := y) (by omega) hy2)
  have SG := Lib.hid (dcount_short (z := (g : Int)) (by omega) (by omega))
  have HB : Hid (-1000000000 < x ∧ x < 1000000000 ∧ 0 < y ∧ y < 1000000000 ∧ 0 < g) := ⟨hx1, hx2, hy1, hy2, hg0⟩
  have hc : ¬ cmpZ y 0 < 0 := by unfold cmpZ; rw [if_neg (by omega)]; split <;> omega
  have hcb : decide (cmpZ y 0 < 0) = false := decide_eq_false hc
  have h01 := toList_one (g : Int)
  clear hg hdx hdy e0 e1 hq hx1 hx2 hy1 hy2 hg0 hgy hc
  have zero : (⟨#[48]⟩ : ByteArray) = tZ 0 := rfl
  have c0 : ∀ w, Calls Tryz.prog 77 #[.string (tZ y), .string ⟨#[48]⟩] w fun e w' => Past w w' ∧ e = .returned (.int .i64 (cmpZ y 0)) := fun w => ref_compare y 0 w (by have := SY.out; omega) (by decide)
  have c1 : ∀ w, Calls Tryz.prog 150 #[.string (tZ x), .string (tZ y)] w fun e w' => Past w w' ∧ e = .returned (.string (tZ (g : Int))) := fun w => by
    have h := ref_divisor_short x y w HB.out.1 HB.out.2.1 (by have := HB.out; omega) HB.out.2.2.2.1
    rw [HG.out] at h
    exact h
  have C0 := Lib.hid c0
  have C1 := Lib.hid c1
  clear c0 c1 zero
  obtain ⟨bd, hbd⟩ : ∃ b, decide ((q.den : Int) = 1) = b := ⟨_, rfl⟩
  have hd1 := toList_one (q.den : Int)
  rw [hbd] at hd1
  have HBD := Lib.hid hbd
  clear hbd
  obtain ⟨bg, hbg⟩ : ∃ b, decide ((g : Int) = 1) = b := ⟨_, rfl⟩
  rw [hbg] at h01
  have HBG := Lib.hid hbg
  clear hbg
  have HSN : Hid (tlen q.num ≤ 10 ∧ tlen (q.den : Int) ≤ 10) := by
    rw [HN.out, HD.out]
    have hb := HB.out
    have hg1 : (1 : Int) ≤ g := by omega
    refine ⟨(dcount_short ?_ ?_).2, (dcount_short ?_ ?_).2⟩
    · rcases Int.lt_or_le x 0 with h | h
      · have h2 : x ≤ x / g := by
          obtain ⟨k, rfl⟩ := HDX.out
          rw [Int.mul_ediv_cancel_left _ (by omega)]
          rcases Int.lt_or_le 0 k with h3 | h3
          · have := Int.mul_nonneg (show (0 : Int) ≤ g by omega) (show 0 ≤ k by omega); omega
          · have h4 : (g : Int) * k ≤ 1 * k := Int.mul_le_mul_of_nonpos_right hg1 h3
            omega
        omega
      · have := Int.ediv_nonneg h (show (0 : Int) ≤ g by omega)
        omega
    · rcases Int.lt_or_le x 0 with h | h
      · have := Int.ediv_neg_of_neg_of_pos h (show (0 : Int) < g by omega)
        omega
      · have := Int.ediv_le_self (g : Int) h
        omega
    · have := Int.ediv_nonneg (show 0 ≤ y by omega) (show (0 : Int) ≤ g by omega)
      omega
    · have := Int.ediv_le_self (g : Int) (show 0 ≤ y by omega)
      omega
  have z1 : (tZ q.num).size ≤ 10 := by rw [tZ_size]; exact HSN.out.1
  have z2 : (tZ (q.den : Int)).size ≤ 10 := by rw [tZ_size]; exact HSN.out.2
  have hs1 : ¬ 9223372036854775807 < (tZ q.num).size + 1 := by omega
  have hs2 : ¬ 9223372036854775807 < (tZ q.num).size + 1 + (tZ (q.den : Int)).size := by omega
  clear z1 z2
  cases bg with
  | true =>
    have hx : x = q.num := by rw [HN.out, of_decide_eq_true HBG.out, Int.ediv_one]
    have hy : y = (q.den : Int) := by rw [HD.out, of_decide_eq_true HBG.out, Int.ediv_one]
    clear HN HD HDX HDY HB SX SY HG
    subst hx
    subst hy
    go_enter Tryz.func94, Tryz.ntmps94
    go_wp2_with fail
    refine (C0.out _).mono ?_
    rintro e w1 ⟨hp1, rfl⟩
    go_wp2_with fail
    refine (C1.out _).mono ?_
    rintro e w2 ⟨hp2, rfl⟩
    cases bd with
    | true =>
      have HT : Hid (tQ q = tZ q.num) := tQ_one (by have := of_decide_eq_true HBD.out; omega)
      go_wp2
      go_ret
      exact ⟨hp1.trans hp2, by rw [HT.out]; rfl⟩
    | false =>
      have HT : Hid (tQ q = tZ q.num ++ ⟨#[47]⟩ ++ tZ (q.den : Int)) := tQ_more (by have := of_decide_eq_false HBD.out; omega)
      go_wp2
      go_ret
      exact ⟨hp1.trans hp2, by rw [HT.out]; rfl⟩
  | false =>
    go_enter Tryz.func94, Tryz.ntmps94
    go_wp2_with fail
    refine (C0.out _).mono ?_
    rintro e w1 ⟨hp1, rfl⟩
    go_wp2_with fail
    refine (C1.out _).mono ?_
    rintro e w2 ⟨hp2, rfl⟩
    go_wp2_with fail
    refine (ref_quotient_short x g _ (by have := SX.out; omega) (by have := SG.out; omega) SX.out.1 SG.out.1 (by have := HB.out; omega) (Or.inr HDX.out)).mono ?_
    rintro e w3 ⟨hp3, rfl⟩
    go_wp2_with fail
    refine (ref_quotient_short y g _ (by have := SY.out; omega) (by have := SG.out; omega) SY.out.1 SG.out.1 (by have := HB.out; omega) (Or.inl (by have := HB.out; omega))).mono ?_
    rintro e w4 ⟨hp4, rfl⟩
    rw [← HN.out, ← HD.out]
    cases bd with
    | true =>
      have HT : Hid (tQ q = tZ q.num) := tQ_one (by have := of_decide_eq_true HBD.out; omega)
      go_wp2
      go_ret
      exact ⟨((hp1.trans hp2).trans hp3).trans hp4, by rw [HT.out]; rfl⟩
    | false =>
      have HT : Hid (tQ q = tZ q.num ++ ⟨#[47]⟩ ++ tZ (q.den : Int)) := tQ_more (by have := of_decide_eq_false HBD.out; omega)
      go_wp2
      go_ret
      exact ⟨((hp1.trans hp2).trans hp3).trans hp4, by rw [HT.out]; rfl⟩

end Go.Proofs.YtdcjibjldfjllaaGreat

/- The reference's rational numbers: fractions; small numbers. -/
namespace Go.Proofs.YtdcjibjldfjllaaGreat
open Go.RowKit

set_option maxRecDepth 100000 in
set_option maxHeartbeats 2000000 in
theorem fr_fraction (x y : Int) (w : World) (hx1 : -1000000000 < x) (hx2 : x < 1000000000) (hy1 : 0 < y) (hy2 : y < 1000000000) :
    Calls Tryz.prog 75 #[.int .i64 x, .int .i64 y] w fun r w' => Past w w' ∧ r = .returned (.string (tQ (mkRat x y.toNat))) := by
  obtain ⟨q, hq⟩ : ∃ q, mkRat x y.toNat = q := ⟨_, rfl⟩
  have c : ∀ w, Calls Tryz.prog 94 #[.string (tZ x), .string (tZ y)] w fun r w' => Past w w' ∧ r = .returned (.string (tQ q)) := fun w => by rw [← hq]; exact fr_reduced x y w hx1 hx2 hy1 hy2
  rw [hq]
  have C := Lib.hid c
  clear c hq
  go_enter Tryz.func75, Tryz.ntmps75
  go_wp2_with fail
  refine (ref_number x _ (by omega) (by omega)).mono ?_
  rintro e w1 ⟨hp1, rfl⟩
  go_wp2_with fail
  refine (ref_number y _ (by omega) (by omega)).mono ?_
  rintro e w2 ⟨hp2, rfl⟩
  go_wp2_with fail
  refine (C.out _).mono ?_
  rintro e w3 ⟨hp3, rfl⟩
  go_wp2
  go_ret
  exact ⟨(hp1.trans hp2).trans hp3, rfl⟩

/-- A small number. -/
def smallQ (n : Int) : Rat := mkRat (n % 24 - 8) 4
theorem tmod24 (n : Int) : -24 < n.tmod 24 ∧ n.tmod 24 < 24 ∧ (n.tmod 24 + 24) % 24 = n % 24 := by
  rw [Int.tmod_eq_emod]
  split <;> (try split) <;> omega

set_option maxRecDepth 100000 in
set_option maxHeartbeats 2000000 in
theorem fr_small (n : Int) (w : World) (h1 : -9223372036854775808 ≤ n) (h2 : n ≤ 9223372036854775807) :
    Calls Tryz.prog 23 #[.int .i64 n] w fun r w' => Past w w' ∧ r = .returned (.string (tQ (smallQ n))) := by
  obtain ⟨q, hq⟩ : ∃ q, smallQ n = q := ⟨_, rfl⟩
  rw [hq]
  obtain ⟨t1, t2, t3⟩ := tmod24 n
  obtain ⟨t, ht⟩ : ∃ t, n.tmod 24 = t := ⟨_, rfl⟩
  rw [ht] at t1 t2 t3
  have t4 : 0 ≤ t + 24 := by omega
  have HK : Hid (t % 24 = n % 24) := by unfold Hid; omega
  have hk0 := Int.emod_nonneg (t + 24) (show (24 : Int) ≠ 0 by omega)
  have hk1 := Int.emod_lt_of_pos (t + 24) (show (0 : Int) < 24 by omega)
  have hk2 := Int.emod_nonneg t (show (24 : Int) ≠ 0 by omega)
  have hk3 := Int.emod_lt_of_pos t (show (0 : Int) < 24 by omega)
  have c : ∀ w, Calls Tryz.prog 75 #[.int .i64 (t % 24 - 8), .int .i64 4] w fun r w' => Past w w' ∧ r = .returned (.string (tQ q)) := fun w => by
    have h := fr_fraction (t % 24 - 8) 4 w (by omega) (by omega) (by omega) (by omega)
    rw [HK.out] at h ⊢
    rw [← hq]
    exact h
  have C := Lib.hid c
  clear c hq t3
  go_enter Tryz.func23, Tryz.ntmps23
  go_wp2_with fail
  refine (C.out _).mono ?_
  rintro e w1 ⟨hp1, rfl⟩
  go_wp2
  go_ret
  exact ⟨hp1, rfl⟩

end Go.Proofs.YtdcjibjldfjllaaGreat
