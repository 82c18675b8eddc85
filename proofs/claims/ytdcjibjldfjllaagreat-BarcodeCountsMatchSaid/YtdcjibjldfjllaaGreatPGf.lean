/- Helpers of the proof, joined: Num14 Num15 Num16 Num17. -/
import Derived.Test.YtdcjibjldfjllaaGreatPGe
import Derived.Test.YtdcjibjldfjllaaGreatPGa
set_option linter.unusedVariables false
set_option linter.unusedSimpArgs false
/- Rational numbers: sum, product, comparison. -/
namespace Go.Proofs.YtdcjibjldfjllaaGreat
open Go.RowKit

theorem RQ.num {w : World} {s : Bool} {A : Option Addr} {n c : Nat} {t : Bool} {B : Option Addr} {m d : Nat} {q : Rat} (h : RQ w s A n c t B m d q) : RW w s A n c q.num := h.1

set_option maxRecDepth 100000 in
set_option maxHeartbeats 8000000 in
theorem ratio_cmp (s t : Bool) (A B : Option Addr) (n c m d : Nat) (s' t' : Bool) (A' B' : Option Addr) (n' c' m' d' : Nat) (q r : Rat) (w : World) (hq : RQ w s A n c t B m d q) (hr : RQ w s' A' n' c' t' B' m' d' r) (hl : lenQ q < 8589934592 ∧ lenQ r < 8589934592) :
    Calls Tryz.prog 100 #[.agg #[.bool s, .slice A n c, .bool t, .slice B m d], .agg #[.bool s', .slice A' n' c', .bool t', .slice B' m' d']] w fun e w' => Past w w' ∧ e = .returned (.int .i64 (cmpZ (q.num * r.den) (r.num * q.den))) := by
  have HQ := Lib.hid hq
  have HR := Lib.hid hr
  have HLQ := Lib.hid hq.lens
  have HLR := Lib.hid hr.lens
  have HLEN := Lib.hid hl
  clear hq hr hl
  obtain ⟨wb, hwb⟩ : ∃ wb, ((w.alloc (.cells #[.bool s, .slice A n c, .bool t, .slice B m d] 131)).alloc (.cells #[.bool s', .slice A' n' c', .bool t', .slice B' m' d'] 131)) = wb := ⟨_, rfl⟩
  have HPB : Hid (Past w wb) := by rw [← hwb]; exact ((Past.refl _).alloc _).alloc _
  have PD : Hid (Past wb wb.drew) := (Past.refl wb).drew
  have H8 : Held8 wb w.heap.size (w.heap.size + 1) (.bool s) (.slice A n c) (.bool t) (.slice B m d) (.bool s') (.slice A' n' c') (.bool t') (.slice B' m' d') := by rw [← hwb]; unfold Held8; simp [go_sem]
  have HWB := Lib.hid hwb
  clear hwb
  go_enter Tryz.func100, Tryz.ntmps100
  go_wp2_with fail
  rw [HWB.out]
  go_region_held3 (fun w' => w'.cell? ⟨w.heap.size, 0, none⟩ = some (.bool s) ∧ w'.cell? ⟨w.heap.size, 1, none⟩ = some (.slice A n c) ∧ w'.cell? ⟨w.heap.size, 2, none⟩ = some (.bool t) ∧ w'.cell? ⟨w.heap.size, 3, none⟩ = some (.slice B m d) ∧ w'.cell? ⟨w.heap.size + 1, 0, none⟩ = some (.bool s') ∧ w'.cell? ⟨w.heap.size + 1, 1, none⟩ = some (.slice A' n' c') ∧ w'.cell? ⟨w.heap.size + 1, 2, none⟩ = some (.bool t') ∧ w'.cell? ⟨w.heap.size + 1, 3, none⟩ = some (.slice B' m' d')) (first | (refine keep8 hp5 ?_; assumption) | (refine keep8 hp4 ?_; assumption) | (refine keep8 hp3 ?_; assumption) | (refine keep8 hp2 ?_; assumption) | (refine keep8 hp1 ?_; assumption) | (refine keep8 PD ?_; exact H8) | (refine keepst8 ?_ ?_ (by assumption) <;> omega))
    (first
      | (go_at_call 154; ((with_reducible refine (whole_cmp _ _ _ _ _ _ _ _ (q.num * r.den) (r.num * q.den) _ (HR2.out.past (Past.trans hp3 hp4)) HR4.out).mono ?_)); rintro e w5 ⟨hp5, rfl⟩)
      | (go_at_call 145; ((with_reducible refine (whole_mul _ _ _ _ _ _ _ _ r.num (q.den : Int) _ ((RQ.num HR.out).past (Past.trans (HPB.out.trans PD.out) (Past.trans (Past.trans hp1 hp2) hp3))) HR3.out ?_ ?_).mono ?_)); (have := HLQ.out; have := HLR.out; have := HLEN.out; omega); (have := HL3.out; have := HLEN.out; omega); rintro e w4 ⟨hp4, s4, A4, n4, c4, rfl, hr4⟩; have HR4 := Lib.hid hr4; clear hr4)
      | (go_at_call 146; ((with_reducible refine (ratio_den _ _ _ _ _ _ _ _ q _ (HQ.out.past (Past.trans (HPB.out.trans PD.out) (Past.trans hp1 hp2)))).mono ?_)); rintro e w3 ⟨hp3, s3, A3, n3, c3, rfl, hr3⟩; have HR3 := Lib.hid hr3; clear hr3; have HL3 := Lib.hid (show n3 ≤ lenQ q from by have hz := HR3.out.len; have h1 := HLQ.out; have h2 := HLR.out; omega))
      | (go_at_call 145; ((with_reducible refine (whole_mul _ _ _ _ _ _ _ _ q.num (r.den : Int) _ ((RQ.num HQ.out).past (Past.trans (HPB.out.trans PD.out) hp1)) HR1.out ?_ ?_).mono ?_)); (have := HLQ.out; have := HLR.out; have := HLEN.out; omega); (have := HL1.out; have := HLEN.out; omega); rintro e w2 ⟨hp2, s2, A2, n2, c2, rfl, hr2⟩; have HR2 := Lib.hid hr2; clear hr2)
      | (go_at_call 146; ((with_reducible refine (ratio_den _ _ _ _ _ _ _ _ r _ (HR.out.past (HPB.out.trans PD.out))).mono ?_)); rintro e w1 ⟨hp1, s1, A1, n1, c1, rfl, hr1⟩; have HR1 := Lib.hid hr1; clear hr1; have HL1 := Lib.hid (show n1 ≤ lenQ r from by have hz := HR1.out.len; have h1 := HLQ.out; have h2 := HLR.out; omega)))
  go_wp2
  go_ret
  exact ⟨Past.trans (HPB.out.trans PD.out) (Past.trans (Past.trans (Past.trans (Past.trans hp1 hp2) hp3) hp4) hp5), rfl⟩

set_option maxRecDepth 100000 in
set_option maxHeartbeats 8000000 in
theorem ratio_add (s t : Bool) (A B : Option Addr) (n c m d : Nat) (s' t' : Bool) (A' B' : Option Addr) (n' c' m' d' : Nat) (q r : Rat) (w : World) (hq : RQ w s A n c t B m d q) (hr : RQ w s' A' n' c' t' B' m' d' r) (hl : lenQ q < 8589934592 ∧ lenQ r < 8589934592) :
    Calls Tryz.prog 91 #[.agg #[.bool s, .slice A n c, .bool t, .slice B m d], .agg #[.bool s', .slice A' n' c', .bool t', .slice B' m' d']] w (AnsR (q + r) w) := by
  have HQ := Lib.hid hq
  have HR := Lib.hid hr
  have HLQ := Lib.hid hq.lens
  have HLR := Lib.hid hr.lens
  have HLEN := Lib.hid hl
  clear hq hr hl
  obtain ⟨wb, hwb⟩ : ∃ wb, (((w.alloc (.cells #[.bool s, .slice A n c, .bool t, .slice B m d] 131)).alloc (.cells #[.bool s', .slice A' n' c', .bool t', .slice B' m' d'] 131)).alloc (.cells #[.bool false, .slice none 0 0, .bool false, .slice none 0 0] 131)) = wb := ⟨_, rfl⟩
  have HB : Hid ((wb.cell? ⟨w.heap.size + 1 + 1, 0, none⟩ = some (.bool false) ∧ wb.frozen? ⟨w.heap.size + 1 + 1, 0, none⟩ = false) ∧ (wb.cell? ⟨w.heap.size + 1 + 1, 1, none⟩ = some (.slice none 0 0) ∧ wb.frozen? ⟨w.heap.size + 1 + 1, 1, none⟩ = false) ∧ (wb.cell? ⟨w.heap.size + 1 + 1, 2, none⟩ = some (.bool false) ∧ wb.frozen? ⟨w.heap.size + 1 + 1, 2, none⟩ = false) ∧ (wb.cell? ⟨w.heap.size + 1 + 1, 3, none⟩ = some (.slice none 0 0) ∧ wb.frozen? ⟨w.heap.size + 1 + 1, 3, none⟩ = false)) := by rw [← hwb]; simp [go_sem, Hid]
  have HPB : Hid (Past w wb) := by rw [← hwb]; exact (((Past.refl _).alloc _).alloc _).alloc _
  have PD : Hid (Past wb wb.drew) := (Past.refl wb).drew
  have H8 : Held8 wb w.heap.size (w.heap.size + 1) (.bool s) (.slice A n c) (.bool t) (.slice B m d) (.bool s') (.slice A' n' c') (.bool t') (.slice B' m' d') := by rw [← hwb]; unfold Held8; simp [go_sem]
  have HWB := Lib.hid hwb
  clear hwb
  have HDP : Hid (0 < (q.den : Int) * (r.den : Int)) := Int.mul_pos (by have := q.den_pos; omega) (by have := r.den_pos; omega)
  have HEQ : Hid (mkRat (q.num * r.den + r.num * q.den) ((q.den : Int) * r.den).toNat = q + r) := by
    unfold Hid
    rw [Rat.add_def', ← Int.natCast_mul, Int.toNat_natCast]
  go_enter Tryz.func91, Tryz.ntmps91
  go_wp2_with fail
  rw [HWB.out]
  go_region_held3 (fun w' => w'.cell? ⟨w.heap.size, 0, none⟩ = some (.bool s) ∧ w'.cell? ⟨w.heap.size, 1, none⟩ = some (.slice A n c) ∧ w'.cell? ⟨w.heap.size, 2, none⟩ = some (.bool t) ∧ w'.cell? ⟨w.heap.size, 3, none⟩ = some (.slice B m d) ∧ w'.cell? ⟨w.heap.size + 1, 0, none⟩ = some (.bool s') ∧ w'.cell? ⟨w.heap.size + 1, 1, none⟩ = some (.slice A' n' c') ∧ w'.cell? ⟨w.heap.size + 1, 2, none⟩ = some (.bool t') ∧ w'.cell? ⟨w.heap.size + 1, 3, none⟩ = some (.slice B' m' d')) (first | (refine keep8 hp9 ?_; assumption) | (refine keep8 hp8 ?_; assumption) | (refine keep8 hp7 ?_; assumption) | (refine keep8 hp6 ?_; assumption) | (refine keep8 hp5 ?_; assumption) | (refine keep8 hp4 ?_; assumption) | (refine keep8 hp3 ?_; assumption) | (refine keep8 hp2 ?_; assumption) | (refine keep8 hp1 ?_; assumption) | (refine keep8 PD ?_; exact H8) | (refine keepst8 ?_ ?_ (by assumption) <;> omega))
    (first
      | (go_at_call 144; ((with_reducible refine (num_over _ _ _ _ _ _ _ _ (q.num * r.den + r.num * q.den) ((q.den : Int) * r.den) _ (HR5.out.past (Past.trans (Past.trans hp6 hp7) hp8)) HR8.out ?_ ?_ HDP.out).mono ?_)); (have := HLEN.out; have := HL5.out; omega); (have := HLEN.out; have := HL8.out; omega); rintro e w9 ⟨hp9, s9, A9, n9, c9, t9, B9, m9, d9, rfl, hr9⟩; have HR9 := Lib.hid hr9; clear hr9; obtain ⟨q9_0, f9_0⟩ := hp9.free q8_0 f8_0; clear q8_0 f8_0; obtain ⟨q9_1, f9_1⟩ := hp9.free q8_1 f8_1; clear q8_1 f8_1; obtain ⟨q9_2, f9_2⟩ := hp9.free q8_2 f8_2; clear q8_2 f8_2; obtain ⟨q9_3, f9_3⟩ := hp9.free q8_3 f8_3; clear q8_3 f8_3)
      | (go_at_call 145; ((with_reducible refine (whole_mul _ _ _ _ _ _ _ _ (q.den : Int) (r.den : Int) _ (HR6.out.past hp7) HR7.out ?_ ?_).mono ?_)); (have := HLEN.out; have := HL6.out; omega); (have := HLEN.out; have := HL7.out; omega); rintro e w8 ⟨hp8, s8, A8, n8, c8, rfl, hr8⟩; have HR8 := Lib.hid hr8; clear hr8; have HL8 := Lib.hid (show n8 ≤ lenQ q + lenQ r from by have hz := HR8.out.len; have h1 := HLQ.out; have h2 := HLR.out; have h3 := len_mul q.den r.den; omega); obtain ⟨q8_0, f8_0⟩ := hp8.free q7_0 f7_0; clear q7_0 f7_0; obtain ⟨q8_1, f8_1⟩ := hp8.free q7_1 f7_1; clear q7_1 f7_1; obtain ⟨q8_2, f8_2⟩ := hp8.free q7_2 f7_2; clear q7_2 f7_2; obtain ⟨q8_3, f8_3⟩ := hp8.free q7_3 f7_3; clear q7_3 f7_3)
      | (go_at_call 146; ((with_reducible refine (ratio_den _ _ _ _ _ _ _ _ r _ (HR.out.past (Past.trans (HPB.out.trans PD.out) (Past.trans (Past.trans (Past.trans (Past.trans (Past.trans hp1 hp2) hp3) hp4) hp5) hp6)))).mono ?_)); rintro e w7 ⟨hp7, s7, A7, n7, c7, rfl, hr7⟩; have HR7 := Lib.hid hr7; clear hr7; have HL7 := Lib.hid (show n7 ≤ lenQ r from by have hz := HR7.out.len; have h1 := HLQ.out; have h2 := HLR.out; omega); obtain ⟨q7_0, f7_0⟩ := hp7.free q6_0 f6_0; clear q6_0 f6_0; obtain ⟨q7_1, f7_1⟩ := hp7.free q6_1 f6_1; clear q6_1 f6_1; obtain ⟨q7_2, f7_2⟩ := hp7.free q6_2 f6_2; clear q6_2 f6_2; obtain ⟨q7_3, f7_3⟩ := hp7.free q6_3 f6_3; clear q6_3 f6_3)
      | (go_at_call 146; ((with_reducible refine (ratio_den _ _ _ _ _ _ _ _ q _ (HQ.out.past (Past.trans (HPB.out.trans PD.out) (Past.trans (Past.trans (Past.trans (Past.trans hp1 hp2) hp3) hp4) hp5)))).mono ?_)); rintro e w6 ⟨hp6, s6, A6, n6, c6, rfl, hr6⟩; have HR6 := Lib.hid hr6; clear hr6; have HL6 := Lib.hid (show n6 ≤ lenQ q from by have hz := HR6.out.len; have h1 := HLQ.out; have h2 := HLR.out; omega); obtain ⟨q6_0, f6_0⟩ := hp6.free q5_0 f5_0; clear q5_0 f5_0; obtain ⟨q6_1, f6_1⟩ := hp6.free q5_1 f5_1; clear q5_1 f5_1; obtain ⟨q6_2, f6_2⟩ := hp6.free q5_2 f5_2; clear q5_2 f5_2; obtain ⟨q6_3, f6_3⟩ := hp6.free q5_3 f5_3; clear q5_3 f5_3)
      | (go_at_call 147; ((with_reducible refine (whole_add _ _ _ _ _ _ _ _ (q.num * r.den) (r.num * q.den) _ (HR2.out.past (Past.trans hp3 hp4)) HR4.out ?_ ?_).mono ?_)); (have := HLEN.out; have := HL2.out; omega); (have := HLEN.out; have := HL4.out; omega); rintro e w5 ⟨hp5, s5, A5, n5, c5, rfl, hr5⟩; have HR5 := Lib.hid hr5; clear hr5; have HL5 := Lib.hid (show n5 ≤ lenQ q + lenQ r + 1 from by have hz := HR5.out.len; have h3 := len_add (q.num * r.den) (r.num * q.den); have h4 := HR2.out.len; have h5 := HR4.out.len; have h6 := HL2.out; have h7 := HL4.out; omega); obtain ⟨q5_0, f5_0⟩ := hp5.free q4_0 f4_0; clear q4_0 f4_0; obtain ⟨q5_1, f5_1⟩ := hp5.free q4_1 f4_1; clear q4_1 f4_1; obtain ⟨q5_2, f5_2⟩ := hp5.free q4_2 f4_2; clear q4_2 f4_2; obtain ⟨q5_3, f5_3⟩ := hp5.free q4_3 f4_3; clear q4_3 f4_3)
      | (go_at_call 145; ((with_reducible refine (whole_mul _ _ _ _ _ _ _ _ r.num (q.den : Int) _ ((RQ.num HR.out).past (Past.trans (HPB.out.trans PD.out) (Past.trans (Past.trans hp1 hp2) hp3))) HR3.out ?_ ?_).mono ?_)); (have := HLQ.out; have := HLR.out; have := HLEN.out; omega); (have := HLEN.out; have := HL3.out; omega); rintro e w4 ⟨hp4, s4, A4, n4, c4, rfl, hr4⟩; have HR4 := Lib.hid hr4; clear hr4; have HL4 := Lib.hid (show n4 ≤ lenQ q + lenQ r from by have hz := HR4.out.len; have h1 := HLQ.out; have h2 := HLR.out; have h3 := len_mul r.num q.den; omega); obtain ⟨q4_0, f4_0⟩ := hp4.free q3_0 f3_0; clear q3_0 f3_0; obtain ⟨q4_1, f4_1⟩ := hp4.free q3_1 f3_1; clear q3_1 f3_1; obtain ⟨q4_2, f4_2⟩ := hp4.free q3_2 f3_2; clear q3_2 f3_2; obtain ⟨q4_3, f4_3⟩ := hp4.free q3_3 f3_3; clear q3_3 f3_3)
      | (go_at_call 146; ((with_reducible refine (ratio_den _ _ _ _ _ _ _ _ q _ (HQ.out.past (Past.trans (HPB.out.trans PD.out) (Past.trans hp1 hp2)))).mono ?_)); rintro e w3 ⟨hp3, s3, A3, n3, c3, rfl, hr3⟩; have HR3 := Lib.hid hr3; clear hr3; have HL3 := Lib.hid (show n3 ≤ lenQ q from by have hz := HR3.out.len; have h1 := HLQ.out; have h2 := HLR.out; omega); obtain ⟨q3_0, f3_0⟩ := hp3.free q2_0 f2_0; clear q2_0 f2_0; obtain ⟨q3_1, f3_1⟩ := hp3.free q2_1 f2_1; clear q2_1 f2_1; obtain ⟨q3_2, f3_2⟩ := hp3.free q2_2 f2_2; clear q2_2 f2_2; obtain ⟨q3_3, f3_3⟩ := hp3.free q2_3 f2_3; clear q2_3 f2_3)
      | (go_at_call 145; ((with_reducible refine (whole_mul _ _ _ _ _ _ _ _ q.num (r.den : Int) _ ((RQ.num HQ.out).past (Past.trans (HPB.out.trans PD.out) hp1)) HR1.out ?_ ?_).mono ?_)); (have := HLQ.out; have := HLR.out; have := HLEN.out; omega); (have := HLEN.out; have := HL1.out; omega); rintro e w2 ⟨hp2, s2, A2, n2, c2, rfl, hr2⟩; have HR2 := Lib.hid hr2; clear hr2; have HL2 := Lib.hid (show n2 ≤ lenQ q + lenQ r from by have hz := HR2.out.len; have h1 := HLQ.out; have h2 := HLR.out; have h3 := len_mul q.num r.den; omega); obtain ⟨q2_0, f2_0⟩ := hp2.free q1_0 f1_0; clear q1_0 f1_0; obtain ⟨q2_1, f2_1⟩ := hp2.free q1_1 f1_1; clear q1_1 f1_1; obtain ⟨q2_2, f2_2⟩ := hp2.free q1_2 f1_2; clear q1_2 f1_2; obtain ⟨q2_3, f2_3⟩ := hp2.free q1_3 f1_3; clear q1_3 f1_3)
      | (go_at_call 146; ((with_reducible refine (ratio_den _ _ _ _ _ _ _ _ r _ (HR.out.past (HPB.out.trans PD.out))).mono ?_)); rintro e w1 ⟨hp1, s1, A1, n1, c1, rfl, hr1⟩; have HR1 := Lib.hid hr1; clear hr1; have HL1 := Lib.hid (show n1 ≤ lenQ r from by have hz := HR1.out.len; have h1 := HLQ.out; have h2 := HLR.out; omega); obtain ⟨q1_0, f1_0⟩ := hp1.free (PD.out.cell (HB.out.1.1)) (PD.out.free (HB.out.1.1) (HB.out.1.2)).2; obtain ⟨q1_1, f1_1⟩ := hp1.free (PD.out.cell (HB.out.2.1.1)) (PD.out.free (HB.out.2.1.1) (HB.out.2.1.2)).2; obtain ⟨q1_2, f1_2⟩ := hp1.free (PD.out.cell (HB.out.2.2.1.1)) (PD.out.free (HB.out.2.2.1.1) (HB.out.2.2.1.2)).2; obtain ⟨q1_3, f1_3⟩ := hp1.free (PD.out.cell (HB.out.2.2.2.1)) (PD.out.free (HB.out.2.2.2.1) (HB.out.2.2.2.2)).2))
  go_wp2
  rw [← HEQ.out]
  exact bodyPost_ret (v := .agg #[.bool s9, .slice A9 n9 c9, .bool t9, .slice B9 m9 d9]) (by simp [results, Tryz.results91, go_sem, q9_0, q9_1, q9_2, q9_3]) rfl (AnsR.store HR9.out (HPB.out.trans PD.out) (Past.trans (Past.trans (Past.trans (Past.trans (Past.trans (Past.trans (Past.trans (Past.trans hp1 hp2) hp3) hp4) hp5) hp6) hp7) hp8) hp9) (by omega) (by simp [q9_0]) (by simp [q9_1]) (by simp [q9_2]) (by simp [q9_3]) _ _ _ _)

end Go.Proofs.YtdcjibjldfjllaaGreat

/- Rational numbers: negation, difference. -/
namespace Go.Proofs.YtdcjibjldfjllaaGreat
open Go.RowKit

theorem keepst4r {w : World} {g : Nat} {x0 x1 x2 x3 : Value} {a0 a1 a2 a3 : Addr} {v0 v1 v2 v3 : Value} (n0 : a0.block ≠ g) (n1 : a1.block ≠ g) (n2 : a2.block ≠ g) (n3 : a3.block ≠ g) (h : w.cell? a0 = some v0 ∧ w.cell? a1 = some v1 ∧ w.cell? a2 = some v2 ∧ w.cell? a3 = some v3) :
    ((((w.setCell ⟨g, 0, none⟩ x0).setCell ⟨g, 1, none⟩ x1).setCell ⟨g, 2, none⟩ x2).setCell ⟨g, 3, none⟩ x3).cell? a0 = some v0 ∧ ((((w.setCell ⟨g, 0, none⟩ x0).setCell ⟨g, 1, none⟩ x1).setCell ⟨g, 2, none⟩ x2).setCell ⟨g, 3, none⟩ x3).cell? a1 = some v1 ∧
    ((((w.setCell ⟨g, 0, none⟩ x0).setCell ⟨g, 1, none⟩ x1).setCell ⟨g, 2, none⟩ x2).setCell ⟨g, 3, none⟩ x3).cell? a2 = some v2 ∧ ((((w.setCell ⟨g, 0, none⟩ x0).setCell ⟨g, 1, none⟩ x1).setCell ⟨g, 2, none⟩ x2).setCell ⟨g, 3, none⟩ x3).cell? a3 = some v3 :=
  ⟨set4_cell n0 h.1, set4_cell n1 h.2.1, set4_cell n2 h.2.2.1, set4_cell n3 h.2.2.2⟩

theorem RQ.neg {w : World} {s s' : Bool} {A A' : Option Addr} {n c n' c' : Nat} {t : Bool} {B : Option Addr} {m d : Nat} {q : Rat} (h : RQ w s A n c t B m d q) (h' : RW w s' A' n' c' (-q.num)) : RQ w s' A' n' c' t B m d (-q) := by
  refine ⟨?_, ?_⟩
  · rw [Rat.neg_num]; exact h'
  · rw [Rat.neg_den]; exact h.2
theorem lenQ_neg (q : Rat) : lenQ (-q) = lenQ q := by unfold lenQ; rw [Rat.neg_num, Rat.neg_den, len_neg]

set_option maxRecDepth 100000 in
set_option maxHeartbeats 8000000 in
theorem ratio_neg (s t : Bool) (A B : Option Addr) (n c m d : Nat) (q : Rat) (w : World) (hq : RQ w s A n c t B m d q) :
    Calls Tryz.prog 152 #[.agg #[.bool s, .slice A n c, .bool t, .slice B m d]] w (AnsR (-q) w) := by
  have HQ := Lib.hid hq
  clear hq
  obtain ⟨wb, hwb⟩ : ∃ wb, ((w.alloc (.cells #[.bool s, .slice A n c, .bool t, .slice B m d] 131)).alloc (.cells #[.bool false, .slice none 0 0, .bool false, .slice none 0 0] 131)) = wb := ⟨_, rfl⟩
  have HB : Hid ((wb.cell? ⟨w.heap.size + 1, 0, none⟩ = some (.bool false) ∧ wb.frozen? ⟨w.heap.size + 1, 0, none⟩ = false) ∧ (wb.cell? ⟨w.heap.size + 1, 1, none⟩ = some (.slice none 0 0) ∧ wb.frozen? ⟨w.heap.size + 1, 1, none⟩ = false) ∧ (wb.cell? ⟨w.heap.size + 1, 2, none⟩ = some (.bool false) ∧ wb.frozen? ⟨w.heap.size + 1, 2, none⟩ = false) ∧ (wb.cell? ⟨w.heap.size + 1, 3, none⟩ = some (.slice none 0 0) ∧ wb.frozen? ⟨w.heap.size + 1, 3, none⟩ = false)) := by rw [← hwb]; simp [go_sem, Hid]
  have H4 : Hid (wb.cell? ⟨w.heap.size, 0, none⟩ = some (.bool s) ∧ wb.cell? ⟨w.heap.size, 1, none⟩ = some (.slice A n c) ∧ wb.cell? ⟨w.heap.size, 2, none⟩ = some (.bool t) ∧ wb.cell? ⟨w.heap.size, 3, none⟩ = some (.slice B m d)) := by rw [← hwb]; simp [go_sem, Hid]
  have HPB : Hid (Past w wb) := by rw [← hwb]; exact ((Past.refl _).alloc _).alloc _
  have PD : Hid (Past wb wb.drew) := (Past.refl wb).drew
  have HWB := Lib.hid hwb
  clear hwb
  go_enter Tryz.func152, Tryz.ntmps152
  go_wp2_with fail
  rw [HWB.out]
  go_region_held3 (fun w' => w'.cell? ⟨w.heap.size, 0, none⟩ = some (.bool s) ∧ w'.cell? ⟨w.heap.size, 1, none⟩ = some (.slice A n c) ∧ w'.cell? ⟨w.heap.size, 2, none⟩ = some (.bool t) ∧ w'.cell? ⟨w.heap.size, 3, none⟩ = some (.slice B m d)) (first | (refine keep4 hp1 ?_; assumption) | (refine keep4 PD ?_; exact H4.out) | (refine keepst4r ?_ ?_ ?_ ?_ (by assumption) <;> (dsimp only; omega)))
    (first
      | (go_at_call 203; ((with_reducible refine (whole_neg _ _ _ _ q.num _ ((RQ.num HQ.out).past (HPB.out.trans PD.out))).mono ?_)); rintro e w1 ⟨hp1, s1, A1, n1, c1, rfl, hr1⟩; have HR1 := Lib.hid hr1; clear hr1; obtain ⟨q1_0, f1_0⟩ := hp1.free (PD.out.cell HB.out.1.1) (PD.out.free HB.out.1.1 HB.out.1.2).2; obtain ⟨q1_1, f1_1⟩ := hp1.free (PD.out.cell HB.out.2.1.1) (PD.out.free HB.out.2.1.1 HB.out.2.1.2).2; obtain ⟨q1_2, f1_2⟩ := hp1.free (PD.out.cell HB.out.2.2.1.1) (PD.out.free HB.out.2.2.1.1 HB.out.2.2.1.2).2; obtain ⟨q1_3, f1_3⟩ := hp1.free (PD.out.cell HB.out.2.2.2.1) (PD.out.free HB.out.2.2.2.1 HB.out.2.2.2.2).2))
  go_wp2
  exact bodyPost_ret (v := .agg #[.bool s1, .slice A1 n1 c1, .bool t, .slice B m d]) (by simp [results, Tryz.results152, go_sem, q1_0, q1_1, q1_2, q1_3]) rfl (AnsR.store (RQ.neg (HQ.out.past (Past.trans (HPB.out.trans PD.out) hp1)) HR1.out) (HPB.out.trans PD.out) hp1 (by omega) (by simp [q1_0]) (by simp [q1_1]) (by simp [q1_2]) (by simp [q1_3]) _ _ _ _)

set_option maxRecDepth 100000 in
set_option maxHeartbeats 8000000 in
theorem ratio_sub (s t : Bool) (A B : Option Addr) (n c m d : Nat) (s' t' : Bool) (A' B' : Option Addr) (n' c' m' d' : Nat) (q r : Rat) (w : World) (hq : RQ w s A n c t B m d q) (hr : RQ w s' A' n' c' t' B' m' d' r) (hl : lenQ q < 8589934592 ∧ lenQ r < 8589934592) :
    Calls Tryz.prog 96 #[.agg #[.bool s, .slice A n c, .bool t, .slice B m d], .agg #[.bool s', .slice A' n' c', .bool t', .slice B' m' d']] w (AnsR (q - r) w) := by
  have HQ := Lib.hid hq
  have HR := Lib.hid hr
  have HLQ := Lib.hid hq.lens
  have HLR := Lib.hid hr.lens
  have HLEN := Lib.hid hl
  clear hq hr hl
  obtain ⟨wb, hwb⟩ : ∃ wb, (((w.alloc (.cells #[.bool s, .slice A n c, .bool t, .slice B m d] 131)).alloc (.cells #[.bool s', .slice A' n' c', .bool t', .slice B' m' d'] 131)).alloc (.cells #[.bool false, .slice none 0 0, .bool false, .slice none 0 0] 131)) = wb := ⟨_, rfl⟩
  have HB : Hid ((wb.cell? ⟨w.heap.size + 1 + 1, 0, none⟩ = some (.bool false) ∧ wb.frozen? ⟨w.heap.size + 1 + 1, 0, none⟩ = false) ∧ (wb.cell? ⟨w.heap.size + 1 + 1, 1, none⟩ = some (.slice none 0 0) ∧ wb.frozen? ⟨w.heap.size + 1 + 1, 1, none⟩ = false) ∧ (wb.cell? ⟨w.heap.size + 1 + 1, 2, none⟩ = some (.bool false) ∧ wb.frozen? ⟨w.heap.size + 1 + 1, 2, none⟩ = false) ∧ (wb.cell? ⟨w.heap.size + 1 + 1, 3, none⟩ = some (.slice none 0 0) ∧ wb.frozen? ⟨w.heap.size + 1 + 1, 3, none⟩ = false)) := by rw [← hwb]; simp [go_sem, Hid]
  have HPB : Hid (Past w wb) := by rw [← hwb]; exact (((Past.refl _).alloc _).alloc _).alloc _
  have PD : Hid (Past wb wb.drew) := (Past.refl wb).drew
  have H8 : Held8 wb w.heap.size (w.heap.size + 1) (.bool s) (.slice A n c) (.bool t) (.slice B m d) (.bool s') (.slice A' n' c') (.bool t') (.slice B' m' d') := by rw [← hwb]; unfold Held8; simp [go_sem]
  have HWB := Lib.hid hwb
  clear hwb
  have HEQ : Hid (q + -r = q - r) := (Rat.sub_eq_add_neg q r).symm
  go_enter Tryz.func96, Tryz.ntmps96
  go_wp2_with fail
  rw [HWB.out]
  go_region_held3 (fun w' => w'.cell? ⟨w.heap.size, 0, none⟩ = some (.bool s) ∧ w'.cell? ⟨w.heap.size, 1, none⟩ = some (.slice A n c) ∧ w'.cell? ⟨w.heap.size, 2, none⟩ = some (.bool t) ∧ w'.cell? ⟨w.heap.size, 3, none⟩ = some (.slice B m d) ∧ w'.cell? ⟨w.heap.size + 1, 0, none⟩ = some (.bool s') ∧ w'.cell? ⟨w.heap.size + 1, 1, none⟩ = some (.slice A' n' c') ∧ w'.cell? ⟨w.heap.size + 1, 2, none⟩ = some (.bool t') ∧ w'.cell? ⟨w.heap.size + 1, 3, none⟩ = some (.slice B' m' d')) (first | (refine keep8 hp2 ?_; assumption) | (refine keep8 hp1 ?_; assumption) | (refine keep8 PD ?_; exact H8) | (refine keepst8 ?_ ?_ (by assumption) <;> omega))
    (first
      | (go_at_call 91; ((with_reducible refine (ratio_add _ _ _ _ _ _ _ _ _ _ _ _ _ _ _ _ q (-r) _ (HQ.out.past (Past.trans (HPB.out.trans PD.out) hp1)) HR1.out ?_).mono ?_)); (rw [lenQ_neg]; exact HLEN.out); rintro e w2 ⟨hp2, s2, A2, n2, c2, t2, B2, m2, d2, rfl, hr2⟩; have HR2 := Lib.hid hr2; clear hr2; obtain ⟨q2_0, f2_0⟩ := hp2.free q1_0 f1_0; clear q1_0 f1_0; obtain ⟨q2_1, f2_1⟩ := hp2.free q1_1 f1_1; clear q1_1 f1_1; obtain ⟨q2_2, f2_2⟩ := hp2.free q1_2 f1_2; clear q1_2 f1_2; obtain ⟨q2_3, f2_3⟩ := hp2.free q1_3 f1_3; clear q1_3 f1_3)
      | (go_at_call 152; ((with_reducible refine (ratio_neg _ _ _ _ _ _ _ _ r _ (HR.out.past (HPB.out.trans PD.out))).mono ?_)); rintro e w1 ⟨hp1, s1, A1, n1, c1, t1, B1, m1, d1, rfl, hr1⟩; have HR1 := Lib.hid hr1; clear hr1; obtain ⟨q1_0, f1_0⟩ := hp1.free (PD.out.cell (HB.out.1.1)) (PD.out.free (HB.out.1.1) (HB.out.1.2)).2; obtain ⟨q1_1, f1_1⟩ := hp1.free (PD.out.cell (HB.out.2.1.1)) (PD.out.free (HB.out.2.1.1) (HB.out.2.1.2)).2; obtain ⟨q1_2, f1_2⟩ := hp1.free (PD.out.cell (HB.out.2.2.1.1)) (PD.out.free (HB.out.2.2.1.1) (HB.out.2.2.1.2)).2; obtain ⟨q1_3, f1_3⟩ := hp1.free (PD.out.cell (HB.out.2.2.2.1)) (PD.out.free (HB.out.2.2.2.1) (HB.out.2.2.2.2)).2))
  go_wp2
  rw [← HEQ.out]
  exact bodyPost_ret (v := .agg #[.bool s2, .slice A2 n2 c2, .bool t2, .slice B2 m2 d2]) (by simp [results, Tryz.results96, go_sem, q2_0, q2_1, q2_2, q2_3]) rfl (AnsR.store HR2.out (HPB.out.trans PD.out) (Past.trans hp1 hp2) (by omega) (by simp [q2_0]) (by simp [q2_1]) (by simp [q2_2]) (by simp [q2_3]) _ _ _ _)

end Go.Proofs.YtdcjibjldfjllaaGreat

/- The text of a whole number. -/
namespace Go.Proofs.YtdcjibjldfjllaaGreat
open Go.RowKit

theorem info_u8 : (Tryz.prog.info? 5).map (fun i => (i.zero, i.size, i.bytes)) = some (some (.int .u8 0), 1, 1) := by kernel_rfl
theorem el_u8 : ElT Tryz.prog 103 5 := by
  refine ⟨Tryz.underlying103, ?_⟩
  obtain ⟨i, h1, h2, h3, h4⟩ := info_parts info_u8
  exact ⟨i, _, h1, h2, h3, by omega, rfl⟩

theorem trim_last {D : List Int} {m : Nat} (hm : m < D.length) (h : rd D m ≠ 0) : Dg.trim (D.take (m + 1)) = D.take (m + 1) := trim_take_end hm h
theorem rd_map {D : List Int} {j : Nat} (f : Int → Int) (h : j < D.length) : rd (D.map f) j = f (rd D j) := by
  unfold rd
  rw [Dg.getD_eq (by simpa using h), Dg.getD_eq h, List.getElem_map]
theorem rd_reverse {L : List Int} {t : Nat} (h : t < L.length) : rd L.reverse t = rd L (L.length - 1 - t) := by
  unfold rd
  rw [Dg.getD_eq (by simpa using h), Dg.getD_eq (by omega), List.getElem_reverse]
theorem ext_rd {xs ys : List Int} (hl : xs.length = ys.length) (h : ∀ t, t < xs.length → rd xs t = rd ys t) : xs = ys := by
  apply List.ext_getElem hl
  intro i h1 h2
  have := h i h1
  unfold rd at this
  rwa [Dg.getD_eq h1, Dg.getD_eq h2] at this

/-- A list whose ends were exchanged so far. -/
def RevTo (L ys : List Int) (i : Nat) : Prop := ys.length = L.length ∧ ∀ t, t < L.length → rd ys t = if t < i ∨ L.length - 1 - i < t then rd L (L.length - 1 - t) else rd L t
theorem RevTo.start (L : List Int) : RevTo L L 0 := ⟨rfl, fun t ht => by
  split
  · rename_i h; omega
  · rfl⟩
theorem RevTo.step {L ys : List Int} {i : Nat} (h : RevTo L ys i) (hi : i + 1 + i < L.length) : RevTo L ((ys.set i (rd ys (L.length - 1 - i))).set (L.length - 1 - i) (rd ys i)) (i + 1) := by
  obtain ⟨h1, h2⟩ := h
  refine ⟨by simp [h1], fun t ht => ?_⟩
  have ei := h2 i (by omega)
  have ej := h2 (L.length - 1 - i) (by omega)
  rw [if_neg (by omega)] at ei ej
  rw [rd_set (by simp; omega), rd_set (by omega)]
  by_cases e1 : t = L.length - 1 - i
  · rw [if_pos e1, if_pos (by omega), ei]
    congr 1; omega
  · rw [if_neg e1]
    by_cases e2 : t = i
    · rw [if_pos e2, if_pos (by omega), ej, e2]
    · rw [if_neg e2, h2 t ht]
      by_cases e3 : t < i ∨ L.length - 1 - i < t
      · rw [if_pos e3, if_pos (by omega)]
      · rw [if_neg e3, if_neg (by omega)]
theorem RevTo.done {L ys : List Int} {i : Nat} (h : RevTo L ys i) (hi : L.length ≤ i + 1 + i) : ys = L.reverse := by
  obtain ⟨h1, h2⟩ := h
  refine ext_rd (by simp [h1]) fun t ht => ?_
  rw [h2 t (by omega), rd_reverse (by omega)]
  split
  · rfl
  · congr 1; omega

/-- Ten digits of a number, nine to each of its parts. -/
theorem nine_inner {D : List Int} {x q V : Int} {j : Nat} (hl : D.length = j) (h : Dg.val 10 D + 10 ^ j * x = V) (hq : q = x) : Dg.val 10 (D ++ [q % 10]) + 10 ^ (j + 1) * (q / 10) = V := by
  subst hq
  rw [Dg.val_snoc, hl, Int.pow_succ, Int.mul_assoc]
  have : (10 : Int) ^ j * (q % 10) + 10 ^ j * (10 * (q / 10)) = 10 ^ j * q := by rw [← Int.mul_add, Int.emod_add_mul_ediv]
  omega
theorem pow_nine (i : Nat) : (10 : Int) ^ (9 * i) = 1000000000 ^ i := by
  rw [Int.pow_mul]
  rfl

theorem step_le {x r : Int} {k : Nat} (h0 : 0 ≤ x) (h : x * 10 ^ k ≤ r) : (x / 10) * 10 ^ (k + 1) ≤ r := by
  have h1 : (x / 10) * 10 ^ (k + 1) ≤ x * 10 ^ k := by
    rw [Int.pow_succ, Int.mul_comm (10 ^ k), ← Int.mul_assoc]
    refine Int.mul_le_mul_of_nonneg_right ?_ (Int.le_of_lt (Int.pow_pos (by omega)))
    omega
  omega

set_option maxRecDepth 100000 in
set_option maxHeartbeats 8000000 in
theorem whole_text (s : Bool) (A : Option Addr) (n c : Nat) (z : Int) (w : World) (hx : RW w s A n c z) (hn : n < 34359738368) :
    Calls Tryz.prog 156 #[.agg #[.bool s, .slice A n c]] w fun e w' => Past w w' ∧ e = .returned (.string (txt (dtx z))) := by
  have HS := Lib.hid hx.1
  have HX := Lib.hid hx.2
  clear hx
  by_cases hz : z = 0
  · have hn0 : n = 0 := by rw [← HX.out.len, hz]; simp [dg_nil]
    subst hn0
    go_enter Tryz.func156, Tryz.ntmps156
    go_wp2
    go_ret
    exact ⟨(Past.refl w).alloc _, by subst hz; rfl⟩
  · have hnp : ((n : Int) == 0) = false := by
      rw [beq_eq_false_iff_ne]
      have := HX.out.len
      have := @dg_pos z.natAbs
      omega
    have HZ := Lib.hid hz
    clear hz
    obtain ⟨xs, hxs⟩ : ∃ xs, dg z.natAbs = xs := ⟨_, rfl⟩
    have HXS := Lib.hid hxs
    have DX : Hid (Dg.Dig 1000000000 xs) := by rw [← hxs]; exact dg_dig _
    unfold RD at HX
    rw [hxs] at HX
    clear hxs
    obtain ⟨wb, hwb⟩ : ∃ wb, (w.alloc (.cells #[.bool s, .slice A n c] 129)) = wb := ⟨_, rfl⟩
    have HPB : Hid (Past w wb) := by rw [← hwb]; exact (Past.refl _).alloc _
    have HB : Hid (wb.cell? ⟨w.heap.size, 0, none⟩ = some (.bool s) ∧ wb.cell? ⟨w.heap.size, 1, none⟩ = some (.slice A n c)) := by rw [← hwb]; simp [go_sem, Hid]
    have HWB := Lib.hid hwb
    clear hwb
    go_enter Tryz.func156, Tryz.ntmps156
    go_wp2_with (first | (at_make; refine wpList_mk0 (k := .u8) (w0 := wb) el_u8 (by rw [HWB.out]; exact Past.refl _) rfl rfl .i64 .i64 (9 * n + 1) _ rfl rfl (by omega) (by omega) ?_; intro v0 w0 hown hp0; have k0 := hp0.cell HB.out.1; have k1 := hp0.cell HB.out.2))
    clear k0 k1 hp0
    go_loopw [3, 5, 21, 25] (fun v _ iv _ wr => ∃ (i : Nat) (D : List Int), i ≤ n ∧ iv = .int .i64 i ∧ Hid (D.length = 9 * i) ∧ Hid (Dg.Dig 10 D) ∧ Hid (Dg.val 10 D = Dg.val 1000000000 (xs.take i)) ∧ Hid (Own wb wr 5 .u8 v (D.map (48 + ·)))) (fun _ _ iv _ _ => n - (intOf iv).toNat)
    case atStart => exact ⟨0, [], Nat.zero_le _, rfl, rfl, Dg.Dig.nil _, rfl, hown⟩
    case round =>
      clear hown
      obtain ⟨i, D, hi, rfl, HLD, HDD, HV, HO⟩ := hrel
      by_cases hin : i < n
      · obtain ⟨b1, o1, rfl, hc1⟩ := HX.out.at_ (by omega)
        have e1 := (HPB.out.trans HO.out.2).cell (hc1 i (by omega))
        clear hc1
        have hxd := rd_dig DX.out (by omega) i
        have hx0 := hxd.1
        have hx1 := hxd.2
        clear hxd
        go_wp2
        go_loopw [3, 5, 25] (fun v xv kv wr => ∃ (k : Nat) (x : Int) (D : List Int), k ≤ 9 ∧ kv = .int .i64 k ∧ xv = .int .u32 x ∧ 0 ≤ x ∧ x < 1000000000 ∧ Hid (x * 10 ^ k ≤ rd xs i) ∧ Hid (D.length = 9 * i + k) ∧ Hid (Dg.Dig 10 D) ∧ Hid (Dg.val 10 D + 10 ^ (9 * i + k) * x = Dg.val 1000000000 (xs.take (i + 1))) ∧ Hid (Own wb wr 5 .u8 v (D.map (48 + ·)))) (fun _ _ kv _ => 9 - (intOf kv).toNat)
        case atStart => exact ⟨0, rd xs i, D, by omega, rfl, rfl, hx0, hx1, by simp [Hid], HLD, HDD, by show _ = _; rw [HV.out, Dg.val_take_succ', Nat.add_zero, pow_nine]; rfl, HO⟩
        case round =>
          clear HLD HDD HV HO e1
          obtain ⟨k, x, D, hk, rfl, rfl, hx2, hx3, HXK, HLD, HDD, HV, HO⟩ := hrel
          by_cases hk9 : k < 9
          · have hm0 := Int.emod_nonneg x (show (10 : Int) ≠ 0 by omega)
            have hm1 := Int.emod_lt_of_pos x (show (0 : Int) < 10 by omega)
            go_wp2_with (first | (at_builtin; refine wpList_app el_u8 (HO.out.alloc _) rfl rfl rfl _ _ _ rfl (cell_new1 _ _ _) (by have := HLD.out; simp; omega) ?_; intro v1 w1 hown1 hp1))
            go_roundw
            case rel => exact ⟨k + 1, x / 10, D ++ [x % 10], by omega, by go_num, rfl, by omega, by omega, step_le hx2 HXK.out, by simp [Hid, HLD.out]; omega, HDD.out.snoc hm0 hm1, nine_inner HLD.out HV.out rfl, by rw [List.map_append]; exact hown1⟩
            case measure => simp [intOf]; omega
          · have hk10 : k = 9 := by omega
            subst hk10
            go_wp2
            go_roundw
            case rel => exact ⟨i + 1, D, by omega, by go_num, by rw [HLD.out]; exact rfl, HDD, by have h := HV.out; rw [show x = 0 by have := HXK.out; omega] at h; simpa [Hid] using h, HO⟩
            case measure => simp [intOf]; omega
      · have hie : i = n := by omega
        have HIE := Lib.hid hie
        clear hie
        go_wp2
        have hDp : 0 < D.length := by have := HLD.out; have := hnp; rw [beq_eq_false_iff_ne] at this; omega
        obtain ⟨g, cp, rfl, hcp1, hcp2, hcp3, hcp4, _, _⟩ := HO.out.form (by simpa using hDp)
        have HTR : Hid (Dg.trim D = dgt z.natAbs) := by
          have h := Dg.trim_eq_toD (b := 10) (by omega) HDD.out
          have h2 := HV.out
          rw [List.take_of_length_le (by have := HX.out.len; have := HIE.out; omega), ← HXS.out, dg_val] at h2
          rw [show ((10 : Nat) : Int) = 10 from rfl, h2, Int.toNat_natCast] at h
          exact h
        have HZ1 : Hid (dgt z.natAbs ≠ []) := by
          have := HZ.out
          unfold Hid
          rw [Ne, dgt_nil]
          omega
        rw [List.length_map]
        rw [List.length_map] at HO
        have HCP := Lib.hid (And.intro hcp1 (And.intro hcp2 (And.intro hcp3 hcp4)))
        clear hcp1 hcp2 hcp3 hcp4 HV
        go_loopw [3] (fun v wr => ∃ m : Nat, m ≤ D.length ∧ v = .slice (some ⟨g, 0, none⟩) m cp ∧ Hid (Dg.trim (D.take m) = dgt z.natAbs) ∧ Hid (Own wb wr 5 .u8 (.slice (some ⟨g, 0, none⟩) m cp) ((D.take m).map (48 + ·)))) (fun v _ => match v with | .slice _ m _ => m | _ => 0)
        case atStart => exact ⟨D.length, Nat.le_refl _, rfl, by rw [List.take_length]; exact HTR, by rw [List.take_length]; exact HO⟩
        case round =>
          clear HO
          obtain ⟨m, hm, rfl, HT, HO⟩ := hrel
          have hcap : m ≤ cp := by have := HCP.out.1; simp at this; omega
          cases m with
          | zero => exact absurd HT.out (by simp [Dg.trim]; exact HZ1.out)
          | succ m =>
            have e34 := HO.out.at_ m (by simp; omega)
            obtain ⟨e3, e4⟩ := e34
            rw [rd_map _ (by simp; omega), rd_take (by omega)] at e3
            have h0 : (0 : Int) ≤ m := by omega
            have hdm := rd_dig HDD.out (by omega) m
            have hdm0 := hdm.1
            have hdm1 := hdm.2
            clear hdm
            have hcp9 := HCP.out.2.1
            by_cases hz0 : rd D m = 0
            · have HZ0 := Lib.hid hz0
              have hbb : ((48 + rd D m) == 48) = true := by rw [beq_iff_eq]; omega
              rw [hz0] at e3
              clear hz0 hbb hdm0 hdm1
              go_wp2
              go_roundw
              case rel => exact ⟨m, by omega, rfl, by rw [← HT.out, trim_take_succ (by omega) HZ0.out]; exact rfl, by have h := HO.out.cut m (by omega); rw [← List.map_take, List.take_take, Nat.min_eq_left (by omega)] at h; exact h⟩
              case measure => simp
            · have HZ0 := Lib.hid hz0
              have hbb : ((48 + rd D m) == 48) = false := by rw [beq_eq_false_iff_ne]; omega
              clear hz0
              have HDM : Hid (D.take (m + 1) = dgt z.natAbs) := by rw [← HT.out, trim_last (by omega) HZ0.out]; exact rfl
              have HLM : Hid ((dgt z.natAbs).length = m + 1) := by rw [← HDM.out, List.length_take]; unfold Hid; omega
              rw [HDM.out] at HO
              have k0 := HO.out.2.cell HB.out.1
              clear hdm0 hdm1 e4
              cases s with
              | true =>
                have hb3 : (dgt z.natAbs).length < 1099511627776 := by have := HLM.out; have := HLD.out; omega
                go_wp2_with (first | (at_builtin; refine wpList_app el_u8 (HO.out.alloc _) rfl rfl rfl _ _ _ rfl (cell_new1 _ _ _) (by rw [List.length_map]; exact hb3) ?_; intro v1 w1 hown1 hp1; generalize hL : List.map (fun x => 48 + x) (dgt z.natAbs) ++ [45] = L at hown1; have HL := Lib.hid hL; clear hL; have HLN : Hid (L.length = m + 2) := (by rw [← HL.out]; simp [HLM.out, Hid]); have hLb : L.length < 1099511627777 := (by have := HLN.out; have := HLM.out; omega); obtain ⟨g2, cp2, rfl, hd1, hd2, hd3, hd4, _, _⟩ := hown1.form (by have := HLN.out; omega); have HD4 := Lib.hid (And.intro hd1 (And.intro hd2 (And.intro hd3 hd4))); clear hd1 hd3 hd4; have HO4 := Lib.hid hown1; clear hown1))
                generalize hN : L.length = N at *
                have HMN := Lib.hid hN
                have HLN2 : Hid (L.length = N) := HMN
                clear hb3 HO k0 e3 hp1 hN
                go_loopw [6, 7] (fun iv jv wr => ∃ (i : Nat) (ys : List Int), iv = .int .i64 i ∧ jv = .int .i64 ((N : Int) - 1 - i) ∧ i + i ≤ N ∧ Hid (RevTo L ys i) ∧ Hid (Own wb wr 5 .u8 (.slice (some ⟨g2, 0, none⟩) N cp2) ys)) (fun iv jv _ => (intOf jv - intOf iv + 1).toNat)
                case atStart => exact ⟨0, L, rfl, by simp, by omega, RevTo.start L, HO4.out⟩
                case round =>
                  clear HO4
                  obtain ⟨i, ys, rfl, rfl, hi2, HR, HO⟩ := hrel
                  by_cases hlt : i + 1 + i < N
                  · have hj0 : ∃ jj : Nat, jj + 1 + i = N := ⟨N - 1 - i, by omega⟩
                    obtain ⟨jj, hjj⟩ := hj0
                    have ej : (N : Int) - 1 - i = (jj : Int) := by omega
                    rw [ej]
                    have HJJ := Lib.hid hjj
                    have hij : (i : Int) < (jj : Int) := by omega
                    have hjl : jj < N := by omega
                    have hil : i < N := by omega
                    have hne : i ≠ jj := by omega
                    clear ej hjj hlt
                    have hyl : ys.length = N := by have := HR.out.1; have := HLN.out; have := HMN.out; omega
                    obtain ⟨c1, f1⟩ := HO.out.at_ i (by omega)
                    obtain ⟨c2, f2⟩ := HO.out.at_ jj (by omega)
                    have HYL := Lib.hid hyl
                    clear hyl
                    go_wp2
                    go_region
                    all_goals go_wp2
                    all_goals go_roundw
                    case rel => exact ⟨i + 1, (ys.set i (rd ys jj)).set jj (rd ys i), by go_num, by rw [show (N : Int) - 1 - ((i + 1 : Nat) : Int) = (jj : Int) - 1 by have := HJJ.out; omega], by have := HJJ.out; omega, by have h := RevTo.step HR.out (by have := HLN2.out; have := HJJ.out; omega); rw [show L.length - 1 - i = jj by have := HLN2.out; have := HJJ.out; omega] at h; exact h, ((HO.out.set (by have := HYL.out; omega) _).set (by have := HYL.out; simp; omega) _).drew⟩
                    case measure => simp [intOf]; have := HJJ.out; omega
                  · have hij : ¬ (i : Int) < (N : Int) - 1 - i := by omega
                    have hyl : ys.length = N := by have := HR.out.1; have := HLN2.out; omega
                    have HYE : Hid (ys = dtx z) := by
                      rw [HR.out.done (by have := HLN2.out; omega), ← HL.out]
                      unfold dtx Hid
                      have h1 := HS.out
                      rw [if_neg HZ.out]
                      have h2 : z < 0 := by simpa using h1
                      rw [if_pos h2]
                      simp
                    have hcv : (convert 103 118 (.slice (some ⟨g2, 0, none⟩) N cp2)).run Tryz.prog wr = .ok (.string (txt (dtx z))) wr := by
                      have h := run_bytes_back (P := Tryz.prog) wr 103 118 5 g2 0 cp2 ys Tryz.underlying103 Tryz.underlying5 Tryz.underlying118 (by rw [HYE.out]; exact dtx_byt z) (fun j hj => by rw [Nat.zero_add]; exact (HO.out.at_ j hj).1)
                      rw [hyl, HYE.out] at h
                      exact h
                    clear hyl hlt
                    go_wp2
                    go_ret
                    exact ⟨HPB.out.trans HO.out.2, rfl⟩
              | false =>
                generalize hL : List.map (fun x => 48 + x) (dgt z.natAbs) = L at *
                have HL := Lib.hid hL
                clear hL
                have HLN : Hid (L.length = m + 1) := by rw [← HL.out]; simp [HLM.out, Hid]
                have hd2 := HCP.out.2.1
                have HO4 := HO
                go_wp2
                clear HO k0 e3
                generalize hN : m + 1 = N at *
                have hMN : (m : Int) = (N : Int) - 1 := by omega
                rw [hMN]
                clear hMN
                have HMN := Lib.hid hN
                have HLN2 := HLN
                clear hN
                go_loopw [6, 7] (fun iv jv wr => ∃ (i : Nat) (ys : List Int), iv = .int .i64 i ∧ jv = .int .i64 ((N : Int) - 1 - i) ∧ i + i ≤ N ∧ Hid (RevTo L ys i) ∧ Hid (Own wb wr 5 .u8 (.slice (some ⟨g, 0, none⟩) N cp) ys)) (fun iv jv _ => (intOf jv - intOf iv + 1).toNat)
                case atStart => exact ⟨0, L, rfl, by simp, by omega, RevTo.start L, HO4.out⟩
                case round =>
                  clear HO4
                  obtain ⟨i, ys, rfl, rfl, hi2, HR, HO⟩ := hrel
                  by_cases hlt : i + 1 + i < N
                  · have hj0 : ∃ jj : Nat, jj + 1 + i = N := ⟨N - 1 - i, by omega⟩
                    obtain ⟨jj, hjj⟩ := hj0
                    have ej : (N : Int) - 1 - i = (jj : Int) := by omega
                    rw [ej]
                    have HJJ := Lib.hid hjj
                    have hij : (i : Int) < (jj : Int) := by omega
                    have hjl : jj < N := by omega
                    have hil : i < N := by omega
                    have hne : i ≠ jj := by omega
                    clear ej hjj hlt
                    have hyl : ys.length = N := by have := HR.out.1; have := HLN.out; have := HMN.out; omega
                    obtain ⟨c1, f1⟩ := HO.out.at_ i (by omega)
                    obtain ⟨c2, f2⟩ := HO.out.at_ jj (by omega)
                    have HYL := Lib.hid hyl
                    clear hyl
                    go_wp2
                    go_region
                    all_goals go_wp2
                    all_goals go_roundw
                    case rel => exact ⟨i + 1, (ys.set i (rd ys jj)).set jj (rd ys i), by go_num, by rw [show (N : Int) - 1 - ((i + 1 : Nat) : Int) = (jj : Int) - 1 by have := HJJ.out; omega], by have := HJJ.out; omega, by have h := RevTo.step HR.out (by have := HLN2.out; have := HJJ.out; omega); rw [show L.length - 1 - i = jj by have := HLN2.out; have := HJJ.out; omega] at h; exact h, ((HO.out.set (by have := HYL.out; omega) _).set (by have := HYL.out; simp; omega) _).drew⟩
                    case measure => simp [intOf]; have := HJJ.out; omega
                  · have hij : ¬ (i : Int) < (N : Int) - 1 - i := by omega
                    have hyl : ys.length = N := by have := HR.out.1; have := HLN2.out; omega
                    have HYE : Hid (ys = dtx z) := by
                      rw [HR.out.done (by have := HLN2.out; omega), ← HL.out]
                      unfold dtx Hid
                      have h1 := HS.out
                      rw [if_neg HZ.out]
                      have h2 : ¬ z < 0 := by simpa using h1
                      rw [if_neg h2]
                      simp
                    have hcv : (convert 103 118 (.slice (some ⟨g, 0, none⟩) N cp)).run Tryz.prog wr = .ok (.string (txt (dtx z))) wr := by
                      have h := run_bytes_back (P := Tryz.prog) wr 103 118 5 g 0 cp ys Tryz.underlying103 Tryz.underlying5 Tryz.underlying118 (by rw [HYE.out]; exact dtx_byt z) (fun j hj => by rw [Nat.zero_add]; exact (HO.out.at_ j hj).1)
                      rw [hyl, HYE.out] at h
                      exact h
                    clear hyl hlt
                    go_wp2
                    go_ret
                    exact ⟨HPB.out.trans HO.out.2, rfl⟩

end Go.Proofs.YtdcjibjldfjllaaGreat

/- The text of a rational number. -/
namespace Go.Proofs.YtdcjibjldfjllaaGreat
open Go.RowKit

/-- The text of a rational number. -/
def rtx (q : Rat) : List Int := if q.den = 1 then dtx q.num else dtx q.num ++ [47] ++ dtx (q.den : Int)

theorem dtx_length (z : Int) : (dtx z).length ≤ 9 * len z + 2 := by
  unfold dtx
  split
  · simp
  · have h1 : (dgt z.natAbs).length ≤ 9 * len z := by
      unfold dgt
      refine Dg.toD_length_le (by omega) ?_
      rw [Nat.pow_mul]
      exact dg_lt (Nat.le_refl _)
    split <;> simp <;> omega

set_option maxRecDepth 100000 in
set_option maxHeartbeats 8000000 in
theorem ratio_text (s t : Bool) (A B : Option Addr) (n c m d : Nat) (q : Rat) (w : World) (hq : RQ w s A n c t B m d q) (hl : lenQ q < 8589934592) :
    Calls Tryz.prog 98 #[.agg #[.bool s, .slice A n c, .bool t, .slice B m d]] w fun e w' => Past w w' ∧ e = .returned (.string (txt (rtx q))) := by
  have HQ := Lib.hid hq
  have HLQ := Lib.hid hq.lens
  have HLEN := Lib.hid hl
  clear hq hl
  obtain ⟨wb, hwb⟩ : ∃ wb, (w.alloc (.cells #[.bool s, .slice A n c, .bool t, .slice B m d] 131)) = wb := ⟨_, rfl⟩
  have H4 : wb.cell? ⟨w.heap.size, 0, none⟩ = some (.bool s) ∧ wb.cell? ⟨w.heap.size, 1, none⟩ = some (.slice A n c) ∧ wb.cell? ⟨w.heap.size, 2, none⟩ = some (.bool t) ∧ wb.cell? ⟨w.heap.size, 3, none⟩ = some (.slice B m d) := by rw [← hwb]; simp [go_sem]
  have HPB : Hid (Past w wb) := by rw [← hwb]; exact (Past.refl _).alloc _
  have HH4 := Lib.hid H4
  clear H4
  have HWB := Lib.hid hwb
  clear hwb
  go_enter Tryz.func98, Tryz.ntmps98
  go_wp2_with fail
  rw [HWB.out]
  refine (ratio_den _ _ _ _ _ _ _ _ q _ (HQ.out.past HPB.out)).mono ?_
  rintro e w1 ⟨hp1, s1, A1, n1, c1, rfl, hr1⟩
  have HR1 := Lib.hid hr1
  clear hr1
  obtain ⟨k0, k1, k2, k3⟩ := keep4 hp1 HH4.out
  have HP1 := Lib.hid (HPB.out.trans hp1)
  clear hp1
  have hbs := World.block_lt_of_cell? w1 _ k0
  dsimp only at hbs
  have hw2 : Past w1 (w1.alloc (.cells #[.bool s1, .slice A1 n1 c1] 129)) := (Past.refl _).alloc _
  have HW2 := Lib.hid hw2
  clear hw2
  by_cases hd1 : q.den = 1
  · have hcb : (cmpZ (q.den : Int) 1 != 0) = false := by rw [hd1]; rfl
    have HD1 := Lib.hid hd1
    clear hd1
    go_wp2_with fail
    obtain ⟨wc, hwc⟩ : ∃ wc, (w1.alloc (.cells #[.bool s1, .slice A1 n1 c1] 129)) = wc := ⟨_, rfl⟩
    have hc0 : wc.cell? ⟨w1.heap.size, 0, none⟩ = some (.bool s1) ∧ wc.cell? ⟨w1.heap.size, 1, none⟩ = some (.slice A1 n1 c1) := by rw [← hwc]; simp [go_sem]
    have k4 := keep4 (show Past w1 wc by rw [← hwc]; exact HW2.out) ⟨k0, k1, k2, k3⟩
    have HC0 := Lib.hid hc0
    have HK4 := Lib.hid k4
    have HPC : Hid (Past w wc) := by rw [← hwc]; exact HP1.out.trans HW2.out
    have HPC1 : Hid (Past w1 wc) := by rw [← hwc]; exact HW2.out
    clear hc0 k4 k0 k1 k2 k3 HW2
    rw [hwc]
    have HWC := Lib.hid hwc
    clear hwc
    have PD : Hid (Past wc wc.drew) := (Past.refl wc).drew
    go_region_held3 (fun w' => w'.cell? ⟨w1.heap.size, 0, none⟩ = some (.bool s1) ∧ w'.cell? ⟨w1.heap.size, 1, none⟩ = some (.slice A1 n1 c1)) (first | (refine keep2 hp3 ?_; assumption) | (refine keep2 hp2 ?_; assumption) | (refine keep2 PD ?_; exact HC0.out))
      (first
        | (go_at_call 154; ((with_reducible refine (whole_cmp _ _ _ _ _ _ _ _ (q.den : Int) 1 _ (HR1.out.past (HPC1.out.trans (PD.out.trans hp2))) HR2.out).mono ?_)); rintro e w3 ⟨hp3, rfl⟩)
        | (go_at_call 155; ((with_reducible refine (num_of 1 _ ?_ ?_).mono ?_)); (omega); (omega); rintro e w2 ⟨hp2, s2, A2, n2, c2, rfl, hr2⟩; have HR2 := Lib.hid hr2; clear hr2))
    have HP3 := Lib.hid (PD.out.trans (Past.trans hp2 hp3))
    clear hp2 hp3
    obtain ⟨k0, k1, k2, k3⟩ := keep4 HP3.out HK4.out
    go_wp2_with fail
    refine (whole_text _ _ _ _ q.num _ (HQ.out.1.past (HPC.out.trans HP3.out)) (by have := HLQ.out; have := HLEN.out; omega)).mono ?_
    rintro e w4 ⟨hp4, rfl⟩
    go_wp2
    go_ret
    exact ⟨(HPC.out.trans HP3.out).trans hp4, by unfold rtx; rw [if_pos HD1.out]; rfl⟩
  · have hcb : (cmpZ (q.den : Int) 1 != 0) = true := by
      have := q.den_pos
      rw [bne_iff_ne]
      unfold cmpZ
      rw [if_neg (by omega), if_pos (by omega)]
      omega
    have HD1 := Lib.hid hd1
    clear hd1
    go_wp2_with fail
    obtain ⟨wc, hwc⟩ : ∃ wc, (w1.alloc (.cells #[.bool s1, .slice A1 n1 c1] 129)) = wc := ⟨_, rfl⟩
    have hc0 : wc.cell? ⟨w1.heap.size, 0, none⟩ = some (.bool s1) ∧ wc.cell? ⟨w1.heap.size, 1, none⟩ = some (.slice A1 n1 c1) := by rw [← hwc]; simp [go_sem]
    have k4 := keep4 (show Past w1 wc by rw [← hwc]; exact HW2.out) ⟨k0, k1, k2, k3⟩
    have HC0 := Lib.hid hc0
    have HK4 := Lib.hid k4
    have HPC : Hid (Past w wc) := by rw [← hwc]; exact HP1.out.trans HW2.out
    have HPC1 : Hid (Past w1 wc) := by rw [← hwc]; exact HW2.out
    clear hc0 k4 k0 k1 k2 k3 HW2
    rw [hwc]
    have HWC := Lib.hid hwc
    clear hwc
    have PD : Hid (Past wc wc.drew) := (Past.refl wc).drew
    go_region_held3 (fun w' => w'.cell? ⟨w1.heap.size, 0, none⟩ = some (.bool s1) ∧ w'.cell? ⟨w1.heap.size, 1, none⟩ = some (.slice A1 n1 c1)) (first | (refine keep2 hp3 ?_; assumption) | (refine keep2 hp2 ?_; assumption) | (refine keep2 PD ?_; exact HC0.out))
      (first
        | (go_at_call 154; ((with_reducible refine (whole_cmp _ _ _ _ _ _ _ _ (q.den : Int) 1 _ (HR1.out.past (HPC1.out.trans (PD.out.trans hp2))) HR2.out).mono ?_)); rintro e w3 ⟨hp3, rfl⟩)
        | (go_at_call 155; ((with_reducible refine (num_of 1 _ ?_ ?_).mono ?_)); (omega); (omega); rintro e w2 ⟨hp2, s2, A2, n2, c2, rfl, hr2⟩; have HR2 := Lib.hid hr2; clear hr2))
    have HP3 := Lib.hid (PD.out.trans (Past.trans hp2 hp3))
    clear hp2 hp3
    obtain ⟨k0, k1, k2, k3⟩ := keep4 HP3.out HK4.out
    obtain ⟨k4, k5⟩ := keep2 HP3.out HC0.out
    have H6 : Hid (w3.cell? ⟨w.heap.size, 0, none⟩ = some (.bool s) ∧ w3.cell? ⟨w.heap.size, 1, none⟩ = some (.slice A n c) ∧ w3.cell? ⟨w1.heap.size, 0, none⟩ = some (.bool s1) ∧ w3.cell? ⟨w1.heap.size, 1, none⟩ = some (.slice A1 n1 c1)) := ⟨k0, k1, k4, k5⟩
    clear k0 k1 k2 k3 k4 k5
    have PD3 : Hid (Past w3 w3.drew) := (Past.refl w3).drew
    have hl1 : (txt (dtx q.num)).size ≤ 100000000000 := by
      rw [txt_size]
      have := dtx_length q.num
      have := HLQ.out
      have := HLEN.out
      omega
    have hl2 : (txt (dtx (q.den : Int))).size ≤ 100000000000 := by
      rw [txt_size]
      have := dtx_length (q.den : Int)
      have := HLQ.out
      have := HLEN.out
      omega
    have hs1 : ¬ 9223372036854775807 < (txt (dtx q.num)).size + 1 := by omega
    have hs2 : ¬ 9223372036854775807 < (txt (dtx q.num)).size + 1 + (txt (dtx (q.den : Int))).size := by omega
    clear hl1 hl2
    go_wp2_with fail
    go_region_held3 (fun w' => w'.cell? ⟨w.heap.size, 0, none⟩ = some (.bool s) ∧ w'.cell? ⟨w.heap.size, 1, none⟩ = some (.slice A n c) ∧ w'.cell? ⟨w1.heap.size, 0, none⟩ = some (.bool s1) ∧ w'.cell? ⟨w1.heap.size, 1, none⟩ = some (.slice A1 n1 c1)) (first | assumption | (refine keep4 hp5 ?_; assumption) | (refine keep4 hp4 ?_; assumption) | (refine keep4 PD3 ?_; exact H6.out))
      (first
        | (go_at_call 156; ((with_reducible refine (whole_text _ _ _ _ (q.den : Int) _ (HR1.out.past (HPC1.out.trans (HP3.out.trans (PD3.out.trans hp4)))) ?_).mono ?_)); (have := HR1.out.len; have := HLQ.out; have := HLEN.out; omega); rintro e w5 ⟨hp5, rfl⟩)
        | (go_at_call 156; ((with_reducible refine (whole_text _ _ _ _ q.num _ ((RQ.num HQ.out).past (HPC.out.trans (HP3.out.trans PD3.out))) ?_).mono ?_)); (have := HLQ.out; have := HLEN.out; omega); rintro e w4 ⟨hp4, rfl⟩))
    go_wp2
    go_ret
    exact ⟨(((HPC.out.trans HP3.out).trans PD3.out).trans hp4).trans hp5, by unfold rtx; rw [if_neg HD1.out, txt_append, txt_append]; rfl⟩

end Go.Proofs.YtdcjibjldfjllaaGreat
