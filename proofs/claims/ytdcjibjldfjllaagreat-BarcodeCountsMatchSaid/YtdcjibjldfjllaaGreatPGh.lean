/- Helpers of the proof, joined: Num19 Num20. -/
import Derived.Test.YtdcjibjldfjllaaGreatPGf
import Derived.Test.YtdcjibjldfjllaaGreatPGg
set_option linter.unusedVariables false
set_option linter.unusedSimpArgs false
/- Reading a rational number. -/
namespace Go.Proofs.YtdcjibjldfjllaaGreat
open Go.RowKit

theorem bef_all {c : Int} {l : List Int} (h : c ∉ l) : bef c l = l := by
  have h1 : ¬ (bef c l).length < l.length := fun e => h ((bef_lt c l).1 e)
  have h2 := bef_eq_take c l
  have h3 := bef_le c l
  rw [List.take_of_length_le (by omega)] at h2
  exact h2.symm

/-- Whether a text is a rational number, and which one. -/
def okR (l : List Int) : Bool :=
  if 47 ∈ l then okI (bef 47 l) && okI (aft 47 l) && !(intV (bef 47 l) == 0) && decide (1 < intV (aft 47 l)) && (Nat.gcd (intV (bef 47 l)).natAbs (intV (aft 47 l)).natAbs == 1) else okI l
def ratV (l : List Int) : Rat := if 47 ∈ l then mkRat (intV (bef 47 l)) (intV (aft 47 l)).toNat else (intV l : Rat)
def valR (l : List Int) : Rat := if okR l then ratV l else 0
/-- A call that answers a rational number and whether there is one. -/
def AnsQR (l : List Int) (w : World) (e : Ending) (w' : World) : Prop := ∃ v, e = .returned (.tuple #[v, .bool (okR l)]) ∧ AnsR (valR l) w (.returned v) w'

theorem cut_slash (s : ByteArray) : ∃ s1 s2 b, cutV ((47 : UInt8).toNat : Int) (byt s) = .tuple #[.string s1, .string s2, .bool b] ∧ byt s1 = bef 47 (byt s) ∧ byt s2 = (if b then aft 47 (byt s) else []) ∧ b = decide ((47 : Int) ∈ byt s) ∧ s1.size ≤ s.size ∧ s2.size ≤ s.size := by
  have e : (((47 : UInt8).toNat : Nat) : Int) = 47 := rfl
  rw [e]
  unfold cutV
  have hb := bef_le 47 (byt s)
  rw [byt_length] at hb
  have b1 : byt (txt (bef 47 (byt s))) = bef 47 (byt s) := by
    rw [byt_txt]
    intro x hx
    rw [← bef_eq_take] at hx
    exact byt_byt s x (List.mem_of_mem_take hx)
  have b2 : byt (txt (aft 47 (byt s))) = aft 47 (byt s) := by
    rw [byt_txt]
    intro x hx
    unfold aft at hx
    exact byt_byt s x (List.mem_of_mem_drop hx)
  by_cases h : (47 : Int) ∈ byt s
  · refine ⟨txt (bef 47 (byt s)), txt (aft 47 (byt s)), true, by rw [if_pos h], b1, by rw [b2]; rfl, by simp [h], by rw [txt_size]; exact hb, ?_⟩
    rw [txt_size]
    unfold aft
    rw [List.length_drop, byt_length]
    omega
  · refine ⟨s, txt [], false, by rw [if_neg h, txt_byt]; rfl, (bef_all h).symm, rfl, by simp [h], Nat.le_refl _, by rw [txt_size]; exact Nat.zero_le _⟩

theorem len_intV {l : List Int} (h : okI l = true) : len (intV l) ≤ l.length := by
  unfold okI at h
  simp only [Bool.and_eq_true, Bool.not_eq_true'] at h
  have hd := decV_bd h.1.2
  have hb : (bodyL l).length ≤ l.length := by
    unfold bodyL
    split
    · rw [List.length_tail]; omega
    · exact Nat.le_refl _
  have e : (intV l).natAbs = (decV (bodyL l)).natAbs := by
    unfold intV
    split
    · rw [Int.natAbs_neg]
    · rfl
  unfold len
  rw [e]
  refine Nat.le_trans (Dg.toD_length_le (k := (bodyL l).length) (by omega) ?_) hb
  have h1 : ((decV (bodyL l)).natAbs : Int) = decV (bodyL l) := by omega
  have h2 : (10 : Int) ^ (bodyL l).length ≤ 1000000000 ^ (bodyL l).length := by
    have h := Int.ofNat_le.2 (Nat.pow_le_pow_left (show 10 ≤ 1000000000 by omega) (bodyL l).length)
    rw [Int.natCast_pow, Int.natCast_pow] at h
    exact h
  have h3 : (((decV (bodyL l)).natAbs : Nat) : Int) < ((1000000000 ^ (bodyL l).length : Nat) : Int) := by
    rw [h1, Int.natCast_pow]
    exact Int.lt_of_lt_of_le hd.2 h2
  exact Int.ofNat_lt.1 h3

theorem AnsQR.no {l : List Int} {w w' : World} {v : Value} (h : okR l = false) (ha : AnsR 0 w (.returned v) w') : AnsQR l w (.returned (.tuple #[v, .bool false])) w' :=
  ⟨v, by rw [h], by unfold valR; rw [h]; exact ha⟩
theorem AnsQR.yes {l : List Int} {w w' : World} {v : Value} {q : Rat} (h : okR l = true) (hq : ratV l = q) (ha : AnsR q w (.returned v) w') : AnsQR l w (.returned (.tuple #[v, .bool true])) w' :=
  ⟨v, by rw [h], by unfold valR; rw [h, if_pos rfl, hq]; exact ha⟩

theorem RQ.whole {w : World} {s : Bool} {A : Option Addr} {n c : Nat} {t : Bool} {B : Option Addr} {m d : Nat} {z : Int} (hn : RW w s A n c z) (hd : RW w t B m d 1) : RQ w s A n c t B m d (z : Rat) := by
  refine ⟨?_, .inl ?_⟩
  · rw [Rat.num_intCast]; exact hn
  · rw [Rat.den_intCast]; exact hd
theorem RQ.whole0 {w : World} {s : Bool} {A : Option Addr} {n c : Nat} {t : Bool} {B : Option Addr} {m d : Nat} (hn : RW w s A n c 0) (hd : RW w t B m d 1) : RQ w s A n c t B m d 0 := ⟨hn, .inl hd⟩
theorem RQ.zero (w : World) : RQ w false none 0 0 false none 0 0 0 := by
  have h : RW w false none 0 0 0 := ⟨by simp, by rw [show dg (0 : Int).natAbs = [] from (dg_nil 0).2 rfl]; exact RInts.nil _ _ _ 0 (by omega)⟩
  exact ⟨h, .inr ⟨rfl, h⟩⟩

theorem keepst2r {w : World} {g : Nat} {x0 x1 x2 x3 : Value} {a0 a1 : Addr} {v0 v1 : Value} (n0 : a0.block ≠ g) (n1 : a1.block ≠ g) (h : w.cell? a0 = some v0 ∧ w.cell? a1 = some v1) :
    ((((w.setCell ⟨g, 0, none⟩ x0).setCell ⟨g, 1, none⟩ x1).setCell ⟨g, 2, none⟩ x2).setCell ⟨g, 3, none⟩ x3).cell? a0 = some v0 ∧ ((((w.setCell ⟨g, 0, none⟩ x0).setCell ⟨g, 1, none⟩ x1).setCell ⟨g, 2, none⟩ x2).setCell ⟨g, 3, none⟩ x3).cell? a1 = some v1 :=
  ⟨set4_cell n0 h.1, set4_cell n1 h.2⟩

set_option maxRecDepth 100000 in
set_option maxHeartbeats 8000000 in
theorem num_readRat (s : ByteArray) (w : World) (hs : s.size ≤ 100000000) :
    Calls Tryz.prog 141 #[.string s] w (AnsQR (byt s) w) := by
  obtain ⟨s1, s2, sl, hcut, hb1, hb2, hsl, hz1, hz2⟩ := cut_slash s
  have HCUT := Lib.hid hcut
  have HB1 := Lib.hid hb1
  have HB2 := Lib.hid hb2
  have HSL := Lib.hid hsl
  have HZ := Lib.hid (And.intro hs (And.intro hz1 hz2))
  clear hcut hb1 hb2 hsl hz1 hz2 hs
  obtain ⟨l, hl⟩ : ∃ l, byt s = l := ⟨_, rfl⟩
  rw [hl]
  have HL := Lib.hid hl
  clear hl
  obtain ⟨o1, ho1⟩ : ∃ o1, okI (byt s1) = o1 := ⟨_, rfl⟩
  obtain ⟨x, hx⟩ : ∃ x, (if okI (byt s1) then intV (byt s1) else 0) = x := ⟨_, rfl⟩
  obtain ⟨o2, ho2⟩ : ∃ o2, okI (byt s2) = o2 := ⟨_, rfl⟩
  obtain ⟨y, hy⟩ : ∃ y, (if okI (byt s2) then intV (byt s2) else 0) = y := ⟨_, rfl⟩
  have HO1 := Lib.hid ho1
  have HO2 := Lib.hid ho2
  have HX := Lib.hid hx
  have HY := Lib.hid hy
  clear ho1 ho2 hx hy
  obtain ⟨wb, hwb⟩ : ∃ wb, (w.alloc (.cells #[.bool false, .slice none 0 0, .bool false, .slice none 0 0] 131)) = wb := ⟨_, rfl⟩
  have HB : Hid ((wb.cell? ⟨w.heap.size, 0, none⟩ = some (.bool false) ∧ wb.frozen? ⟨w.heap.size, 0, none⟩ = false) ∧ (wb.cell? ⟨w.heap.size, 1, none⟩ = some (.slice none 0 0) ∧ wb.frozen? ⟨w.heap.size, 1, none⟩ = false) ∧ (wb.cell? ⟨w.heap.size, 2, none⟩ = some (.bool false) ∧ wb.frozen? ⟨w.heap.size, 2, none⟩ = false) ∧ (wb.cell? ⟨w.heap.size, 3, none⟩ = some (.slice none 0 0) ∧ wb.frozen? ⟨w.heap.size, 3, none⟩ = false)) := by rw [← hwb]; simp [go_sem, Hid]
  have HPB : Hid (Past w wb) := by rw [← hwb]; exact (Past.refl _).alloc _
  have HWB := Lib.hid hwb
  clear hwb
  cases sl with
  | false =>
    have hnm : (47 : Int) ∉ l := by
      have := HSL.out
      rw [HL.out] at this
      simpa using this
    have hs1 : byt s1 = l := by rw [HB1.out, HL.out, bef_all hnm]
    have HS1 := Lib.hid hs1
    have HOR : Hid (okR l = o1) := by unfold okR; rw [if_neg hnm, ← hs1]; exact HO1.out
    have HRV : Hid (o1 = true → ratV l = (x : Rat)) := by
      intro e
      have h1 := HX.out
      rw [HO1.out, e, if_pos rfl, hs1] at h1
      unfold ratV
      rw [if_neg hnm, h1]
    have HX0 : Hid (o1 = false → x = 0) := by
      intro e
      have h1 := HX.out
      rw [HO1.out, e] at h1
      simpa using h1.symm
    clear hnm hs1
    go_enter Tryz.func141, Tryz.ntmps141
    go_wp2_with fail
    rw [HWB.out]
    refine (str_cut s 47 _ (by have := HZ.out.1; omega)).mono ?_
    rintro e w' ⟨⟨q, rfl⟩, rfl⟩
    rw [HCUT.out]
    go_wp2_with fail
    refine (num_read s1 _ (by have := HZ.out; omega)).mono ?_
    rintro e w1 ⟨hp1, t1, A1, n1, c1, rfl, hr1⟩
    rw [HX.out] at hr1
    rw [HO1.out]
    have HR1 := Lib.hid hr1
    have HP1 : Hid (Past wb w1) := Past.trans ((Past.refl wb).drewN q) hp1
    clear hp1 hr1
    have hbs : w.heap.size < w1.heap.size := World.block_lt_of_cell? w1 _ (HP1.out.cell HB.out.1.1)
    cases o1 with
    | false =>
      have hx0 := HX0.out rfl
      go_wp2_with fail
      obtain ⟨wc, hwc⟩ : ∃ wc, (w1.alloc (.cells #[.bool t1, .slice A1 n1 c1] 129)) = wc := ⟨_, rfl⟩
      have hc0 : wc.cell? ⟨w1.heap.size, 0, none⟩ = some (.bool t1) ∧ wc.cell? ⟨w1.heap.size, 1, none⟩ = some (.slice A1 n1 c1) := by rw [← hwc]; simp [go_sem]
      have HC0 := Lib.hid hc0
      have HPC : Hid (Past w1 wc) := by rw [← hwc]; exact (Past.refl _).alloc _
      clear hc0
      rw [hwc]
      have HWC := Lib.hid hwc
      clear hwc
      have PD : Hid (Past wc wc.drew) := (Past.refl wc).drew
      have HF : Hid ((wc.cell? ⟨w.heap.size, 0, none⟩ = some (.bool false) ∧ wc.frozen? ⟨w.heap.size, 0, none⟩ = false) ∧ (wc.cell? ⟨w.heap.size, 1, none⟩ = some (.slice none 0 0) ∧ wc.frozen? ⟨w.heap.size, 1, none⟩ = false) ∧ (wc.cell? ⟨w.heap.size, 2, none⟩ = some (.bool false) ∧ wc.frozen? ⟨w.heap.size, 2, none⟩ = false) ∧ (wc.cell? ⟨w.heap.size, 3, none⟩ = some (.slice none 0 0) ∧ wc.frozen? ⟨w.heap.size, 3, none⟩ = false)) := by
        have hq := HP1.out.trans HPC.out
        exact ⟨hq.free HB.out.1.1 HB.out.1.2, hq.free HB.out.2.1.1 HB.out.2.1.2, hq.free HB.out.2.2.1.1 HB.out.2.2.1.2, hq.free HB.out.2.2.2.1 HB.out.2.2.2.2⟩
      go_region_held3 (fun w' => w'.cell? ⟨w1.heap.size, 0, none⟩ = some (.bool t1) ∧ w'.cell? ⟨w1.heap.size, 1, none⟩ = some (.slice A1 n1 c1)) (first | (refine keep2 hp3 ?_; assumption) | (refine keep2 PD ?_; exact HC0.out) | (refine keepst2r ?_ ?_ (by assumption) <;> (dsimp only; omega)))
        (first
          | (go_at_call 155; ((with_reducible refine (num_of 1 _ ?_ ?_).mono ?_)); (omega); (omega); rintro e w3 ⟨hp3, s3, A3, n3, c3, rfl, hr3⟩; have HR3 := Lib.hid hr3; clear hr3; obtain ⟨q1_0, f1_0⟩ := hp3.free (PD.out.cell HF.out.1.1) (PD.out.free HF.out.1.1 HF.out.1.2).2; obtain ⟨q1_1, f1_1⟩ := hp3.free (PD.out.cell HF.out.2.1.1) (PD.out.free HF.out.2.1.1 HF.out.2.1.2).2; obtain ⟨q1_2, f1_2⟩ := hp3.free (PD.out.cell HF.out.2.2.1.1) (PD.out.free HF.out.2.2.1.1 HF.out.2.2.1.2).2; obtain ⟨q1_3, f1_3⟩ := hp3.free (PD.out.cell HF.out.2.2.2.1) (PD.out.free HF.out.2.2.2.1 HF.out.2.2.2.2).2))
      go_wp2
      refine bodyPost_ret (v := .tuple #[.agg #[.bool t1, .slice A1 n1 c1, .bool s3, .slice A3 n3 c3], .bool false]) (by simp [results, Tryz.results141, go_sem, q1_0, q1_1, q1_2, q1_3]) rfl ?_
      rw [hx0] at HR1; exact AnsQR.no HOR.out (AnsR.store (b := w.heap.size) (RQ.whole0 ((HR1.out.past (HPC.out.trans PD.out)).past hp3) HR3.out) (HPB.out.trans (HP1.out.trans (HPC.out.trans PD.out))) hp3 (by omega) (by simp [q1_0]) (by simp [q1_1]) (by simp [q1_2]) (by simp [q1_3]) _ _ _ _)
    | true =>
      go_wp2_with fail
      obtain ⟨wc, hwc⟩ : ∃ wc, (w1.alloc (.cells #[.bool t1, .slice A1 n1 c1] 129)) = wc := ⟨_, rfl⟩
      have hc0 : wc.cell? ⟨w1.heap.size, 0, none⟩ = some (.bool t1) ∧ wc.cell? ⟨w1.heap.size, 1, none⟩ = some (.slice A1 n1 c1) := by rw [← hwc]; simp [go_sem]
      have HC0 := Lib.hid hc0
      have HPC : Hid (Past w1 wc) := by rw [← hwc]; exact (Past.refl _).alloc _
      clear hc0
      rw [hwc]
      have HWC := Lib.hid hwc
      clear hwc
      have PD : Hid (Past wc wc.drew) := (Past.refl wc).drew
      have HF : Hid ((wc.cell? ⟨w.heap.size, 0, none⟩ = some (.bool false) ∧ wc.frozen? ⟨w.heap.size, 0, none⟩ = false) ∧ (wc.cell? ⟨w.heap.size, 1, none⟩ = some (.slice none 0 0) ∧ wc.frozen? ⟨w.heap.size, 1, none⟩ = false) ∧ (wc.cell? ⟨w.heap.size, 2, none⟩ = some (.bool false) ∧ wc.frozen? ⟨w.heap.size, 2, none⟩ = false) ∧ (wc.cell? ⟨w.heap.size, 3, none⟩ = some (.slice none 0 0) ∧ wc.frozen? ⟨w.heap.size, 3, none⟩ = false)) := by
        have hq := HP1.out.trans HPC.out
        exact ⟨hq.free HB.out.1.1 HB.out.1.2, hq.free HB.out.2.1.1 HB.out.2.1.2, hq.free HB.out.2.2.1.1 HB.out.2.2.1.2, hq.free HB.out.2.2.2.1 HB.out.2.2.2.2⟩
      go_region_held3 (fun w' => w'.cell? ⟨w1.heap.size, 0, none⟩ = some (.bool t1) ∧ w'.cell? ⟨w1.heap.size, 1, none⟩ = some (.slice A1 n1 c1)) (first | (refine keep2 hp3 ?_; assumption) | (refine keep2 PD ?_; exact HC0.out) | (refine keepst2r ?_ ?_ (by assumption) <;> (dsimp only; omega)))
        (first
          | (go_at_call 155; ((with_reducible refine (num_of 1 _ ?_ ?_).mono ?_)); (omega); (omega); rintro e w3 ⟨hp3, s3, A3, n3, c3, rfl, hr3⟩; have HR3 := Lib.hid hr3; clear hr3; obtain ⟨q1_0, f1_0⟩ := hp3.free (PD.out.cell HF.out.1.1) (PD.out.free HF.out.1.1 HF.out.1.2).2; obtain ⟨q1_1, f1_1⟩ := hp3.free (PD.out.cell HF.out.2.1.1) (PD.out.free HF.out.2.1.1 HF.out.2.1.2).2; obtain ⟨q1_2, f1_2⟩ := hp3.free (PD.out.cell HF.out.2.2.1.1) (PD.out.free HF.out.2.2.1.1 HF.out.2.2.1.2).2; obtain ⟨q1_3, f1_3⟩ := hp3.free (PD.out.cell HF.out.2.2.2.1) (PD.out.free HF.out.2.2.2.1 HF.out.2.2.2.2).2))
      go_wp2
      refine bodyPost_ret (v := .tuple #[.agg #[.bool t1, .slice A1 n1 c1, .bool s3, .slice A3 n3 c3], .bool true]) (by simp [results, Tryz.results141, go_sem, q1_0, q1_1, q1_2, q1_3]) rfl ?_
      exact AnsQR.yes HOR.out (HRV.out (by trivial)) (AnsR.store (b := w.heap.size) (RQ.whole (z := x) ((HR1.out.past (HPC.out.trans PD.out)).past hp3) HR3.out) (HPB.out.trans (HP1.out.trans (HPC.out.trans PD.out))) hp3 (by omega) (by simp [q1_0]) (by simp [q1_1]) (by simp [q1_2]) (by simp [q1_3]) _ _ _ _)
  | true =>
    have hnm : (47 : Int) ∈ l := by
      have := HSL.out
      rw [HL.out] at this
      simpa using this
    have hs1 : byt s1 = bef 47 l := by rw [HB1.out, HL.out]
    have hs2 : byt s2 = aft 47 l := by rw [HB2.out, HL.out, if_pos rfl]
    have HOR : Hid (okR l = (o1 && o2 && !(intV (byt s1) == 0) && decide (1 < intV (byt s2)) && (Nat.gcd (intV (byt s1)).natAbs (intV (byt s2)).natAbs == 1))) := by unfold okR; rw [if_pos hnm, ← hs1, ← hs2, HO1.out, HO2.out]; exact rfl
    have HRV : Hid (ratV l = mkRat (intV (byt s1)) (intV (byt s2)).toNat) := by unfold ratV; rw [if_pos hnm, ← hs1, ← hs2]; exact rfl
    clear hnm hs1 hs2
    go_enter Tryz.func141, Tryz.ntmps141
    go_wp2_with fail
    rw [HWB.out]
    refine (str_cut s 47 _ (by have := HZ.out.1; omega)).mono ?_
    rintro e w' ⟨⟨q, rfl⟩, rfl⟩
    rw [HCUT.out]
    go_wp2_with fail
    refine (num_read s1 _ (by have := HZ.out; omega)).mono ?_
    rintro e w1 ⟨hp1, t1, A1, n1, c1, rfl, hr1⟩
    rw [HX.out] at hr1
    rw [HO1.out]
    have HR1 := Lib.hid hr1
    have HP1 : Hid (Past wb w1) := Past.trans ((Past.refl wb).drewN q) hp1
    clear hp1 hr1
    have hbs : w.heap.size < w1.heap.size := World.block_lt_of_cell? w1 _ (HP1.out.cell HB.out.1.1)
    cases o1 with
    | false =>
      have hx0 : x = 0 := by
        have h1 := HX.out
        rw [HO1.out] at h1
        simpa using h1.symm
      have HNO : Hid (okR l = false) := by rw [HOR.out]; rfl
      go_wp2_with fail
      obtain ⟨wc, hwc⟩ : ∃ wc, (w1.alloc (.cells #[.bool t1, .slice A1 n1 c1] 129)) = wc := ⟨_, rfl⟩
      have hc0 : wc.cell? ⟨w1.heap.size, 0, none⟩ = some (.bool t1) ∧ wc.cell? ⟨w1.heap.size, 1, none⟩ = some (.slice A1 n1 c1) := by rw [← hwc]; simp [go_sem]
      have HC0 := Lib.hid hc0
      have HPC : Hid (Past w1 wc) := by rw [← hwc]; exact (Past.refl _).alloc _
      clear hc0
      rw [hwc]
      have HWC := Lib.hid hwc
      clear hwc
      have PD : Hid (Past wc wc.drew) := (Past.refl wc).drew
      have HF : Hid ((wc.cell? ⟨w.heap.size, 0, none⟩ = some (.bool false) ∧ wc.frozen? ⟨w.heap.size, 0, none⟩ = false) ∧ (wc.cell? ⟨w.heap.size, 1, none⟩ = some (.slice none 0 0) ∧ wc.frozen? ⟨w.heap.size, 1, none⟩ = false) ∧ (wc.cell? ⟨w.heap.size, 2, none⟩ = some (.bool false) ∧ wc.frozen? ⟨w.heap.size, 2, none⟩ = false) ∧ (wc.cell? ⟨w.heap.size, 3, none⟩ = some (.slice none 0 0) ∧ wc.frozen? ⟨w.heap.size, 3, none⟩ = false)) := by
        have hq := HP1.out.trans HPC.out
        exact ⟨hq.free HB.out.1.1 HB.out.1.2, hq.free HB.out.2.1.1 HB.out.2.1.2, hq.free HB.out.2.2.1.1 HB.out.2.2.1.2, hq.free HB.out.2.2.2.1 HB.out.2.2.2.2⟩
      go_region_held3 (fun w' => w'.cell? ⟨w1.heap.size, 0, none⟩ = some (.bool t1) ∧ w'.cell? ⟨w1.heap.size, 1, none⟩ = some (.slice A1 n1 c1)) (first | (refine keep2 hp3 ?_; assumption) | (refine keep2 PD ?_; exact HC0.out) | (refine keepst2r ?_ ?_ (by assumption) <;> (dsimp only; omega)))
        (first
          | (go_at_call 155; ((with_reducible refine (num_of 1 _ ?_ ?_).mono ?_)); (omega); (omega); rintro e w3 ⟨hp3, s3, A3, n3, c3, rfl, hr3⟩; have HR3 := Lib.hid hr3; clear hr3; obtain ⟨q1_0, f1_0⟩ := hp3.free (PD.out.cell HF.out.1.1) (PD.out.free HF.out.1.1 HF.out.1.2).2; obtain ⟨q1_1, f1_1⟩ := hp3.free (PD.out.cell HF.out.2.1.1) (PD.out.free HF.out.2.1.1 HF.out.2.1.2).2; obtain ⟨q1_2, f1_2⟩ := hp3.free (PD.out.cell HF.out.2.2.1.1) (PD.out.free HF.out.2.2.1.1 HF.out.2.2.1.2).2; obtain ⟨q1_3, f1_3⟩ := hp3.free (PD.out.cell HF.out.2.2.2.1) (PD.out.free HF.out.2.2.2.1 HF.out.2.2.2.2).2))
      go_wp2
      refine bodyPost_ret (v := .tuple #[.agg #[.bool t1, .slice A1 n1 c1, .bool s3, .slice A3 n3 c3], .bool false]) (by simp [results, Tryz.results141, go_sem, q1_0, q1_1, q1_2, q1_3]) rfl ?_
      rw [hx0] at HR1; exact AnsQR.no HNO.out (AnsR.store (b := w.heap.size) (RQ.whole0 ((HR1.out.past (HPC.out.trans PD.out)).past hp3) HR3.out) (HPB.out.trans (HP1.out.trans (HPC.out.trans PD.out))) hp3 (by omega) (by simp [q1_0]) (by simp [q1_1]) (by simp [q1_2]) (by simp [q1_3]) _ _ _ _)
    | true =>
      have HX1 : Hid (intV (byt s1) = x ∧ len x ≤ 100000000) := by
        have h1 := HX.out
        rw [HO1.out, if_pos rfl] at h1
        refine ⟨h1, ?_⟩
        rw [← h1]
        refine Nat.le_trans (len_intV HO1.out) ?_
        rw [byt_length]
        have := HZ.out
        omega
      rw [HX1.out.1] at HOR
      rw [HX1.out.1] at HRV
      go_wp2_with fail
      obtain ⟨wc, hwc⟩ : ∃ wc, (w1.alloc (.cells #[.bool t1, .slice A1 n1 c1] 129)) = wc := ⟨_, rfl⟩
      have hc0 : wc.cell? ⟨w1.heap.size, 0, none⟩ = some (.bool t1) ∧ wc.cell? ⟨w1.heap.size, 1, none⟩ = some (.slice A1 n1 c1) := by rw [← hwc]; simp [go_sem]
      have HC0 := Lib.hid hc0
      have HPC : Hid (Past w1 wc) := by rw [← hwc]; exact (Past.refl _).alloc _
      clear hc0
      rw [hwc]
      have HWC := Lib.hid hwc
      clear hwc

      refine (num_read s2 _ (by have := HZ.out; omega)).mono ?_
      rintro e w2 ⟨hp2, t2, A2, n2, c2, rfl, hr2⟩
      rw [HY.out] at hr2
      rw [HO2.out]
      have HR2 := Lib.hid hr2
      have HP2 := Lib.hid hp2
      clear hp2 hr2
      have hbs1 : w1.heap.size < w2.heap.size := World.block_lt_of_cell? w2 _ (HP2.out.cell HC0.out.1)
      obtain ⟨k0, k1⟩ := keep2 HP2.out HC0.out
      cases o2 with
      | false =>
        have HNO : Hid (okR l = false) := by rw [HOR.out]; rfl
        go_wp2_with fail
        obtain ⟨wd, hwd⟩ : ∃ wd, (w2.alloc (.cells #[.bool t2, .slice A2 n2 c2] 129)) = wd := ⟨_, rfl⟩
        have HD0 : Hid (wd.cell? ⟨w1.heap.size, 0, none⟩ = some (.bool t1) ∧ wd.cell? ⟨w1.heap.size, 1, none⟩ = some (.slice A1 n1 c1) ∧ wd.cell? ⟨w2.heap.size, 0, none⟩ = some (.bool t2) ∧ wd.cell? ⟨w2.heap.size, 1, none⟩ = some (.slice A2 n2 c2)) := by
          have h1 := keep2 (show Past w2 wd by rw [← hwd]; exact (Past.refl _).alloc _) ⟨k0, k1⟩
          exact ⟨h1.1, h1.2, by rw [← hwd]; simp [go_sem], by rw [← hwd]; simp [go_sem]⟩
        have HPD : Hid (Past w2 wd) := by rw [← hwd]; exact (Past.refl _).alloc _
        have HPW : Hid (Past wb wd) := HP1.out.trans (HPC.out.trans (HP2.out.trans HPD.out))
        have HRX : Hid (RW wd t1 A1 n1 c1 x) := HR1.out.past (HPC.out.trans (HP2.out.trans HPD.out))
        have HRY : Hid (RW wd t2 A2 n2 c2 y) := HR2.out.past HPD.out
        clear k0 k1
        rw [hwd]
        have HWD := Lib.hid hwd
        clear hwd
        have PD : Hid (Past wd wd.drew) := (Past.refl wd).drew
        refine wp_region_held_drew (S := (fun w' => w'.cell? ⟨w1.heap.size, 0, none⟩ = some (.bool t1) ∧ w'.cell? ⟨w1.heap.size, 1, none⟩ = some (.slice A1 n1 c1) ∧ w'.cell? ⟨w2.heap.size, 0, none⟩ = some (.bool t2) ∧ w'.cell? ⟨w2.heap.size, 1, none⟩ = some (.slice A2 n2 c2))) (by kernel_rfl) ?_ (fun hHeld => ?_)
        · try dsimp only
          (first | assumption | (refine keep4 hp8 ?_; assumption) | (refine keep4 hp7 ?_; assumption) | (refine keep4 hp6 ?_; assumption) | (refine keep4 hp5 ?_; assumption) | (refine keep4 hp4 ?_; assumption) | (refine keep4 hp3 ?_; assumption) | (refine keep4 PD ?_; exact HD0.out))
        refine wpAnyH_take (i := 0) (v := ?_) rfl (by kernel_rfl) (by kernel_rfl) (by kernel_rfl) (fun _ _ _ h => h) (Or.inl ⟨by rfl, ?_⟩) (by assumption) ?_
        rotate_left
        · intro w hSw
          try dsimp only at hSw
          go_simp
          try with_reducible rfl
        try simp only [Act.put, List.getElem_toArray, List.getElem_cons_succ, List.getElem_cons_zero, List.setIfInBounds_toArray, List.set_cons_zero, List.set_cons_succ]
        refine wpAnyH_take (i := 1) (v := ?_) rfl (by kernel_rfl) (by kernel_rfl) (by kernel_rfl) (fun _ _ _ h => h) (Or.inl ⟨by rfl, ?_⟩) (by assumption) ?_
        rotate_left
        · intro w hSw
          try dsimp only at hSw
          go_simp
          try with_reducible rfl
        try simp only [Act.put, List.getElem_toArray, List.getElem_cons_succ, List.getElem_cons_zero, List.setIfInBounds_toArray, List.set_cons_zero, List.set_cons_succ]
        refine wpAnyH_take (i := 2) (v := ?_) rfl (by kernel_rfl) (by kernel_rfl) (by kernel_rfl) (fun _ _ _ h => h) (Or.inl ⟨by rfl, ?_⟩) (by assumption) ?_
        rotate_left
        · intro w hSw
          try dsimp only at hSw
          go_simp
          try with_reducible rfl
        try simp only [Act.put, List.getElem_toArray, List.getElem_cons_succ, List.getElem_cons_zero, List.setIfInBounds_toArray, List.set_cons_zero, List.set_cons_succ]
        refine wpAnyH_take (i := 3) (v := undef) rfl (by kernel_rfl) (by kernel_rfl) (by kernel_rfl) (fun _ _ _ h => h) (Or.inr ⟨by rfl, rfl⟩) (by assumption) ?_
        try simp only [Act.put, List.getElem_toArray, List.getElem_cons_succ, List.getElem_cons_zero, List.setIfInBounds_toArray, List.set_cons_zero, List.set_cons_succ]
        refine wpAnyH_take (i := 4) (v := undef) rfl (by kernel_rfl) (by kernel_rfl) (by kernel_rfl) (fun _ _ _ h => h) (Or.inr ⟨by rfl, rfl⟩) (by assumption) ?_
        try simp only [Act.put, List.getElem_toArray, List.getElem_cons_succ, List.getElem_cons_zero, List.setIfInBounds_toArray, List.set_cons_zero, List.set_cons_succ]
        refine wpAnyH_take (i := 5) (v := undef) rfl (by kernel_rfl) (by kernel_rfl) (by kernel_rfl) (fun _ _ _ h => h) (Or.inr ⟨by rfl, rfl⟩) (by assumption) ?_
        try simp only [Act.put, List.getElem_toArray, List.getElem_cons_succ, List.getElem_cons_zero, List.setIfInBounds_toArray, List.set_cons_zero, List.set_cons_succ]
        refine wpAnyH_take (i := 6) (v := ?_) rfl (by kernel_rfl) (by kernel_rfl) (by kernel_rfl) (fun _ _ _ h => h) (Or.inl ⟨by rfl, ?_⟩) (by assumption) ?_
        rotate_left
        · intro w hSw
          try dsimp only at hSw
          go_simp
          try with_reducible rfl
        try simp only [Act.put, List.getElem_toArray, List.getElem_cons_succ, List.getElem_cons_zero, List.setIfInBounds_toArray, List.set_cons_zero, List.set_cons_succ]
        refine wpAnyH_take (i := 7) (v := ?_) rfl (by kernel_rfl) (by kernel_rfl) (by kernel_rfl) (fun _ _ _ h => h) (Or.inl ⟨by rfl, ?_⟩) (by assumption) ?_
        rotate_left
        · intro w hSw
          try dsimp only at hSw
          go_simp
          try with_reducible rfl
        try simp only [Act.put, List.getElem_toArray, List.getElem_cons_succ, List.getElem_cons_zero, List.setIfInBounds_toArray, List.set_cons_zero, List.set_cons_succ]
        refine wpAnyH_take (i := 8) (v := undef) rfl (by kernel_rfl) (by kernel_rfl) (by kernel_rfl) (fun _ _ _ h => h) (Or.inr ⟨by rfl, rfl⟩) (by assumption) ?_
        try simp only [Act.put, List.getElem_toArray, List.getElem_cons_succ, List.getElem_cons_zero, List.setIfInBounds_toArray, List.set_cons_zero, List.set_cons_succ]
        refine wpAnyH_take (i := 9) (v := undef) rfl (by kernel_rfl) (by kernel_rfl) (by kernel_rfl) (fun _ _ _ h => h) (Or.inr ⟨by rfl, rfl⟩) (by assumption) ?_
        try simp only [Act.put, List.getElem_toArray, List.getElem_cons_succ, List.getElem_cons_zero, List.setIfInBounds_toArray, List.set_cons_zero, List.set_cons_succ]
        refine wpAnyH_take (i := 10) (v := undef) rfl (by kernel_rfl) (by kernel_rfl) (by kernel_rfl) (fun _ _ _ h => h) (Or.inr ⟨by rfl, rfl⟩) (by assumption) ?_
        try simp only [Act.put, List.getElem_toArray, List.getElem_cons_succ, List.getElem_cons_zero, List.setIfInBounds_toArray, List.set_cons_zero, List.set_cons_succ]
        refine wpAnyH_take (i := 11) (v := undef) rfl (by kernel_rfl) (by kernel_rfl) (by kernel_rfl) (fun _ _ _ h => h) (Or.inr ⟨by rfl, rfl⟩) (by assumption) ?_
        try simp only [Act.put, List.getElem_toArray, List.getElem_cons_succ, List.getElem_cons_zero, List.setIfInBounds_toArray, List.set_cons_zero, List.set_cons_succ]
        refine wpAnyH_take (i := 12) (v := ?_) rfl (by kernel_rfl) (by kernel_rfl) (by kernel_rfl) (fun _ _ _ h => h) (Or.inl ⟨by rfl, ?_⟩) (by assumption) ?_
        rotate_left
        · intro w hSw
          try dsimp only at hSw
          go_simp
          try with_reducible rfl
        try simp only [Act.put, List.getElem_toArray, List.getElem_cons_succ, List.getElem_cons_zero, List.setIfInBounds_toArray, List.set_cons_zero, List.set_cons_succ]
        refine wpAnyH_take (i := 13) (v := ?_) rfl (by kernel_rfl) (by kernel_rfl) (by kernel_rfl) (fun _ _ _ h => h) (Or.inl ⟨by rfl, ?_⟩) (by assumption) ?_
        rotate_left
        · intro w hSw
          try dsimp only at hSw
          go_simp
          try with_reducible rfl
        try simp only [Act.put, List.getElem_toArray, List.getElem_cons_succ, List.getElem_cons_zero, List.setIfInBounds_toArray, List.set_cons_zero, List.set_cons_succ]
        refine wpAnyH_take (i := 14) (v := undef) rfl (by kernel_rfl) (by kernel_rfl) (by kernel_rfl) (fun _ _ _ h => h) (Or.inr ⟨by rfl, rfl⟩) (by assumption) ?_
        try simp only [Act.put, List.getElem_toArray, List.getElem_cons_succ, List.getElem_cons_zero, List.setIfInBounds_toArray, List.set_cons_zero, List.set_cons_succ]
        refine wpAnyH_take (i := 15) (v := undef) rfl (by kernel_rfl) (by kernel_rfl) (by kernel_rfl) (fun _ _ _ h => h) (Or.inr ⟨by rfl, rfl⟩) (by assumption) ?_
        try simp only [Act.put, List.getElem_toArray, List.getElem_cons_succ, List.getElem_cons_zero, List.setIfInBounds_toArray, List.set_cons_zero, List.set_cons_succ]
        refine wpAnyH_take (i := 16) (v := undef) rfl (by kernel_rfl) (by kernel_rfl) (by kernel_rfl) (fun _ _ _ h => h) (Or.inr ⟨by rfl, rfl⟩) (by assumption) ?_
        try simp only [Act.put, List.getElem_toArray, List.getElem_cons_succ, List.getElem_cons_zero, List.setIfInBounds_toArray, List.set_cons_zero, List.set_cons_succ]
        refine wpAnyH_take (i := 17) (v := undef) rfl (by kernel_rfl) (by kernel_rfl) (by kernel_rfl) (fun _ _ _ h => h) (Or.inr ⟨by rfl, rfl⟩) (by assumption) ?_
        try simp only [Act.put, List.getElem_toArray, List.getElem_cons_succ, List.getElem_cons_zero, List.setIfInBounds_toArray, List.set_cons_zero, List.set_cons_succ]
        refine wpAnyH_take (i := 18) (v := undef) rfl (by kernel_rfl) (by kernel_rfl) (by kernel_rfl) (fun _ _ _ h => h) (Or.inr ⟨by rfl, rfl⟩) (by assumption) ?_
        try simp only [Act.put, List.getElem_toArray, List.getElem_cons_succ, List.getElem_cons_zero, List.setIfInBounds_toArray, List.set_cons_zero, List.set_cons_succ]
        refine wpAnyH_take (i := 19) (v := undef) rfl (by kernel_rfl) (by kernel_rfl) (by kernel_rfl) (fun _ _ _ h => h) (Or.inr ⟨by rfl, rfl⟩) (by assumption) ?_
        try simp only [Act.put, List.getElem_toArray, List.getElem_cons_succ, List.getElem_cons_zero, List.setIfInBounds_toArray, List.set_cons_zero, List.set_cons_succ]
        refine wpAnyH_take (i := 20) (v := ?_) rfl (by kernel_rfl) (by kernel_rfl) (by kernel_rfl) (fun _ _ _ h => h) (Or.inl ⟨by rfl, ?_⟩) (by assumption) ?_
        rotate_left
        · intro w hSw
          try dsimp only at hSw
          go_simp
          try with_reducible rfl
        try simp only [Act.put, List.getElem_toArray, List.getElem_cons_succ, List.getElem_cons_zero, List.setIfInBounds_toArray, List.set_cons_zero, List.set_cons_succ]
        refine wpAnyH_done (by kernel_rfl) ?_ _
        all_goals (
          obtain ⟨w3, hw3⟩ : ∃ w3, wd.drew = w3 := ⟨_, rfl⟩
          rw [hw3] at PD
          rw [hw3]
          clear hw3
          have HPZ := Lib.hid (HPW.out.trans (PD.out))
          obtain ⟨r0, g0⟩ := HPZ.out.free HB.out.1.1 HB.out.1.2
          obtain ⟨r1, g1⟩ := HPZ.out.free HB.out.2.1.1 HB.out.2.1.2
          obtain ⟨r2, g2⟩ := HPZ.out.free HB.out.2.2.1.1 HB.out.2.2.1.2
          obtain ⟨r3, g3⟩ := HPZ.out.free HB.out.2.2.2.1 HB.out.2.2.2.2
          go_wp2
          refine bodyPost_ret (v := .tuple #[.agg #[.bool false, .slice none 0 0, .bool false, .slice none 0 0], .bool false]) (by simp [results, Tryz.results141, go_sem, r0, r1, r2, r3]) rfl ?_
          exact AnsQR.no HNO.out (AnsR.store (b := w.heap.size) (RQ.zero _) HPB.out HPZ.out (by omega) (by simp [r0]) (by simp [r1]) (by simp [r2]) (by simp [r3]) _ _ _ _))
      | true =>
        have HY1 : Hid (intV (byt s2) = y ∧ len y ≤ 100000000) := by
          have h1 := HY.out
          rw [HO2.out, if_pos rfl] at h1
          refine ⟨h1, ?_⟩
          rw [← h1]
          refine Nat.le_trans (len_intV HO2.out) ?_
          rw [byt_length]
          have := HZ.out
          omega
        rw [HY1.out.1] at HOR
        rw [HY1.out.1] at HRV
        have HN12 : Hid (n1 < 34359738368 ∧ n2 < 34359738368) := by
          have h1 := HR1.out.len
          have h2 := HR2.out.len
          have h3 := HX1.out.2
          have h4 := HY1.out.2
          unfold Hid
          omega
        by_cases hx0 : x = 0
        · have HNO : Hid (okR l = false) := by rw [HOR.out, hx0]; rfl
          have hc1 : (cmpZ x 0 == 0) = true := by rw [hx0]; rfl
          clear hx0
          go_wp2_with fail
          obtain ⟨wd, hwd⟩ : ∃ wd, (w2.alloc (.cells #[.bool t2, .slice A2 n2 c2] 129)) = wd := ⟨_, rfl⟩
          have HD0 : Hid (wd.cell? ⟨w1.heap.size, 0, none⟩ = some (.bool t1) ∧ wd.cell? ⟨w1.heap.size, 1, none⟩ = some (.slice A1 n1 c1) ∧ wd.cell? ⟨w2.heap.size, 0, none⟩ = some (.bool t2) ∧ wd.cell? ⟨w2.heap.size, 1, none⟩ = some (.slice A2 n2 c2)) := by
            have h1 := keep2 (show Past w2 wd by rw [← hwd]; exact (Past.refl _).alloc _) ⟨k0, k1⟩
            exact ⟨h1.1, h1.2, by rw [← hwd]; simp [go_sem], by rw [← hwd]; simp [go_sem]⟩
          have HPD : Hid (Past w2 wd) := by rw [← hwd]; exact (Past.refl _).alloc _
          have HPW : Hid (Past wb wd) := HP1.out.trans (HPC.out.trans (HP2.out.trans HPD.out))
          have HRX : Hid (RW wd t1 A1 n1 c1 x) := HR1.out.past (HPC.out.trans (HP2.out.trans HPD.out))
          have HRY : Hid (RW wd t2 A2 n2 c2 y) := HR2.out.past HPD.out
          clear k0 k1
          rw [hwd]
          have HWD := Lib.hid hwd
          clear hwd
          have PD : Hid (Past wd wd.drew) := (Past.refl wd).drew
          refine wp_region_held_drew (S := (fun w' => w'.cell? ⟨w1.heap.size, 0, none⟩ = some (.bool t1) ∧ w'.cell? ⟨w1.heap.size, 1, none⟩ = some (.slice A1 n1 c1) ∧ w'.cell? ⟨w2.heap.size, 0, none⟩ = some (.bool t2) ∧ w'.cell? ⟨w2.heap.size, 1, none⟩ = some (.slice A2 n2 c2))) (by kernel_rfl) ?_ (fun hHeld => ?_)
          · try dsimp only
            (first | assumption | (refine keep4 hp8 ?_; assumption) | (refine keep4 hp7 ?_; assumption) | (refine keep4 hp6 ?_; assumption) | (refine keep4 hp5 ?_; assumption) | (refine keep4 hp4 ?_; assumption) | (refine keep4 hp3 ?_; assumption) | (refine keep4 PD ?_; exact HD0.out))
          refine wpAnyH_take (i := 0) (v := ?_) rfl (by kernel_rfl) (by kernel_rfl) (by kernel_rfl) (fun _ _ _ h => h) (Or.inl ⟨by rfl, ?_⟩) (by assumption) ?_
          rotate_left
          · intro w hSw
            try dsimp only at hSw
            go_simp
            try with_reducible rfl
          try simp only [Act.put, List.getElem_toArray, List.getElem_cons_succ, List.getElem_cons_zero, List.setIfInBounds_toArray, List.set_cons_zero, List.set_cons_succ]
          refine wpAnyH_take (i := 1) (v := ?_) rfl (by kernel_rfl) (by kernel_rfl) (by kernel_rfl) (fun _ _ _ h => h) (Or.inl ⟨by rfl, ?_⟩) (by assumption) ?_
          rotate_left
          · intro w hSw
            try dsimp only at hSw
            go_simp
            try with_reducible rfl
          try simp only [Act.put, List.getElem_toArray, List.getElem_cons_succ, List.getElem_cons_zero, List.setIfInBounds_toArray, List.set_cons_zero, List.set_cons_succ]
          refine wpAnyH_take (i := 2) (v := ?_) rfl (by kernel_rfl) (by kernel_rfl) (by kernel_rfl) (fun _ _ _ h => h) (Or.inl ⟨by rfl, ?_⟩) (by assumption) ?_
          rotate_left
          · intro w hSw
            try dsimp only at hSw
            go_simp
            try with_reducible rfl
          try simp only [Act.put, List.getElem_toArray, List.getElem_cons_succ, List.getElem_cons_zero, List.setIfInBounds_toArray, List.set_cons_zero, List.set_cons_succ]
          refine wpAnyH_take (i := 3) (v := ?_) rfl (by kernel_rfl) (by kernel_rfl) (by kernel_rfl) (fun _ _ _ h => h) (Or.inl ⟨by rfl, ?_⟩) (by assumption) ?_
          rotate_left
          · intro w hSw
            try dsimp only at hSw
            go_simp
            try with_reducible rfl
          try simp only [Act.put, List.getElem_toArray, List.getElem_cons_succ, List.getElem_cons_zero, List.setIfInBounds_toArray, List.set_cons_zero, List.set_cons_succ]
          refine wpAnyH_ready (rs := [4]) (by kernel_rfl) (by simp) ?_
          refine AllReadyH.cons rfl (fun K hK => ?_) AllReadyH.nil
          go_simp
          (go_at_call 201; ((with_reducible refine (whole_sign _ _ _ _ x _ (HRX.out.past PD.out)).mono ?_)); rintro e w3 ⟨hp3, rfl⟩)
          refine hK.out _ _ ?_ (fun hHeld => ?_)
          · try dsimp only
            (first | assumption | (refine keep4 hp8 ?_; assumption) | (refine keep4 hp7 ?_; assumption) | (refine keep4 hp6 ?_; assumption) | (refine keep4 hp5 ?_; assumption) | (refine keep4 hp4 ?_; assumption) | (refine keep4 hp3 ?_; assumption) | (refine keep4 PD ?_; exact HD0.out))
          clear hK K
          try simp only [Act.put, List.getElem_toArray, List.getElem_cons_succ, List.getElem_cons_zero, List.setIfInBounds_toArray, List.set_cons_zero, List.set_cons_succ]
          refine wpAnyH_take (i := 5) (v := ?_) rfl (by kernel_rfl) (by kernel_rfl) (by kernel_rfl) (fun _ _ _ h => h) (Or.inl ⟨by rfl, ?_⟩) (by assumption) ?_
          rotate_left
          · intro w hSw
            try dsimp only at hSw
            go_simp
            try with_reducible rfl
          try simp only [Act.put, List.getElem_toArray, List.getElem_cons_succ, List.getElem_cons_zero, List.setIfInBounds_toArray, List.set_cons_zero, List.set_cons_succ]
          refine wpAnyH_take (i := 6) (v := ?_) rfl (by kernel_rfl) (by kernel_rfl) (by kernel_rfl) (fun _ _ _ h => h) (Or.inl ⟨by rfl, ?_⟩) (by assumption) ?_
          rotate_left
          · intro w hSw
            try dsimp only at hSw
            go_simp
            try with_reducible rfl
          try simp only [Act.put, List.getElem_toArray, List.getElem_cons_succ, List.getElem_cons_zero, List.setIfInBounds_toArray, List.set_cons_zero, List.set_cons_succ]
          refine wpAnyH_take (i := 7) (v := ?_) rfl (by kernel_rfl) (by kernel_rfl) (by kernel_rfl) (fun _ _ _ h => h) (Or.inl ⟨by rfl, ?_⟩) (by assumption) ?_
          rotate_left
          · intro w hSw
            try dsimp only at hSw
            go_simp
            try with_reducible rfl
          try simp only [Act.put, List.getElem_toArray, List.getElem_cons_succ, List.getElem_cons_zero, List.setIfInBounds_toArray, List.set_cons_zero, List.set_cons_succ]
          refine wpAnyH_take (i := 8) (v := undef) rfl (by kernel_rfl) (by kernel_rfl) (by kernel_rfl) (fun _ _ _ h => h) (Or.inr ⟨by rfl, rfl⟩) (by assumption) ?_
          try simp only [Act.put, List.getElem_toArray, List.getElem_cons_succ, List.getElem_cons_zero, List.setIfInBounds_toArray, List.set_cons_zero, List.set_cons_succ]
          refine wpAnyH_take (i := 9) (v := undef) rfl (by kernel_rfl) (by kernel_rfl) (by kernel_rfl) (fun _ _ _ h => h) (Or.inr ⟨by rfl, rfl⟩) (by assumption) ?_
          try simp only [Act.put, List.getElem_toArray, List.getElem_cons_succ, List.getElem_cons_zero, List.setIfInBounds_toArray, List.set_cons_zero, List.set_cons_succ]
          refine wpAnyH_take (i := 10) (v := undef) rfl (by kernel_rfl) (by kernel_rfl) (by kernel_rfl) (fun _ _ _ h => h) (Or.inr ⟨by rfl, rfl⟩) (by assumption) ?_
          try simp only [Act.put, List.getElem_toArray, List.getElem_cons_succ, List.getElem_cons_zero, List.setIfInBounds_toArray, List.set_cons_zero, List.set_cons_succ]
          refine wpAnyH_take (i := 11) (v := undef) rfl (by kernel_rfl) (by kernel_rfl) (by kernel_rfl) (fun _ _ _ h => h) (Or.inr ⟨by rfl, rfl⟩) (by assumption) ?_
          try simp only [Act.put, List.getElem_toArray, List.getElem_cons_succ, List.getElem_cons_zero, List.setIfInBounds_toArray, List.set_cons_zero, List.set_cons_succ]
          refine wpAnyH_take (i := 12) (v := ?_) rfl (by kernel_rfl) (by kernel_rfl) (by kernel_rfl) (fun _ _ _ h => h) (Or.inl ⟨by rfl, ?_⟩) (by assumption) ?_
          rotate_left
          · intro w hSw
            try dsimp only at hSw
            go_simp
            try with_reducible rfl
          try simp only [Act.put, List.getElem_toArray, List.getElem_cons_succ, List.getElem_cons_zero, List.setIfInBounds_toArray, List.set_cons_zero, List.set_cons_succ]
          refine wpAnyH_take (i := 13) (v := ?_) rfl (by kernel_rfl) (by kernel_rfl) (by kernel_rfl) (fun _ _ _ h => h) (Or.inl ⟨by rfl, ?_⟩) (by assumption) ?_
          rotate_left
          · intro w hSw
            try dsimp only at hSw
            go_simp
            try with_reducible rfl
          try simp only [Act.put, List.getElem_toArray, List.getElem_cons_succ, List.getElem_cons_zero, List.setIfInBounds_toArray, List.set_cons_zero, List.set_cons_succ]
          refine wpAnyH_take (i := 14) (v := undef) rfl (by kernel_rfl) (by kernel_rfl) (by kernel_rfl) (fun _ _ _ h => h) (Or.inr ⟨by rfl, rfl⟩) (by assumption) ?_
          try simp only [Act.put, List.getElem_toArray, List.getElem_cons_succ, List.getElem_cons_zero, List.setIfInBounds_toArray, List.set_cons_zero, List.set_cons_succ]
          refine wpAnyH_take (i := 15) (v := undef) rfl (by kernel_rfl) (by kernel_rfl) (by kernel_rfl) (fun _ _ _ h => h) (Or.inr ⟨by rfl, rfl⟩) (by assumption) ?_
          try simp only [Act.put, List.getElem_toArray, List.getElem_cons_succ, List.getElem_cons_zero, List.setIfInBounds_toArray, List.set_cons_zero, List.set_cons_succ]
          refine wpAnyH_take (i := 16) (v := undef) rfl (by kernel_rfl) (by kernel_rfl) (by kernel_rfl) (fun _ _ _ h => h) (Or.inr ⟨by rfl, rfl⟩) (by assumption) ?_
          try simp only [Act.put, List.getElem_toArray, List.getElem_cons_succ, List.getElem_cons_zero, List.setIfInBounds_toArray, List.set_cons_zero, List.set_cons_succ]
          refine wpAnyH_take (i := 17) (v := undef) rfl (by kernel_rfl) (by kernel_rfl) (by kernel_rfl) (fun _ _ _ h => h) (Or.inr ⟨by rfl, rfl⟩) (by assumption) ?_
          try simp only [Act.put, List.getElem_toArray, List.getElem_cons_succ, List.getElem_cons_zero, List.setIfInBounds_toArray, List.set_cons_zero, List.set_cons_succ]
          refine wpAnyH_take (i := 18) (v := undef) rfl (by kernel_rfl) (by kernel_rfl) (by kernel_rfl) (fun _ _ _ h => h) (Or.inr ⟨by rfl, rfl⟩) (by assumption) ?_
          try simp only [Act.put, List.getElem_toArray, List.getElem_cons_succ, List.getElem_cons_zero, List.setIfInBounds_toArray, List.set_cons_zero, List.set_cons_succ]
          refine wpAnyH_take (i := 19) (v := undef) rfl (by kernel_rfl) (by kernel_rfl) (by kernel_rfl) (fun _ _ _ h => h) (Or.inr ⟨by rfl, rfl⟩) (by assumption) ?_
          try simp only [Act.put, List.getElem_toArray, List.getElem_cons_succ, List.getElem_cons_zero, List.setIfInBounds_toArray, List.set_cons_zero, List.set_cons_succ]
          refine wpAnyH_take (i := 20) (v := ?_) rfl (by kernel_rfl) (by kernel_rfl) (by kernel_rfl) (fun _ _ _ h => h) (Or.inl ⟨by rfl, ?_⟩) (by assumption) ?_
          rotate_left
          · intro w hSw
            try dsimp only at hSw
            go_simp
            try with_reducible rfl
          try simp only [Act.put, List.getElem_toArray, List.getElem_cons_succ, List.getElem_cons_zero, List.setIfInBounds_toArray, List.set_cons_zero, List.set_cons_succ]
          refine wpAnyH_done (by kernel_rfl) ?_ _
          all_goals (
            have HPZ := Lib.hid (HPW.out.trans (PD.out.trans hp3))
            clear hp3
            obtain ⟨r0, g0⟩ := HPZ.out.free HB.out.1.1 HB.out.1.2
            obtain ⟨r1, g1⟩ := HPZ.out.free HB.out.2.1.1 HB.out.2.1.2
            obtain ⟨r2, g2⟩ := HPZ.out.free HB.out.2.2.1.1 HB.out.2.2.1.2
            obtain ⟨r3, g3⟩ := HPZ.out.free HB.out.2.2.2.1 HB.out.2.2.2.2
            go_wp2
            refine bodyPost_ret (v := .tuple #[.agg #[.bool false, .slice none 0 0, .bool false, .slice none 0 0], .bool false]) (by simp [results, Tryz.results141, go_sem, r0, r1, r2, r3]) rfl ?_
            exact AnsQR.no HNO.out (AnsR.store (b := w.heap.size) (RQ.zero _) HPB.out HPZ.out (by omega) (by simp [r0]) (by simp [r1]) (by simp [r2]) (by simp [r3]) _ _ _ _))
        · have hc1 : (cmpZ x 0 == 0) = false := by
            rw [beq_eq_false_iff_ne]
            unfold cmpZ
            split <;> (try split) <;> omega
          have HX0 := Lib.hid hx0
          clear hx0
          by_cases hy1 : 1 < y
          · have hc2 : decide (cmpZ y 1 ≤ 0) = false := by
              rw [decide_eq_false_iff_not]
              unfold cmpZ
              rw [if_neg (by omega), if_pos hy1]
              omega
            have HY2 := Lib.hid hy1
            clear hy1
            by_cases hg : Nat.gcd x.natAbs y.natAbs = 1
            · have hc3 : (cmpZ ((Nat.gcd x.natAbs y.natAbs : Nat) : Int) 1 != 0) = false := by rw [hg]; rfl
              have HG1 := Lib.hid hg
              clear hg
              have HYES : Hid (okR l = true) := by
                have h1 := HX0.out
                have h2 := HY2.out
                rw [HOR.out, HG1.out]
                simp [h1, h2, Hid]
              go_wp2_with fail
              obtain ⟨wd, hwd⟩ : ∃ wd, (w2.alloc (.cells #[.bool t2, .slice A2 n2 c2] 129)) = wd := ⟨_, rfl⟩
              have HD0 : Hid (wd.cell? ⟨w1.heap.size, 0, none⟩ = some (.bool t1) ∧ wd.cell? ⟨w1.heap.size, 1, none⟩ = some (.slice A1 n1 c1) ∧ wd.cell? ⟨w2.heap.size, 0, none⟩ = some (.bool t2) ∧ wd.cell? ⟨w2.heap.size, 1, none⟩ = some (.slice A2 n2 c2)) := by
                have h1 := keep2 (show Past w2 wd by rw [← hwd]; exact (Past.refl _).alloc _) ⟨k0, k1⟩
                exact ⟨h1.1, h1.2, by rw [← hwd]; simp [go_sem], by rw [← hwd]; simp [go_sem]⟩
              have HPD : Hid (Past w2 wd) := by rw [← hwd]; exact (Past.refl _).alloc _
              have HPW : Hid (Past wb wd) := HP1.out.trans (HPC.out.trans (HP2.out.trans HPD.out))
              have HRX : Hid (RW wd t1 A1 n1 c1 x) := HR1.out.past (HPC.out.trans (HP2.out.trans HPD.out))
              have HRY : Hid (RW wd t2 A2 n2 c2 y) := HR2.out.past HPD.out
              clear k0 k1
              rw [hwd]
              have HWD := Lib.hid hwd
              clear hwd
              have PD : Hid (Past wd wd.drew) := (Past.refl wd).drew
              refine wp_region_held_drew (S := (fun w' => w'.cell? ⟨w1.heap.size, 0, none⟩ = some (.bool t1) ∧ w'.cell? ⟨w1.heap.size, 1, none⟩ = some (.slice A1 n1 c1) ∧ w'.cell? ⟨w2.heap.size, 0, none⟩ = some (.bool t2) ∧ w'.cell? ⟨w2.heap.size, 1, none⟩ = some (.slice A2 n2 c2))) (by kernel_rfl) ?_ (fun hHeld => ?_)
              · try dsimp only
                (first | assumption | (refine keep4 hp8 ?_; assumption) | (refine keep4 hp7 ?_; assumption) | (refine keep4 hp6 ?_; assumption) | (refine keep4 hp5 ?_; assumption) | (refine keep4 hp4 ?_; assumption) | (refine keep4 hp3 ?_; assumption) | (refine keep4 PD ?_; exact HD0.out))
              refine wpAnyH_take (i := 0) (v := ?_) rfl (by kernel_rfl) (by kernel_rfl) (by kernel_rfl) (fun _ _ _ h => h) (Or.inl ⟨by rfl, ?_⟩) (by assumption) ?_
              rotate_left
              · intro w hSw
                try dsimp only at hSw
                go_simp
                try with_reducible rfl
              try simp only [Act.put, List.getElem_toArray, List.getElem_cons_succ, List.getElem_cons_zero, List.setIfInBounds_toArray, List.set_cons_zero, List.set_cons_succ]
              refine wpAnyH_take (i := 1) (v := ?_) rfl (by kernel_rfl) (by kernel_rfl) (by kernel_rfl) (fun _ _ _ h => h) (Or.inl ⟨by rfl, ?_⟩) (by assumption) ?_
              rotate_left
              · intro w hSw
                try dsimp only at hSw
                go_simp
                try with_reducible rfl
              try simp only [Act.put, List.getElem_toArray, List.getElem_cons_succ, List.getElem_cons_zero, List.setIfInBounds_toArray, List.set_cons_zero, List.set_cons_succ]
              refine wpAnyH_take (i := 2) (v := ?_) rfl (by kernel_rfl) (by kernel_rfl) (by kernel_rfl) (fun _ _ _ h => h) (Or.inl ⟨by rfl, ?_⟩) (by assumption) ?_
              rotate_left
              · intro w hSw
                try dsimp only at hSw
                go_simp
                try with_reducible rfl
              try simp only [Act.put, List.getElem_toArray, List.getElem_cons_succ, List.getElem_cons_zero, List.setIfInBounds_toArray, List.set_cons_zero, List.set_cons_succ]
              refine wpAnyH_take (i := 3) (v := ?_) rfl (by kernel_rfl) (by kernel_rfl) (by kernel_rfl) (fun _ _ _ h => h) (Or.inl ⟨by rfl, ?_⟩) (by assumption) ?_
              rotate_left
              · intro w hSw
                try dsimp only at hSw
                go_simp
                try with_reducible rfl
              try simp only [Act.put, List.getElem_toArray, List.getElem_cons_succ, List.getElem_cons_zero, List.setIfInBounds_toArray, List.set_cons_zero, List.set_cons_succ]
              refine wpAnyH_ready (rs := [4]) (by kernel_rfl) (by simp) ?_
              refine AllReadyH.cons rfl (fun K hK => ?_) AllReadyH.nil
              go_simp
              (go_at_call 201; ((with_reducible refine (whole_sign _ _ _ _ x _ (HRX.out.past PD.out)).mono ?_)); rintro e w3 ⟨hp3, rfl⟩)
              refine hK.out _ _ ?_ (fun hHeld => ?_)
              · try dsimp only
                (first | assumption | (refine keep4 hp8 ?_; assumption) | (refine keep4 hp7 ?_; assumption) | (refine keep4 hp6 ?_; assumption) | (refine keep4 hp5 ?_; assumption) | (refine keep4 hp4 ?_; assumption) | (refine keep4 hp3 ?_; assumption) | (refine keep4 PD ?_; exact HD0.out))
              clear hK K
              try simp only [Act.put, List.getElem_toArray, List.getElem_cons_succ, List.getElem_cons_zero, List.setIfInBounds_toArray, List.set_cons_zero, List.set_cons_succ]
              refine wpAnyH_take (i := 5) (v := ?_) rfl (by kernel_rfl) (by kernel_rfl) (by kernel_rfl) (fun _ _ _ h => h) (Or.inl ⟨by rfl, ?_⟩) (by assumption) ?_
              rotate_left
              · intro w hSw
                try dsimp only at hSw
                go_simp
                try with_reducible rfl
              try simp only [Act.put, List.getElem_toArray, List.getElem_cons_succ, List.getElem_cons_zero, List.setIfInBounds_toArray, List.set_cons_zero, List.set_cons_succ]
              refine wpAnyH_take (i := 6) (v := ?_) rfl (by kernel_rfl) (by kernel_rfl) (by kernel_rfl) (fun _ _ _ h => h) (Or.inl ⟨by rfl, ?_⟩) (by assumption) ?_
              rotate_left
              · intro w hSw
                try dsimp only at hSw
                go_simp
                try with_reducible rfl
              try simp only [Act.put, List.getElem_toArray, List.getElem_cons_succ, List.getElem_cons_zero, List.setIfInBounds_toArray, List.set_cons_zero, List.set_cons_succ]
              refine wpAnyH_take (i := 7) (v := ?_) rfl (by kernel_rfl) (by kernel_rfl) (by kernel_rfl) (fun _ _ _ h => h) (Or.inl ⟨by rfl, ?_⟩) (by assumption) ?_
              rotate_left
              · intro w hSw
                try dsimp only at hSw
                go_simp
                try with_reducible rfl
              try simp only [Act.put, List.getElem_toArray, List.getElem_cons_succ, List.getElem_cons_zero, List.setIfInBounds_toArray, List.set_cons_zero, List.set_cons_succ]
              refine wpAnyH_take (i := 8) (v := ?_) rfl (by kernel_rfl) (by kernel_rfl) (by kernel_rfl) (fun _ _ _ h => h) (Or.inl ⟨by rfl, ?_⟩) (by assumption) ?_
              rotate_left
              · intro w hSw
                try dsimp only at hSw
                go_simp
                try with_reducible rfl
              try simp only [Act.put, List.getElem_toArray, List.getElem_cons_succ, List.getElem_cons_zero, List.setIfInBounds_toArray, List.set_cons_zero, List.set_cons_succ]
              refine wpAnyH_ready (rs := [9]) (by kernel_rfl) (by simp) ?_
              refine AllReadyH.cons rfl (fun K hK => ?_) AllReadyH.nil
              go_simp
              (go_at_call 155; have hp3' := hp3; ((with_reducible refine (num_of 1 _ ?_ ?_).mono ?_)); (omega); (omega); rintro e w4 ⟨hp4, s4, A4, n4, c4, rfl, hr4⟩; have HR4 := Lib.hid hr4; clear hr4 hp3')
              refine hK.out _ _ ?_ (fun hHeld => ?_)
              · try dsimp only
                (first | assumption | (refine keep4 hp8 ?_; assumption) | (refine keep4 hp7 ?_; assumption) | (refine keep4 hp6 ?_; assumption) | (refine keep4 hp5 ?_; assumption) | (refine keep4 hp4 ?_; assumption) | (refine keep4 hp3 ?_; assumption) | (refine keep4 PD ?_; exact HD0.out))
              clear hK K
              try simp only [Act.put, List.getElem_toArray, List.getElem_cons_succ, List.getElem_cons_zero, List.setIfInBounds_toArray, List.set_cons_zero, List.set_cons_succ]
              refine wpAnyH_ready (rs := [10]) (by kernel_rfl) (by simp) ?_
              refine AllReadyH.cons rfl (fun K hK => ?_) AllReadyH.nil
              go_simp
              (go_at_call 154; ((with_reducible refine (whole_cmp _ _ _ _ _ _ _ _ y 1 _ (HRY.out.past (PD.out.trans (Past.trans hp3 hp4))) HR4.out).mono ?_)); rintro e w5 ⟨hp5, rfl⟩)
              refine hK.out _ _ ?_ (fun hHeld => ?_)
              · try dsimp only
                (first | assumption | (refine keep4 hp8 ?_; assumption) | (refine keep4 hp7 ?_; assumption) | (refine keep4 hp6 ?_; assumption) | (refine keep4 hp5 ?_; assumption) | (refine keep4 hp4 ?_; assumption) | (refine keep4 hp3 ?_; assumption) | (refine keep4 PD ?_; exact HD0.out))
              clear hK K
              try simp only [Act.put, List.getElem_toArray, List.getElem_cons_succ, List.getElem_cons_zero, List.setIfInBounds_toArray, List.set_cons_zero, List.set_cons_succ]
              refine wpAnyH_take (i := 11) (v := ?_) rfl (by kernel_rfl) (by kernel_rfl) (by kernel_rfl) (fun _ _ _ h => h) (Or.inl ⟨by rfl, ?_⟩) (by assumption) ?_
              rotate_left
              · intro w hSw
                try dsimp only at hSw
                go_simp
                try with_reducible rfl
              try simp only [Act.put, List.getElem_toArray, List.getElem_cons_succ, List.getElem_cons_zero, List.setIfInBounds_toArray, List.set_cons_zero, List.set_cons_succ]
              refine wpAnyH_take (i := 12) (v := ?_) rfl (by kernel_rfl) (by kernel_rfl) (by kernel_rfl) (fun _ _ _ h => h) (Or.inl ⟨by rfl, ?_⟩) (by assumption) ?_
              rotate_left
              · intro w hSw
                try dsimp only at hSw
                go_simp
                try with_reducible rfl
              try simp only [Act.put, List.getElem_toArray, List.getElem_cons_succ, List.getElem_cons_zero, List.setIfInBounds_toArray, List.set_cons_zero, List.set_cons_succ]
              refine wpAnyH_take (i := 13) (v := ?_) rfl (by kernel_rfl) (by kernel_rfl) (by kernel_rfl) (fun _ _ _ h => h) (Or.inl ⟨by rfl, ?_⟩) (by assumption) ?_
              rotate_left
              · intro w hSw
                try dsimp only at hSw
                go_simp
                try with_reducible rfl
              try simp only [Act.put, List.getElem_toArray, List.getElem_cons_succ, List.getElem_cons_zero, List.setIfInBounds_toArray, List.set_cons_zero, List.set_cons_succ]
              refine wpAnyH_take (i := 14) (v := ?_) rfl (by kernel_rfl) (by kernel_rfl) (by kernel_rfl) (fun _ _ _ h => h) (Or.inl ⟨by rfl, ?_⟩) (by assumption) ?_
              rotate_left
              · intro w hSw
                try dsimp only at hSw
                go_simp
                try with_reducible rfl
              try simp only [Act.put, List.getElem_toArray, List.getElem_cons_succ, List.getElem_cons_zero, List.setIfInBounds_toArray, List.set_cons_zero, List.set_cons_succ]
              refine wpAnyH_take (i := 15) (v := ?_) rfl (by kernel_rfl) (by kernel_rfl) (by kernel_rfl) (fun _ _ _ h => h) (Or.inl ⟨by rfl, ?_⟩) (by assumption) ?_
              rotate_left
              · intro w hSw
                try dsimp only at hSw
                go_simp
                try with_reducible rfl
              try simp only [Act.put, List.getElem_toArray, List.getElem_cons_succ, List.getElem_cons_zero, List.setIfInBounds_toArray, List.set_cons_zero, List.set_cons_succ]
              refine wpAnyH_ready (rs := [16]) (by kernel_rfl) (by simp) ?_
              refine AllReadyH.cons rfl (fun K hK => ?_) AllReadyH.nil
              go_simp
              (go_at_call 202; ((with_reducible refine (whole_gcd _ _ _ _ _ _ _ _ x y _ (HRX.out.past (PD.out.trans (Past.trans (Past.trans hp3 hp4) hp5))) (HRY.out.past (PD.out.trans (Past.trans (Past.trans hp3 hp4) hp5))) ?_ ?_).mono ?_)); (exact HN12.out.1); (exact HN12.out.2); rintro e w6 ⟨hp6, s6, A6, n6, c6, rfl, hr6⟩; have HR6 := Lib.hid hr6; clear hr6)
              refine hK.out _ _ ?_ (fun hHeld => ?_)
              · try dsimp only
                (first | assumption | (refine keep4 hp8 ?_; assumption) | (refine keep4 hp7 ?_; assumption) | (refine keep4 hp6 ?_; assumption) | (refine keep4 hp5 ?_; assumption) | (refine keep4 hp4 ?_; assumption) | (refine keep4 hp3 ?_; assumption) | (refine keep4 PD ?_; exact HD0.out))
              clear hK K
              try simp only [Act.put, List.getElem_toArray, List.getElem_cons_succ, List.getElem_cons_zero, List.setIfInBounds_toArray, List.set_cons_zero, List.set_cons_succ]
              refine wpAnyH_ready (rs := [17]) (by kernel_rfl) (by simp) ?_
              refine AllReadyH.cons rfl (fun K hK => ?_) AllReadyH.nil
              go_simp
              (go_at_call 155; have hp6' := hp6; ((with_reducible refine (num_of 1 _ ?_ ?_).mono ?_)); (omega); (omega); rintro e w7 ⟨hp7, s7, A7, n7, c7, rfl, hr7⟩; have HR7 := Lib.hid hr7; clear hr7 hp6')
              refine hK.out _ _ ?_ (fun hHeld => ?_)
              · try dsimp only
                (first | assumption | (refine keep4 hp8 ?_; assumption) | (refine keep4 hp7 ?_; assumption) | (refine keep4 hp6 ?_; assumption) | (refine keep4 hp5 ?_; assumption) | (refine keep4 hp4 ?_; assumption) | (refine keep4 hp3 ?_; assumption) | (refine keep4 PD ?_; exact HD0.out))
              clear hK K
              try simp only [Act.put, List.getElem_toArray, List.getElem_cons_succ, List.getElem_cons_zero, List.setIfInBounds_toArray, List.set_cons_zero, List.set_cons_succ]
              refine wpAnyH_ready (rs := [18]) (by kernel_rfl) (by simp) ?_
              refine AllReadyH.cons rfl (fun K hK => ?_) AllReadyH.nil
              go_simp
              (go_at_call 154; ((with_reducible refine (whole_cmp _ _ _ _ _ _ _ _ (Nat.gcd x.natAbs y.natAbs : Nat) 1 _ (HR6.out.past hp7) HR7.out).mono ?_)); rintro e w8 ⟨hp8, rfl⟩)
              refine hK.out _ _ ?_ (fun hHeld => ?_)
              · try dsimp only
                (first | assumption | (refine keep4 hp8 ?_; assumption) | (refine keep4 hp7 ?_; assumption) | (refine keep4 hp6 ?_; assumption) | (refine keep4 hp5 ?_; assumption) | (refine keep4 hp4 ?_; assumption) | (refine keep4 hp3 ?_; assumption) | (refine keep4 PD ?_; exact HD0.out))
              clear hK K
              try simp only [Act.put, List.getElem_toArray, List.getElem_cons_succ, List.getElem_cons_zero, List.setIfInBounds_toArray, List.set_cons_zero, List.set_cons_succ]
              refine wpAnyH_take (i := 19) (v := ?_) rfl (by kernel_rfl) (by kernel_rfl) (by kernel_rfl) (fun _ _ _ h => h) (Or.inl ⟨by rfl, ?_⟩) (by assumption) ?_
              rotate_left
              · intro w hSw
                try dsimp only at hSw
                go_simp
                try with_reducible rfl
              try simp only [Act.put, List.getElem_toArray, List.getElem_cons_succ, List.getElem_cons_zero, List.setIfInBounds_toArray, List.set_cons_zero, List.set_cons_succ]
              refine wpAnyH_take (i := 20) (v := ?_) rfl (by kernel_rfl) (by kernel_rfl) (by kernel_rfl) (fun _ _ _ h => h) (Or.inl ⟨by rfl, ?_⟩) (by assumption) ?_
              rotate_left
              · intro w hSw
                try dsimp only at hSw
                go_simp
                try with_reducible rfl
              try simp only [Act.put, List.getElem_toArray, List.getElem_cons_succ, List.getElem_cons_zero, List.setIfInBounds_toArray, List.set_cons_zero, List.set_cons_succ]
              refine wpAnyH_done (by kernel_rfl) ?_ _
              have HPZ := Lib.hid (HPW.out.trans (PD.out.trans (Past.trans (Past.trans (Past.trans hp3 hp4) hp5) (Past.trans (Past.trans hp6 hp7) hp8))))
              have HRX2 := Lib.hid (HRX.out.past (PD.out.trans (Past.trans (Past.trans (Past.trans hp3 hp4) hp5) (Past.trans (Past.trans hp6 hp7) hp8))))
              have HRY2 := Lib.hid (HRY.out.past (PD.out.trans (Past.trans (Past.trans (Past.trans hp3 hp4) hp5) (Past.trans (Past.trans hp6 hp7) hp8))))
              obtain ⟨d0, d1, d2, d3⟩ := keep4 (PD.out.trans (Past.trans (Past.trans (Past.trans hp3 hp4) hp5) (Past.trans (Past.trans hp6 hp7) hp8))) HD0.out
              clear hp3 hp4 hp5 hp6 hp7 hp8
              obtain ⟨r0, g0⟩ := HPZ.out.free HB.out.1.1 HB.out.1.2
              obtain ⟨r1, g1⟩ := HPZ.out.free HB.out.2.1.1 HB.out.2.1.2
              obtain ⟨r2, g2⟩ := HPZ.out.free HB.out.2.2.1.1 HB.out.2.2.1.2
              obtain ⟨r3, g3⟩ := HPZ.out.free HB.out.2.2.2.1 HB.out.2.2.2.2
              have HRQ : Hid (RQ w8 t1 A1 n1 c1 t2 A2 n2 c2 (mkRat x y.toNat)) := RQ.make (by have := HY2.out; omega) (by rw [HG1.out, Int.natCast_one, Int.ediv_one]; exact HRX2.out) (by rw [HG1.out, Int.natCast_one, Int.ediv_one]; exact HRY2.out)
              go_wp2
              refine bodyPost_ret (v := .tuple #[.agg #[.bool t1, .slice A1 n1 c1, .bool t2, .slice A2 n2 c2], .bool true]) (by simp [results, Tryz.results141, go_sem, r0, r1, r2, r3]) rfl ?_
              exact AnsQR.yes HYES.out HRV.out (AnsR.store (b := w.heap.size) HRQ.out HPB.out HPZ.out (by omega) (by simp [r0]) (by simp [r1]) (by simp [r2]) (by simp [r3]) _ _ _ _)
            · have hc3 : (cmpZ ((Nat.gcd x.natAbs y.natAbs : Nat) : Int) 1 != 0) = true := by
                rw [bne_iff_ne]
                unfold cmpZ
                split <;> (try split) <;> omega
              have HNO : Hid (okR l = false) := by rw [HOR.out]; simp [hg, Hid]
              clear hg
              go_wp2_with fail
              obtain ⟨wd, hwd⟩ : ∃ wd, (w2.alloc (.cells #[.bool t2, .slice A2 n2 c2] 129)) = wd := ⟨_, rfl⟩
              have HD0 : Hid (wd.cell? ⟨w1.heap.size, 0, none⟩ = some (.bool t1) ∧ wd.cell? ⟨w1.heap.size, 1, none⟩ = some (.slice A1 n1 c1) ∧ wd.cell? ⟨w2.heap.size, 0, none⟩ = some (.bool t2) ∧ wd.cell? ⟨w2.heap.size, 1, none⟩ = some (.slice A2 n2 c2)) := by
                have h1 := keep2 (show Past w2 wd by rw [← hwd]; exact (Past.refl _).alloc _) ⟨k0, k1⟩
                exact ⟨h1.1, h1.2, by rw [← hwd]; simp [go_sem], by rw [← hwd]; simp [go_sem]⟩
              have HPD : Hid (Past w2 wd) := by rw [← hwd]; exact (Past.refl _).alloc _
              have HPW : Hid (Past wb wd) := HP1.out.trans (HPC.out.trans (HP2.out.trans HPD.out))
              have HRX : Hid (RW wd t1 A1 n1 c1 x) := HR1.out.past (HPC.out.trans (HP2.out.trans HPD.out))
              have HRY : Hid (RW wd t2 A2 n2 c2 y) := HR2.out.past HPD.out
              clear k0 k1
              rw [hwd]
              have HWD := Lib.hid hwd
              clear hwd
              have PD : Hid (Past wd wd.drew) := (Past.refl wd).drew
              refine wp_region_held_drew (S := (fun w' => w'.cell? ⟨w1.heap.size, 0, none⟩ = some (.bool t1) ∧ w'.cell? ⟨w1.heap.size, 1, none⟩ = some (.slice A1 n1 c1) ∧ w'.cell? ⟨w2.heap.size, 0, none⟩ = some (.bool t2) ∧ w'.cell? ⟨w2.heap.size, 1, none⟩ = some (.slice A2 n2 c2))) (by kernel_rfl) ?_ (fun hHeld => ?_)
              · try dsimp only
                (first | assumption | (refine keep4 hp8 ?_; assumption) | (refine keep4 hp7 ?_; assumption) | (refine keep4 hp6 ?_; assumption) | (refine keep4 hp5 ?_; assumption) | (refine keep4 hp4 ?_; assumption) | (refine keep4 hp3 ?_; assumption) | (refine keep4 PD ?_; exact HD0.out))
              refine wpAnyH_take (i := 0) (v := ?_) rfl (by kernel_rfl) (by kernel_rfl) (by kernel_rfl) (fun _ _ _ h => h) (Or.inl ⟨by rfl, ?_⟩) (by assumption) ?_
              rotate_left
              · intro w hSw
                try dsimp only at hSw
                go_simp
                try with_reducible rfl
              try simp only [Act.put, List.getElem_toArray, List.getElem_cons_succ, List.getElem_cons_zero, List.setIfInBounds_toArray, List.set_cons_zero, List.set_cons_succ]
              refine wpAnyH_take (i := 1) (v := ?_) rfl (by kernel_rfl) (by kernel_rfl) (by kernel_rfl) (fun _ _ _ h => h) (Or.inl ⟨by rfl, ?_⟩) (by assumption) ?_
              rotate_left
              · intro w hSw
                try dsimp only at hSw
                go_simp
                try with_reducible rfl
              try simp only [Act.put, List.getElem_toArray, List.getElem_cons_succ, List.getElem_cons_zero, List.setIfInBounds_toArray, List.set_cons_zero, List.set_cons_succ]
              refine wpAnyH_take (i := 2) (v := ?_) rfl (by kernel_rfl) (by kernel_rfl) (by kernel_rfl) (fun _ _ _ h => h) (Or.inl ⟨by rfl, ?_⟩) (by assumption) ?_
              rotate_left
              · intro w hSw
                try dsimp only at hSw
                go_simp
                try with_reducible rfl
              try simp only [Act.put, List.getElem_toArray, List.getElem_cons_succ, List.getElem_cons_zero, List.setIfInBounds_toArray, List.set_cons_zero, List.set_cons_succ]
              refine wpAnyH_take (i := 3) (v := ?_) rfl (by kernel_rfl) (by kernel_rfl) (by kernel_rfl) (fun _ _ _ h => h) (Or.inl ⟨by rfl, ?_⟩) (by assumption) ?_
              rotate_left
              · intro w hSw
                try dsimp only at hSw
                go_simp
                try with_reducible rfl
              try simp only [Act.put, List.getElem_toArray, List.getElem_cons_succ, List.getElem_cons_zero, List.setIfInBounds_toArray, List.set_cons_zero, List.set_cons_succ]
              refine wpAnyH_ready (rs := [4]) (by kernel_rfl) (by simp) ?_
              refine AllReadyH.cons rfl (fun K hK => ?_) AllReadyH.nil
              go_simp
              (go_at_call 201; ((with_reducible refine (whole_sign _ _ _ _ x _ (HRX.out.past PD.out)).mono ?_)); rintro e w3 ⟨hp3, rfl⟩)
              refine hK.out _ _ ?_ (fun hHeld => ?_)
              · try dsimp only
                (first | assumption | (refine keep4 hp8 ?_; assumption) | (refine keep4 hp7 ?_; assumption) | (refine keep4 hp6 ?_; assumption) | (refine keep4 hp5 ?_; assumption) | (refine keep4 hp4 ?_; assumption) | (refine keep4 hp3 ?_; assumption) | (refine keep4 PD ?_; exact HD0.out))
              clear hK K
              try simp only [Act.put, List.getElem_toArray, List.getElem_cons_succ, List.getElem_cons_zero, List.setIfInBounds_toArray, List.set_cons_zero, List.set_cons_succ]
              refine wpAnyH_take (i := 5) (v := ?_) rfl (by kernel_rfl) (by kernel_rfl) (by kernel_rfl) (fun _ _ _ h => h) (Or.inl ⟨by rfl, ?_⟩) (by assumption) ?_
              rotate_left
              · intro w hSw
                try dsimp only at hSw
                go_simp
                try with_reducible rfl
              try simp only [Act.put, List.getElem_toArray, List.getElem_cons_succ, List.getElem_cons_zero, List.setIfInBounds_toArray, List.set_cons_zero, List.set_cons_succ]
              refine wpAnyH_take (i := 6) (v := ?_) rfl (by kernel_rfl) (by kernel_rfl) (by kernel_rfl) (fun _ _ _ h => h) (Or.inl ⟨by rfl, ?_⟩) (by assumption) ?_
              rotate_left
              · intro w hSw
                try dsimp only at hSw
                go_simp
                try with_reducible rfl
              try simp only [Act.put, List.getElem_toArray, List.getElem_cons_succ, List.getElem_cons_zero, List.setIfInBounds_toArray, List.set_cons_zero, List.set_cons_succ]
              refine wpAnyH_take (i := 7) (v := ?_) rfl (by kernel_rfl) (by kernel_rfl) (by kernel_rfl) (fun _ _ _ h => h) (Or.inl ⟨by rfl, ?_⟩) (by assumption) ?_
              rotate_left
              · intro w hSw
                try dsimp only at hSw
                go_simp
                try with_reducible rfl
              try simp only [Act.put, List.getElem_toArray, List.getElem_cons_succ, List.getElem_cons_zero, List.setIfInBounds_toArray, List.set_cons_zero, List.set_cons_succ]
              refine wpAnyH_take (i := 8) (v := ?_) rfl (by kernel_rfl) (by kernel_rfl) (by kernel_rfl) (fun _ _ _ h => h) (Or.inl ⟨by rfl, ?_⟩) (by assumption) ?_
              rotate_left
              · intro w hSw
                try dsimp only at hSw
                go_simp
                try with_reducible rfl
              try simp only [Act.put, List.getElem_toArray, List.getElem_cons_succ, List.getElem_cons_zero, List.setIfInBounds_toArray, List.set_cons_zero, List.set_cons_succ]
              refine wpAnyH_ready (rs := [9]) (by kernel_rfl) (by simp) ?_
              refine AllReadyH.cons rfl (fun K hK => ?_) AllReadyH.nil
              go_simp
              (go_at_call 155; have hp3' := hp3; ((with_reducible refine (num_of 1 _ ?_ ?_).mono ?_)); (omega); (omega); rintro e w4 ⟨hp4, s4, A4, n4, c4, rfl, hr4⟩; have HR4 := Lib.hid hr4; clear hr4 hp3')
              refine hK.out _ _ ?_ (fun hHeld => ?_)
              · try dsimp only
                (first | assumption | (refine keep4 hp8 ?_; assumption) | (refine keep4 hp7 ?_; assumption) | (refine keep4 hp6 ?_; assumption) | (refine keep4 hp5 ?_; assumption) | (refine keep4 hp4 ?_; assumption) | (refine keep4 hp3 ?_; assumption) | (refine keep4 PD ?_; exact HD0.out))
              clear hK K
              try simp only [Act.put, List.getElem_toArray, List.getElem_cons_succ, List.getElem_cons_zero, List.setIfInBounds_toArray, List.set_cons_zero, List.set_cons_succ]
              refine wpAnyH_ready (rs := [10]) (by kernel_rfl) (by simp) ?_
              refine AllReadyH.cons rfl (fun K hK => ?_) AllReadyH.nil
              go_simp
              (go_at_call 154; ((with_reducible refine (whole_cmp _ _ _ _ _ _ _ _ y 1 _ (HRY.out.past (PD.out.trans (Past.trans hp3 hp4))) HR4.out).mono ?_)); rintro e w5 ⟨hp5, rfl⟩)
              refine hK.out _ _ ?_ (fun hHeld => ?_)
              · try dsimp only
                (first | assumption | (refine keep4 hp8 ?_; assumption) | (refine keep4 hp7 ?_; assumption) | (refine keep4 hp6 ?_; assumption) | (refine keep4 hp5 ?_; assumption) | (refine keep4 hp4 ?_; assumption) | (refine keep4 hp3 ?_; assumption) | (refine keep4 PD ?_; exact HD0.out))
              clear hK K
              try simp only [Act.put, List.getElem_toArray, List.getElem_cons_succ, List.getElem_cons_zero, List.setIfInBounds_toArray, List.set_cons_zero, List.set_cons_succ]
              refine wpAnyH_take (i := 11) (v := ?_) rfl (by kernel_rfl) (by kernel_rfl) (by kernel_rfl) (fun _ _ _ h => h) (Or.inl ⟨by rfl, ?_⟩) (by assumption) ?_
              rotate_left
              · intro w hSw
                try dsimp only at hSw
                go_simp
                try with_reducible rfl
              try simp only [Act.put, List.getElem_toArray, List.getElem_cons_succ, List.getElem_cons_zero, List.setIfInBounds_toArray, List.set_cons_zero, List.set_cons_succ]
              refine wpAnyH_take (i := 12) (v := ?_) rfl (by kernel_rfl) (by kernel_rfl) (by kernel_rfl) (fun _ _ _ h => h) (Or.inl ⟨by rfl, ?_⟩) (by assumption) ?_
              rotate_left
              · intro w hSw
                try dsimp only at hSw
                go_simp
                try with_reducible rfl
              try simp only [Act.put, List.getElem_toArray, List.getElem_cons_succ, List.getElem_cons_zero, List.setIfInBounds_toArray, List.set_cons_zero, List.set_cons_succ]
              refine wpAnyH_take (i := 13) (v := ?_) rfl (by kernel_rfl) (by kernel_rfl) (by kernel_rfl) (fun _ _ _ h => h) (Or.inl ⟨by rfl, ?_⟩) (by assumption) ?_
              rotate_left
              · intro w hSw
                try dsimp only at hSw
                go_simp
                try with_reducible rfl
              try simp only [Act.put, List.getElem_toArray, List.getElem_cons_succ, List.getElem_cons_zero, List.setIfInBounds_toArray, List.set_cons_zero, List.set_cons_succ]
              refine wpAnyH_take (i := 14) (v := ?_) rfl (by kernel_rfl) (by kernel_rfl) (by kernel_rfl) (fun _ _ _ h => h) (Or.inl ⟨by rfl, ?_⟩) (by assumption) ?_
              rotate_left
              · intro w hSw
                try dsimp only at hSw
                go_simp
                try with_reducible rfl
              try simp only [Act.put, List.getElem_toArray, List.getElem_cons_succ, List.getElem_cons_zero, List.setIfInBounds_toArray, List.set_cons_zero, List.set_cons_succ]
              refine wpAnyH_take (i := 15) (v := ?_) rfl (by kernel_rfl) (by kernel_rfl) (by kernel_rfl) (fun _ _ _ h => h) (Or.inl ⟨by rfl, ?_⟩) (by assumption) ?_
              rotate_left
              · intro w hSw
                try dsimp only at hSw
                go_simp
                try with_reducible rfl
              try simp only [Act.put, List.getElem_toArray, List.getElem_cons_succ, List.getElem_cons_zero, List.setIfInBounds_toArray, List.set_cons_zero, List.set_cons_succ]
              refine wpAnyH_ready (rs := [16]) (by kernel_rfl) (by simp) ?_
              refine AllReadyH.cons rfl (fun K hK => ?_) AllReadyH.nil
              go_simp
              (go_at_call 202; ((with_reducible refine (whole_gcd _ _ _ _ _ _ _ _ x y _ (HRX.out.past (PD.out.trans (Past.trans (Past.trans hp3 hp4) hp5))) (HRY.out.past (PD.out.trans (Past.trans (Past.trans hp3 hp4) hp5))) ?_ ?_).mono ?_)); (exact HN12.out.1); (exact HN12.out.2); rintro e w6 ⟨hp6, s6, A6, n6, c6, rfl, hr6⟩; have HR6 := Lib.hid hr6; clear hr6)
              refine hK.out _ _ ?_ (fun hHeld => ?_)
              · try dsimp only
                (first | assumption | (refine keep4 hp8 ?_; assumption) | (refine keep4 hp7 ?_; assumption) | (refine keep4 hp6 ?_; assumption) | (refine keep4 hp5 ?_; assumption) | (refine keep4 hp4 ?_; assumption) | (refine keep4 hp3 ?_; assumption) | (refine keep4 PD ?_; exact HD0.out))
              clear hK K
              try simp only [Act.put, List.getElem_toArray, List.getElem_cons_succ, List.getElem_cons_zero, List.setIfInBounds_toArray, List.set_cons_zero, List.set_cons_succ]
              refine wpAnyH_ready (rs := [17]) (by kernel_rfl) (by simp) ?_
              refine AllReadyH.cons rfl (fun K hK => ?_) AllReadyH.nil
              go_simp
              (go_at_call 155; have hp6' := hp6; ((with_reducible refine (num_of 1 _ ?_ ?_).mono ?_)); (omega); (omega); rintro e w7 ⟨hp7, s7, A7, n7, c7, rfl, hr7⟩; have HR7 := Lib.hid hr7; clear hr7 hp6')
              refine hK.out _ _ ?_ (fun hHeld => ?_)
              · try dsimp only
                (first | assumption | (refine keep4 hp8 ?_; assumption) | (refine keep4 hp7 ?_; assumption) | (refine keep4 hp6 ?_; assumption) | (refine keep4 hp5 ?_; assumption) | (refine keep4 hp4 ?_; assumption) | (refine keep4 hp3 ?_; assumption) | (refine keep4 PD ?_; exact HD0.out))
              clear hK K
              try simp only [Act.put, List.getElem_toArray, List.getElem_cons_succ, List.getElem_cons_zero, List.setIfInBounds_toArray, List.set_cons_zero, List.set_cons_succ]
              refine wpAnyH_ready (rs := [18]) (by kernel_rfl) (by simp) ?_
              refine AllReadyH.cons rfl (fun K hK => ?_) AllReadyH.nil
              go_simp
              (go_at_call 154; ((with_reducible refine (whole_cmp _ _ _ _ _ _ _ _ (Nat.gcd x.natAbs y.natAbs : Nat) 1 _ (HR6.out.past hp7) HR7.out).mono ?_)); rintro e w8 ⟨hp8, rfl⟩)
              refine hK.out _ _ ?_ (fun hHeld => ?_)
              · try dsimp only
                (first | assumption | (refine keep4 hp8 ?_; assumption) | (refine keep4 hp7 ?_; assumption) | (refine keep4 hp6 ?_; assumption) | (refine keep4 hp5 ?_; assumption) | (refine keep4 hp4 ?_; assumption) | (refine keep4 hp3 ?_; assumption) | (refine keep4 PD ?_; exact HD0.out))
              clear hK K
              try simp only [Act.put, List.getElem_toArray, List.getElem_cons_succ, List.getElem_cons_zero, List.setIfInBounds_toArray, List.set_cons_zero, List.set_cons_succ]
              refine wpAnyH_take (i := 19) (v := ?_) rfl (by kernel_rfl) (by kernel_rfl) (by kernel_rfl) (fun _ _ _ h => h) (Or.inl ⟨by rfl, ?_⟩) (by assumption) ?_
              rotate_left
              · intro w hSw
                try dsimp only at hSw
                go_simp
                try with_reducible rfl
              try simp only [Act.put, List.getElem_toArray, List.getElem_cons_succ, List.getElem_cons_zero, List.setIfInBounds_toArray, List.set_cons_zero, List.set_cons_succ]
              refine wpAnyH_take (i := 20) (v := ?_) rfl (by kernel_rfl) (by kernel_rfl) (by kernel_rfl) (fun _ _ _ h => h) (Or.inl ⟨by rfl, ?_⟩) (by assumption) ?_
              rotate_left
              · intro w hSw
                try dsimp only at hSw
                go_simp
                try with_reducible rfl
              try simp only [Act.put, List.getElem_toArray, List.getElem_cons_succ, List.getElem_cons_zero, List.setIfInBounds_toArray, List.set_cons_zero, List.set_cons_succ]
              refine wpAnyH_done (by kernel_rfl) ?_ _
              all_goals (
                have HPZ := Lib.hid (HPW.out.trans (PD.out.trans (Past.trans (Past.trans (Past.trans hp3 hp4) hp5) (Past.trans (Past.trans hp6 hp7) hp8))))
                clear hp3 hp4 hp5 hp6 hp7 hp8
                obtain ⟨r0, g0⟩ := HPZ.out.free HB.out.1.1 HB.out.1.2
                obtain ⟨r1, g1⟩ := HPZ.out.free HB.out.2.1.1 HB.out.2.1.2
                obtain ⟨r2, g2⟩ := HPZ.out.free HB.out.2.2.1.1 HB.out.2.2.1.2
                obtain ⟨r3, g3⟩ := HPZ.out.free HB.out.2.2.2.1 HB.out.2.2.2.2
                go_wp2
                refine bodyPost_ret (v := .tuple #[.agg #[.bool false, .slice none 0 0, .bool false, .slice none 0 0], .bool false]) (by simp [results, Tryz.results141, go_sem, r0, r1, r2, r3]) rfl ?_
                exact AnsQR.no HNO.out (AnsR.store (b := w.heap.size) (RQ.zero _) HPB.out HPZ.out (by omega) (by simp [r0]) (by simp [r1]) (by simp [r2]) (by simp [r3]) _ _ _ _))
          · have hc2 : decide (cmpZ y 1 ≤ 0) = true := by
              rw [decide_eq_true_eq]
              unfold cmpZ
              split <;> (try split) <;> omega
            have HNO : Hid (okR l = false) := by rw [HOR.out]; simp [hy1, Hid]
            clear hy1
            go_wp2_with fail
            obtain ⟨wd, hwd⟩ : ∃ wd, (w2.alloc (.cells #[.bool t2, .slice A2 n2 c2] 129)) = wd := ⟨_, rfl⟩
            have HD0 : Hid (wd.cell? ⟨w1.heap.size, 0, none⟩ = some (.bool t1) ∧ wd.cell? ⟨w1.heap.size, 1, none⟩ = some (.slice A1 n1 c1) ∧ wd.cell? ⟨w2.heap.size, 0, none⟩ = some (.bool t2) ∧ wd.cell? ⟨w2.heap.size, 1, none⟩ = some (.slice A2 n2 c2)) := by
              have h1 := keep2 (show Past w2 wd by rw [← hwd]; exact (Past.refl _).alloc _) ⟨k0, k1⟩
              exact ⟨h1.1, h1.2, by rw [← hwd]; simp [go_sem], by rw [← hwd]; simp [go_sem]⟩
            have HPD : Hid (Past w2 wd) := by rw [← hwd]; exact (Past.refl _).alloc _
            have HPW : Hid (Past wb wd) := HP1.out.trans (HPC.out.trans (HP2.out.trans HPD.out))
            have HRX : Hid (RW wd t1 A1 n1 c1 x) := HR1.out.past (HPC.out.trans (HP2.out.trans HPD.out))
            have HRY : Hid (RW wd t2 A2 n2 c2 y) := HR2.out.past HPD.out
            clear k0 k1
            rw [hwd]
            have HWD := Lib.hid hwd
            clear hwd
            have PD : Hid (Past wd wd.drew) := (Past.refl wd).drew
            refine wp_region_held_drew (S := (fun w' => w'.cell? ⟨w1.heap.size, 0, none⟩ = some (.bool t1) ∧ w'.cell? ⟨w1.heap.size, 1, none⟩ = some (.slice A1 n1 c1) ∧ w'.cell? ⟨w2.heap.size, 0, none⟩ = some (.bool t2) ∧ w'.cell? ⟨w2.heap.size, 1, none⟩ = some (.slice A2 n2 c2))) (by kernel_rfl) ?_ (fun hHeld => ?_)
            · try dsimp only
              (first | assumption | (refine keep4 hp8 ?_; assumption) | (refine keep4 hp7 ?_; assumption) | (refine keep4 hp6 ?_; assumption) | (refine keep4 hp5 ?_; assumption) | (refine keep4 hp4 ?_; assumption) | (refine keep4 hp3 ?_; assumption) | (refine keep4 PD ?_; exact HD0.out))
            refine wpAnyH_take (i := 0) (v := ?_) rfl (by kernel_rfl) (by kernel_rfl) (by kernel_rfl) (fun _ _ _ h => h) (Or.inl ⟨by rfl, ?_⟩) (by assumption) ?_
            rotate_left
            · intro w hSw
              try dsimp only at hSw
              go_simp
              try with_reducible rfl
            try simp only [Act.put, List.getElem_toArray, List.getElem_cons_succ, List.getElem_cons_zero, List.setIfInBounds_toArray, List.set_cons_zero, List.set_cons_succ]
            refine wpAnyH_take (i := 1) (v := ?_) rfl (by kernel_rfl) (by kernel_rfl) (by kernel_rfl) (fun _ _ _ h => h) (Or.inl ⟨by rfl, ?_⟩) (by assumption) ?_
            rotate_left
            · intro w hSw
              try dsimp only at hSw
              go_simp
              try with_reducible rfl
            try simp only [Act.put, List.getElem_toArray, List.getElem_cons_succ, List.getElem_cons_zero, List.setIfInBounds_toArray, List.set_cons_zero, List.set_cons_succ]
            refine wpAnyH_take (i := 2) (v := ?_) rfl (by kernel_rfl) (by kernel_rfl) (by kernel_rfl) (fun _ _ _ h => h) (Or.inl ⟨by rfl, ?_⟩) (by assumption) ?_
            rotate_left
            · intro w hSw
              try dsimp only at hSw
              go_simp
              try with_reducible rfl
            try simp only [Act.put, List.getElem_toArray, List.getElem_cons_succ, List.getElem_cons_zero, List.setIfInBounds_toArray, List.set_cons_zero, List.set_cons_succ]
            refine wpAnyH_take (i := 3) (v := ?_) rfl (by kernel_rfl) (by kernel_rfl) (by kernel_rfl) (fun _ _ _ h => h) (Or.inl ⟨by rfl, ?_⟩) (by assumption) ?_
            rotate_left
            · intro w hSw
              try dsimp only at hSw
              go_simp
              try with_reducible rfl
            try simp only [Act.put, List.getElem_toArray, List.getElem_cons_succ, List.getElem_cons_zero, List.setIfInBounds_toArray, List.set_cons_zero, List.set_cons_succ]
            refine wpAnyH_ready (rs := [4]) (by kernel_rfl) (by simp) ?_
            refine AllReadyH.cons rfl (fun K hK => ?_) AllReadyH.nil
            go_simp
            (go_at_call 201; ((with_reducible refine (whole_sign _ _ _ _ x _ (HRX.out.past PD.out)).mono ?_)); rintro e w3 ⟨hp3, rfl⟩)
            refine hK.out _ _ ?_ (fun hHeld => ?_)
            · try dsimp only
              (first | assumption | (refine keep4 hp8 ?_; assumption) | (refine keep4 hp7 ?_; assumption) | (refine keep4 hp6 ?_; assumption) | (refine keep4 hp5 ?_; assumption) | (refine keep4 hp4 ?_; assumption) | (refine keep4 hp3 ?_; assumption) | (refine keep4 PD ?_; exact HD0.out))
            clear hK K
            try simp only [Act.put, List.getElem_toArray, List.getElem_cons_succ, List.getElem_cons_zero, List.setIfInBounds_toArray, List.set_cons_zero, List.set_cons_succ]
            refine wpAnyH_take (i := 5) (v := ?_) rfl (by kernel_rfl) (by kernel_rfl) (by kernel_rfl) (fun _ _ _ h => h) (Or.inl ⟨by rfl, ?_⟩) (by assumption) ?_
            rotate_left
            · intro w hSw
              try dsimp only at hSw
              go_simp
              try with_reducible rfl
            try simp only [Act.put, List.getElem_toArray, List.getElem_cons_succ, List.getElem_cons_zero, List.setIfInBounds_toArray, List.set_cons_zero, List.set_cons_succ]
            refine wpAnyH_take (i := 6) (v := ?_) rfl (by kernel_rfl) (by kernel_rfl) (by kernel_rfl) (fun _ _ _ h => h) (Or.inl ⟨by rfl, ?_⟩) (by assumption) ?_
            rotate_left
            · intro w hSw
              try dsimp only at hSw
              go_simp
              try with_reducible rfl
            try simp only [Act.put, List.getElem_toArray, List.getElem_cons_succ, List.getElem_cons_zero, List.setIfInBounds_toArray, List.set_cons_zero, List.set_cons_succ]
            refine wpAnyH_take (i := 7) (v := ?_) rfl (by kernel_rfl) (by kernel_rfl) (by kernel_rfl) (fun _ _ _ h => h) (Or.inl ⟨by rfl, ?_⟩) (by assumption) ?_
            rotate_left
            · intro w hSw
              try dsimp only at hSw
              go_simp
              try with_reducible rfl
            try simp only [Act.put, List.getElem_toArray, List.getElem_cons_succ, List.getElem_cons_zero, List.setIfInBounds_toArray, List.set_cons_zero, List.set_cons_succ]
            refine wpAnyH_take (i := 8) (v := ?_) rfl (by kernel_rfl) (by kernel_rfl) (by kernel_rfl) (fun _ _ _ h => h) (Or.inl ⟨by rfl, ?_⟩) (by assumption) ?_
            rotate_left
            · intro w hSw
              try dsimp only at hSw
              go_simp
              try with_reducible rfl
            try simp only [Act.put, List.getElem_toArray, List.getElem_cons_succ, List.getElem_cons_zero, List.setIfInBounds_toArray, List.set_cons_zero, List.set_cons_succ]
            refine wpAnyH_ready (rs := [9]) (by kernel_rfl) (by simp) ?_
            refine AllReadyH.cons rfl (fun K hK => ?_) AllReadyH.nil
            go_simp
            (go_at_call 155; have hp3' := hp3; ((with_reducible refine (num_of 1 _ ?_ ?_).mono ?_)); (omega); (omega); rintro e w4 ⟨hp4, s4, A4, n4, c4, rfl, hr4⟩; have HR4 := Lib.hid hr4; clear hr4 hp3')
            refine hK.out _ _ ?_ (fun hHeld => ?_)
            · try dsimp only
              (first | assumption | (refine keep4 hp8 ?_; assumption) | (refine keep4 hp7 ?_; assumption) | (refine keep4 hp6 ?_; assumption) | (refine keep4 hp5 ?_; assumption) | (refine keep4 hp4 ?_; assumption) | (refine keep4 hp3 ?_; assumption) | (refine keep4 PD ?_; exact HD0.out))
            clear hK K
            try simp only [Act.put, List.getElem_toArray, List.getElem_cons_succ, List.getElem_cons_zero, List.setIfInBounds_toArray, List.set_cons_zero, List.set_cons_succ]
            refine wpAnyH_ready (rs := [10]) (by kernel_rfl) (by simp) ?_
            refine AllReadyH.cons rfl (fun K hK => ?_) AllReadyH.nil
            go_simp
            (go_at_call 154; ((with_reducible refine (whole_cmp _ _ _ _ _ _ _ _ y 1 _ (HRY.out.past (PD.out.trans (Past.trans hp3 hp4))) HR4.out).mono ?_)); rintro e w5 ⟨hp5, rfl⟩)
            refine hK.out _ _ ?_ (fun hHeld => ?_)
            · try dsimp only
              (first | assumption | (refine keep4 hp8 ?_; assumption) | (refine keep4 hp7 ?_; assumption) | (refine keep4 hp6 ?_; assumption) | (refine keep4 hp5 ?_; assumption) | (refine keep4 hp4 ?_; assumption) | (refine keep4 hp3 ?_; assumption) | (refine keep4 PD ?_; exact HD0.out))
            clear hK K
            try simp only [Act.put, List.getElem_toArray, List.getElem_cons_succ, List.getElem_cons_zero, List.setIfInBounds_toArray, List.set_cons_zero, List.set_cons_succ]
            refine wpAnyH_take (i := 11) (v := ?_) rfl (by kernel_rfl) (by kernel_rfl) (by kernel_rfl) (fun _ _ _ h => h) (Or.inl ⟨by rfl, ?_⟩) (by assumption) ?_
            rotate_left
            · intro w hSw
              try dsimp only at hSw
              go_simp
              try with_reducible rfl
            try simp only [Act.put, List.getElem_toArray, List.getElem_cons_succ, List.getElem_cons_zero, List.setIfInBounds_toArray, List.set_cons_zero, List.set_cons_succ]
            refine wpAnyH_take (i := 12) (v := ?_) rfl (by kernel_rfl) (by kernel_rfl) (by kernel_rfl) (fun _ _ _ h => h) (Or.inl ⟨by rfl, ?_⟩) (by assumption) ?_
            rotate_left
            · intro w hSw
              try dsimp only at hSw
              go_simp
              try with_reducible rfl
            try simp only [Act.put, List.getElem_toArray, List.getElem_cons_succ, List.getElem_cons_zero, List.setIfInBounds_toArray, List.set_cons_zero, List.set_cons_succ]
            refine wpAnyH_take (i := 13) (v := ?_) rfl (by kernel_rfl) (by kernel_rfl) (by kernel_rfl) (fun _ _ _ h => h) (Or.inl ⟨by rfl, ?_⟩) (by assumption) ?_
            rotate_left
            · intro w hSw
              try dsimp only at hSw
              go_simp
              try with_reducible rfl
            try simp only [Act.put, List.getElem_toArray, List.getElem_cons_succ, List.getElem_cons_zero, List.setIfInBounds_toArray, List.set_cons_zero, List.set_cons_succ]
            refine wpAnyH_take (i := 14) (v := undef) rfl (by kernel_rfl) (by kernel_rfl) (by kernel_rfl) (fun _ _ _ h => h) (Or.inr ⟨by rfl, rfl⟩) (by assumption) ?_
            try simp only [Act.put, List.getElem_toArray, List.getElem_cons_succ, List.getElem_cons_zero, List.setIfInBounds_toArray, List.set_cons_zero, List.set_cons_succ]
            refine wpAnyH_take (i := 15) (v := undef) rfl (by kernel_rfl) (by kernel_rfl) (by kernel_rfl) (fun _ _ _ h => h) (Or.inr ⟨by rfl, rfl⟩) (by assumption) ?_
            try simp only [Act.put, List.getElem_toArray, List.getElem_cons_succ, List.getElem_cons_zero, List.setIfInBounds_toArray, List.set_cons_zero, List.set_cons_succ]
            refine wpAnyH_take (i := 16) (v := undef) rfl (by kernel_rfl) (by kernel_rfl) (by kernel_rfl) (fun _ _ _ h => h) (Or.inr ⟨by rfl, rfl⟩) (by assumption) ?_
            try simp only [Act.put, List.getElem_toArray, List.getElem_cons_succ, List.getElem_cons_zero, List.setIfInBounds_toArray, List.set_cons_zero, List.set_cons_succ]
            refine wpAnyH_take (i := 17) (v := undef) rfl (by kernel_rfl) (by kernel_rfl) (by kernel_rfl) (fun _ _ _ h => h) (Or.inr ⟨by rfl, rfl⟩) (by assumption) ?_
            try simp only [Act.put, List.getElem_toArray, List.getElem_cons_succ, List.getElem_cons_zero, List.setIfInBounds_toArray, List.set_cons_zero, List.set_cons_succ]
            refine wpAnyH_take (i := 18) (v := undef) rfl (by kernel_rfl) (by kernel_rfl) (by kernel_rfl) (fun _ _ _ h => h) (Or.inr ⟨by rfl, rfl⟩) (by assumption) ?_
            try simp only [Act.put, List.getElem_toArray, List.getElem_cons_succ, List.getElem_cons_zero, List.setIfInBounds_toArray, List.set_cons_zero, List.set_cons_succ]
            refine wpAnyH_take (i := 19) (v := undef) rfl (by kernel_rfl) (by kernel_rfl) (by kernel_rfl) (fun _ _ _ h => h) (Or.inr ⟨by rfl, rfl⟩) (by assumption) ?_
            try simp only [Act.put, List.getElem_toArray, List.getElem_cons_succ, List.getElem_cons_zero, List.setIfInBounds_toArray, List.set_cons_zero, List.set_cons_succ]
            refine wpAnyH_take (i := 20) (v := ?_) rfl (by kernel_rfl) (by kernel_rfl) (by kernel_rfl) (fun _ _ _ h => h) (Or.inl ⟨by rfl, ?_⟩) (by assumption) ?_
            rotate_left
            · intro w hSw
              try dsimp only at hSw
              go_simp
              try with_reducible rfl
            try simp only [Act.put, List.getElem_toArray, List.getElem_cons_succ, List.getElem_cons_zero, List.setIfInBounds_toArray, List.set_cons_zero, List.set_cons_succ]
            refine wpAnyH_done (by kernel_rfl) ?_ _
            all_goals (
              have HPZ := Lib.hid (HPW.out.trans (PD.out.trans (Past.trans (Past.trans hp3 hp4) hp5)))
              clear hp3 hp4 hp5
              obtain ⟨r0, g0⟩ := HPZ.out.free HB.out.1.1 HB.out.1.2
              obtain ⟨r1, g1⟩ := HPZ.out.free HB.out.2.1.1 HB.out.2.1.2
              obtain ⟨r2, g2⟩ := HPZ.out.free HB.out.2.2.1.1 HB.out.2.2.1.2
              obtain ⟨r3, g3⟩ := HPZ.out.free HB.out.2.2.2.1 HB.out.2.2.2.2
              go_wp2
              refine bodyPost_ret (v := .tuple #[.agg #[.bool false, .slice none 0 0, .bool false, .slice none 0 0], .bool false]) (by simp [results, Tryz.results141, go_sem, r0, r1, r2, r3]) rfl ?_
              exact AnsQR.no HNO.out (AnsR.store (b := w.heap.size) (RQ.zero _) HPB.out HPZ.out (by omega) (by simp [r0]) (by simp [r1]) (by simp [r2]) (by simp [r3]) _ _ _ _))

end Go.Proofs.YtdcjibjldfjllaaGreat

/- How many decimal digits. -/
namespace Go.Proofs.YtdcjibjldfjllaaGreat
open Go.RowKit

/-- The number of decimal digits. -/
def dlen (z : Int) : Nat := (dgt z.natAbs).length
theorem dlen_zero : dlen 0 = 0 := by unfold dlen; simp [dgt_nil]

theorem dlen_of {z : Int} {L : Nat} (h1 : 10 ^ L ≤ z.natAbs) (h2 : z.natAbs < 10 ^ (L + 1)) : dlen z = L + 1 := by
  have a : dlen z ≤ L + 1 := Dg.toD_length_le (by omega) h2
  have b : (z.natAbs : Int) < 10 ^ dlen z := by
    have h := Dg.val_lt (b := 10) (by omega) (dgt_dig z.natAbs)
    rw [dgt_val] at h
    exact h
  have c : (10 : Nat) ^ L < 10 ^ dlen z := by
    have h : ((z.natAbs : Nat) : Int) < ((10 ^ dlen z : Nat) : Int) := by rw [Int.natCast_pow]; exact b
    exact Nat.lt_of_le_of_lt h1 (Int.ofNat_lt.1 h)
  have d : L < dlen z := (Nat.pow_lt_pow_iff_right (by omega)).1 c
  omega

theorem dlen_top {z : Int} {k j : Nat} {top : Int} (hk : (dg z.natAbs).length = k + 1) (ht : rd (dg z.natAbs) k = top) (h1 : (10 : Int) ^ j ≤ top) (h2 : top < 10 ^ (j + 1)) : dlen z = 9 * k + (j + 1) := by
  obtain ⟨xs, hxs⟩ : ∃ xs, dg z.natAbs = xs := ⟨_, rfl⟩
  have hv : Dg.val 1000000000 xs = z.natAbs := by rw [← hxs]; exact dg_val _
  have hd : Dg.Dig 1000000000 xs := by rw [← hxs]; exact dg_dig _
  rw [hxs] at hk ht
  have e : Dg.val 1000000000 (xs.take k) + 1000000000 ^ k * top = (z.natAbs : Int) := by
    rw [← ht, ← hv, ← Dg.val_take_all 1000000000 (l := xs) (i := k + 1) (by omega), Dg.val_take_succ']
    rfl
  have hl0 := Dg.val_nonneg (b := 1000000000) (by omega) (hd.take k)
  have hl1 := Dg.val_lt (b := 1000000000) (by omega) (hd.take k)
  rw [List.length_take, Nat.min_eq_left (by omega)] at hl1
  have p9 : (1000000000 : Int) ^ k = 10 ^ (9 * k) := by rw [← pow_nine]
  rw [p9] at e hl1
  have hp : (0 : Int) < 10 ^ (9 * k) := Dg.pow_pos (by omega) _
  have r1 : ((10 : Int)) ^ (9 * k + j) ≤ (z.natAbs : Int) := by
    rw [Int.pow_add]
    have := Int.mul_le_mul_of_nonneg_left h1 (Int.le_of_lt hp)
    omega
  have r2 : (z.natAbs : Int) < (10 : Int) ^ (9 * k + j + 1) := by
    rw [Nat.add_assoc, Int.pow_add]
    have h3 : top + 1 ≤ 10 ^ (j + 1) := by omega
    have h4 := Int.mul_le_mul_of_nonneg_left h3 (Int.le_of_lt hp)
    rw [Int.mul_add, Int.mul_one] at h4
    omega
  rw [← Nat.add_assoc]
  refine dlen_of ?_ ?_
  · have h : ((10 ^ (9 * k + j) : Nat) : Int) ≤ ((z.natAbs : Nat) : Int) := by rw [Int.natCast_pow]; exact r1
    exact Int.ofNat_le.1 h
  · have h : ((z.natAbs : Nat) : Int) < ((10 ^ (9 * k + j + 1) : Nat) : Int) := by rw [Int.natCast_pow]; exact r2
    exact Int.ofNat_lt.1 h

theorem top_pos {n : Nat} {k : Nat} (hk : (dg n).length = k + 1) : 0 < rd (dg n) k := by
  have hc := Dg.toD_can 1000000000 (by omega) n
  have h1 : 1000000000 ^ ((dg n).length - 1) ≤ Dg.val 1000000000 (dg n) := Dg.pow_le_val (by omega) (dg_dig n) hc (by intro e; rw [e] at hk; simp at hk)
  have hv : Dg.val 1000000000 (dg n) = Dg.val 1000000000 ((dg n).take k) + 1000000000 ^ k * rd (dg n) k := by
    rw [← Dg.val_take_all 1000000000 (l := dg n) (i := k + 1) (by omega), Dg.val_take_succ']
    rfl
  have hl1 := Dg.val_lt (b := 1000000000) (by omega) ((dg_dig n).take k)
  rw [List.length_take, Nat.min_eq_left (by omega)] at hl1
  rw [hk, Nat.add_sub_cancel, hv] at h1
  have h0 := rd_dig (dg_dig n) (by omega) k
  rcases Int.lt_or_le 0 (rd (dg n) k) with h | h
  · exact h
  · have : rd (dg n) k = 0 := by omega
    rw [this, Int.mul_zero] at h1
    omega

theorem pow_div_pos {top : Int} {j : Nat} (h0 : 0 ≤ top) (h : 0 < top / 10 ^ j) : (10 : Int) ^ j ≤ top := by
  have hp : (0 : Int) < 10 ^ j := Dg.pow_pos (by omega) _
  rcases Int.lt_or_le top (10 ^ j) with h1 | h1
  · rw [Int.ediv_eq_zero_of_lt h0 h1] at h
    omega
  · exact h1
theorem pow_div_zero {top : Int} {j : Nat} (h0 : 0 ≤ top) (h : top / 10 ^ j ≤ 0) : top < (10 : Int) ^ j := by
  have hp : (0 : Int) < 10 ^ j := Dg.pow_pos (by omega) _
  rcases Int.lt_or_le top (10 ^ j) with h1 | h1
  · exact h1
  · have h2 := Int.ediv_le_ediv hp h1
    rw [Int.ediv_self (by omega)] at h2
    omega

set_option maxRecDepth 100000 in
set_option maxHeartbeats 4000000 in
theorem whole_digits (s : Bool) (A : Option Addr) (n c : Nat) (z : Int) (w : World) (hx : RW w s A n c z) (hn : n < 34359738368) :
    Calls Tryz.prog 211 #[.agg #[.bool s, .slice A n c]] w fun e w' => Past w w' ∧ e = .returned (.int .i64 (dlen z)) := by
  have HX := Lib.hid hx.2
  have HNL := Lib.hid hn
  clear hx hn
  cases n with
  | zero =>
    have hz : dlen z = 0 := by
      have := HX.out.len
      have h2 := (dg_nil z.natAbs).1 (List.eq_nil_of_length_eq_zero this)
      unfold dlen
      rw [h2]
      simp [dgt_nil]
    rw [hz]
    go_enter Tryz.func211, Tryz.ntmps211
    go_wp2
    go_ret
    exact ⟨(Past.refl w).alloc _, rfl⟩
  | succ k =>
    have hnp : (((k + 1 : Nat) : Int) == 0) = false := by
      rw [beq_eq_false_iff_ne]
      omega
    obtain ⟨top, ht⟩ : ∃ t, rd (dg z.natAbs) k = t := ⟨_, rfl⟩
    have HT := Lib.hid ht
    have HT0 : Hid (0 < top) := by rw [← ht]; exact top_pos HX.out.len
    have htd := rd_dig (dg_dig z.natAbs) (by omega) k
    rw [ht] at htd
    obtain ⟨ht0, ht1⟩ := htd
    clear ht
    obtain ⟨b1, o1, rfl, hc1⟩ := HX.out.at_ (by omega)
    have e1 := hc1 k (by omega)
    rw [HT.out] at e1
    clear hc1
    obtain ⟨wb, hwb⟩ : ∃ wb, (w.alloc (.cells #[.bool s, .slice (some ⟨b1, o1, none⟩) (k + 1) c] 129)) = wb := ⟨_, rfl⟩
    have HPB : Hid (Past w wb) := by rw [← hwb]; exact (Past.refl _).alloc _
    have e2 := World.block_lt_of_cell? w _ e1
    dsimp only at e2
    have HB : Hid (wb.cell? ⟨w.heap.size, 0, none⟩ = some (.bool s) ∧ wb.cell? ⟨w.heap.size, 1, none⟩ = some (.slice (some ⟨b1, o1, none⟩) (k + 1) c)) := by rw [← hwb]; simp [go_sem, Hid]
    have HWB := Lib.hid hwb
    clear hwb
    have hk0 : (0 : Int) ≤ k := by omega
    have hk1 : (k : Int) < ((k + 1 : Nat) : Int) := by omega
    have hk2 : k < 34359738368 := by have := HNL.out; omega
    go_enter Tryz.func211, Tryz.ntmps211
    go_wp2
    rw [HWB.out]
    go_loopw [3, 4] (fun nv xv wr => ∃ (j : Nat) (x : Int), nv = .int .i64 (9 * k + j) ∧ xv = .int .u32 x ∧ 0 ≤ x ∧ x < 1000000000 ∧ j ≤ 10 ∧ Hid (x = top / 10 ^ j) ∧ Hid (j = 0 ∨ (10 : Int) ^ (j - 1) ≤ top) ∧ Hid (Past wb wr)) (fun _ xv _ => (intOf xv).toNat)
    case atStart => exact ⟨0, top, by simp, rfl, ht0, ht1, by omega, by simp [Hid], Or.inl rfl, Past.refl _⟩
    case round =>
      obtain ⟨j, x, rfl, rfl, hx0, hx1, hj, HXV, HJ, HPR⟩ := hrel
      by_cases hxp : 0 < x
      · have HP10 : Hid ((10 : Int) ^ j ≤ top) := pow_div_pos ht0 (by rw [← HXV.out]; exact hxp)
        have hj9 : j < 9 := by
          rcases Nat.lt_or_ge j 9 with h | h
          · exact h
          · have h1 : (10 : Int) ^ 9 ≤ 10 ^ j := Dg.pow_mono (by omega) h
            have := HP10.out
            omega
        go_wp2
        go_roundw
        case rel => exact ⟨j + 1, x / 10, by go_num, rfl, by omega, by omega, by omega, by rw [HXV.out, Int.ediv_ediv_of_nonneg (Int.le_of_lt (Dg.pow_pos (by omega) _)), Int.pow_succ]; exact rfl, Or.inr HP10.out, HPR⟩
        case measure => simp [intOf]; omega
      · have HRES : Hid (9 * k + j = dlen z) := by
          have h1 := pow_div_zero ht0 (show top / 10 ^ j ≤ 0 by rw [← HXV.out]; omega)
          rcases HJ.out with h2 | h2
          · subst h2
            have := HT0.out
            omega
          · cases j with
            | zero => have := HT0.out; omega
            | succ i => exact (dlen_top HX.out.len HT.out h2 h1).symm
        go_wp2
        go_ret
        exact ⟨HPB.out.trans HPR.out, by rw [← HRES.out, Int.natCast_add, Int.natCast_mul]; rfl⟩

set_option maxRecDepth 100000 in
set_option maxHeartbeats 4000000 in
theorem whole_long (s : Bool) (A : Option Addr) (n c : Nat) (z : Int) (w : World) (hx : RW w s A n c z) (hn : n < 34359738368) :
    Calls Tryz.prog 153 #[.agg #[.bool s, .slice A n c]] w fun e w' => Past w w' ∧ e = .returned (.bool (decide (1000 < dlen z))) := by
  have HX := Lib.hid hx
  have HNL := Lib.hid hn
  clear hx hn
  obtain ⟨wb, hwb⟩ : ∃ wb, (w.alloc (.cells #[.bool s, .slice A n c] 129)) = wb := ⟨_, rfl⟩
  have HPB : Hid (Past w wb) := by rw [← hwb]; exact (Past.refl _).alloc _
  have HB : Hid (wb.cell? ⟨w.heap.size, 0, none⟩ = some (.bool s) ∧ wb.cell? ⟨w.heap.size, 1, none⟩ = some (.slice A n c)) := by rw [← hwb]; simp [go_sem, Hid]
  have HWB := Lib.hid hwb
  clear hwb
  obtain ⟨k0, k1⟩ := HB.out
  go_enter Tryz.func153, Tryz.ntmps153
  go_wp2_with fail
  rw [HWB.out]
  go_wp2_with fail
  refine (whole_digits _ _ _ _ z _ (HX.out.past HPB.out) HNL.out).mono ?_
  rintro e w1 ⟨hp1, rfl⟩
  go_wp2
  go_ret
  exact ⟨HPB.out.trans hp1, by congr 2; simp; omega⟩

/-- Whether a rational number is too long. -/
def longQ (q : Rat) : Bool := decide (1000 < dlen q.num) || decide (1000 < dlen (q.den : Int))

set_option maxRecDepth 100000 in
set_option maxHeartbeats 4000000 in
theorem ratio_long (s t : Bool) (A B : Option Addr) (n c m d : Nat) (q : Rat) (w : World) (hq : RQ w s A n c t B m d q) (hn : lenQ q < 8589934592) :
    Calls Tryz.prog 97 #[.agg #[.bool s, .slice A n c, .bool t, .slice B m d]] w fun e w' => Past w w' ∧ e = .returned (.bool (longQ q)) := by
  have HQ := Lib.hid hq
  have HLQ := Lib.hid hq.lens
  have HLEN := Lib.hid hn
  clear hq hn
  obtain ⟨wb, hwb⟩ : ∃ wb, (w.alloc (.cells #[.bool s, .slice A n c, .bool t, .slice B m d] 131)) = wb := ⟨_, rfl⟩
  have HPB : Hid (Past w wb) := by rw [← hwb]; exact (Past.refl _).alloc _
  have HB : Hid (wb.cell? ⟨w.heap.size, 0, none⟩ = some (.bool s) ∧ wb.cell? ⟨w.heap.size, 1, none⟩ = some (.slice A n c) ∧ wb.cell? ⟨w.heap.size, 2, none⟩ = some (.bool t) ∧ wb.cell? ⟨w.heap.size, 3, none⟩ = some (.slice B m d)) := by rw [← hwb]; simp [go_sem, Hid]
  have HWB := Lib.hid hwb
  clear hwb
  obtain ⟨k0, k1, k2, k3⟩ := HB.out
  obtain ⟨z, HZ, HD⟩ : ∃ z : Int, Hid (RW w t B m d z) ∧ Hid (decide (1000 < dlen z) = decide (1000 < dlen (q.den : Int))) := by
    rcases HQ.out.2 with h | ⟨h1, h⟩
    · exact ⟨_, h, rfl⟩
    · have h2 : dlen ((1 : Nat) : Int) = 1 := dlen_of (L := 0) (by simp) (by simp)
      exact ⟨0, h, by rw [h1, dlen_zero, h2]; exact rfl⟩
  by_cases h1 : 1000 < dlen q.num
  · have hb1 : decide (1000 < dlen q.num) = true := decide_eq_true h1
    clear h1
    have HR : Hid (longQ q = true) := by unfold longQ; rw [hb1]; rfl
    go_enter Tryz.func97, Tryz.ntmps97
    go_wp2_with fail
    rw [HWB.out]
    go_wp2_with fail
    refine (whole_long _ _ _ _ q.num _ (HQ.out.1.past HPB.out) (by have := HLQ.out; have := HLEN.out; omega)).mono ?_
    rintro e w1 ⟨hp1, rfl⟩
    rw [hb1]
    go_wp2
    go_ret
    exact ⟨HPB.out.trans hp1, by rw [HR.out]; rfl⟩
  · have hb1 : decide (1000 < dlen q.num) = false := decide_eq_false h1
    clear h1
    have HR : Hid (longQ q = decide (1000 < dlen z)) := by unfold longQ; rw [hb1, HD.out]; rfl
    go_enter Tryz.func97, Tryz.ntmps97
    go_wp2_with fail
    rw [HWB.out]
    go_wp2_with fail
    refine (whole_long _ _ _ _ q.num _ (HQ.out.1.past HPB.out) (by have := HLQ.out; have := HLEN.out; omega)).mono ?_
    rintro e w1 ⟨hp1, rfl⟩
    rw [hb1]
    obtain ⟨k0, k1, k2, k3⟩ := keep4 hp1 HB.out
    go_wp2_with fail
    refine (whole_long _ _ _ _ z _ (HZ.out.past (HPB.out.trans hp1)) (by have := HLQ.out; have := HLEN.out; omega)).mono ?_
    rintro e w2 ⟨hp2, rfl⟩
    go_wp2
    go_ret
    exact ⟨(HPB.out.trans hp1).trans hp2, by rw [HR.out]; rfl⟩

end Go.Proofs.YtdcjibjldfjllaaGreat
