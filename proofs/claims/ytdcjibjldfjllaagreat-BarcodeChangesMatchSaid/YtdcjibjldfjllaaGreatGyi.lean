/- Helpers of the proof, joined: Cm4 Cm5 Cm6 Cm7 Cm8. -/
import Derived.Test.YtdcjibjldfjllaaGreatGyc
import Derived.Test.YtdcjibjldfjllaaGreatGxg
import Derived.Shelf.Spec.SlicesGrow
import Derived.Test.YtdcjibjldfjllaaGreatGr
import Derived.Test.YtdcjibjldfjllaaGreatGyb
import Derived.Test.YtdcjibjldfjllaaGreatGxa
import Derived.Test.YtdcjibjldfjllaaGreatGn
import Derived.Test.YtdcjibjldfjllaaGreatGyh
set_option linter.unusedVariables false
set_option linter.unusedSimpArgs false
/- slices.Grow of nothing, slices.Concat of two rows of bars; barcode.Merge. -/
namespace Go.Proofs.YtdcjibjldfjllaaGreat
open Go.RowKit Go.Shelf

def renG : Ren :=
  { f := fun x => match x with
      | 4 => 157
      | n => n
    t := fun x => match x with
      | 0 => 0 | 3 => 3 | 4 => 4 | 9 => 9 | 20 => 20 | 22 => 22 | 25 => 94
      | n => n
    g := fun n => n }
set_option maxRecDepth 100000 in
theorem laysG : Lays8.n4 Tryz.prog renG := by
  constructor <;> first | kernel_rfl | (intro w; kernel_rfl) | exact ⟨Tryz.f157.name, by kernel_rfl, by kernel_rfl⟩

theorem zeroCells_size (cs : Array Value) (n : Nat) : (Builtin.zeroCells cs n).size = n * cs.size := by
  unfold Builtin.zeroCells
  simp

theorem bar_grow (n : Nat) (w : World) (hn : n ≤ 1000000) :
    Calls Tryz.prog 157 #[.slice none 0 0, .int .i64 n] w fun e w' => ∃ v, e = .returned v ∧ OwnS w w' rBar 94 v [] := by
  by_cases h0 : n = 0
  · subst h0
    refine (Any8.slices_Grow_room laysG none 0 0 0 w (Nat.le_refl _) (by omega) (by omega) (by omega)).mono ?_
    rintro e w' ⟨rfl, rfl⟩
    exact ⟨_, rfl, OwnS.nil (Past.refl _) _ _⟩
  · obtain ⟨i, z, hi, hz, hsize, hby, hzs⟩ := el_bar.i
    have hb : (0 + n) * i.bytes ≤ 140737488355328 := Nat.le_trans (Nat.mul_le_mul_left _ hby) (by omega)
    refine (Any8.slices_Grow_grow laysG i z hi hz (by rw [hsize]; decide) none 0 0 n [] w (Nat.le_refl _) (by omega) hb (by omega) (by simp) (fun _ => rfl) (fun a h => by cases h)).mono ?_
    rintro e w' ⟨rfl, rfl⟩
    obtain ⟨G, hG⟩ : ∃ G, G = grownCap w (0 + n) 0 (renG.t 25) := ⟨_, rfl⟩
    have hGn : 0 + n ≤ G := by rw [hG]; exact grownCap_ge w _ _ _
    have hG63 : G ≤ maxLen := by rw [hG]; exact grownCap_le_maxLen w (0 + n) 0 _ (by unfold maxLen; omega)
    rw [← hG]
    have hp : Past w w.drew := (Past.refl w).drew
    refine ⟨_, rfl, ⟨⟨by simp, .inr ⟨w.heap.size, G, _, rfl, Nat.le_refl _, heap_alloc_new w.drew _, Nat.zero_le _, hG63, ?_, by simp⟩⟩, hp.alloc _⟩⟩
    simp only [Array.size_append, zeroCells_size, hzs, List.size_toArray, List.length_nil]
    show 0 + (0 + n - 0) * 3 + (G - (0 + n)) * 3 = G * 3
    omega

set_option maxRecDepth 100000 in
set_option maxHeartbeats 4000000 in
theorem bar_concat (g : Nat) (A B : Option Addr) (n c m d : Nat) (xs ys : List Bar) (w : World) (h0 : w.cell? ⟨g, 0, none⟩ = some (.slice A n c)) (h1 : w.cell? ⟨g, 1, none⟩ = some (.slice B m d))
    (hx : Rows w rBar A n c xs) (hy : Rows w rBar B m d ys) (hn : n ≤ 100000) (hm : m ≤ 100000) :
    Calls Tryz.prog 101 #[.slice (some ⟨g, 0, none⟩) 2 2] w fun e w' => Past w w' ∧ ∃ v, e = .returned v ∧ OwnS w w' rBar 94 v (xs ++ ys) := by
  have HX := Lib.hid hx
  have HY := Lib.hid hy
  have H0 := Lib.hid h0
  have H1 := Lib.hid h1
  have HXL := Lib.hid hx.len
  have HEL := Lib.hid el_bar
  clear hx hy h0 h1
  go_enter Tryz.func101, Tryz.ntmps101
  go_wp2_with fail
  go_loopg [3, 11] 2 (fun gg sv iv wr => (gg = 2 ∧ iv = .int .i64 0 ∧ sv = .int .i64 0 ∨ gg = 1 ∧ iv = .int .i64 1 ∧ sv = .int .i64 n ∨ gg = 0 ∧ iv = .int .i64 2 ∧ sv = .int .i64 ((n + m : Nat) : Int)) ∧ wr = w)
  case atStart => exact ⟨.inl ⟨rfl, rfl, rfl⟩, rfl⟩
  case round =>
    obtain ⟨hc, rfl⟩ := hrel
    have e0 := H0.out
    have e1 := H1.out
    rcases hc with ⟨rfl, rfl, rfl⟩ | ⟨rfl, rfl, rfl⟩ | ⟨rfl, rfl, rfl⟩
    · have z1 : ¬ (n : Int) < 0 := by omega
      go_wp2_with fail
      go_roundg 1
      case measure => omega
      case rel => exact ⟨.inr (.inl ⟨rfl, rfl, by go_num⟩), rfl⟩
    · have z1 : ¬ (n : Int) + (m : Int) < 0 := by omega
      go_wp2_with fail
      go_roundg 0
      case measure => omega
      case rel => exact ⟨.inr (.inr ⟨rfl, rfl, by go_num⟩), rfl⟩
    · go_wp2_with fail
      refine (bar_grow (n + m) _ (by omega)).mono ?_
      rintro e w2 ⟨v2, rfl, ho2⟩
      have HO2 := Lib.hid ho2
      clear ho2
      go_wp2_with fail
      go_loopg [6, 27] 2 (fun gg ov iv wx => ∃ (vo : Value) (l : List Bar), vo = ov ∧ (gg = 2 ∧ iv = .int .i64 0 ∧ l = [] ∨ gg = 1 ∧ iv = .int .i64 1 ∧ l = xs ∨ gg = 0 ∧ iv = .int .i64 2 ∧ l = xs ++ ys) ∧ Hid (OwnS wr wx rBar 94 vo l))
      case atStart => exact ⟨_, [], rfl, .inl ⟨rfl, rfl, rfl⟩, HO2⟩
      case round =>
        obtain ⟨vo, l, hvo, hc, HO⟩ := hrel
        subst hvo
        have k0 := HO.out.2.cell H0.out
        have k1 := HO.out.2.cell H1.out
        rcases hc with ⟨rfl, rfl, rfl⟩ | ⟨rfl, rfl, rfl⟩ | ⟨rfl, rfl, rfl⟩
        · clear e0 e1
          go_wp2_with (first | (at_builtin; refine wpList_appR HEL.out HO.out rfl rfl rfl A n c rfl (HX.out.past HO.out.2) (by simp; omega) ?_; intro v3 w3 hown3 hp3))
          go_roundg 1
          case measure => omega
          case rel => exact ⟨_, _, rfl, .inr (.inl ⟨rfl, rfl, rfl⟩), hown3⟩
        · clear e0 e1
          go_wp2_with (first | (at_builtin; refine wpList_appR HEL.out HO.out rfl rfl rfl B m d rfl (HY.out.past HO.out.2) (by have := HXL.out; omega) ?_; intro v3 w3 hown3 hp3))
          go_roundg 0
          case measure => omega
          case rel => exact ⟨_, _, rfl, .inr (.inr ⟨rfl, rfl, rfl⟩), hown3⟩
        · go_wp2
          go_ret
          exact ⟨HO.out.2, _, rfl, HO.out⟩

/-- What barcode.Merge answers. -/
def mergeB (xs ys : List Bar) : List Bar × Int := if checkB xs ≠ 0 then ([], checkB xs) else if checkB ys ≠ 0 then ([], checkB ys) else if 2048 < xs.length + ys.length then ([], 3) else chgAll [] [] (xs ++ ys)

set_option maxRecDepth 100000 in
set_option maxHeartbeats 4000000 in
theorem bar_merge (A B : Option Addr) (n c m d : Nat) (xs ys : List Bar) (w : World) (hx : Rows w rBar A n c xs) (hy : Rows w rBar B m d ys) (hfx : ∀ b ∈ xs, b.fit) (hfy : ∀ b ∈ ys, b.fit) (hn : n ≤ 1000) (hm : m ≤ 1000) :
    Calls Tryz.prog 38 #[.slice A n c, .slice B m d] w fun e w' => Past w w' ∧ ∃ v, e = .returned (.tuple #[v, .int .i64 (mergeB xs ys).2]) ∧ OwnS w w' rBar 94 v (mergeB xs ys).1 := by
  have HX := Lib.hid hx
  have HY := Lib.hid hy
  have HXL := Lib.hid hx.len
  have HYL := Lib.hid hy.len
  have HFX := Lib.hid hfx
  have HFY := Lib.hid hfy
  clear hx hy hfx hfy
  obtain ⟨cx, hcx⟩ : ∃ k, checkB xs = k := ⟨_, rfl⟩
  obtain ⟨cy, hcy⟩ : ∃ k, checkB ys = k := ⟨_, rfl⟩
  have HR : Hid (mergeB xs ys = if cx ≠ 0 then ([], cx) else if cy ≠ 0 then ([], cy) else chgAll [] [] (xs ++ ys)) := by
    show _ = _
    unfold mergeB
    rw [hcx, hcy, HXL.out, HYL.out, if_neg (show ¬ 2048 < n + m by omega)]
  have HCX := Lib.hid hcx
  have HCY := Lib.hid hcy
  clear hcx hcy
  by_cases hx0 : cx = 0
  · by_cases hy0 : cy = 0
    · have HOK : Hid (∀ b ∈ xs ++ ys, okBar b) := fun b hb => by
        rcases List.mem_append.1 hb with h | h
        · exact check_okBar (HCX.out.trans hx0) HFX.out b h
        · exact check_okBar (HCY.out.trans hy0) HFY.out b h
      subst hx0 hy0
      go_enter Tryz.func38, Tryz.ntmps38
      go_wp2_with fail
      refine (bar_check A n c xs _ HX.out HFX.out).mono ?_
      rintro e w1 ⟨hp1, rfl⟩
      rw [HCX.out]
      have P1 := Lib.hid hp1
      clear hp1
      go_wp2_with fail
      refine (bar_check B m d ys _ (HY.out.past P1.out) HFY.out).mono ?_
      rintro e w2 ⟨hp2, rfl⟩
      rw [HCY.out]
      have P2 := Lib.hid (P1.out.trans hp2)
      clear hp2
      have hz : ¬ (2048 : Int) < (n : Int) + (m : Int) := by omega
      go_wp2_with fail
      refine (bar_concat w2.heap.size A B n c m d xs ys _ (by simp [go_sem]) (by simp [go_sem]) (HX.out.past (P2.out.alloc _)) (HY.out.past (P2.out.alloc _)) (by omega) (by omega)).mono ?_
      rintro e w3 ⟨hp3, v3, rfl, ho3⟩
      obtain ⟨A3, c3, rfl, hr3⟩ := ho3.reads
      obtain ⟨k, hk⟩ : ∃ k, (xs ++ ys).length = k := ⟨_, rfl⟩
      have HK : Hid (k ≤ 2000) := by
        show _ ≤ _
        rw [← hk, List.length_append, HXL.out, HYL.out]; omega
      rw [hk] at hr3 ⊢
      have HR3 := Lib.hid hr3
      have P3 := Lib.hid (Past.trans (P2.out.alloc _) hp3)
      clear hp3 ho3 hr3 hk
      go_wp2_with fail
      refine (bar_changed2 (fun _ => okBar) okBar (fun b h => h.1) A3 none k c3 0 0 (xs ++ ys) [] [] _ HR3.out HOK.out (fun b h => h) (by have := HK.out; omega) (sortOk_any (fun b h => h) (by have := HK.out; omega)) rfl rfl (by omega) (fun h => by omega) (fun j h => by cases h)).mono ?_
      rintro e w5 ⟨hp5, v, rfl, hown, hq⟩
      have HOW := Lib.hid (And.intro (P3.out.trans hp5) (hown.low P3.out))
      clear hp5 hown hq
      go_wp2
      go_ret2
      have hr := HR.out
      rw [if_neg (by simp), if_neg (by simp)] at hr
      exact ⟨HOW.out.1, v, by rw [hr]; rfl, by rw [hr]; exact HOW.out.2⟩
    · have hb2 : (cy != 0) = true := by simp [hy0]
      subst hx0
      go_enter Tryz.func38, Tryz.ntmps38
      go_wp2_with fail
      refine (bar_check A n c xs _ HX.out HFX.out).mono ?_
      rintro e w1 ⟨hp1, rfl⟩
      rw [HCX.out]
      have P1 := Lib.hid hp1
      clear hp1
      go_wp2_with fail
      refine (bar_check B m d ys _ (HY.out.past P1.out) HFY.out).mono ?_
      rintro e w2 ⟨hp2, rfl⟩
      rw [HCY.out]
      have P2 := Lib.hid (P1.out.trans hp2)
      clear hp2
      go_wp2
      go_ret2
      have hr := HR.out
      rw [if_neg (by simp), if_pos hy0] at hr
      exact ⟨P2.out, _, by rw [hr]; rfl, by rw [hr]; exact OwnS.nil P2.out _ _⟩
  · have hb1 : (cx != 0) = true := by simp [hx0]
    go_enter Tryz.func38, Tryz.ntmps38
    go_wp2_with fail
    refine (bar_check A n c xs _ HX.out HFX.out).mono ?_
    rintro e w1 ⟨hp1, rfl⟩
    rw [HCX.out]
    go_wp2
    go_ret2
    have hr := HR.out
    rw [if_pos hx0] at hr
    exact ⟨hp1, _, by rw [hr]; rfl, by rw [hr]; exact OwnS.nil hp1 _ _⟩

end Go.Proofs.YtdcjibjldfjllaaGreat

/- barcode.Longer. -/
namespace Go.Proofs.YtdcjibjldfjllaaGreat
open Go.RowKit

/-- Whether a bar is as long as a text says. -/
def longB1 (t : ByteArray) (b : Bar) : Bool := isInf (byt b.y) || (!isInf (byt t) && decide (0 ≤ cmpQ (valR (byt b.y) - valR (byt b.x)) (valR (byt t))))
theorem lenQ_sub (q r : Rat) : lenQ (q - r) ≤ lenQ q + lenQ r + 1 := by
  rw [Rat.sub_eq_add_neg]
  have := lenQ_add q (-r)
  rw [lenQ_neg] at this
  exact this
def longChg (t : ByteArray) : Chg := fun b => (b, longB1 t b, 0)

set_option maxRecDepth 100000 in
set_option maxHeartbeats 4000000 in
theorem long_chg (w0 : World) (gt : Nat) (t : ByteArray) (h : w0.cell? ⟨gt, 0, none⟩ = some (.string t)) (ht : t.size ≤ 100000000) (G' : Bar → Prop) (hG : ∀ b, okBar b → G' b) :
    ChgOk2 w0 (.func (.func 99) #[] #[.pointer (some ⟨gt, 0, none⟩)]) (longChg t) okBar G' := by
  refine ⟨_, _, rfl, fun args w => by simp [go_sem], fun w g b hp hg hb hf hpre => ?_⟩
  have HG := Lib.hid (hG b hpre)
  have HF := Lib.hid hf
  have HB := Lib.hid hb
  have ET := hp.cell h
  have HT := Lib.hid ht
  obtain ⟨d, x, y⟩ := b
  have S1 : Hid (x.size ≤ 100000000) := hpre.1.1
  have S2 : Hid (y.size ≤ 100000000) := hpre.1.2
  have e1 : w.cell? ⟨g, 1, none⟩ = some (.string x) := hb.2.1
  have e2 : w.cell? ⟨g, 2, none⟩ = some (.string y) := hb.2.2
  obtain ⟨iy, hiy⟩ : ∃ z, isInf (byt y) = z := ⟨_, rfl⟩
  obtain ⟨it, hit⟩ : ∃ z, isInf (byt t) = z := ⟨_, rfl⟩
  have hq1 : (y.toList == [105, 110, 102]) = iy := by rw [inf_eq y, hiy]
  have hq2 : (t.toList == [105, 110, 102]) = it := by rw [inf_eq t, hit]
  obtain ⟨cv, hcv⟩ : ∃ z, cmpQ (valR (byt y) - valR (byt x)) (valR (byt t)) = z := ⟨_, rfl⟩
  have hchg : longChg t ⟨d, x, y⟩ = (⟨d, x, y⟩, iy || (!it && decide (0 ≤ cv)), 0) := by
    unfold longChg longB1
    dsimp only
    rw [hiy, hit, hcv]
  rw [hchg]
  have HCV := Lib.hid hcv
  have L1 : Hid (lenQ (valR (byt x)) < 8589934592) := by have h1 := lenQ_valR (byt x); rw [byt_length] at h1; have := S1.out; unfold Hid; omega
  have L2 : Hid (lenQ (valR (byt y)) < 8589934592) := by have h1 := lenQ_valR (byt y); rw [byt_length] at h1; have := S2.out; unfold Hid; omega
  have L3 : Hid (lenQ (valR (byt t)) < 8589934592) := by have h1 := lenQ_valR (byt t); rw [byt_length] at h1; have := HT.out; unfold Hid; omega
  have L4 : Hid (lenQ (valR (byt y) - valR (byt x)) < 8589934592) := by
    have h1 := lenQ_valR (byt x); rw [byt_length] at h1
    have h2 := lenQ_valR (byt y); rw [byt_length] at h2
    have h3 := lenQ_sub (valR (byt y)) (valR (byt x))
    have := S1.out
    have := S2.out
    unfold Hid; omega
  have PD : Hid (Past w w.drew) := (Past.refl w).drew
  have H3 : Hid (w.cell? ⟨g, 1, none⟩ = some (.string x) ∧ w.cell? ⟨g, 2, none⟩ = some (.string y) ∧ w.cell? ⟨gt, 0, none⟩ = some (.string t)) := ⟨e1, e2, ET⟩
  have HFIN : Hid (∀ w1, Past w w1 → w.grownBy w1 (some g) ∧ BarAt w1 g 0 ⟨d, x, y⟩ ∧ (∀ j, w1.frozen? ⟨g, j, none⟩ = false)) := fun w1 hp1 =>
    ⟨⟨hp1.os, hp1.tape, hp1.output, hp1.size, fun k hk _ => hp1.block k hk⟩, HB.out.past hp1, fun j => (Past.frozenAt hp1 (World.block_lt_of_cell? w _ HB.out.1) j).trans (HF.out j)⟩
  clear hchg hcv hiy hit hG hpre hf hb hp hg h ht
  show Calls _ _ #[.pointer (some ⟨g, 0, none⟩), .pointer (some ⟨gt, 0, none⟩)] w _
  dsimp only
  cases iy with
  | true =>
    go_enter Tryz.func99, Tryz.ntmps99
    go_wp2
    go_ret2
    obtain ⟨k1, k2, k3⟩ := HFIN.out _ (Past.refl w)
    exact ⟨k1, k2, k3, fun _ => HG.out, rfl⟩
  | false =>
    cases it with
    | true =>
      have hq3 : (t.toList != [105, 110, 102]) = false := by unfold bne; rw [hq2]; rfl
      go_enter Tryz.func99, Tryz.ntmps99
      go_wp2_with fail
      go_quiet (fail)
      go_wp2
      go_ret2
      obtain ⟨k1, k2, k3⟩ := HFIN.out _ ((Past.refl w).drewN _)
      exact ⟨k1, k2, k3, fun _ => HG.out, rfl⟩
    | false =>
      have hq3 : (t.toList != [105, 110, 102]) = true := by unfold bne; rw [hq2]; rfl
      go_enter Tryz.func99, Tryz.ntmps99
      go_wp2_with fail
      go_region_held3 (fun w' => w'.cell? ⟨g, 1, none⟩ = some (.string x) ∧ w'.cell? ⟨g, 2, none⟩ = some (.string y) ∧ w'.cell? ⟨gt, 0, none⟩ = some (.string t)) (first | (refine keep3 hp5 ?_; assumption) | (refine keep3 hp4 ?_; assumption) | (refine keep3 hp3 ?_; assumption) | (refine keep3 hp2 ?_; assumption) | (refine keep3 hp1 ?_; assumption) | (refine keep3 PD.out ?_; exact H3.out))
        (first
          | (go_at_call 100; ((with_reducible refine (ratio_cmp _ _ _ _ _ _ _ _ _ _ _ _ _ _ _ _ (valR (byt y) - valR (byt x)) (valR (byt t)) _ (HR3.out.past hp4) HR4.out ⟨L4.out, L3.out⟩).mono ?_)); rintro e w5 ⟨hp5, rfl⟩)
          | (go_at_call 89; have hp3' := hp3; ((with_reducible refine (bar_number t _ HT.out).mono ?_)); rintro e w4 ⟨hp4, s4, A4, n4, c4, t4, B4, m4, d4, rfl, hr4⟩; have HR4 := Lib.hid hr4; clear hr4 hp3')
          | (go_at_call 96; ((with_reducible refine (ratio_sub _ _ _ _ _ _ _ _ _ _ _ _ _ _ _ _ (valR (byt y)) (valR (byt x)) _ (HR1.out.past hp2) HR2.out ⟨L2.out, L1.out⟩).mono ?_)); rintro e w3 ⟨hp3, s3, A3, n3, c3, t3, B3, m3, d3, rfl, hr3⟩; have HR3 := Lib.hid hr3; clear hr3)
          | (go_at_call 89; have hp1' := hp1; ((with_reducible refine (bar_number x _ S1.out).mono ?_)); rintro e w2 ⟨hp2, s2, A2, n2, c2, t2, B2, m2, d2, rfl, hr2⟩; have HR2 := Lib.hid hr2; clear hr2 hp1')
          | (go_at_call 89; ((with_reducible refine (bar_number y _ S2.out).mono ?_)); rintro e w1 ⟨hp1, s1, A1, n1, c1, t1, B1, m1, d1, rfl, hr1⟩; have HR1 := Lib.hid hr1; clear hr1))
      rw [show cmpZ ((valR (byt y) - valR (byt x)).num * (valR (byt t)).den) ((valR (byt t)).num * (valR (byt y) - valR (byt x)).den) = cv from HCV.out]
      have HPP := Lib.hid (PD.out.trans (hp1.trans (hp2.trans (hp3.trans (hp4.trans hp5)))))
      clear hp1 hp2 hp3 hp4 hp5 HR1 HR2 HR3 HR4
      go_wp2
      go_ret2
      obtain ⟨k1, k2, k3⟩ := HFIN.out _ HPP.out
      exact ⟨k1, k2, k3, fun _ => HG.out, rfl⟩

/-- What barcode.Longer answers. -/
def longerB (bs : List Bar) (t : ByteArray) : List Bar × Int :=
  if checkB bs ≠ 0 then ([], checkB bs) else if okE (byt t) = false then ([], 1) else chgAll [longChg t] [] bs

set_option maxRecDepth 100000 in
set_option maxHeartbeats 4000000 in
theorem bar_longer (A : Option Addr) (n c : Nat) (bs : List Bar) (t : ByteArray) (w : World) (hx : Rows w rBar A n c bs) (hf : ∀ b ∈ bs, b.fit) (ht : t.size ≤ 100000000) (hn : n ≤ 1000000) :
    Calls Tryz.prog 37 #[.slice A n c, .string t] w fun e w' => Past w w' ∧ ∃ v, e = .returned (.tuple #[v, .int .i64 (longerB bs t).2]) ∧ OwnS w w' rBar 94 v (longerB bs t).1 := by
  have HX := Lib.hid hx
  have HF := Lib.hid hf
  have HT := Lib.hid ht
  have HN := Lib.hid hn
  clear hx hf ht hn
  have hmf : ∀ (fn : Fn) (first cap : Array Value) (w : World), (Instr.makeFunc fn first cap).run Tryz.prog w = .ok (.func fn first cap) w := fun _ _ _ _ => rfl
  obtain ⟨ec, hec⟩ : ∃ x, checkB bs = x := ⟨_, rfl⟩
  have HRK : Hid (longerB bs t = if ec ≠ 0 then ([], ec) else if okE (byt t) = false then ([], 1) else chgAll [longChg t] [] bs) := by unfold longerB; rw [hec]; exact rfl
  have HEC := Lib.hid hec
  clear hec
  have E0 : Hid ((w.alloc (.cells #[.string t] 36)).cell? ⟨w.heap.size, 0, none⟩ = some (.string t)) := by simp [go_sem, Hid]
  by_cases h0 : ec = 0
  · subst h0
    have HOK := Lib.hid (check_okBar HEC.out HF.out)
    obtain ⟨v1, hv1⟩ : ∃ x, okE (byt t) = x := ⟨_, rfl⟩
    have HV1 := Lib.hid hv1
    clear hv1
    go_enter Tryz.func37, Tryz.ntmps37
    go_wp2_with fail
    refine (bar_check A n c bs _ (HX.out.past ((Past.refl w).alloc _)) HF.out).mono ?_
    rintro e w1 ⟨hp1, rfl⟩
    rw [HEC.out]
    have P1 : Hid (Past w w1) := Past.trans ((Past.refl w).alloc _) hp1
    have k1 := hp1.cell E0.out
    have K1 := Lib.hid k1
    clear hp1
    go_wp2_with fail
    refine (ratio_end t _ HT.out).mono ?_
    rintro e w2 ⟨hp2, rfl⟩
    have P2 := Lib.hid (P1.out.trans hp2)
    have K2 := Lib.hid (hp2.cell K1.out)
    clear hp2 k1
    cases v1 with
    | false =>
      rw [HV1.out]
      go_wp2
      go_ret2
      have hr := HRK.out
      rw [if_neg (by simp), if_pos HV1.out] at hr
      exact ⟨P2.out, _, by rw [hr]; rfl, by rw [hr]; exact OwnS.nil P2.out _ _⟩
    | true =>
      rw [HV1.out]
      go_wp2_with fail
      refine (bar_changed2 (fun _ => okBar) okBar (fun b h => h.1) A (some ⟨w2.heap.size, 0, none⟩) n c 1 1 bs [.func (.func 99) #[] #[.pointer (some ⟨w.heap.size, 0, none⟩)]] [longChg t] _ (HX.out.past (P2.out.alloc _)) HOK.out (fun b h => h) HN.out (sortOk_any (fun b h => h) (by have := HN.out; omega)) rfl rfl (by omega) (fun _ => ⟨_, _, rfl, ?_⟩) ?_).mono ?_
      · intro j hj
        match j, hj with
        | 0, _ => exact cell_new1 _ _ _
      · intro j hj _
        match j, hj with
        | 0, _ => exact long_chg _ w.heap.size t (((Past.refl w2).alloc _).cell K2.out) HT.out okBar (fun b h => h)
      · rintro e w5 ⟨hp5, v, rfl, hown, hq⟩
        have HOW := Lib.hid (And.intro ((P2.out.alloc _).trans hp5) (hown.low (P2.out.alloc _)))
        clear hp5 hown hq
        go_wp2
        go_ret2
        have hr := HRK.out
        rw [if_neg (by simp), if_neg (by rw [HV1.out]; simp)] at hr
        exact ⟨HOW.out.1, v, by rw [hr]; rfl, by rw [hr]; exact HOW.out.2⟩
  · have hb : (ec != 0) = true := by simp [h0]
    go_enter Tryz.func37, Tryz.ntmps37
    go_wp2_with fail
    refine (bar_check A n c bs _ (HX.out.past ((Past.refl w).alloc _)) HF.out).mono ?_
    rintro e w1 ⟨hp1, rfl⟩
    rw [HEC.out]
    have P1 : Hid (Past w w1) := Past.trans ((Past.refl w).alloc _) hp1
    clear hp1
    go_wp2
    go_ret2
    have hr := HRK.out
    rw [if_pos h0] at hr
    exact ⟨P1.out, _, by rw [hr]; rfl, by rw [hr]; exact OwnS.nil P1.out _ _⟩

end Go.Proofs.YtdcjibjldfjllaaGreat

/- barcode.Clip at any length. -/
namespace Go.Proofs.YtdcjibjldfjllaaGreat
open Go.RowKit

theorem ChgOk.two {w0 : World} {f : Value} {φ : Chg} (h : ChgOk w0 f φ) (hk : ∀ b, okBar b → okV (byt (φ b).1.x) = true ∧ okE (byt (φ b).1.y) = true) : ChgOk2 w0 f φ okBar okBar := by
  obtain ⟨k, caps, hf, he, hc⟩ := h
  refine ⟨k, caps, hf, he, fun w g b hp hg hb hfz hok => ?_⟩
  refine (hc w g b hp hg hb hfz hok.1).mono fun e w' ⟨h1, h2, h3, h4, h5⟩ => ⟨h1, h2, h3, fun _ => ⟨h4, hk b hok⟩, h5⟩
theorem clip1_ok {s : ByteArray} (hs : okV (byt s) = true) {b : Bar} (h : okBar b) : okV (byt (clip1 s b).1.x) = true ∧ okE (byt (clip1 s b).1.y) = true := by
  refine ⟨?_, h.2.2⟩
  show okV (byt (txt (maxT (byt b.x) (byt s)))) = true
  have o1 : okE (byt b.x) = true := by unfold okE; rw [h.2.1]; simp
  have o2 : okE (byt s) = true := by unfold okE; rw [hs]; simp
  unfold maxT
  rw [o1, o2]
  simp only [Bool.and_self, if_true]
  split
  · rw [txt_byt]; exact hs
  · rw [txt_byt]; exact h.2.1
theorem clip2_ok {t : ByteArray} (ht : okE (byt t) = true) {b : Bar} (h : okBar b) : okV (byt (clip2 t b).1.x) = true ∧ okE (byt (clip2 t b).1.y) = true := by
  refine ⟨h.2.1, ?_⟩
  show okE (byt (txt (minT (byt b.y) (byt t)))) = true
  unfold minT
  rw [h.2.2, ht]
  simp only [Bool.and_self, if_true]
  unfold minE
  split
  · rw [etx_eV ht, txt_byt]; exact ht
  · rw [etx_eV h.2.2, txt_byt]; exact h.2.2

set_option maxRecDepth 100000 in
set_option maxHeartbeats 4000000 in
theorem bar_clip2 (A : Option Addr) (n c : Nat) (bs : List Bar) (s t : ByteArray) (w : World) (hx : Rows w rBar A n c bs) (hf : ∀ b ∈ bs, b.fit) (hs : s.size ≤ 100000000) (ht : t.size ≤ 100000000) (hn : n ≤ 1000000) :
    Calls Tryz.prog 25 #[.slice A n c, .string s, .string t] w fun e w' => Past w w' ∧ ∃ v, e = .returned (.tuple #[v, .int .i64 (clipB bs s t).2]) ∧ OwnS w w' rBar 94 v (clipB bs s t).1 ∧ ∀ b ∈ (clipB bs s t).1, b.fit := by
  have HX := Lib.hid hx
  have HF := Lib.hid hf
  have HS := Lib.hid hs
  have HT := Lib.hid ht
  have HN := Lib.hid hn
  clear hx hf hs ht hn
  have hmf : ∀ (fn : Fn) (first cap : Array Value) (w : World), (Instr.makeFunc fn first cap).run Tryz.prog w = .ok (.func fn first cap) w := fun _ _ _ _ => rfl
  obtain ⟨wb, hwb⟩ : ∃ wb, ((w.alloc (.cells #[.string s] 36)).alloc (.cells #[.string t] 36)) = wb := ⟨_, rfl⟩
  have HPB : Hid (Past w wb) := by rw [← hwb]; exact ((Past.refl _).alloc _).alloc _
  have HB1 : Hid (wb.cell? ⟨w.heap.size, 0, none⟩ = some (.string s)) := by unfold Hid; rw [← hwb]; simp [go_sem]
  have HB2 : Hid (wb.cell? ⟨w.heap.size + 1, 0, none⟩ = some (.string t)) := by unfold Hid; rw [← hwb]; simp [go_sem]
  have HWB := Lib.hid hwb
  clear hwb
  obtain ⟨ec, hec⟩ : ∃ x, checkB bs = x := ⟨_, rfl⟩
  have HRK : Hid (clipB bs s t = if ec ≠ 0 then ([], ec) else if okV (byt s) = false ∨ okE (byt t) = false ∨ 0 < cmpT (byt s) (byt t) then ([], 1) else chgAll [clip1 s, clip2 t] [] bs) := by unfold clipB; rw [hec]; exact rfl
  have HEC := Lib.hid hec
  clear hec
  by_cases h0 : ec = 0
  · subst h0
    obtain ⟨v1, hv1⟩ : ∃ x, okV (byt s) = x := ⟨_, rfl⟩
    obtain ⟨v2, hv2⟩ : ∃ x, okE (byt t) = x := ⟨_, rfl⟩
    obtain ⟨c2, hc2⟩ : ∃ x, cmpT (byt s) (byt t) = x := ⟨_, rfl⟩
    have HC2 := Lib.hid hc2
    have HV1 := Lib.hid hv1
    have HV2 := Lib.hid hv2
    cases v1 with
    | false =>
      have HR : Hid (clipB bs s t = ([], 1)) := by show _ = _; rw [HRK.out]; simp [hv1]
      clear hv1 hv2 hc2
      go_enter Tryz.func25, Tryz.ntmps25
      go_wp2_with fail
      rw [HWB.out]
      refine (bar_check A n c bs _ (HX.out.past HPB.out) HF.out).mono ?_
      rintro e w1 ⟨hp1, rfl⟩
      rw [HEC.out]
      have k1 := hp1.cell HB1.out
      go_wp2_with (first | (go_at_call 72; (with_reducible refine (ratio_valid s _ HS.out).mono ?_); rintro e w2 ⟨hp2, rfl⟩; rw [HV1.out]))
      go_ret2
      exact ⟨(HPB.out.trans hp1).trans hp2, _, by rw [HR.out]; rfl, by rw [HR.out]; exact OwnS.nil ((HPB.out.trans hp1).trans hp2) _ _, by rw [HR.out]; intro b hb; cases hb⟩
    | true =>
      cases v2 with
      | false =>
        have HR : Hid (clipB bs s t = ([], 1)) := by show _ = _; rw [HRK.out]; simp [hv2]
        clear hv1 hv2 hc2
        go_enter Tryz.func25, Tryz.ntmps25
        go_wp2_with fail
        rw [HWB.out]
        refine (bar_check A n c bs _ (HX.out.past HPB.out) HF.out).mono ?_
        rintro e w1 ⟨hp1, rfl⟩
        rw [HEC.out]
        have k1 := hp1.cell HB1.out
        have k2 := hp1.cell HB2.out
        go_wp2_with (first | (go_at_call 72; (with_reducible refine (ratio_valid s _ HS.out).mono ?_); rintro e w2 ⟨hp2, rfl⟩; rw [HV1.out]; have m1 := hp2.cell k1; have m2 := hp2.cell k2) | (go_at_call 73; (with_reducible refine (ratio_end t _ HT.out).mono ?_); rintro e w3 ⟨hp3, rfl⟩; rw [HV2.out]))
        go_ret2
        exact ⟨((HPB.out.trans hp1).trans hp2).trans hp3, _, by rw [HR.out]; rfl, by rw [HR.out]; exact OwnS.nil (((HPB.out.trans hp1).trans hp2).trans hp3) _ _, by rw [HR.out]; intro b hb; cases hb⟩
      | true =>
        by_cases hlt : 0 < c2
        · have HR : Hid (clipB bs s t = ([], 1)) := by show _ = _; rw [HRK.out]; simp [hc2, hlt]
          clear hv1 hv2 hc2
          go_enter Tryz.func25, Tryz.ntmps25
          go_wp2_with fail
          rw [HWB.out]
          refine (bar_check A n c bs _ (HX.out.past HPB.out) HF.out).mono ?_
          rintro e w1 ⟨hp1, rfl⟩
          rw [HEC.out]
          have k1 := hp1.cell HB1.out
          have k2 := hp1.cell HB2.out
          go_wp2_with (first | (go_at_call 72; (with_reducible refine (ratio_valid s _ HS.out).mono ?_); rintro e w2 ⟨hp2, rfl⟩; rw [HV1.out]; have m1 := hp2.cell k1; have m2 := hp2.cell k2) | (go_at_call 73; (with_reducible refine (ratio_end t _ HT.out).mono ?_); rintro e w3 ⟨hp3, rfl⟩; rw [HV2.out]; have l1 := hp3.cell m1; have l2 := hp3.cell m2) | (go_at_call 79; (with_reducible refine (ratio_Cmp s t _ HS.out HT.out).mono ?_); rintro e w4 ⟨hp4, rfl⟩; rw [HC2.out]))
          go_ret2
          exact ⟨(((HPB.out.trans hp1).trans hp2).trans hp3).trans hp4, _, by rw [HR.out]; rfl, by rw [HR.out]; exact OwnS.nil ((((HPB.out.trans hp1).trans hp2).trans hp3).trans hp4) _ _, by rw [HR.out]; intro b hb; cases hb⟩
        · have HR : Hid (clipB bs s t = chgAll [clip1 s, clip2 t] [] bs) := by show _ = _; rw [HRK.out]; simp [hc2, hlt, hv1, hv2]
          clear hv1 hv2 hc2
          go_enter Tryz.func25, Tryz.ntmps25
          go_wp2_with fail
          rw [HWB.out]
          refine (bar_check A n c bs _ (HX.out.past HPB.out) HF.out).mono ?_
          rintro e w1 ⟨hp1, rfl⟩
          rw [HEC.out]
          have k1 := hp1.cell HB1.out
          have k2 := hp1.cell HB2.out
          go_wp2_with (first | (go_at_call 72; (with_reducible refine (ratio_valid s _ HS.out).mono ?_); rintro e w2 ⟨hp2, rfl⟩; rw [HV1.out]; have m1 := hp2.cell k1; have m2 := hp2.cell k2) | (go_at_call 73; (with_reducible refine (ratio_end t _ HT.out).mono ?_); rintro e w3 ⟨hp3, rfl⟩; rw [HV2.out]; have l1 := hp3.cell m1; have l2 := hp3.cell m2) | (go_at_call 79; (with_reducible refine (ratio_Cmp s t _ HS.out HT.out).mono ?_); rintro e w4 ⟨hp4, rfl⟩; rw [HC2.out]))
          have HPP : Hid (Past w w4) := (((HPB.out.trans hp1).trans hp2).trans hp3).trans hp4
          have HK1 := Lib.hid (hp4.cell l1)
          have HK2 := Lib.hid (hp4.cell l2)
          refine (bar_changed2 (fun _ => okBar) okBar (fun b h => h.1) A _ n c 2 2 bs [.func (.func 81) #[] #[.pointer (some ⟨w.heap.size, 0, none⟩)], .func (.func 83) #[] #[.pointer (some ⟨w.heap.size + 1, 0, none⟩)]] [clip1 s, clip2 t] _ (HX.out.past (HPP.out.alloc _)) (check_okBar HEC.out HF.out) (fun b h => h) HN.out (sortOk_any (fun b h => h) (by have := HN.out; omega)) rfl rfl (by omega) (fun _ => ⟨_, _, rfl, ?_⟩) ?_).mono ?_
          · intro j hj
            rw [Nat.zero_add, cell_box]
            match j, hj with
            | 0, _ => rfl
            | 1, _ => rfl
          · intro j hj _
            match j, hj with
            | 0, _ => exact (clip1_chg _ _ _ (((Past.refl _).alloc _).cell HK1.out) HS.out).two (fun b h => clip1_ok HV1.out h)
            | 1, _ => exact (clip2_chg _ _ _ (((Past.refl _).alloc _).cell HK2.out) HT.out).two (fun b h => clip2_ok HV2.out h)
          · rintro e w5 ⟨hp5, v, rfl, hown, hfit⟩
            have HOW : Hid (Past w w5 ∧ OwnS w w5 rBar 94 v (chgAll [clip1 s, clip2 t] [] bs).1 ∧ ∀ b ∈ (chgAll [clip1 s, clip2 t] [] bs).1, b.fit) := ⟨(HPP.out.alloc _).trans hp5, hown.low (HPP.out.alloc _), fun b hb => (hfit b hb).1⟩
            clear hp5 hown hfit
            go_wp2
            go_ret2
            exact ⟨HOW.out.1, v, by rw [HR.out]; rfl, by rw [HR.out]; exact HOW.out.2.1, by rw [HR.out]; exact HOW.out.2.2⟩
  · have HR : Hid (clipB bs s t = ([], ec)) := by show _ = _; rw [HRK.out, if_pos h0]
    have hb : (ec != 0) = true := by simp [h0]
    go_enter Tryz.func25, Tryz.ntmps25
    go_wp2_with fail
    rw [HWB.out]
    refine (bar_check A n c bs _ (HX.out.past HPB.out) HF.out).mono ?_
    rintro e w1 ⟨hp1, rfl⟩
    rw [HEC.out]
    go_wp2
    go_ret2
    exact ⟨HPB.out.trans hp1, _, by rw [HR.out]; rfl, by rw [HR.out]; exact OwnS.nil (HPB.out.trans hp1) _ _, by rw [HR.out]; intro b hb; cases hb⟩

end Go.Proofs.YtdcjibjldfjllaaGreat

/- Changes of bars of numbers: what they answer, ends up to 1000. -/
namespace Go.Proofs.YtdcjibjldfjllaaGreat
open Go.RowKit

theorem enc_ltM {a b : VB} (ha : a.okM) (hb : b.okM) : ltB a.enc b.enc = ltV a b := by
  unfold ltB ltV
  apply decide_eq_decide.2
  have e1 : cmpB a.enc b.enc = orI (cmpZ a.d b.d) (orI (cmpE (some a.q) (some b.q)) (cmpE a.e b.e)) := by
    unfold cmpB
    show orI (cmpZ a.d b.d) (orI (cmpT (byt (tE (some a.q))) (byt (tE (some b.q)))) (cmpT (byt (tE a.e)) (byt (tE b.e)))) = _
    rw [cmpT_enc ha.2.2.1 hb.2.2.1, cmpT_enc ha.2.2.2 hb.2.2.2]
  rw [e1]
  unfold cmpV orI
  have hz := cmpZ_sign a.d b.d
  by_cases hd : a.d = b.d
  · rw [if_pos (hz.2.2 hd), if_neg (show ¬ a.d ≠ b.d by simp [hd])]
    by_cases hq : cmpE (some a.q) (some b.q) = 0
    · rw [if_pos hq, if_neg (show ¬ cmpE (some a.q) (some b.q) ≠ 0 by simp [hq])]
    · rw [if_neg hq, if_pos (show cmpE (some a.q) (some b.q) ≠ 0 from hq)]
  · rw [if_neg (fun h => hd (hz.2.1 h)), if_pos hd, hz.1]
    omega
theorem isort_encM {l : List VB} (h : ∀ v ∈ l, v.okM) : isort ltB (l.map VB.enc) = (isort ltV l).map VB.enc :=
  isort_map_on VB.okM (fun a b ha hb => enc_ltM ha hb) l h
theorem live_encM {v : VB} (h : v.okM) : decide (cmpT (byt v.enc.x) (byt v.enc.y) < 0) = live v := by
  show decide (cmpT (byt (tE (some v.q))) (byt (tE v.e)) < 0) = _
  rw [cmpT_enc h.2.2.1 h.2.2.2]; rfl
theorem filter_liveM : ∀ {l : List VB}, (∀ v ∈ l, v.okM) → (l.map VB.enc).filter (fun b => decide (cmpT (byt b.x) (byt b.y) < 0)) = (l.filter live).map VB.enc
  | [], _ => rfl
  | v :: l, h => by
    rw [List.map_cons, List.filter_cons, live_encM (h v (by simp)), filter_liveM fun u hu => h u (by simp [hu]), List.filter_cons]
    split <;> rfl
/-- What is sorted behind a change. -/
theorem sort_encM {l : List VB} (h : ∀ v ∈ l, v.okM) : isort ltB ((l.map VB.enc).filter (fun b => decide (cmpT (byt b.x) (byt b.y) < 0))) = (sortV l).map VB.enc := by
  rw [filter_liveM h, isort_encM fun v hv => h v (List.mem_filter.1 hv).1]
  rfl
/-- Bars in order stay as they are. -/
theorem sortV_id {l : List VB} (h : ∀ v ∈ l, live v = true) (ha : Asc ltV l) : sortV l = l := by
  unfold sortV
  rw [List.filter_eq_self.2 h, isort_of_ord ha]

theorem each_encM {F : Rat → Rat} (hF : Inc F) {l : List VB} (hv : ∀ v ∈ l, live v = true) (hm : ∀ v ∈ l, (mapV F v).okM) (ha : Asc ltV l) :
    chgAll [eachChg F] [] (l.map VB.enc) = ((l.map (mapV F)).map VB.enc, 0) := by
  rw [chgAll_pure (fun b => ⟨b.d, eachT F b.x, eachT F b.y⟩) (fun _ => true) _ _ (fun b hb => ?_)]
  · rw [List.filter_eq_self.2 (fun _ _ => rfl), List.nil_append]
    have e1 : (l.map VB.enc).map (fun b => (⟨b.d, eachT F b.x, eachT F b.y⟩ : Bar)) = (l.map (mapV F)).map VB.enc := by
      rw [List.map_map, List.map_map]
      refine List.map_congr_left fun v _ => ?_
      show (⟨v.d, eachT F (tE (some v.q)), eachT F (tE v.e)⟩ : Bar) = ⟨v.d, tE (some (F v.q)), tE (v.e.map F)⟩
      rw [eachT_enc, eachT_enc]; rfl
    have hok : ∀ v ∈ l.map (mapV F), v.okM := fun v h => by
      obtain ⟨u, hu, rfl⟩ := List.mem_map.1 h
      exact hm u hu
    have hlv : ∀ v ∈ l.map (mapV F), live v = true := fun v h => by
      obtain ⟨u, hu, rfl⟩ := List.mem_map.1 h
      rw [hF.live]; exact hv u hu
    rw [e1, sort_encM hok, sortV_id hlv (hF.asc ha)]
  · obtain ⟨v, hm', rfl⟩ := List.mem_map.1 hb
    have ho := hm v hm'
    have o1 : eachOk F v.enc.x = true := eachOk_enc F (some v.q) ho.2.2.1
    have o2 : eachOk F v.enc.y = true := eachOk_enc F v.e ho.2.2.2
    unfold runChg eachChg
    dsimp only
    rw [o1, o2]
    simp [runChg]

theorem clip_encM {l : List VB} (hv : ∀ v ∈ l, v.okM) {p : Rat} {t : Option Rat} (hp : tlQ p ≤ 1000) (ht : tlE t ≤ 1000) :
    chgAll [clip1 (tE (some p)), clip2 (tE t)] [] (l.map VB.enc) = ((sortV (l.map (clipE p t))).map VB.enc, 0) := by
  rw [chgAll_pure (fun b => (clip2 (tE t) (clip1 (tE (some p)) b).1).1) (fun _ => true) _ _ (fun b hb => by simp [runChg, clip1, clip2])]
  rw [List.filter_eq_self.2 (fun _ _ => rfl), List.nil_append]
  have e1 : (l.map VB.enc).map (fun b => (clip2 (tE t) (clip1 (tE (some p)) b).1).1) = (l.map (clipE p t)).map VB.enc := by
    rw [List.map_map, List.map_map]
    refine List.map_congr_left fun v h => ?_
    have hk := hv v h
    have o1 : okE (byt (tE (some v.q))) = true := by rw [byt_tE]; exact okE_etx hk.2.2.1
    have o2 : okE (byt (tE (some p))) = true := by rw [byt_tE]; exact okE_etx (e := some p) hp
    have o3 : okE (byt (tE v.e)) = true := by rw [byt_tE]; exact okE_etx hk.2.2.2
    have o4 : okE (byt (tE t)) = true := by rw [byt_tE]; exact okE_etx ht
    have v1 : ∀ e : Option Rat, eV (byt (tE e)) = e := fun e => by rw [byt_tE, eV_etx]
    show (⟨v.d, txt (maxT (byt (tE (some v.q))) (byt (tE (some p)))), txt (minT (byt (tE v.e)) (byt (tE t)))⟩ : Bar) = ⟨v.d, tE (some (if cmpE (some v.q) (some p) < 0 then p else v.q)), tE (if 0 < cmpE v.e t then t else v.e)⟩
    have m1 : txt (maxT (byt (tE (some v.q))) (byt (tE (some p)))) = tE (some (if cmpE (some v.q) (some p) < 0 then p else v.q)) := by
      unfold maxT
      rw [o1, o2, v1, v1]
      simp only [Bool.and_self, if_true]
      split <;> rw [txt_byt]
    have m2 : txt (minT (byt (tE v.e)) (byt (tE t))) = tE (if 0 < cmpE v.e t then t else v.e) := by
      unfold minT minE
      rw [o3, o4, v1, v1]
      simp only [Bool.and_self, if_true]
      have hn := cmpE_neg v.e t
      by_cases h0 : 0 < cmpE v.e t
      · rw [if_pos h0, if_pos (by omega), ← byt_tE, txt_byt]
      · rw [if_neg h0, if_neg (by omega), ← byt_tE, txt_byt]
    rw [m1, m2]
  rw [e1, sort_encM]
  intro v h
  obtain ⟨u, hu, rfl⟩ := List.mem_map.1 h
  exact clipE_ok (hv u hu) hp ht

theorem longer_encM {l : List VB} (hv : ∀ v ∈ l, v.okM ∧ live v = true) (ha : Asc ltV l) (t : Option Rat) :
    chgAll [longChg (tE t)] [] (l.map VB.enc) = ((l.filter (longV t)).map VB.enc, 0) := by
  rw [chgAll_pure (fun b => b) (longB1 (tE t)) _ _ (fun b hb => by
    show (if (0 : Int) ≠ 0 then (b, false, 0) else if longB1 (tE t) b = false then (b, false, 0) else (b, true, 0)) = (b, longB1 (tE t) b, (0 : Int))
    rw [if_neg (by simp)]
    by_cases hl : longB1 (tE t) b = false
    · rw [if_pos hl, hl]
    · rw [if_neg hl]
      have hl2 : longB1 (tE t) b = true := by simpa using hl
      rw [hl2]), List.map_id', List.nil_append]
  have e1 : ∀ (l : List VB), (l.map VB.enc).filter (longB1 (tE t)) = (l.filter (longV t)).map VB.enc := by
    intro l
    rw [List.filter_map]
    congr 1
    refine List.filter_congr fun v _ => ?_
    obtain ⟨d, q, e⟩ := v
    show (isInf (byt (tE e)) || (!isInf (byt (tE t)) && decide (0 ≤ cmpQ (valR (byt (tE e)) - valR (byt (tE (some q)))) (valR (byt (tE t)))))) = decide (0 ≤ cmpE (e.map fun r => r - q) t)
    cases e with
    | none =>
      have : isInf (byt (tE none)) = true := by rw [byt_tE]; rfl
      rw [this]
      cases t <;> rfl
    | some r =>
      have h1 : isInf (byt (tE (some r))) = false := by rw [byt_tE]; exact isInf_rtx r
      rw [h1, valR_tE, valR_tE]
      cases t with
      | none =>
        have : isInf (byt (tE none)) = true := by rw [byt_tE]; rfl
        rw [this]; rfl
      | some u =>
        have h2 : isInf (byt (tE (some u))) = false := by rw [byt_tE]; exact isInf_rtx u
        rw [h2, valR_tE]
        simp only [Bool.false_or, Bool.not_false, Bool.true_and]
        rfl
  rw [e1, sort_encM, sortV_id]
  · intro v h; exact (hv v (List.mem_filter.1 h).1).2
  · exact ha.sublist List.filter_sublist
  · intro v h; exact (hv v (List.mem_filter.1 h).1).1

theorem merge_plain {l : List Bar} (h : ∀ b ∈ l, validB b = true) (hf : ∀ b ∈ l, b.x.size ≤ 1000000 ∧ b.y.size ≤ 1000000) : chgAll [] [] l = ((sortV (l.map decB)).map VB.enc, 0) := by
  rw [chgAll_pure (fun b => b) (fun _ => true) l [] (fun b hb => rfl), ← sort_dec h hf]
  have e : (l.filter fun _ => true) = l := List.filter_eq_self.2 (fun _ _ => rfl)
  rw [e, List.map_id', List.nil_append]
  rfl

/-- Bars that pass the check: their numbers, in order. -/
theorem chk_asc : ∀ (l : List Bar) (p : Option Bar), chkFrom p l = 0 → (∀ a, p = some a → validB a = true) → Asc ltV (l.map decB) ∧ ∀ a, p = some a → ∀ b ∈ l, ltV (decB b) (decB a) = false
  | [], p, _, _ => ⟨List.Pairwise.nil, fun a _ b hb => by cases hb⟩
  | x :: l, p, h, hp => by
    unfold chkFrom at h
    split at h
    · cases h
    · rename_i h1
      split at h
      · cases h
      · rename_i h2
        have hx : validB x = true := by
          cases hv : validB x with
          | true => rfl
          | false => exact absurd (Or.inl hv) h1
        obtain ⟨i1, i2⟩ := chk_asc l (some x) h (fun a ha => by injection ha with ha; rw [← ha]; exact hx)
        refine ⟨?_, fun a ha b hb => ?_⟩
        · show List.Pairwise _ (decB x :: l.map decB)
          refine List.Pairwise.cons (fun y hy => ?_) i1
          obtain ⟨b, hb, rfl⟩ := List.mem_map.1 hy
          exact i2 x rfl b hb
        · subst ha
          have hxa : ltV (decB x) (decB a) = false := by
            rw [← dec_lt hx (hp a rfl)]
            cases hh : ltB x a with
            | false => rfl
            | true => exact absurd hh h2
          rcases List.mem_cons.1 hb with rfl | hb
          · exact hxa
          · exact cmpV_trans _ _ _ hxa (i2 x rfl b hb)

theorem dec_live {b : Bar} (hv : validB b = true) (hs : sameEnds b = false) (hf : b.x.size ≤ 1000000 ∧ b.y.size ≤ 1000000) : live (decB b) = true := by
  have hd := (decB_ok hv hf).1
  have hle : cmpT (byt b.x) (byt b.y) ≤ 0 := by
    unfold validB at hv
    simp only [Bool.and_eq_true, decide_eq_true_eq] at hv
    exact hv.2
  rw [← live_dec hv, decide_eq_true_eq]
  have hne : cmpT (byt b.x) (byt b.y) ≠ 0 := by
    intro h0
    obtain ⟨⟨h1, h2⟩, h3⟩ := valid_ends hv
    have e : cmpT (byt b.x) (byt b.y) = cmpE (eV (byt b.x)) (eV (byt b.y)) := by
      unfold cmpT
      rw [h1, h2]; rfl
    rw [e] at h0
    have h5 := cmpE_eq.1 h0
    have e1 := (tE_of_ok h1).1
    have e2 := (tE_of_ok h2).1
    have : b.x = b.y := by rw [e1, e2, h5]
    unfold sameEnds at hs
    rw [this] at hs
    simp at hs
  omega

/-- Bars that pass the check, with short texts, as numbers. -/
theorem chk_all {bs : List Bar} (h : checkB bs = 0) (hf : ∀ b ∈ bs, b.x.size ≤ 201 ∧ b.y.size ≤ 201) :
    (bs.map decB).map VB.enc = bs ∧ (∀ v ∈ bs.map decB, (0 ≤ v.d ∧ v.d ≤ 4 ∧ tlE (some v.q) ≤ 202 ∧ tlE v.e ≤ 202) ∧ live v = true) ∧ Asc ltV (bs.map decB) := by
  obtain ⟨_, hc⟩ := checkB_ok h
  have hv := chkFrom_valid hc
  have hf2 : ∀ b ∈ bs, b.x.size ≤ 1000000 ∧ b.y.size ≤ 1000000 := fun b hb => by have := hf b hb; omega
  refine ⟨enc_dec (fun b hb => (hv b hb).1) hf2, fun v h' => ?_, (chk_asc bs none hc (fun a ha => by cases ha)).1⟩
  obtain ⟨b, hb, rfl⟩ := List.mem_map.1 h'
  obtain ⟨h1, h2⟩ := hv b hb
  have hd := validB_dim h1
  obtain ⟨⟨k1, k2⟩, k3⟩ := valid_ends h1
  have l1 := (tE_of_ok k1).2
  have l2 := (tE_of_ok k2).2
  rw [k3] at l1
  have := hf b hb
  exact ⟨⟨hd.1, hd.2, Nat.le_trans l1 (by omega), Nat.le_trans l2 (by omega)⟩, dec_live h1 h2 (hf2 b hb)⟩

end Go.Proofs.YtdcjibjldfjllaaGreat

/- What the law of the changes compares, at a list of bars. -/
namespace Go.Proofs.YtdcjibjldfjllaaGreat
open Go.RowKit

theorem one_text : (⟨#[49]⟩ : ByteArray) = tE (some 1) := by decide +kernel
theorem zero_text : (⟨#[48]⟩ : ByteArray) = tE (some 0) := by decide +kernel
theorem one_tl : tlQ 1 ≤ 2 := by decide +kernel
theorem zero_tl : tlQ 0 ≤ 2 := by decide +kernel
theorem okV_num {s : ByteArray} (h : okV (byt s) = true) : s = tE (some (valR (byt s))) ∧ tlQ (valR (byt s)) ≤ s.size + 1 := by
  have o : okE (byt s) = true := by unfold okE; rw [h]; simp
  obtain ⟨e, l⟩ := tE_of_ok o
  have hi : eV (byt s) = some (valR (byt s)) := by
    unfold eV
    have : isInf (byt s) = false := by
      cases hi : isInf (byt s) with
      | false => rfl
      | true =>
        have e := (isInf_iff _).1 hi
        rw [e] at h
        exact absurd h (by decide)
    rw [this]; rfl
  rw [hi] at e l
  exact ⟨e, l⟩

section
variable {A B : Option Addr} {n c m d : Nat} {bs ks : List Bar} {s t : ByteArray} {w : World}

theorem bad_all (h : checkB bs ≠ 0) : shiftB bs s = ([], checkB bs) ∧ scaleB bs s = ([], checkB bs) ∧ clipB bs s t = ([], checkB bs) ∧ longerB bs t = ([], checkB bs) ∧ mergeB bs ks = ([], checkB bs) := by
  unfold shiftB scaleB clipB longerB mergeB
  simp [h]

theorem shift_no (h : checkB bs = 0) (hv : okV (byt s) = false) : shiftB bs s = ([], 1) := by
  unfold shiftB; rw [h, if_neg (by simp), if_pos hv]
theorem shift_yes (hx : Rows w rBar A n c bs) (h : checkB bs = 0) (hf : ∀ b ∈ bs, b.x.size ≤ 201 ∧ b.y.size ≤ 201) (hs : s.size ≤ 200) (hn : n ≤ 40) (hv : okV (byt s) = true) :
    (shiftB bs s).2 = 0 ∧ Calls Tryz.prog 40 #[.slice A n c, .string ⟨#[49]⟩, .string s] w fun e w' => Past w w' ∧ ∃ v, e = .returned (.tuple #[v, .bool false]) ∧ OwnS w w' rBar 94 v (shiftB bs s).1 := by
  obtain ⟨e1, k1, k2⟩ := chk_all h hf
  obtain ⟨e2, l2⟩ := okV_num hv
  have hmap : ∀ v ∈ bs.map decB, (mapV (fun r => r * 1 + valR (byt s)) v).okM := fun v hv' => by
    have hk := (k1 v hv').1
    refine ⟨hk.1, hk.2.1, ?_, ?_⟩
    · exact Nat.le_trans (add_tl (mul_tl hk.2.2.1 one_tl) l2) (by omega)
    · show tlE (v.e.map _) ≤ 1000
      have h4 := hk.2.2.2
      cases hve : v.e with
      | none => exact Nat.zero_le _
      | some r =>
        rw [hve] at h4
        exact Nat.le_trans (add_tl (mul_tl (a := r) h4 one_tl) l2) (by omega)
  have hS : shiftB bs s = (((bs.map decB).map (mapV (fun r => r * 1 + valR (byt s)))).map VB.enc, 0) := by
    unfold shiftB
    rw [h, if_neg (by simp), hv, if_neg (by simp)]
    have hF : (fun q => valR (byt s) + q) = fun r : Rat => r * 1 + valR (byt s) := by
      funext r; rw [Rat.mul_one, Rat.add_comm]
    rw [hF]
    conv => lhs; rw [← e1]
    refine each_encM (fun p q hpq => ?_) (fun v hv' => (k1 v hv').2) hmap k2
    rw [Rat.mul_one, Rat.mul_one]
    exact Rat.add_lt_add_right.2 hpq
  refine ⟨by rw [hS], ?_⟩
  rw [hS, one_text]
  conv => arg 3; rw [e2]
  refine ref_affine A n c (bs.map decB) 1 (valR (byt s)) w (by rw [e1]; exact hx) (fun v hv' => ?_) (Nat.le_trans one_tl (by decide)) (Nat.le_trans l2 (by omega)) hmap (by omega)
  have hk := (k1 v hv').1
  exact ⟨hk.1, hk.2.1, Nat.le_trans hk.2.2.1 (by decide), Nat.le_trans hk.2.2.2 (by decide)⟩

theorem scale_no (h : checkB bs = 0) (hv : okV (byt s) = false ∨ cmpT (byt s) [48] ≤ 0) : scaleB bs s = ([], 1) := by
  unfold scaleB; rw [h, if_neg (by simp), if_pos hv]
theorem scale_yes (hx : Rows w rBar A n c bs) (h : checkB bs = 0) (hf : ∀ b ∈ bs, b.x.size ≤ 201 ∧ b.y.size ≤ 201) (hs : s.size ≤ 200) (hn : n ≤ 40) (hv : okV (byt s) = true) (hc : 0 < cmpT (byt s) [48]) :
    (scaleB bs s).2 = 0 ∧ Calls Tryz.prog 40 #[.slice A n c, .string s, .string ⟨#[48]⟩] w fun e w' => Past w w' ∧ ∃ v, e = .returned (.tuple #[v, .bool false]) ∧ OwnS w w' rBar 94 v (scaleB bs s).1 := by
  obtain ⟨e1, k1, k2⟩ := chk_all h hf
  obtain ⟨e2, l2⟩ := okV_num hv
  have hpos : 0 < valR (byt s) := by
    have h1 : cmpT (byt s) [48] = cmpE (some (valR (byt s))) (some 0) := by
      have : ([48] : List Int) = byt (tE (some 0)) := by rw [← zero_text]; rfl
      rw [this]
      conv => lhs; rw [e2]
      exact cmpT_enc (e := some (valR (byt s))) (f := some 0) (Nat.le_trans l2 (by omega)) (Nat.le_trans zero_tl (by decide))
    rw [h1] at hc
    exact (cmpQ_gt _ _).1 hc
  have hmap : ∀ v ∈ bs.map decB, (mapV (fun r => r * valR (byt s) + 0) v).okM := fun v hv' => by
    have hk := (k1 v hv').1
    refine ⟨hk.1, hk.2.1, ?_, ?_⟩
    · exact Nat.le_trans (add_tl (mul_tl hk.2.2.1 l2) zero_tl) (by omega)
    · show tlE (v.e.map _) ≤ 1000
      have h4 := hk.2.2.2
      cases hve : v.e with
      | none => exact Nat.zero_le _
      | some r =>
        rw [hve] at h4
        exact Nat.le_trans (add_tl (mul_tl (a := r) h4 l2) zero_tl) (by omega)
  have hS : scaleB bs s = (((bs.map decB).map (mapV (fun r => r * valR (byt s) + 0))).map VB.enc, 0) := by
    unfold scaleB
    rw [h, if_neg (by simp), hv, if_neg (by rintro (h' | h'); cases h'; omega)]
    have hF : (fun q => valR (byt s) * q) = fun r : Rat => r * valR (byt s) + 0 := by
      funext r; rw [Rat.add_zero, Rat.mul_comm]
    rw [hF]
    conv => lhs; rw [← e1]
    refine each_encM (fun p q hpq => ?_) (fun v hv' => (k1 v hv').2) hmap k2
    rw [Rat.add_zero, Rat.add_zero]
    exact Rat.mul_lt_mul_of_pos_right hpq hpos
  refine ⟨by rw [hS], ?_⟩
  rw [hS, zero_text]
  conv => arg 3; rw [e2]
  refine ref_affine A n c (bs.map decB) (valR (byt s)) 0 w (by rw [e1]; exact hx) (fun v hv' => ?_) (Nat.le_trans l2 (by omega)) (Nat.le_trans zero_tl (by decide)) hmap (by omega)
  have hk := (k1 v hv').1
  exact ⟨hk.1, hk.2.1, Nat.le_trans hk.2.2.1 (by decide), Nat.le_trans hk.2.2.2 (by decide)⟩

theorem clip_no (h : checkB bs = 0) (hv : okV (byt s) = false ∨ okE (byt t) = false ∨ 0 < cmpT (byt s) (byt t)) : clipB bs s t = ([], 1) := by
  unfold clipB; rw [h, if_neg (by simp), if_pos hv]
theorem clip_yes (hx : Rows w rBar A n c bs) (h : checkB bs = 0) (hf : ∀ b ∈ bs, b.x.size ≤ 201 ∧ b.y.size ≤ 201) (hs : s.size ≤ 200) (ht : t.size ≤ 200) (hn : n ≤ 40) (hv : okV (byt s) = true) (hv2 : okE (byt t) = true) (hc : ¬ 0 < cmpT (byt s) (byt t)) :
    (clipB bs s t).2 = 0 ∧ Calls Tryz.prog 42 #[.slice A n c, .string s, .string t] w fun e w' => Past w w' ∧ ∃ v, e = .returned v ∧ OwnS w w' rBar 94 v (clipB bs s t).1 := by
  obtain ⟨e1, k1, k2⟩ := chk_all h hf
  obtain ⟨e2, l2⟩ := okV_num hv
  obtain ⟨e3, l3⟩ := tE_of_ok hv2
  have hM : ∀ v ∈ bs.map decB, v.okM := fun v hv' => by
    have hk := (k1 v hv').1
    exact ⟨hk.1, hk.2.1, Nat.le_trans hk.2.2.1 (by decide), Nat.le_trans hk.2.2.2 (by decide)⟩
  have hS : clipB bs s t = ((sortV ((bs.map decB).map (clipE (valR (byt s)) (eV (byt t))))).map VB.enc, 0) := by
    unfold clipB
    rw [h, if_neg (by simp), if_neg (by rintro (h' | h' | h'); exact absurd (hv.symm.trans h') (by simp); exact absurd (hv2.symm.trans h') (by simp); exact hc h')]
    have := clip_encM hM (p := valR (byt s)) (t := eV (byt t)) (Nat.le_trans l2 (by omega)) (Nat.le_trans l3 (by omega))
    rw [e1, ← e2, ← e3] at this
    exact this
  refine ⟨by rw [hS], ?_⟩
  rw [hS]
  have := ref_clip A n c (bs.map decB) (valR (byt s)) (eV (byt t)) w (by rw [e1]; exact hx) hM (Nat.le_trans l2 (by omega)) (Nat.le_trans l3 (by omega)) (by omega)
  rw [← e2, ← e3] at this
  exact this

theorem longer_no (h : checkB bs = 0) (hv : okE (byt t) = false) : longerB bs t = ([], 1) := by
  unfold longerB; rw [h, if_neg (by simp), if_pos hv]
theorem longer_yes (hx : Rows w rBar A n c bs) (h : checkB bs = 0) (hf : ∀ b ∈ bs, b.x.size ≤ 201 ∧ b.y.size ≤ 201) (ht : t.size ≤ 200) (hn : n ≤ 40) (hv : okE (byt t) = true) :
    (longerB bs t).2 = 0 ∧ Calls Tryz.prog 43 #[.slice A n c, .string t] w fun e w' => Past w w' ∧ ∃ v, e = .returned v ∧ OwnS w w' rBar 94 v (longerB bs t).1 := by
  obtain ⟨e1, k1, k2⟩ := chk_all h hf
  obtain ⟨e3, l3⟩ := tE_of_ok hv
  have hM : ∀ v ∈ bs.map decB, v.okM := fun v hv' => by
    have hk := (k1 v hv').1
    exact ⟨hk.1, hk.2.1, Nat.le_trans hk.2.2.1 (by decide), Nat.le_trans hk.2.2.2 (by decide)⟩
  have hS : longerB bs t = (((bs.map decB).filter (longV (eV (byt t)))).map VB.enc, 0) := by
    unfold longerB
    rw [h, if_neg (by simp), hv, if_neg (by simp)]
    have := longer_encM (l := bs.map decB) (fun v hv' => ⟨hM v hv', (k1 v hv').2⟩) k2 (eV (byt t))
    rw [e1, ← e3] at this
    exact this
  refine ⟨by rw [hS], ?_⟩
  rw [hS]
  have := ref_longer A n c (bs.map decB) (eV (byt t)) w (by rw [e1]; exact hx) hM (Nat.le_trans l3 (by omega)) (by omega)
  rw [← e3] at this
  exact this

theorem merge_no (h : checkB bs = 0) (hk : checkB ks ≠ 0) : mergeB bs ks = ([], checkB ks) := by
  unfold mergeB; rw [h, if_neg (by simp), if_pos hk]
theorem merge_yes (hx : Rows w rBar A n c (bs ++ ks)) (h : checkB bs = 0) (hk : checkB ks = 0) (hf : ∀ b ∈ bs, b.x.size ≤ 201 ∧ b.y.size ≤ 201) (hg : ∀ b ∈ ks, b.x.size ≤ 201 ∧ b.y.size ≤ 201) (hn : n ≤ 100) :
    (mergeB bs ks).2 = 0 ∧ Calls Tryz.prog 44 #[.slice A n c] w fun e w' => Past w w' ∧ ∃ v, e = .returned v ∧ OwnS w w' rBar 94 v (mergeB bs ks).1 := by
  have hv : ∀ b ∈ bs ++ ks, validB b = true := fun b hb => by
    rcases List.mem_append.1 hb with hb | hb
    · exact (chkFrom_valid (checkB_ok h).2 b hb).1
    · exact (chkFrom_valid (checkB_ok hk).2 b hb).1
  have hz : ∀ b ∈ bs ++ ks, b.x.size ≤ 1000000 ∧ b.y.size ≤ 1000000 := fun b hb => by
    rcases List.mem_append.1 hb with hb | hb
    · have := hf b hb; omega
    · have := hg b hb; omega
  have hlen := hx.len
  rw [List.length_append] at hlen
  have hS : mergeB bs ks = ((sortV ((bs ++ ks).map decB)).map VB.enc, 0) := by
    unfold mergeB
    rw [h, hk, if_neg (by simp), if_neg (by simp), if_neg (by omega)]
    exact merge_plain hv hz
  refine ⟨by rw [hS], ?_⟩
  rw [hS]
  refine ref_sortedL A n c ((bs ++ ks).map decB) w (by rw [enc_dec hv hz]; exact hx) (fun v hv' => ?_) (by omega)
  obtain ⟨b, hb, rfl⟩ := List.mem_map.1 hv'
  exact (decB_ok (hv b hb) (hz b hb)).2
end

end Go.Proofs.YtdcjibjldfjllaaGreat
