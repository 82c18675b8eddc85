/- torusref20.Dim, Covers, Rank on bars of numbers. -/
import Derived.Test.YtdcjibjldfjllaaGreatPGyh
set_option linter.unusedVariables false
set_option linter.unusedSimpArgs false
namespace Go.Proofs.YtdcjibjldfjllaaGreat
open Go.RowKit

set_option maxRecDepth 100000 in
set_option maxHeartbeats 4000000 in
theorem ref_dim (A : Option Addr) (n c : Nat) (vs : List VB) (d : Int) (w : World) (hx : Rows w rBar A n c (vs.map VB.enc)) (hn : n ≤ 1000000) :
    Calls Tryz.prog 57 #[.slice A n c, .int .i64 d] w fun e w' => Past w w' ∧ ∃ v, e = .returned v ∧ OwnS w w' rBar 94 v ((vs.filter fun v => v.d == d).map VB.enc) := by
  have HX := Lib.hid hx
  have HL : Hid (vs.length = n) := by have := hx.len; rw [List.length_map] at this; exact this
  have HEL := Lib.hid el_bar
  clear hx
  go_enter Tryz.func57, Tryz.ntmps57
  go_wp2_with fail
  go_loopg [5, 6] n (fun gg ov iv wr => ∃ (i : Nat) (vo : Value), vo = ov ∧ iv = .int .i64 i ∧ i ≤ n ∧ Hid (gg = n - i) ∧ Hid (OwnS w wr rBar 94 vo (((vs.take i).filter fun v => v.d == d).map VB.enc)))
  case atStart => exact ⟨0, _, rfl, rfl, Nat.zero_le _, rfl, OwnS.nil (Past.refl _) _ _⟩
  case round =>
    obtain ⟨i, vo, hvo, rfl, hi, HG, HO⟩ := hrel
    subst hvo
    by_cases hin : i < n
    · have hil : i < vs.length := by have := HL.out; omega
      obtain ⟨v, hve⟩ : ∃ v, vs[i] = v := ⟨_, rfl⟩
      obtain ⟨b1, o1, rfl, hc1⟩ := HX.out.bar (by omega)
      have hbi := (hc1 i (by rw [List.length_map]; exact hil)).past HO.out.2
      rw [List.getElem_map, hve] at hbi
      have HFT := Lib.hid (filter_take (fun v => v.d == d) hil hve)
      obtain ⟨d', q, e⟩ := v
      have e0 : wr.cell? ⟨b1, o1 + i * 3, none⟩ = some (.int .i64 d') := hbi.1
      have e1 : wr.cell? ⟨b1, o1 + i * 3 + 1, none⟩ = some (.string (tE (some q))) := hbi.2.1
      have e2 : wr.cell? ⟨b1, o1 + i * 3 + 2, none⟩ = some (.string (tE e)) := hbi.2.2
      clear hc1 hbi hve
      have z1 : (i : Int) < (n : Int) := by omega
      by_cases hd : d' = d
      · subst hd
        have hdb : (d' == d') = true := by simp
        have HSS : Hid (((vs.take (i + 1)).filter fun v => v.d == d').map VB.enc = ((vs.take i).filter fun v => v.d == d').map VB.enc ++ [VB.enc ⟨d', q, e⟩]) := by
          show _ = _
          rw [HFT.out, if_pos (by exact hdb), List.map_append]; rfl
        have HOL : Hid ((((vs.take i).filter fun v => v.d == d').map VB.enc).length ≤ 1000000) := by
          show _ ≤ _
          rw [List.length_map]
          exact Nat.le_trans (List.length_filter_le _ _) (by rw [List.length_take]; omega)
        go_wp2_with (first | (at_builtin; refine wpList_appS HEL.out (HO.out.alloc _) rfl rfl rfl ⟨_, 0, none⟩ _ (VB.enc ⟨d', q, e⟩) rfl (cell_newS rBar _ _ _ _ _ (by simp [go_sem]) rfl) ?_ ?_; (have := HOL.out; omega); intro v3 w3 hown3 hp3))
        rw [← HSS.out] at hown3
        go_roundg (n - (i + 1))
        case measure => have := HG.out; omega
        case rel => exact ⟨i + 1, _, rfl, by go_num, by omega, rfl, hown3⟩
      · have hdb : (d' == d) = false := by simp [hd]
        have HSS : Hid (((vs.take (i + 1)).filter fun v => v.d == d).map VB.enc = ((vs.take i).filter fun v => v.d == d).map VB.enc) := by
          show _ = _
          rw [HFT.out, if_neg (by show ¬ (d' == d) = true; rw [hdb]; simp), List.append_nil]
        go_wp2_with fail
        go_roundg (n - (i + 1))
        case measure => have := HG.out; omega
        case rel => exact ⟨i + 1, _, rfl, by go_num, by omega, rfl, by rw [HSS.out]; exact HO.out⟩
    · have HN : Hid ((vs.take i).filter (fun v => v.d == d) = vs.filter fun v => v.d == d) := by
        show _ = _
        rw [List.take_of_length_le (by have := HL.out; omega)]
      go_wp2
      go_ret
      exact ⟨HO.out.2, _, rfl, by rw [← HN.out]; exact HO.out⟩

/-- Whether a bar covers a number. -/
def covV (t : Rat) (v : VB) : Bool := decide (cmpE (some v.q) (some t) ≤ 0) && decide (cmpE (some t) v.e < 0)

set_option maxRecDepth 100000 in
set_option maxHeartbeats 4000000 in
theorem ref_covers (v : VB) (t : Rat) (w : World) (h : v.okL) (ht : tlQ t ≤ 1000000) :
    Calls Tryz.prog 119 #[.agg #[.int .i64 v.d, .string (tE (some v.q)), .string (tE v.e)], .string (tE (some t))] w fun e w' => Past w w' ∧ e = .returned (.bool (covV t v)) := by
  obtain ⟨d, q, e⟩ := v
  have C1 := Lib.hid (fun w => fr_compare (some q) (some t) w h.2.2.1 (Nat.le_trans ht (by decide)))
  have C2 := Lib.hid (fun w => fr_compare (some t) e w (Nat.le_trans ht (by decide)) h.2.2.2)
  have HC : Hid (covV t ⟨d, q, e⟩ = (decide (cmpE (some q) (some t) ≤ 0) && decide (cmpE (some t) e < 0))) := rfl
  clear h ht
  dsimp only
  generalize cmpE (some q) (some t) = x1 at C1 HC
  generalize cmpE (some t) e = x2 at C2 HC
  generalize tE (some q) = a at *
  generalize tE (some t) = b at *
  generalize tE e = y at *
  have HK : Hid ((w.alloc (.cells #[.int .i64 d, .string a, .string y] 94)).cell? ⟨w.heap.size, 2, none⟩ = some (.string y)) := by simp [go_sem, Hid]
  by_cases h1 : x1 ≤ 0
  · go_enter Tryz.func119, Tryz.ntmps119
    go_wp2_with fail
    refine (C1.out _).mono ?_
    rintro e' w1 ⟨hp1, rfl⟩
    have k2 := hp1.cell HK.out
    have P1 := Lib.hid (Past.trans ((Past.refl w).alloc _) hp1)
    clear hp1
    go_wp2_with fail
    refine (C2.out _).mono ?_
    rintro e' w2 ⟨hp2, rfl⟩
    go_wp2
    go_ret
    exact ⟨P1.out.trans hp2, by rw [HC.out, decide_eq_true h1]; rfl⟩
  · go_enter Tryz.func119, Tryz.ntmps119
    go_wp2_with fail
    refine (C1.out _).mono ?_
    rintro e' w1 ⟨hp1, rfl⟩
    go_wp2
    go_ret
    exact ⟨Past.trans ((Past.refl w).alloc _) hp1, by rw [HC.out, decide_eq_false (by omega)]; rfl⟩

end Go.Proofs.YtdcjibjldfjllaaGreat

namespace Go.Proofs.YtdcjibjldfjllaaGreat
open Go.RowKit

/-- What torusref20.Rank counts. -/
def rankV (d : Int) (s t : Rat) (v : VB) : Bool := v.d == d && (covV s v && covV t v)

set_option maxRecDepth 100000 in
set_option maxHeartbeats 4000000 in
theorem ref_rank (A : Option Addr) (n c : Nat) (vs : List VB) (d : Int) (s t : Rat) (w : World) (hx : Rows w rBar A n c (vs.map VB.enc)) (hok : ∀ v ∈ vs, v.okL) (hs : tlQ s ≤ 1000000) (ht : tlQ t ≤ 1000000) (hn : n ≤ 1000000) :
    Calls Tryz.prog 59 #[.slice A n c, .int .i64 d, .string (tE (some s)), .string (tE (some t))] w fun e w' => Past w w' ∧ e = .returned (.int .i64 ((vs.countP (rankV d s t) : Nat) : Int)) := by
  have HX := Lib.hid hx
  have HL : Hid (vs.length = n) := by have := hx.len; rw [List.length_map] at this; exact this
  have HOK := Lib.hid hok
  have HS := Lib.hid hs
  have HT := Lib.hid ht
  clear hx hok hs ht
  go_enter Tryz.func59, Tryz.ntmps59
  go_wp2_with fail
  go_loopg [9, 10] n (fun gg cv iv wr => ∃ (i k : Nat), cv = .int .i64 k ∧ iv = .int .i64 i ∧ i ≤ n ∧ k ≤ i ∧ Hid (gg = n - i) ∧ Hid ((vs.take i).countP (rankV d s t) = k) ∧ Hid (Past w wr))
  case atStart => exact ⟨0, 0, rfl, rfl, Nat.zero_le _, Nat.le_refl _, rfl, rfl, Past.refl _⟩
  case round =>
    obtain ⟨i, k, rfl, rfl, hi, hk, HG, HC, HP⟩ := hrel
    by_cases hin : i < n
    · have hil : i < vs.length := by have := HL.out; omega
      obtain ⟨v, hve⟩ : ∃ v, vs[i] = v := ⟨_, rfl⟩
      have HVK : Hid v.okL := by rw [← hve]; exact HOK.out _ (List.getElem_mem hil)
      obtain ⟨b1, o1, rfl, hc1⟩ := HX.out.bar (by omega)
      have hbi := (hc1 i (by rw [List.length_map]; exact hil)).past HP.out
      rw [List.getElem_map, hve] at hbi
      have HST : Hid ((vs.take (i + 1)).countP (rankV d s t) = k + if rankV d s t v = true then 1 else 0) := by
        show _ = _
        rw [List.take_succ_eq_append_getElem hil, hve, List.countP_append, HC.out]
        congr 1
        rw [List.countP_cons]; simp
      have e0 : wr.cell? ⟨b1, o1 + i * 3, none⟩ = some (.int .i64 v.d) := hbi.1
      have e1 : wr.cell? ⟨b1, o1 + i * 3 + 1, none⟩ = some (.string (tE (some v.q))) := hbi.2.1
      have e2 : wr.cell? ⟨b1, o1 + i * 3 + 2, none⟩ = some (.string (tE v.e)) := hbi.2.2
      have F3 := Lib.hid (And.intro e0 (And.intro e1 e2))
      clear hc1 hbi hve
      have z1 : (i : Int) < (n : Int) := by omega
      have C1 := Lib.hid (fun w => ref_covers v s w HVK.out HS.out)
      have C2 := Lib.hid (fun w => ref_covers v t w HVK.out HT.out)
      have HRV : Hid (rankV d s t v = (v.d == d && (covV s v && covV t v))) := rfl
      obtain ⟨b1', hb1⟩ : ∃ z, covV s v = z := ⟨_, rfl⟩
      obtain ⟨b2', hb2⟩ : ∃ z, covV t v = z := ⟨_, rfl⟩
      rw [hb1] at C1 HRV
      rw [hb2] at C2 HRV
      clear hb1 hb2
      obtain ⟨dv, hdv⟩ : ∃ z, v.d = z := ⟨_, rfl⟩
      rw [hdv] at C1 C2 HRV F3 e0
      clear hdv
      by_cases hd : dv = d
      · subst hd
        have hdb : (dv == dv) = true := by simp
        go_wp2_with fail
        refine (C1.out _).mono ?_
        rintro e w1 ⟨hp1, rfl⟩
        have k0 := hp1.cell F3.out.1
        have k1 := hp1.cell F3.out.2.1
        have k2 := hp1.cell F3.out.2.2
        have P1 := Lib.hid hp1
        clear hp1 e0 e1 e2
        cases b1' with
        | false =>
          have HN : Hid ((vs.take (i + 1)).countP (rankV dv s t) = k) := by show _ = _; rw [HST.out, HRV.out]; simp
          go_wp2_with fail
          go_roundg (n - (i + 1))
          case measure => have := HG.out; omega
          case rel => exact ⟨i + 1, k, rfl, by go_num, by omega, by omega, rfl, HN.out, HP.out.trans P1.out⟩
        | true =>
          go_wp2_with fail
          refine (C2.out _).mono ?_
          rintro e w2 ⟨hp2, rfl⟩
          have P2 := Lib.hid (P1.out.trans hp2)
          clear hp2 k0 k1 k2
          cases b2' with
          | false =>
            have HN : Hid ((vs.take (i + 1)).countP (rankV dv s t) = k) := by show _ = _; rw [HST.out, HRV.out]; simp
            go_wp2_with fail
            go_roundg (n - (i + 1))
            case measure => have := HG.out; omega
            case rel => exact ⟨i + 1, k, rfl, by go_num, by omega, by omega, rfl, HN.out, HP.out.trans P2.out⟩
          | true =>
            have HN : Hid ((vs.take (i + 1)).countP (rankV dv s t) = k + 1) := by show _ = _; rw [HST.out, HRV.out, hdb]; simp
            go_wp2_with fail
            go_roundg (n - (i + 1))
            case measure => have := HG.out; omega
            case rel => exact ⟨i + 1, k + 1, by go_num, by go_num, by omega, by omega, rfl, HN.out, HP.out.trans P2.out⟩
      · have hdb : (dv == d) = false := by simp [hd]
        have HN : Hid ((vs.take (i + 1)).countP (rankV d s t) = k) := by show _ = _; rw [HST.out, HRV.out, hdb]; simp
        go_wp2_with fail
        go_roundg (n - (i + 1))
        case measure => have := HG.out; omega
        case rel => exact ⟨i + 1, k, rfl, by go_num, by omega, by omega, rfl, HN.out, HP.out⟩
    · have HN : Hid (vs.countP (rankV d s t) = k) := by
        show _ = _
        rw [← HC.out, List.take_of_length_le (by have := HL.out; omega)]
      go_wp2
      go_ret
      exact ⟨HP.out, by rw [HN.out]; rfl⟩

end Go.Proofs.YtdcjibjldfjllaaGreat

namespace Go.Proofs.YtdcjibjldfjllaaGreat
open Go.RowKit

theorem zero_text2 : (⟨#[48]⟩ : ByteArray) = tQ 0 := by decide +kernel
theorem zero_tl2 : tlQ 0 ≤ 2 := by decide +kernel
theorem stepV_eq (acc : Rat) (v : VB) (r : Rat) (h : v.e = some r) : stepV acc v = acc + (r - v.q) := by
  unfold stepV
  rw [h]
  show acc + r - v.q = acc + (r - v.q)
  rw [Rat.sub_eq_add_neg, Rat.sub_eq_add_neg, Rat.add_assoc]
theorem foldl_take {α β : Type} (f : β → α → β) (z : β) {l : List α} {i : Nat} {v : α} (h : i < l.length) (hv : l[i] = v) : (l.take (i + 1)).foldl f z = f ((l.take i).foldl f z) v := by
  rw [List.take_succ_eq_append_getElem h, hv, List.foldl_append]; rfl
/-- The sum over a dimension, bar by bar. -/
def stepD (d : Int) (acc : Rat) (v : VB) : Rat := if v.d == d then stepV acc v else acc
theorem totD_eq (d : Int) : ∀ (l : List VB) (acc : Rat), l.foldl (stepD d) acc = (l.filter fun v => v.d == d).foldl stepV acc
  | [], acc => rfl
  | v :: l, acc => by
    rw [List.foldl_cons, totD_eq d l, List.filter_cons]
    unfold stepD
    by_cases h : (v.d == d) = true
    · rw [if_pos h, if_pos h]; rfl
    · rw [if_neg h, if_neg h]

set_option maxRecDepth 100000 in
set_option maxHeartbeats 4000000 in
theorem ref_total (A : Option Addr) (n c : Nat) (vs : List VB) (d : Int) (w : World) (hx : Rows w rBar A n c (vs.map VB.enc)) (hok : ∀ v ∈ vs, tlE (some v.q) ≤ 202 ∧ tlE v.e ≤ 202) (hn : n ≤ 1000) :
    Calls Tryz.prog 56 #[.slice A n c, .int .i64 d] w fun e w' => Past w w' ∧ e = .returned (.string (tE (some (totV (vs.filter fun v => v.d == d))))) := by
  have HX := Lib.hid hx
  have HL : Hid (vs.length = n) := by have := hx.len; rw [List.length_map] at this; exact this
  have HOK := Lib.hid hok
  clear hx hok
  have h0 : (⟨#[48]⟩ : ByteArray) = tQ 0 := zero_text2
  go_enter Tryz.func56, Tryz.ntmps56
  go_wp2_with fail
  go_loopg [5, 6] n (fun gg sv iv wr => ∃ (i : Nat) (q : Rat), sv = .string (tQ q) ∧ iv = .int .i64 i ∧ i ≤ n ∧ Hid (gg = n - i) ∧ Hid ((vs.take i).foldl (stepD d) 0 = q) ∧ Hid (tlQ q ≤ 2 + 409 * i) ∧ Hid (Past w wr))
  case atStart => exact ⟨0, 0, by rw [h0], rfl, Nat.zero_le _, rfl, rfl, zero_tl2, Past.refl _⟩
  case round =>
    clear h0
    obtain ⟨i, q, rfl, rfl, hi, HG, HQ, HT, HP⟩ := hrel
    by_cases hin : i < n
    · have hil : i < vs.length := by have := HL.out; omega
      obtain ⟨v, hve⟩ : ∃ v, vs[i] = v := ⟨_, rfl⟩
      have HVK := Lib.hid (HOK.out v (by rw [← hve]; exact List.getElem_mem hil))
      obtain ⟨b1, o1, rfl, hc1⟩ := HX.out.bar (by omega)
      have hbi := (hc1 i (by rw [List.length_map]; exact hil)).past HP.out
      rw [List.getElem_map, hve] at hbi
      have HFT : Hid ((vs.take (i + 1)).foldl (stepD d) 0 = stepD d q v) := by show _ = _; rw [foldl_take (stepD d) 0 hil hve, HQ.out]
      obtain ⟨dv, a, e⟩ := v
      have e0 : wr.cell? ⟨b1, o1 + i * 3, none⟩ = some (.int .i64 dv) := hbi.1
      have e1 : wr.cell? ⟨b1, o1 + i * 3 + 1, none⟩ = some (.string (tQ a)) := hbi.2.1
      have e2 : wr.cell? ⟨b1, o1 + i * 3 + 2, none⟩ = some (.string (tE e)) := hbi.2.2
      clear hc1 hbi hve
      have z1 : (i : Int) < (n : Int) := by omega
      have B1 : Hid (tlQ q ≤ 1000000) := by have := HT.out; unfold Hid; omega
      have B2 : Hid (tlQ a ≤ 1000000) := Nat.le_trans HVK.out.1 (by decide)
      by_cases hd : dv = d
      · subst hd
        have hdb : (dv == dv) = true := by simp
        cases e with
        | none =>
          have hi2 := inf_none
          have hi3 : ((tE none).toList != [105, 110, 102]) = false := by unfold bne; rw [hi2]; rfl
          have HN : Hid ((vs.take (i + 1)).foldl (stepD dv) 0 = q) := by show _ = _; rw [HFT.out]; unfold stepD; rw [if_pos (by exact hdb)]; rfl
          go_wp2_with fail
          go_roundg (n - (i + 1))
          case measure => have := HG.out; omega
          case rel => exact ⟨i + 1, q, rfl, by go_num, by omega, rfl, HN.out, by have := HT.out; show _ ≤ _; omega, HP.out⟩
        | some r =>
          have hi2 := inf_some r
          have hi3 : ((tE (some r)).toList != [105, 110, 102]) = true := by unfold bne; rw [hi2]; rfl
          have HN : Hid ((vs.take (i + 1)).foldl (stepD dv) 0 = q + (r - a)) := by show _ = _; rw [HFT.out]; unfold stepD; rw [if_pos (by exact hdb)]; exact stepV_eq q ⟨dv, a, some r⟩ r rfl
          have HT2 : Hid (tlQ (r - a) ≤ 407 ∧ tlQ (q + (r - a)) ≤ 2 + 409 * (i + 1)) := by
            have h1 := tlQ_sub (a := r) (b := a) (k := 202) (m := 202) HVK.out.2 HVK.out.1
            have h2 := add_tl (a := q) (q := r - a) HT.out h1
            refine ⟨h1, Nat.le_trans h2 (by omega)⟩
          have B3 : Hid (tlQ r ≤ 1000000) := Nat.le_trans HVK.out.2 (by decide)
          have B4 : Hid (tlQ (r - a) ≤ 1000000) := Nat.le_trans HT2.out.1 (by decide)
          have C1 := Lib.hid (fun w => frl_minus r a w B3.out B2.out)
          have C2 := Lib.hid (fun w => frl_plus q (r - a) w B1.out B4.out)
          have e2' : wr.cell? ⟨b1, o1 + i * 3 + 2, none⟩ = some (.string (tQ r)) := e2
          have F3 := Lib.hid (And.intro e0 (And.intro e1 e2'))
          have hi4 : ((tQ r).toList == [105, 110, 102]) = false := hi2
          have hi5 : ((tQ r).toList != [105, 110, 102]) = true := hi3
          have PD : Hid (Past wr wr.drew) := (Past.refl wr).drew
          clear e2 hi2 hi3
          generalize tQ (r - a) = y1 at C1 C2
          go_wp2_with fail
          go_region_held3 (fun w' => w'.cell? ⟨b1, o1 + i * 3, none⟩ = some (.int .i64 dv) ∧ w'.cell? ⟨b1, o1 + i * 3 + 1, none⟩ = some (.string (tQ a)) ∧ w'.cell? ⟨b1, o1 + i * 3 + 2, none⟩ = some (.string (tQ r))) (first | (refine keep3 hp2 ?_; assumption) | (refine keep3 hp1 ?_; assumption) | (refine keep3 PD.out ?_; exact F3.out))
            (first
              | (go_at_call 33; ((with_reducible refine (C2.out _).mono ?_)); rintro e w2 ⟨hp2, rfl⟩)
              | (go_at_call 117; ((with_reducible refine (C1.out _).mono ?_)); rintro e w1 ⟨hp1, rfl⟩))
          have HPP := Lib.hid (HP.out.trans (PD.out.trans (hp1.trans hp2)))
          clear hp1 hp2
          go_wp2_with fail
          go_roundg (n - (i + 1))
          case measure => have := HG.out; omega
          case rel => exact ⟨i + 1, _, rfl, by go_num, by omega, rfl, HN.out, HT2.out.2, HPP.out⟩
      · have hdb : (dv == d) = false := by simp [hd]
        have HN : Hid ((vs.take (i + 1)).foldl (stepD d) 0 = q) := by show _ = _; rw [HFT.out]; unfold stepD; rw [if_neg (by show ¬ (dv == d) = true; rw [hdb]; simp)]
        go_wp2_with fail
        go_roundg (n - (i + 1))
        case measure => have := HG.out; omega
        case rel => exact ⟨i + 1, q, rfl, by go_num, by omega, rfl, HN.out, by have := HT.out; show _ ≤ _; omega, HP.out⟩
    · have HN : Hid (totV (vs.filter fun v => v.d == d) = q) := by
        show _ = _
        rw [← HQ.out, List.take_of_length_le (by have := HL.out; omega), totD_eq]; rfl
      go_wp2
      go_ret
      exact ⟨HP.out, by rw [HN.out]; rfl⟩

end Go.Proofs.YtdcjibjldfjllaaGreat
