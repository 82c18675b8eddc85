/- Helpers of the proof, joined: Cm0 Cm1 Cm2 Cm3. -/
import Derived.Test.YtdcjibjldfjllaaGreatGo
import Derived.Test.YtdcjibjldfjllaaGreatGyc
import Derived.Test.YtdcjibjldfjllaaGreatGxh
import Derived.Test.YtdcjibjldfjllaaGreatGxb
set_option linter.unusedVariables false
set_option linter.unusedSimpArgs false
/- A bar in a block of its own, beside a row of bars. -/
namespace Go.Proofs.YtdcjibjldfjllaaGreat
open Go.RowKit

/-- A bar's block, the bars so far. -/
def RT (w0 w : World) (gb : Nat) (b : Bar) (v : Value) (l : List Bar) : Prop :=
  w.heap[gb]? = some (.cells #[.int .i64 b.d, .string b.x, .string b.y] 94 (0, 0)) ∧ OwnS w0 w rBar 94 v l ∧ w0.heap.size ≤ gb ∧ v.ownBlock ≠ some gb
section
variable {w0 w w1 : World} {gb : Nat} {b : Bar} {v : Value} {l : List Bar}
theorem RT.past (h : RT w0 w gb b v l) (hp : Past w w1) : RT w0 w1 gb b v l :=
  ⟨(hp.block gb (Array.getElem?_eq_some_iff.1 h.1).1).trans h.1, h.2.1.past hp, h.2.2⟩
theorem RT.box (h : OwnS w0 w rBar 94 v l) (d : Int) (x y : ByteArray) : RT w0 (w.alloc (.cells #[.int .i64 d, .string x, .string y] 94)) w.heap.size ⟨d, x, y⟩ v l := by
  refine ⟨heap_new _ _, h.alloc _, h.2.size, ?_⟩
  intro hv
  have := (h.1.lt _ hv).2
  omega
theorem RT.set1 (h : RT w0 w gb b v l) (s : ByteArray) : RT w0 (w.setCell ⟨gb, 1, none⟩ (.string s)) gb ⟨b.d, s, b.y⟩ v l := by
  refine ⟨?_, h.2.1.grown (grown_set (Past.refl w) gb 1 _) h.2.2.1 h.2.2.2, h.2.2⟩
  rw [heap_setCell_same w gb 1 _ _ _ h.1]
  rfl
theorem RT.set2 (h : RT w0 w gb b v l) (s : ByteArray) : RT w0 (w.setCell ⟨gb, 2, none⟩ (.string s)) gb ⟨b.d, b.x, s⟩ v l := by
  refine ⟨?_, h.2.1.grown (grown_set (Past.refl w) gb 2 _) h.2.2.1 h.2.2.2, h.2.2⟩
  rw [heap_setCell_same w gb 2 _ _ _ h.1]
  rfl
theorem RT.c0 (h : RT w0 w gb b v l) : w.cell? ⟨gb, 0, none⟩ = some (.int .i64 b.d) := by rw [Lib.cell_of_heap h.1]; rfl
theorem RT.c1 (h : RT w0 w gb b v l) : w.cell? ⟨gb, 1, none⟩ = some (.string b.x) := by rw [Lib.cell_of_heap h.1]; rfl
theorem RT.c2 (h : RT w0 w gb b v l) : w.cell? ⟨gb, 2, none⟩ = some (.string b.y) := by rw [Lib.cell_of_heap h.1]; rfl
theorem RT.f (h : RT w0 w gb b v l) (j : Nat) : w.frozen? ⟨gb, j, none⟩ = false := Lib.frozen_of_heap h.1 j
end

end Go.Proofs.YtdcjibjldfjllaaGreat

/- torusref20.Length, Longer, Affine, Clip on bars of numbers. -/
namespace Go.Proofs.YtdcjibjldfjllaaGreat
open Go.RowKit

/-- Its dimension is small, its ends are no longer than 1000. -/
def VB.okM (v : VB) : Prop := 0 ≤ v.d ∧ v.d ≤ 4 ∧ tlE (some v.q) ≤ 1000 ∧ tlE v.e ≤ 1000
theorem VB.okM.L {v : VB} (h : v.okM) : v.okL := ⟨h.1, h.2.1, Nat.le_trans h.2.2.1 (by decide), Nat.le_trans h.2.2.2 (by decide)⟩
/-- The length of a bar. -/
def lenV (v : VB) : Option Rat := v.e.map (fun r => r - v.q)
def longV (t : Option Rat) (v : VB) : Bool := decide (0 ≤ cmpE (lenV v) t)
theorem tlQ_sub {a b : Rat} {k m : Nat} (ha : tlQ a ≤ k) (hb : tlQ b ≤ m) : tlQ (a - b) ≤ k + m + 3 := by
  have e : a - b = a + -b := Rat.sub_eq_add_neg a b
  rw [e]
  exact Nat.le_trans (add_tl ha (Nat.le_trans (tlQ_neg b) (Nat.succ_le_succ hb))) (by omega)
theorem lenV_tl {v : VB} (h : v.okM) : tlE (lenV v) ≤ 2003 := by
  obtain ⟨d, q, e⟩ := v
  cases e with
  | none => exact Nat.zero_le _
  | some r => exact tlQ_sub h.2.2.2 h.2.2.1
theorem inf_some (q : Rat) : ((tE (some q)).toList == [105, 110, 102]) = false := by
  rw [inf_eq, byt_tE]
  exact isInf_rtx q
theorem inf_none : ((tE none).toList == [105, 110, 102]) = true := by
  rw [inf_eq, byt_tE]; rfl

set_option maxRecDepth 100000 in
set_option maxHeartbeats 4000000 in
theorem ref_length (v : VB) (w : World) (h : v.okM) :
    Calls Tryz.prog 103 #[.agg #[.int .i64 v.d, .string (tE (some v.q)), .string (tE v.e)]] w fun e w' => Past w w' ∧ e = .returned (.string (tE (lenV v))) := by
  obtain ⟨d, q, e⟩ := v
  cases e with
  | none =>
    have hi := inf_none
    have HR : Hid (tE (lenV ⟨d, q, none⟩) = ⟨#[105, 110, 102]⟩) := rfl
    clear h
    dsimp only
    generalize tE none = y at hi
    generalize tE (some q) = x
    go_enter Tryz.func103, Tryz.ntmps103
    go_wp2
    go_ret
    exact ⟨(Past.refl _).alloc _, by rw [HR.out]; rfl⟩
  | some r =>
    have hi := inf_some r
    have C : Hid (∀ w, Calls Tryz.prog 117 #[.string (tE (some r)), .string (tE (some q))] w fun e w' => Past w w' ∧ e = .returned (.string (tE (lenV ⟨d, q, some r⟩)))) := fun w => frl_minus r q w (Nat.le_trans h.2.2.2 (by decide)) (Nat.le_trans h.2.2.1 (by decide))
    clear h
    dsimp only
    generalize tE (lenV ⟨d, q, some r⟩) = z at C ⊢
    generalize tE (some r) = y at *
    generalize tE (some q) = x at *
    go_enter Tryz.func103, Tryz.ntmps103
    go_wp2_with fail
    refine (C.out _).mono ?_
    rintro e w1 ⟨hp1, rfl⟩
    go_wp2
    go_ret
    exact ⟨((Past.refl _).alloc _).trans hp1, rfl⟩

theorem filter_take {α : Type} {l : List α} {i : Nat} {v : α} (p : α → Bool) (h : i < l.length) (hv : l[i] = v) : (l.take (i + 1)).filter p = (l.take i).filter p ++ if p v = true then [v] else [] := by
  rw [List.take_succ_eq_append_getElem h, hv, List.filter_append]
  congr 1
  rw [List.filter_cons]
  split <;> rfl
theorem map_take {α β : Type} {l : List α} {i : Nat} {v : α} (f : α → β) (h : i < l.length) (hv : l[i] = v) : (l.take (i + 1)).map f = (l.take i).map f ++ [f v] := by
  rw [List.take_succ_eq_append_getElem h, hv, List.map_append]; rfl

set_option maxRecDepth 100000 in
set_option maxHeartbeats 4000000 in
theorem ref_longer (A : Option Addr) (n c : Nat) (vs : List VB) (t : Option Rat) (w : World) (hx : Rows w rBar A n c (vs.map VB.enc)) (hok : ∀ v ∈ vs, v.okM) (ht : tlE t ≤ 1000) (hn : n ≤ 1000000) :
    Calls Tryz.prog 43 #[.slice A n c, .string (tE t)] w fun e w' => Past w w' ∧ ∃ v, e = .returned v ∧ OwnS w w' rBar 94 v ((vs.filter (longV t)).map VB.enc) := by
  have HX := Lib.hid hx
  have HL : Hid (vs.length = n) := by have := hx.len; rw [List.length_map] at this; exact this
  have HOK := Lib.hid hok
  have HEL := Lib.hid el_bar
  have HT := Lib.hid ht
  clear hx hok ht
  go_enter Tryz.func43, Tryz.ntmps43
  go_wp2_with fail
  go_loopg [5, 6] n (fun gg ov iv wr => ∃ (i : Nat) (vo : Value), vo = ov ∧ iv = .int .i64 i ∧ i ≤ n ∧ Hid (gg = n - i) ∧ Hid (OwnS w wr rBar 94 vo (((vs.take i).filter (longV t)).map VB.enc)))
  case atStart => exact ⟨0, _, rfl, rfl, Nat.zero_le _, rfl, OwnS.nil (Past.refl _) _ _⟩
  case round =>
    obtain ⟨i, vo, hvo, rfl, hi, HG, HO⟩ := hrel
    subst hvo
    by_cases hin : i < n
    · have hil : i < vs.length := by have := HL.out; omega
      obtain ⟨v, hve⟩ : ∃ v, vs[i] = v := ⟨_, rfl⟩
      have HVK : Hid v.okM := by rw [← hve]; exact HOK.out _ (List.getElem_mem hil)
      obtain ⟨b1, o1, rfl, hc1⟩ := HX.out.bar (by omega)
      have hbi := (hc1 i (by rw [List.length_map]; exact hil)).past HO.out.2
      rw [List.getElem_map, hve] at hbi
      have HFT := Lib.hid (filter_take (longV t) hil hve)
      have e0 : wr.cell? ⟨b1, o1 + i * 3, none⟩ = some (.int .i64 v.d) := hbi.1
      have e1 : wr.cell? ⟨b1, o1 + i * 3 + 1, none⟩ = some (.string (tE (some v.q))) := hbi.2.1
      have e2 : wr.cell? ⟨b1, o1 + i * 3 + 2, none⟩ = some (.string (tE v.e)) := hbi.2.2
      have HE := Lib.hid (And.intro e0 (And.intro e1 e2))
      clear hc1 hbi hve
      have z1 : (i : Int) < (n : Int) := by omega
      have HLV := Lib.hid (Nat.le_trans (lenV_tl HVK.out) (show 2003 ≤ 10000000 by decide))
      have HTT := Lib.hid (Nat.le_trans HT.out (show 1000 ≤ 10000000 by decide))
      go_wp2_with fail
      refine (ref_length v _ HVK.out).mono ?_
      rintro e w1 ⟨hp1, rfl⟩
      have k0 := hp1.cell HE.out.1
      have k1 := hp1.cell HE.out.2.1
      have k2 := hp1.cell HE.out.2.2
      have K3 := Lib.hid (And.intro k0 (And.intro k1 k2))
      have P1 := Lib.hid hp1
      clear hp1 e0 e1 e2 k0 k1 k2
      go_wp2_with fail
      refine (fr_compare (lenV v) t _ HLV.out HTT.out).mono ?_
      rintro e w2 ⟨hp2, rfl⟩
      have k0 := hp2.cell K3.out.1
      have k1 := hp2.cell K3.out.2.1
      have k2 := hp2.cell K3.out.2.2
      have HO2 := Lib.hid (HO.out.past (P1.out.trans hp2))
      clear hp2
      obtain ⟨cv, hcv⟩ : ∃ z, cmpE (lenV v) t = z := ⟨_, rfl⟩
      have HLG : Hid (longV t v = decide (0 ≤ cv)) := by show _ = _; rw [← hcv]; rfl
      rw [hcv]
      clear hcv
      by_cases hge : 0 ≤ cv
      · have HSS : Hid (((vs.take (i + 1)).filter (longV t)).map VB.enc = ((vs.take i).filter (longV t)).map VB.enc ++ [v.enc]) := by
          show _ = _
          rw [HFT.out, HLG.out, decide_eq_true hge, if_pos rfl, List.map_append]; rfl
        have HOL : Hid ((((vs.take i).filter (longV t)).map VB.enc).length ≤ 1000000) := by
          show _ ≤ _
          rw [List.length_map]
          exact Nat.le_trans (List.length_filter_le _ _) (by rw [List.length_take]; omega)
        go_wp2_with (first | (at_builtin; refine wpList_appS HEL.out (HO2.out.alloc _) rfl rfl rfl ⟨_, 0, none⟩ _ v.enc rfl (cell_newS rBar _ _ _ _ _ (by simp [go_sem]) rfl) ?_ ?_; (have := HOL.out; omega); intro v3 w3 hown3 hp3))
        rw [← HSS.out] at hown3
        go_roundg (n - (i + 1))
        case measure => have := HG.out; omega
        case rel => exact ⟨i + 1, _, rfl, by go_num, by omega, rfl, hown3⟩
      · have HSS : Hid (((vs.take (i + 1)).filter (longV t)).map VB.enc = ((vs.take i).filter (longV t)).map VB.enc) := by
          show _ = _
          rw [HFT.out, HLG.out, decide_eq_false hge]
          simp
        go_wp2_with fail
        go_roundg (n - (i + 1))
        case measure => have := HG.out; omega
        case rel => exact ⟨i + 1, _, rfl, by go_num, by omega, rfl, by rw [HSS.out]; exact HO2.out⟩
    · have HN : Hid ((vs.take i).filter (longV t) = vs.filter (longV t)) := by
        show _ = _
        rw [List.take_of_length_le (by have := HL.out; omega)]
      go_wp2
      go_ret
      exact ⟨HO.out.2, _, rfl, by rw [← HN.out]; exact HO.out⟩

end Go.Proofs.YtdcjibjldfjllaaGreat

/- torusref20.Affine, Clip on bars of numbers. -/
namespace Go.Proofs.YtdcjibjldfjllaaGreat
open Go.RowKit

/-- torusref03.Long of a number's text that is short. -/
theorem longT_short {q : Rat} (h : tlQ q ≤ 1000) : longT (byt (tE (some q))) = false := by
  rw [byt_tE]
  show longT (rtx q) = false
  have h1 := okV_rtx h
  rw [okV_eq] at h1
  simp only [Bool.and_eq_true, Bool.not_eq_true'] at h1
  exact h1.1

theorem tE_sizeM {e : Option Rat} (h : tlE e ≤ 1000) : (tE e).size ≤ 2001 := by
  cases e with
  | none => decide
  | some q =>
    have := tQ_size q
    have h' : tlQ q ≤ 1000 := h
    show (tQ q).size ≤ 2001
    omega

set_option maxRecDepth 100000 in
set_option maxHeartbeats 4000000 in
theorem ref_affine (A : Option Addr) (n c : Nat) (vs : List VB) (p q : Rat) (w : World) (hx : Rows w rBar A n c (vs.map VB.enc)) (hok : ∀ v ∈ vs, v.okM) (hp : tlQ p ≤ 1000) (hq : tlQ q ≤ 1000)
    (hf : ∀ v ∈ vs, (mapV (fun r => r * p + q) v).okM) (hn : n ≤ 1000000) :
    Calls Tryz.prog 40 #[.slice A n c, .string (tE (some p)), .string (tE (some q))] w fun e w' => Past w w' ∧ ∃ v, e = .returned (.tuple #[v, .bool false]) ∧ OwnS w w' rBar 94 v ((vs.map (mapV (fun r => r * p + q))).map VB.enc) := by
  have HX := Lib.hid hx
  have HL : Hid (vs.length = n) := by have := hx.len; rw [List.length_map] at this; exact this
  have HOK := Lib.hid hok
  have HFO := Lib.hid hf
  have HEL := Lib.hid el_bar
  have HP := Lib.hid hp
  have HQ := Lib.hid hq
  clear hx hok hp hq hf
  go_enter Tryz.func40, Tryz.ntmps40
  go_wp2_with fail
  go_loopg [6, 7, 8] n (fun gg ov lv iv wr => ∃ (i : Nat) (vo : Value), vo = ov ∧ lv = .bool false ∧ iv = .int .i64 i ∧ i ≤ n ∧ Hid (gg = n - i) ∧ Hid (OwnS w wr rBar 94 vo (((vs.take i).map (mapV (fun r => r * p + q))).map VB.enc)))
  case atStart => exact ⟨0, _, rfl, rfl, rfl, Nat.zero_le _, rfl, OwnS.nil (Past.refl _) _ _⟩
  case round =>
    obtain ⟨i, vo, hvo, rfl, rfl, hi, HG, HO⟩ := hrel
    subst hvo
    by_cases hin : i < n
    · have hil : i < vs.length := by have := HL.out; omega
      obtain ⟨v, hve⟩ : ∃ v, vs[i] = v := ⟨_, rfl⟩
      have hmem : v ∈ vs := by rw [← hve]; exact List.getElem_mem hil
      have HVK := Lib.hid (HOK.out v hmem)
      have HVF := Lib.hid (HFO.out v hmem)
      obtain ⟨b1, o1, rfl, hc1⟩ := HX.out.bar (by omega)
      have hbi := (hc1 i (by rw [List.length_map]; exact hil)).past HO.out.2
      rw [List.getElem_map, hve] at hbi
      have HFT := Lib.hid (map_take (mapV (fun r => r * p + q)) hil hve)
      obtain ⟨d, a, e⟩ := v
      have e0 : wr.cell? ⟨b1, o1 + i * 3, none⟩ = some (.int .i64 d) := hbi.1
      have e1 : wr.cell? ⟨b1, o1 + i * 3 + 1, none⟩ = some (.string (tE (some a))) := hbi.2.1
      have e2 : wr.cell? ⟨b1, o1 + i * 3 + 2, none⟩ = some (.string (tE e)) := hbi.2.2
      clear hc1 hbi hve hmem
      have z1 : (i : Int) < (n : Int) := by omega
      have PB := Lib.hid (RT.box HO.out d (tE (some a)) (tE e))
      have B1 : Hid (tlQ a ≤ 1000000) := Nat.le_trans HVK.out.2.2.1 (by decide)
      have B2 : Hid (tlQ p ≤ 1000000) := Nat.le_trans HP.out (by decide)
      have B3 : Hid (tlQ q ≤ 1000000) := Nat.le_trans HQ.out (by decide)
      have B4 : Hid (tlQ (a * p) ≤ 1000000) := Nat.le_trans (mul_tl HVK.out.2.2.1 HP.out) (by decide)
      have L1 : Hid (longT (byt (tE (some (a * p + q)))) = false) := longT_short HVF.out.2.2.1
      have HOL : Hid ((((vs.take i).map (mapV (fun r => r * p + q))).map VB.enc).length ≤ 1000000) := by
        show _ ≤ _
        rw [List.length_map, List.length_map, List.length_take]; omega
      go_wp2_with fail
      refine (frl_times a p _ B1.out B2.out).mono ?_
      rintro e' w1 ⟨hp1, rfl⟩
      have P1 := Lib.hid (PB.out.past hp1)
      have c0 := P1.out.c0
      have c1 := P1.out.c1
      have c2 := P1.out.c2
      have f1 := P1.out.f 1
      have f2 := P1.out.f 2
      clear hp1
      go_wp2_with fail
      refine (frl_plus (a * p) q _ B4.out B3.out).mono ?_
      rintro e' w2 ⟨hp2, rfl⟩
      have P2 := Lib.hid (P1.out.past hp2)
      clear c0 c1 c2 f1 f2 hp2 e0 e1 e2
      have P3 := Lib.hid (P2.out.set1 (tE (some (a * p + q))))
      have c0 := P2.out.c0
      have c1 := P2.out.c1
      have c2 := P2.out.c2
      have f1 := P2.out.f 1
      have f2 := P2.out.f 2
      cases e with
      | none =>
        have hi2 := inf_none
        have C : Hid (∀ w, Calls Tryz.prog 58 #[.string (tQ (a * p + q))] w fun e w' => Past w w' ∧ e = .returned (.bool false)) := fun w => by
          have h := ref_longT (tE (some (a * p + q))) w (Nat.le_trans (tE_sizeM HVF.out.2.2.1) (by decide))
          rw [L1.out] at h
          exact h
        go_wp2_with fail
        refine (C.out _).mono ?_
        rintro e' w4 ⟨hp4, rfl⟩
        have P4 := Lib.hid (P3.out.past hp4)
        clear hp4 c0 c1 c2 f1 f2
        have g0 := P4.out.c0
        have g1 := P4.out.c1
        have g2 := P4.out.c2
        go_wp2_with (first | (at_builtin; refine wpList_appS HEL.out (OwnS.alloc P4.out.2.1 _) rfl rfl rfl ⟨_, 0, none⟩ _ (VB.enc (mapV (fun r => r * p + q) ⟨d, a, none⟩)) rfl (cell_newS rBar _ _ _ _ _ (by simp [go_sem]) rfl) ?_ ?_; (have := HOL.out; omega); intro v9 w9 hown9 hp9))
        have HN9 : Hid (OwnS w w9 rBar 94 v9 (((vs.take (i + 1)).map (mapV (fun r => r * p + q))).map VB.enc)) := by
          show OwnS _ _ _ _ _ _
          rw [HFT.out, List.map_append]
          exact hown9
        clear hown9
        go_roundg (n - (i + 1))
        case measure => have := HG.out; omega
        case rel => exact ⟨i + 1, _, rfl, rfl, by go_num, by omega, rfl, HN9.out⟩
      | some r =>
        have hi2 := inf_some r
        have B5 : Hid (tlQ r ≤ 1000000) := Nat.le_trans HVK.out.2.2.2 (by decide)
        have B6 : Hid (tlQ (r * p) ≤ 1000000) := Nat.le_trans (mul_tl HVK.out.2.2.2 HP.out) (by decide)
        have L2 : Hid (longT (byt (tE (some (r * p + q)))) = false) := longT_short HVF.out.2.2.2
        have C : Hid (∀ w, Calls Tryz.prog 58 #[.string (tQ (a * p + q))] w fun e w' => Past w w' ∧ e = .returned (.bool false)) := fun w => by
          have h := ref_longT (tE (some (a * p + q))) w (Nat.le_trans (tE_sizeM HVF.out.2.2.1) (by decide))
          rw [L1.out] at h
          exact h
        have C2 : Hid (∀ w, Calls Tryz.prog 58 #[.string (tQ (r * p + q))] w fun e w' => Past w w' ∧ e = .returned (.bool false)) := fun w => by
          have h := ref_longT (tE (some (r * p + q))) w (Nat.le_trans (tE_sizeM (e := some (r * p + q)) HVF.out.2.2.2) (by decide))
          rw [L2.out] at h
          exact h
        go_wp2_with fail
        refine (frl_times r p _ B5.out B2.out).mono ?_
        rintro e' w4 ⟨hp4, rfl⟩
        have P4 := Lib.hid (P3.out.past hp4)
        clear hp4 c0 c1 c2 f1 f2
        have c0 := P4.out.c0
        have c1 := P4.out.c1
        have c2 := P4.out.c2
        have f1 := P4.out.f 1
        have f2 := P4.out.f 2
        go_wp2_with fail
        refine (frl_plus (r * p) q _ B6.out B3.out).mono ?_
        rintro e' w5 ⟨hp5, rfl⟩
        have P5 := Lib.hid (P4.out.past hp5)
        clear hp5 c0 c1 c2 f1 f2
        have P6 := Lib.hid (P5.out.set2 (tE (some (r * p + q))))
        have c0 := P5.out.c0
        have c1 := P5.out.c1
        have c2 := P5.out.c2
        have f1 := P5.out.f 1
        have f2 := P5.out.f 2
        go_wp2_with fail
        refine (C2.out _).mono ?_
        rintro e' w6 ⟨hp6, rfl⟩
        have P7 := Lib.hid (P6.out.past hp6)
        clear hp6 c0 c1 c2 f1 f2
        have c0 := P7.out.c0
        have c1 := P7.out.c1
        have c2 := P7.out.c2
        go_wp2_with fail
        refine (C.out _).mono ?_
        rintro e' w7 ⟨hp7, rfl⟩
        have P8 := Lib.hid (P7.out.past hp7)
        clear hp7 c0 c1 c2
        have g0 := P8.out.c0
        have g1 := P8.out.c1
        have g2 := P8.out.c2
        go_wp2_with (first | (at_builtin; refine wpList_appS HEL.out (OwnS.alloc P8.out.2.1 _) rfl rfl rfl ⟨_, 0, none⟩ _ (VB.enc (mapV (fun r => r * p + q) ⟨d, a, some r⟩)) rfl (cell_newS rBar _ _ _ _ _ (by simp [go_sem]) rfl) ?_ ?_; (have := HOL.out; omega); intro v9 w9 hown9 hp9))
        have HN9 : Hid (OwnS w w9 rBar 94 v9 (((vs.take (i + 1)).map (mapV (fun r => r * p + q))).map VB.enc)) := by
          show OwnS _ _ _ _ _ _
          rw [HFT.out, List.map_append]
          exact hown9
        clear hown9
        go_roundg (n - (i + 1))
        case measure => have := HG.out; omega
        case rel => exact ⟨i + 1, _, rfl, rfl, by go_num, by omega, rfl, HN9.out⟩
    · have HN : Hid (vs.take i = vs) := List.take_of_length_le (by have := HL.out; omega)
      have HO2 := HO.out
      rw [HN.out] at HO2
      go_wp2
      go_ret2
      exact ⟨HO2.2, _, rfl, HO2⟩

end Go.Proofs.YtdcjibjldfjllaaGreat

/- torusref20.Clip on bars of numbers. -/
namespace Go.Proofs.YtdcjibjldfjllaaGreat
open Go.RowKit

/-- A bar cut to a range. -/
def clipE (p : Rat) (t : Option Rat) (v : VB) : VB := ⟨v.d, if cmpE (some v.q) (some p) < 0 then p else v.q, if 0 < cmpE v.e t then t else v.e⟩
theorem clipE_ok {p : Rat} {t : Option Rat} {v : VB} (h : v.okM) (hp : tlQ p ≤ 1000) (ht : tlE t ≤ 1000) : (clipE p t v).okM := by
  refine ⟨h.1, h.2.1, ?_, ?_⟩
  · show tlQ (if _ then p else v.q) ≤ 1000
    split
    · exact hp
    · exact h.2.2.1
  · show tlE (if _ then t else v.e) ≤ 1000
    split
    · exact ht
    · exact h.2.2.2

set_option maxRecDepth 100000 in
set_option maxHeartbeats 4000000 in
theorem ref_clip (A : Option Addr) (n c : Nat) (vs : List VB) (p : Rat) (t : Option Rat) (w : World) (hx : Rows w rBar A n c (vs.map VB.enc)) (hok : ∀ v ∈ vs, v.okM) (hp : tlQ p ≤ 1000) (ht : tlE t ≤ 1000) (hn : n ≤ 1000000) :
    Calls Tryz.prog 42 #[.slice A n c, .string (tE (some p)), .string (tE t)] w fun e w' => Past w w' ∧ ∃ v, e = .returned v ∧ OwnS w w' rBar 94 v ((sortV (vs.map (clipE p t))).map VB.enc) := by
  have HX := Lib.hid hx
  have HL : Hid (vs.length = n) := by have := hx.len; rw [List.length_map] at this; exact this
  have HOK := Lib.hid hok
  have HEL := Lib.hid el_bar
  have HPT := Lib.hid hp
  have HTT := Lib.hid ht
  have HPB : Hid (tlE (some p) ≤ 10000000) := Nat.le_trans hp (by decide)
  have HTB : Hid (tlE t ≤ 10000000) := Nat.le_trans ht (by decide)
  clear hx hok hp ht
  go_enter Tryz.func42, Tryz.ntmps42
  go_wp2_with fail
  go_loopg [7, 8] n (fun gg ov iv wr => ∃ (i : Nat) (vo : Value), vo = ov ∧ iv = .int .i64 i ∧ i ≤ n ∧ Hid (gg = n - i) ∧ Hid (OwnS w wr rBar 94 vo (((vs.take i).map (clipE p t)).map VB.enc)))
  case atStart => exact ⟨0, _, rfl, rfl, Nat.zero_le _, rfl, OwnS.nil (Past.refl _) _ _⟩
  case round =>
    obtain ⟨i, vo, hvo, rfl, hi, HG, HO⟩ := hrel
    subst hvo
    by_cases hin : i < n
    · have hil : i < vs.length := by have := HL.out; omega
      obtain ⟨v, hve⟩ : ∃ v, vs[i] = v := ⟨_, rfl⟩
      have hmem : v ∈ vs := by rw [← hve]; exact List.getElem_mem hil
      have HVK := Lib.hid (HOK.out v hmem)
      obtain ⟨b1, o1, rfl, hc1⟩ := HX.out.bar (by omega)
      have hbi := (hc1 i (by rw [List.length_map]; exact hil)).past HO.out.2
      rw [List.getElem_map, hve] at hbi
      have HFT := Lib.hid (map_take (clipE p t) hil hve)
      obtain ⟨d, a, e⟩ := v
      have e0 : wr.cell? ⟨b1, o1 + i * 3, none⟩ = some (.int .i64 d) := hbi.1
      have e1 : wr.cell? ⟨b1, o1 + i * 3 + 1, none⟩ = some (.string (tE (some a))) := hbi.2.1
      have e2 : wr.cell? ⟨b1, o1 + i * 3 + 2, none⟩ = some (.string (tE e)) := hbi.2.2
      clear hc1 hbi hve hmem
      have z1 : (i : Int) < (n : Int) := by omega
      have PB := Lib.hid (RT.box HO.out d (tE (some a)) (tE e))
      have B1 : Hid (tlE (some a) ≤ 10000000) := Nat.le_trans HVK.out.2.2.1 (by decide)
      have B2 : Hid (tlE e ≤ 10000000) := Nat.le_trans HVK.out.2.2.2 (by decide)
      have HOL : Hid ((((vs.take i).map (clipE p t)).map VB.enc).length ≤ 1000000) := by
        show _ ≤ _
        rw [List.length_map, List.length_map, List.length_take]; omega
      have HCV : Hid (clipE p t ⟨d, a, e⟩ = ⟨d, if cmpE (some a) (some p) < 0 then p else a, if 0 < cmpE e t then t else e⟩) := rfl
      have C1 := Lib.hid (fun w => fr_compare (some a) (some p) w B1.out HPB.out)
      have C2 := Lib.hid (fun w => fr_compare e t w B2.out HTB.out)
      generalize cmpE (some a) (some p) = x1 at HCV C1
      generalize cmpE e t = x2 at HCV C2
      go_wp2_with fail
      refine (C1.out _).mono ?_
      rintro e' w1 ⟨hp1, rfl⟩
      have P1 := Lib.hid (PB.out.past hp1)
      have c0 := P1.out.c0
      have c1 := P1.out.c1
      have c2 := P1.out.c2
      have f1 := P1.out.f 1
      have f2 := P1.out.f 2
      clear hp1 e0 e1 e2
      by_cases h1 : x1 < 0
      · by_cases h2 : 0 < x2
        · have P2 := Lib.hid (P1.out.set1 (tE (some p)))
          go_wp2_with fail
          refine (C2.out _).mono ?_
          rintro e' w2 ⟨hp2, rfl⟩
          have P3 := Lib.hid (P2.out.past hp2)
          clear hp2 c0 c1 c2 f1 f2
          have c0 := P3.out.c0
          have c1 := P3.out.c1
          have c2 := P3.out.c2
          have f1 := P3.out.f 1
          have f2 := P3.out.f 2
          have P4 := Lib.hid (P3.out.set2 (tE t))
          go_wp2_with (first | (at_builtin; refine wpList_appS HEL.out (OwnS.alloc P4.out.2.1 _) rfl rfl rfl ⟨_, 0, none⟩ _ (VB.enc ⟨d, p, t⟩) rfl (cell_newS rBar _ _ _ _ _ (by simp [go_sem]) rfl) ?_ ?_; (have := HOL.out; omega); intro v9 w9 hown9 hp9))
          have HN9 : Hid (OwnS w w9 rBar 94 v9 (((vs.take (i + 1)).map (clipE p t)).map VB.enc)) := by
            show OwnS _ _ _ _ _ _
            rw [HFT.out, List.map_append, HCV.out, if_pos (by omega), if_pos (by omega)]
            exact hown9
          clear hown9
          go_roundg (n - (i + 1))
          case measure => have := HG.out; omega
          case rel => exact ⟨i + 1, _, rfl, by go_num, by omega, rfl, HN9.out⟩
        · have P2 := Lib.hid (P1.out.set1 (tE (some p)))
          go_wp2_with fail
          refine (C2.out _).mono ?_
          rintro e' w2 ⟨hp2, rfl⟩
          have P3 := Lib.hid (P2.out.past hp2)
          clear hp2 c0 c1 c2 f1 f2
          have c0 := P3.out.c0
          have c1 := P3.out.c1
          have c2 := P3.out.c2
          have f1 := P3.out.f 1
          have f2 := P3.out.f 2
          go_wp2_with (first | (at_builtin; refine wpList_appS HEL.out (OwnS.alloc P3.out.2.1 _) rfl rfl rfl ⟨_, 0, none⟩ _ (VB.enc ⟨d, p, e⟩) rfl (cell_newS rBar _ _ _ _ _ (by simp [go_sem]) rfl) ?_ ?_; (have := HOL.out; omega); intro v9 w9 hown9 hp9))
          have HN9 : Hid (OwnS w w9 rBar 94 v9 (((vs.take (i + 1)).map (clipE p t)).map VB.enc)) := by
            show OwnS _ _ _ _ _ _
            rw [HFT.out, List.map_append, HCV.out, if_pos (by omega), if_neg (by omega)]
            exact hown9
          clear hown9
          go_roundg (n - (i + 1))
          case measure => have := HG.out; omega
          case rel => exact ⟨i + 1, _, rfl, by go_num, by omega, rfl, HN9.out⟩
      · by_cases h2 : 0 < x2
        · go_wp2_with fail
          refine (C2.out _).mono ?_
          rintro e' w2 ⟨hp2, rfl⟩
          have P3 := Lib.hid (P1.out.past hp2)
          clear hp2 c0 c1 c2 f1 f2
          have c0 := P3.out.c0
          have c1 := P3.out.c1
          have c2 := P3.out.c2
          have f1 := P3.out.f 1
          have f2 := P3.out.f 2
          have P4 := Lib.hid (P3.out.set2 (tE t))
          go_wp2_with (first | (at_builtin; refine wpList_appS HEL.out (OwnS.alloc P4.out.2.1 _) rfl rfl rfl ⟨_, 0, none⟩ _ (VB.enc ⟨d, a, t⟩) rfl (cell_newS rBar _ _ _ _ _ (by simp [go_sem]) rfl) ?_ ?_; (have := HOL.out; omega); intro v9 w9 hown9 hp9))
          have HN9 : Hid (OwnS w w9 rBar 94 v9 (((vs.take (i + 1)).map (clipE p t)).map VB.enc)) := by
            show OwnS _ _ _ _ _ _
            rw [HFT.out, List.map_append, HCV.out, if_neg (by omega), if_pos (by omega)]
            exact hown9
          clear hown9
          go_roundg (n - (i + 1))
          case measure => have := HG.out; omega
          case rel => exact ⟨i + 1, _, rfl, by go_num, by omega, rfl, HN9.out⟩
        · go_wp2_with fail
          refine (C2.out _).mono ?_
          rintro e' w2 ⟨hp2, rfl⟩
          have P3 := Lib.hid (P1.out.past hp2)
          clear hp2 c0 c1 c2 f1 f2
          have c0 := P3.out.c0
          have c1 := P3.out.c1
          have c2 := P3.out.c2
          have f1 := P3.out.f 1
          have f2 := P3.out.f 2
          go_wp2_with (first | (at_builtin; refine wpList_appS HEL.out (OwnS.alloc P3.out.2.1 _) rfl rfl rfl ⟨_, 0, none⟩ _ (VB.enc ⟨d, a, e⟩) rfl (cell_newS rBar _ _ _ _ _ (by simp [go_sem]) rfl) ?_ ?_; (have := HOL.out; omega); intro v9 w9 hown9 hp9))
          have HN9 : Hid (OwnS w w9 rBar 94 v9 (((vs.take (i + 1)).map (clipE p t)).map VB.enc)) := by
            show OwnS _ _ _ _ _ _
            rw [HFT.out, List.map_append, HCV.out, if_neg (by omega), if_neg (by omega)]
            exact hown9
          clear hown9
          go_roundg (n - (i + 1))
          case measure => have := HG.out; omega
          case rel => exact ⟨i + 1, _, rfl, by go_num, by omega, rfl, HN9.out⟩
    · have HN : Hid (vs.take i = vs) := List.take_of_length_le (by have := HL.out; omega)
      have HO2 := HO.out
      rw [HN.out] at HO2
      obtain ⟨A3, c3, rfl, hr3⟩ := HO2.reads
      have HR3 := Lib.hid hr3
      have hlen : ((vs.map (clipE p t)).map VB.enc).length = n := by rw [List.length_map, List.length_map]; exact HL.out
      rw [hlen] at HR3 ⊢
      have HP2 := Lib.hid HO2.2
      clear HO2 hr3 hlen HO
      go_wp2_with fail
      refine (ref_sortedL A3 n c3 (vs.map (clipE p t)) _ HR3.out (fun v hv => by
        obtain ⟨u, hu, rfl⟩ := List.mem_map.1 hv
        exact (clipE_ok (HOK.out u hu) HPT.out HTT.out).L) (by omega)).mono ?_
      rintro e w5 ⟨hp5, v5, rfl, ho5⟩
      go_wp2
      go_ret
      exact ⟨HP2.out.trans hp5, _, rfl, ho5.low HP2.out⟩

end Go.Proofs.YtdcjibjldfjllaaGreat
