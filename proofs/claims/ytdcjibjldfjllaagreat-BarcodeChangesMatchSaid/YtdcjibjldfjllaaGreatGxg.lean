/- Helpers of the proof, joined: Shf Shc. -/
import Derived.Test.YtdcjibjldfjllaaGreatGxf
import Derived.Laws.EntriesVeiled
set_option linter.unusedVariables false
set_option linter.unusedSimpArgs false
/- barcode.Shift. -/
namespace Go.Proofs.YtdcjibjldfjllaaGreat
open Go.RowKit

theorem chk_ok : ∀ (p : Option Bar) (l : List Bar), chkFrom p l = 0 → ∀ b ∈ l, validB b = true
  | _, [], _, b, hb => by cases hb
  | p, x :: l, h, b, hb => by
    unfold chkFrom at h
    split at h
    · cases h
    · rename_i h1
      split at h
      · cases h
      · rcases List.mem_cons.1 hb with rfl | hb
        · cases hv : validB b with
          | true => rfl
          | false => exact absurd (Or.inl hv) h1
        · exact chk_ok _ l h b hb
theorem check_okBar {l : List Bar} (h : checkB l = 0) (hf : ∀ b ∈ l, b.fit) : ∀ b ∈ l, okBar b := by
  intro b hb
  have hv : validB b = true := by
    unfold checkB at h
    split at h
    · cases h
    · exact chk_ok _ l h b hb
  unfold validB at hv
  simp only [Bool.and_eq_true] at hv
  exact ⟨hf b hb, hv.1.1.2, hv.1.2⟩

theorem eachT_ok {F : Rat → Rat} {x : ByteArray} (hx : okV (byt x) = true) (ho : eachOk F x = true) : okV (byt (eachT F x)) = true ∧ (eachT F x).size ≤ 100000000 := by
  have hi := okV_notInf hx
  unfold eachOk at ho
  rw [hi, Bool.false_or] at ho
  have hl : longQ (F (valR (byt x))) = false := by simpa using ho
  unfold eachT
  rw [hi, if_neg (by simp), byt_tQ]
  refine ⟨?_, ?_⟩
  · unfold okV; rw [okR_rtx, valR_rtx, hl]; rfl
  · have h1 := tQ_size (F (valR (byt x)))
    have h2 := longQ_dl hl
    omega
theorem each_ok {F : Rat → Rat} (b : Bar) (h : eachPre F b) (hk : (eachChg F b).2.1 = true) : okBar (eachChg F b).1 := by
  unfold eachChg at hk ⊢
  dsimp only at hk ⊢
  rw [Bool.and_eq_true] at hk
  have h1 := eachT_ok h.1.2.1 hk.1
  by_cases hi : isInf (byt b.y) = true
  · have e : eachT F b.y = b.y := by unfold eachT; rw [if_pos hi]
    exact ⟨⟨h1.2, by show (eachT F b.y).size ≤ _; rw [e]; exact h.1.1.2⟩, h1.1, by show okE (byt (eachT F b.y)) = true; rw [e]; exact h.1.2.2⟩
  · have hv : okV (byt b.y) = true := by
      have := h.1.2.2
      unfold okE at this
      simpa [hi] using this
    have h2 := eachT_ok hv hk.2
    exact ⟨⟨h1.2, h2.2⟩, h1.1, by show okE (byt (eachT F b.y)) = true; unfold okE; rw [h2.1]; simp⟩

set_option maxRecDepth 100000 in
set_option maxHeartbeats 4000000 in
theorem bar_each (kf : Nat) (fa : Array Value) (w : World) :
    Calls Tryz.prog 90 #[.func (.func kf) fa #[]] w fun e w' => Past w w' ∧ ∃ gf go, e = .returned (.func (.func 143) #[] #[.pointer (some ⟨go, 0, none⟩)]) ∧ w'.cell? ⟨gf, 0, none⟩ = some (.func (.func kf) fa #[]) ∧ w'.cell? ⟨go, 0, none⟩ = some (.func (.func 142) #[] #[.pointer (some ⟨gf, 0, none⟩)]) := by
  have hmf : ∀ (fn : Fn) (first cap : Array Value) (w : World), (Instr.makeFunc fn first cap).run Tryz.prog w = .ok (.func fn first cap) w := fun _ _ _ _ => rfl
  go_enter Tryz.func90, Tryz.ntmps90
  go_wp2
  go_ret
  exact ⟨((Past.refl w).alloc _).alloc _, w.heap.size, w.heap.size + 1, rfl, by simp [go_sem], by simp [go_sem]⟩

/-- What barcode.Shift answers. -/
def shiftB (bs : List Bar) (s : ByteArray) : List Bar × Int :=
  if checkB bs ≠ 0 then ([], checkB bs) else if okV (byt s) = false then ([], 1) else chgAll [eachChg (fun q => valR (byt s) + q)] [] bs
def eachG (F : Rat → Rat) (k : Nat) (b : Bar) : Prop := if k = 0 then eachPre F b else okBar b

set_option maxRecDepth 100000 in
set_option maxHeartbeats 8000000 in
theorem bar_shift (A : Option Addr) (n c : Nat) (bs : List Bar) (s : ByteArray) (w : World) (hx : Rows w rBar A n c bs) (hf : ∀ b ∈ bs, b.fit) (hs : s.size ≤ 100000000) (hn : n ≤ 1000000) :
    Calls Tryz.prog 31 #[.slice A n c, .string s] w fun e w' => Past w w' ∧ ∃ v, e = .returned (.tuple #[v, .int .i64 (shiftB bs s).2]) ∧ OwnS w w' rBar 94 v (shiftB bs s).1 ∧ ∀ b ∈ (shiftB bs s).1, okBar b := by
  have HX := Lib.hid hx
  have HF := Lib.hid hf
  have HS := Lib.hid hs
  have HN := Lib.hid hn
  clear hx hf hs hn
  have hmf : ∀ (fn : Fn) (first cap : Array Value) (w : World), (Instr.makeFunc fn first cap).run Tryz.prog w = .ok (.func fn first cap) w := fun _ _ _ _ => rfl
  obtain ⟨ec, hec⟩ : ∃ x, checkB bs = x := ⟨_, rfl⟩
  have HRK : Hid (shiftB bs s = if ec ≠ 0 then ([], ec) else if okV (byt s) = false then ([], 1) else chgAll [eachChg (fun q => valR (byt s) + q)] [] bs) := by unfold shiftB; rw [hec]; exact rfl
  have HEC := Lib.hid hec
  clear hec
  by_cases h0 : ec = 0
  · subst h0
    have HOKB := Lib.hid (check_okBar HEC.out HF.out)
    obtain ⟨v1, hv1⟩ : ∃ x, okV (byt s) = x := ⟨_, rfl⟩
    have HV1 := Lib.hid hv1
    cases v1 with
    | false =>
      have HR : Hid (shiftB bs s = ([], 1)) := by show _ = _; rw [HRK.out]; simp [hv1]
      clear hv1
      go_enter Tryz.func31, Tryz.ntmps31
      go_wp2_with fail
      refine (bar_check A n c bs _ HX.out HF.out).mono ?_
      rintro e w1 ⟨hp1, rfl⟩
      rw [HEC.out]
      go_wp2_with (first | (go_at_call 72; (with_reducible refine (ratio_valid s _ HS.out).mono ?_); rintro e w2 ⟨hp2, rfl⟩; rw [HV1.out]))
      go_ret2
      exact ⟨hp1.trans hp2, _, by rw [HR.out]; rfl, by rw [HR.out]; exact OwnS.nil (hp1.trans hp2) _ _, by rw [HR.out]; intro b hb; cases hb⟩
    | true =>
      obtain ⟨F, hF⟩ : ∃ F : Rat → Rat, (fun q => valR (byt s) + q) = F := ⟨_, rfl⟩
      have HR : Hid (shiftB bs s = chgAll [eachChg F] [] bs) := by show _ = _; rw [HRK.out, ← hF]; simp [hv1]
      have HPRE : Hid (∀ b ∈ bs, eachPre F b) := by
        intro b hb
        have hl : ∀ x : ByteArray, x.size ≤ 100000000 → lenQ (F (valR (byt x))) < 8589934592 := fun x hx => by
          rw [← hF]
          have h1 := lenQ_add (valR (byt s)) (valR (byt x))
          have h2 := lenQ_valR (byt s)
          have h3 := lenQ_valR (byt x)
          rw [byt_length] at h2 h3
          have := HS.out
          dsimp only
          omega
        have ho := HOKB.out b hb
        exact ⟨ho, fun _ => hl _ ho.1.1, fun _ => hl _ ho.1.2⟩
      have HLR : Hid (lenQ (valR (byt s)) < 8589934592) := by
        have h2 := lenQ_valR (byt s)
        rw [byt_length] at h2
        have := HS.out
        unfold Hid; omega
      have HFF := Lib.hid hF
      clear hv1 hF
      go_enter Tryz.func31, Tryz.ntmps31
      go_wp2_with fail
      refine (bar_check A n c bs _ HX.out HF.out).mono ?_
      rintro e w1 ⟨hp1, rfl⟩
      rw [HEC.out]
      have HP1 := Lib.hid hp1
      clear hp1
      go_wp2_with fail
      refine (ratio_valid s _ HS.out).mono ?_
      rintro e w2 ⟨hp2, rfl⟩
      rw [HV1.out]
      have HP2 := Lib.hid (HP1.out.trans hp2)
      clear hp2
      go_wp2_with fail
      refine (bar_number s _ HS.out).mono ?_
      rintro e w3 ⟨hp3, s1, A1, n1, c1, t1, B1, m1, d1, rfl, hr1⟩
      have HP3 := Lib.hid (HP2.out.trans hp3)
      have HR1 := Lib.hid hr1
      clear hp3 hr1
      go_wp2_with fail
      refine (bar_each _ _ _).mono ?_
      rintro e w4 ⟨hp4, gf, go, rfl, hcf, hco⟩
      have HP4 : Hid (Past w w4) := (HP3.out.alloc _).trans hp4
      have HP34 : Hid (Past w3 w4) := ((Past.refl _).alloc _).trans hp4
      have HCF := Lib.hid hcf
      have HCO := Lib.hid hco
      clear hp4 hcf hco
      go_wp2_with fail
      have HRW : Hid (RQ w4 s1 A1 n1 c1 t1 B1 m1 d1 (valR (byt s))) := HR1.out.past HP34.out
      refine (bar_changed2 (eachG F) okBar (fun b h => h.1) A (some ⟨w4.heap.size, 0, none⟩) n c 1 1 bs [.func (.func 143) #[] #[.pointer (some ⟨go, 0, none⟩)]] [eachChg F] _ (HX.out.past (HP4.out.alloc _)) (fun b hb => by unfold eachG; rw [if_pos rfl]; exact HPRE.out b hb) (fun b h => by unfold eachG at h; rw [if_neg (by omega)] at h; exact h) HN.out (sortOk_any (fun b h => h) (by have := HN.out; omega)) rfl rfl (by omega) (fun _ => ⟨_, _, rfl, ?_⟩) ?_).mono ?_
      · intro j hj
        match j, hj with
        | 0, _ => exact cell_new1 _ _ _
      · intro j hj _
        match j, hj with
        | 0, _ =>
          have hone : OneOk (w4.alloc (.cells #[.func (.func 143) #[] #[.pointer (some ⟨go, 0, none⟩)]] 133)) gf F := by
            intro w' g o x hp hg hx hfz hsz hl
            rw [← HFF.out] at hl ⊢
            exact each1_add w4 w' gf g o s1 A1 n1 c1 t1 B1 m1 d1 (valR (byt s)) x HCF.out HRW.out HLR.out (((Past.refl w4).alloc _).trans hp) (Nat.le_trans ((Past.refl w4).alloc _).size hg) hx hfz hsz hl
          exact each2_chg _ gf go F (((Past.refl w4).alloc _).cell HCO.out) hone _ (fun b h1 h2 => by unfold eachG; rw [if_neg (by omega)]; exact each_ok b h1 h2)
      · rintro e w5 ⟨hp5, v, rfl, hown, hq⟩
        have HOW : Hid (Past w w5 ∧ OwnS w w5 rBar 94 v (chgAll [eachChg F] [] bs).1 ∧ ∀ b ∈ (chgAll [eachChg F] [] bs).1, okBar b) := ⟨(HP4.out.alloc _).trans hp5, hown.low (HP4.out.alloc _), hq⟩
        clear hp5 hown hq
        go_wp2
        go_ret2
        exact ⟨HOW.out.1, v, by rw [HR.out]; rfl, by rw [HR.out]; exact HOW.out.2.1, by rw [HR.out]; exact HOW.out.2.2⟩
  · have HR : Hid (shiftB bs s = ([], ec)) := by show _ = _; rw [HRK.out, if_pos h0]
    have hb : (ec != 0) = true := by simp [h0]
    go_enter Tryz.func31, Tryz.ntmps31
    go_wp2_with fail
    refine (bar_check A n c bs _ HX.out HF.out).mono ?_
    rintro e w1 ⟨hp1, rfl⟩
    rw [HEC.out]
    go_wp2
    go_ret2
    exact ⟨hp1, _, by rw [HR.out]; rfl, by rw [HR.out]; exact OwnS.nil hp1 _ _, by rw [HR.out]; intro b hb; cases hb⟩

end Go.Proofs.YtdcjibjldfjllaaGreat

/- barcode.Scale. -/
namespace Go.Proofs.YtdcjibjldfjllaaGreat
open Go.RowKit

/-- What barcode.Scale answers. -/
def scaleB (bs : List Bar) (s : ByteArray) : List Bar × Int :=
  if checkB bs ≠ 0 then ([], checkB bs) else if okV (byt s) = false ∨ cmpT (byt s) [48] ≤ 0 then ([], 1) else chgAll [eachChg (fun q => valR (byt s) * q)] [] bs

set_option maxRecDepth 100000 in
set_option maxHeartbeats 8000000 in
theorem bar_scale (A : Option Addr) (n c : Nat) (bs : List Bar) (s : ByteArray) (w : World) (hx : Rows w rBar A n c bs) (hf : ∀ b ∈ bs, b.fit) (hs : s.size ≤ 100000000) (hn : n ≤ 1000000) :
    Calls Tryz.prog 34 #[.slice A n c, .string s] w fun e w' => Past w w' ∧ ∃ v, e = .returned (.tuple #[v, .int .i64 (scaleB bs s).2]) ∧ OwnS w w' rBar 94 v (scaleB bs s).1 ∧ ∀ b ∈ (scaleB bs s).1, okBar b := by
  have HX := Lib.hid hx
  have HF := Lib.hid hf
  have HS := Lib.hid hs
  have HN := Lib.hid hn
  clear hx hf hs hn
  have hmf : ∀ (fn : Fn) (first cap : Array Value) (w : World), (Instr.makeFunc fn first cap).run Tryz.prog w = .ok (.func fn first cap) w := fun _ _ _ _ => rfl
  obtain ⟨ec, hec⟩ : ∃ x, checkB bs = x := ⟨_, rfl⟩
  have HRK : Hid (scaleB bs s = if ec ≠ 0 then ([], ec) else if okV (byt s) = false ∨ cmpT (byt s) [48] ≤ 0 then ([], 1) else chgAll [eachChg (fun q => valR (byt s) * q)] [] bs) := by unfold scaleB; rw [hec]; exact rfl
  have HEC := Lib.hid hec
  clear hec
  by_cases h0 : ec = 0
  · subst h0
    have HOKB := Lib.hid (check_okBar HEC.out HF.out)
    obtain ⟨v1, hv1⟩ : ∃ x, okV (byt s) = x := ⟨_, rfl⟩
    have HV1 := Lib.hid hv1
    cases v1 with
    | false =>
      have HR : Hid (scaleB bs s = ([], 1)) := by show _ = _; rw [HRK.out]; simp [hv1]
      clear hv1
      go_enter Tryz.func34, Tryz.ntmps34
      go_wp2_with fail
      refine (bar_check A n c bs _ HX.out HF.out).mono ?_
      rintro e w1 ⟨hp1, rfl⟩
      rw [HEC.out]
      go_wp2_with (first | (go_at_call 72; (with_reducible refine (ratio_valid s _ HS.out).mono ?_); rintro e w2 ⟨hp2, rfl⟩; rw [HV1.out]))
      go_ret2
      exact ⟨hp1.trans hp2, _, by rw [HR.out]; rfl, by rw [HR.out]; exact OwnS.nil (hp1.trans hp2) _ _, by rw [HR.out]; intro b hb; cases hb⟩
    | true =>
      obtain ⟨cc, hcc⟩ : ∃ x, cmpT (byt s) [48] = x := ⟨_, rfl⟩
      have HCC : Hid (cmpT (byt s) (byt ⟨#[48]⟩) = cc) := hcc
      by_cases hle : cc ≤ 0
      · have HR : Hid (scaleB bs s = ([], 1)) := by show _ = _; rw [HRK.out]; simp [hv1, hcc, hle]
        clear hv1 hcc
        go_enter Tryz.func34, Tryz.ntmps34
        go_wp2_with fail
        refine (bar_check A n c bs _ HX.out HF.out).mono ?_
        rintro e w1 ⟨hp1, rfl⟩
        rw [HEC.out]
        go_wp2_with fail
        refine (ratio_valid s _ HS.out).mono ?_
        rintro e w2 ⟨hp2, rfl⟩
        rw [HV1.out]
        go_wp2_with fail
        refine (ratio_Cmp s ⟨#[48]⟩ _ HS.out (by decide)).mono ?_
        rintro e w3 ⟨hp3, rfl⟩
        rw [HCC.out]
        go_wp2
        go_ret2
        exact ⟨(hp1.trans hp2).trans hp3, _, by rw [HR.out]; rfl, by rw [HR.out]; exact OwnS.nil ((hp1.trans hp2).trans hp3) _ _, by rw [HR.out]; intro b hb; cases hb⟩
      · obtain ⟨F, hF⟩ : ∃ F : Rat → Rat, (fun q => valR (byt s) * q) = F := ⟨_, rfl⟩
        have HR : Hid (scaleB bs s = chgAll [eachChg F] [] bs) := by show _ = _; rw [HRK.out, ← hF]; simp [hv1, hcc, hle]
        have HPRE : Hid (∀ b ∈ bs, eachPre F b) := by
          intro b hb
          have hl : ∀ x : ByteArray, x.size ≤ 100000000 → lenQ (F (valR (byt x))) < 8589934592 := fun x hx => by
            rw [← hF]
            have h1 := lenQ_mul (valR (byt s)) (valR (byt x))
            have h2 := lenQ_valR (byt s)
            have h3 := lenQ_valR (byt x)
            rw [byt_length] at h2 h3
            have := HS.out
            dsimp only
            omega
          have ho := HOKB.out b hb
          exact ⟨ho, fun _ => hl _ ho.1.1, fun _ => hl _ ho.1.2⟩
        have HLR : Hid (lenQ (valR (byt s)) < 8589934592) := by
          have h2 := lenQ_valR (byt s)
          rw [byt_length] at h2
          have := HS.out
          unfold Hid; omega
        have HFF := Lib.hid hF
        clear hv1 hF hcc
        go_enter Tryz.func34, Tryz.ntmps34
        go_wp2_with fail
        refine (bar_check A n c bs _ HX.out HF.out).mono ?_
        rintro e w1 ⟨hp1, rfl⟩
        rw [HEC.out]
        have HP1 := Lib.hid hp1
        clear hp1
        go_wp2_with fail
        refine (ratio_valid s _ HS.out).mono ?_
        rintro e w2 ⟨hp2, rfl⟩
        rw [HV1.out]
        have HP2a := Lib.hid (HP1.out.trans hp2)
        clear hp2
        go_wp2_with fail
        refine (ratio_Cmp s ⟨#[48]⟩ _ HS.out (by decide)).mono ?_
        rintro e w2' ⟨hp2', rfl⟩
        have HP2 := Lib.hid (HP2a.out.trans hp2')
        clear hp2'
        rw [HCC.out]
        go_wp2_with fail
        refine (bar_number s _ HS.out).mono ?_
        rintro e w3 ⟨hp3, s1, A1, n1, c1, t1, B1, m1, d1, rfl, hr1⟩
        have HP3 := Lib.hid (HP2.out.trans hp3)
        have HR1 := Lib.hid hr1
        clear hp3 hr1
        go_wp2_with fail
        refine (bar_each _ _ _).mono ?_
        rintro e w4 ⟨hp4, gf, go, rfl, hcf, hco⟩
        have HP4 : Hid (Past w w4) := (HP3.out.alloc _).trans hp4
        have HP34 : Hid (Past w3 w4) := ((Past.refl _).alloc _).trans hp4
        have HCF := Lib.hid hcf
        have HCO := Lib.hid hco
        clear hp4 hcf hco
        go_wp2_with fail
        have HRW : Hid (RQ w4 s1 A1 n1 c1 t1 B1 m1 d1 (valR (byt s))) := HR1.out.past HP34.out
        refine (bar_changed2 (eachG F) okBar (fun b h => h.1) A (some ⟨w4.heap.size, 0, none⟩) n c 1 1 bs [.func (.func 143) #[] #[.pointer (some ⟨go, 0, none⟩)]] [eachChg F] _ (HX.out.past (HP4.out.alloc _)) (fun b hb => by unfold eachG; rw [if_pos rfl]; exact HPRE.out b hb) (fun b h => by unfold eachG at h; rw [if_neg (by omega)] at h; exact h) HN.out (sortOk_any (fun b h => h) (by have := HN.out; omega)) rfl rfl (by omega) (fun _ => ⟨_, _, rfl, ?_⟩) ?_).mono ?_
        · intro j hj
          match j, hj with
          | 0, _ => exact cell_new1 _ _ _
        · intro j hj _
          match j, hj with
          | 0, _ =>
            have hone : OneOk (w4.alloc (.cells #[.func (.func 143) #[] #[.pointer (some ⟨go, 0, none⟩)]] 133)) gf F := by
              intro w' g o x hp hg hx hfz hsz hl
              rw [← HFF.out] at hl ⊢
              exact each1_mul w4 w' gf g o s1 A1 n1 c1 t1 B1 m1 d1 (valR (byt s)) x HCF.out HRW.out HLR.out (((Past.refl w4).alloc _).trans hp) (Nat.le_trans ((Past.refl w4).alloc _).size hg) hx hfz hsz hl
            exact each2_chg _ gf go F (((Past.refl w4).alloc _).cell HCO.out) hone _ (fun b h1 h2 => by unfold eachG; rw [if_neg (by omega)]; exact each_ok b h1 h2)
        · rintro e w5 ⟨hp5, v, rfl, hown, hq⟩
          have HOW : Hid (Past w w5 ∧ OwnS w w5 rBar 94 v (chgAll [eachChg F] [] bs).1 ∧ ∀ b ∈ (chgAll [eachChg F] [] bs).1, okBar b) := ⟨(HP4.out.alloc _).trans hp5, hown.low (HP4.out.alloc _), hq⟩
          clear hp5 hown hq
          go_wp2
          go_ret2
          exact ⟨HOW.out.1, v, by rw [HR.out]; rfl, by rw [HR.out]; exact HOW.out.2.1, by rw [HR.out]; exact HOW.out.2.2⟩
  · have HR : Hid (scaleB bs s = ([], ec)) := by show _ = _; rw [HRK.out, if_pos h0]
    have hb : (ec != 0) = true := by simp [h0]
    go_enter Tryz.func34, Tryz.ntmps34
    go_wp2_with fail
    refine (bar_check A n c bs _ HX.out HF.out).mono ?_
    rintro e w1 ⟨hp1, rfl⟩
    rw [HEC.out]
    go_wp2
    go_ret2
    exact ⟨hp1, _, by rw [HR.out]; rfl, by rw [HR.out]; exact OwnS.nil hp1 _ _, by rw [HR.out]; intro b hb; cases hb⟩

end Go.Proofs.YtdcjibjldfjllaaGreat
