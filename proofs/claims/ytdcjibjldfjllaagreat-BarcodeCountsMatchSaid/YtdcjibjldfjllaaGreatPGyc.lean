/- Helpers of the proof, joined: AppR Va14 Vl5 LwCk RkB. -/
import Derived.Test.YtdcjibjldfjllaaGreatPGxa
import Derived.Test.YtdcjibjldfjllaaGreatPGa
import Derived.Test.YtdcjibjldfjllaaGreatPGyb
import Derived.Test.YtdcjibjldfjllaaGreatPGu
import Derived.Test.YtdcjibjldfjllaaGreatPGs
import Derived.Test.YtdcjibjldfjllaaGreatPGp
import Derived.Test.YtdcjibjldfjllaaGreatPGm
import Derived.OpenShut
import Derived.Deep.Slices
import Derived.Deep.Fields
import Derived.Deep.Strs
import Derived.ChangeSame
import Derived.SliceStrings
set_option linter.unusedVariables false
set_option linter.unusedSimpArgs false
/- 'append(out, ys...)' onto a row of the call's own, for elements of several cells. -/
namespace Go.Proofs.YtdcjibjldfjllaaGreat
open Go.RowKit

end Go.Proofs.YtdcjibjldfjllaaGreat

/- The reference's Check of any bars. -/
namespace Go.Proofs.YtdcjibjldfjllaaGreat
open Go.RowKit

theorem ref_cmpB (a b : Bar) (w : World) (ha : validB a = true) (hb : validB b = true) (fa : a.x.size ≤ 1000000 ∧ a.y.size ≤ 1000000) (fb : b.x.size ≤ 1000000 ∧ b.y.size ≤ 1000000) :
    Calls Tryz.prog 64 #[.agg #[.int .i64 a.d, .string a.x, .string a.y], .agg #[.int .i64 b.d, .string b.x, .string b.y]] w fun e w' => Past w w' ∧ ∃ c, e = .returned (.int .i64 c) ∧ decide (c < 0) = ltB a b := by
  obtain ⟨e1, o1⟩ := decB_ok ha fa
  obtain ⟨e2, o2⟩ := decB_ok hb fb
  have h := ref_cmpL (decB a) (decB b) w o1 o2
  have x1 : tE (some (decB a).q) = a.x := congrArg Bar.x e1
  have x2 : tE (decB a).e = a.y := congrArg Bar.y e1
  have x3 : tE (some (decB b).q) = b.x := congrArg Bar.x e2
  have x4 : tE (decB b).e = b.y := congrArg Bar.y e2
  rw [x1, x2, x3, x4] at h
  refine h.mono fun e w' ⟨hp, he⟩ => ⟨hp, _, he, ?_⟩
  rw [dec_lt ha hb]
  rfl

/-- What holds at a round of the check: the bar before is valid. -/
def prevOk (l : List Bar) (i : Nat) : Prop := ∀ p, prev l i = some p → validB p = true

set_option maxRecDepth 100000 in
set_option maxHeartbeats 4000000 in
theorem ref_checkG (A : Option Addr) (n c : Nat) (bs : List Bar) (w : World) (hx : Rows w rBar A n c bs) (hf : ∀ b ∈ bs, b.x.size ≤ 1000000 ∧ b.y.size ≤ 1000000) :
    Calls Tryz.prog 16 #[.slice A n c] w fun e w' => Past w w' ∧ e = .returned (.int .i64 (checkB bs)) := by
  have HX := Lib.hid hx
  have HL := Lib.hid hx.len
  have HF := Lib.hid hf
  clear hx hf
  by_cases hn : 2048 < n
  · have hb : (2048 : Int) < (n : Int) := by omega
    have HR : Hid (checkB bs = 3) := by unfold checkB; rw [HL.out, if_pos hn]; exact rfl
    go_enter Tryz.func16, Tryz.ntmps16
    go_wp2
    go_ret
    exact ⟨Past.refl _, by rw [HR.out]; rfl⟩
  have HR : Hid (checkB bs = chkFrom none bs) := by unfold checkB; rw [HL.out, if_neg hn]; exact rfl
  have hb : ¬ (2048 : Int) < (n : Int) := by omega
  have hn2 : n ≤ 2048 := by omega
  clear hn
  go_enter Tryz.func16, Tryz.ntmps16
  go_wp2_with fail
  go_loopw [3] (fun iv w' => ∃ i : Nat, i ≤ n ∧ iv = .int .i64 i ∧ Hid (chkFrom (prev bs i) (bs.drop i) = chkFrom none bs ∧ prevOk bs i) ∧ Hid (Past w w')) (fun iv _ => n - (intOf iv).toNat)
  case atStart => exact ⟨0, Nat.zero_le _, rfl, ⟨rfl, fun p hp => by cases hp⟩, Past.refl _⟩
  case round =>
    obtain ⟨i, hi, rfl, HO, HP⟩ := hrel
    by_cases hin : i < n
    · have hil : i < bs.length := by have := HL.out; omega
      obtain ⟨b1, o1, rfl, hc1⟩ := HX.out.bar (by omega)
      have hbi := (hc1 i hil).past HP.out
      obtain ⟨b, hbe⟩ : ∃ b, bs[i] = b := ⟨_, rfl⟩
      rw [hbe] at hbi
      have hfit : b.x.size ≤ 1000000 ∧ b.y.size ≤ 1000000 := by rw [← hbe]; exact HF.out _ (List.getElem_mem hil)
      have hst := chk_step hil hbe
      have HST := Lib.hid hst
      have HFIT := Lib.hid hfit
      have HC1 := Lib.hid hc1
      have HPN : Hid (prev bs (i + 1) = some b) := by unfold Hid prev; rw [if_neg (by omega), Nat.add_sub_cancel, List.getElem?_eq_getElem hil, hbe]
      obtain ⟨d, x, y⟩ := b
      have e0 : wr.cell? ⟨b1, o1 + i * 3, none⟩ = some (.int .i64 d) := hbi.1
      have e1 : wr.cell? ⟨b1, o1 + i * 3 + 1, none⟩ = some (.string x) := hbi.2.1
      have e2 : wr.cell? ⟨b1, o1 + i * 3 + 2, none⟩ = some (.string y) := hbi.2.2
      have F3 := Lib.hid (And.intro e0 (And.intro e1 e2))
      have PD : Hid (Past wr wr.drew) := (Past.refl wr).drew
      clear hst hfit hc1 hbe hbi e0 e1 e2
      obtain ⟨v, hv⟩ : ∃ v, validB ⟨d, x, y⟩ = v := ⟨_, rfl⟩
      have C : Hid (∀ w, Calls Tryz.prog 63 #[.agg #[.int .i64 d, .string x, .string y]] w fun e w' => Past w w' ∧ e = .returned (.bool v)) := fun w => by rw [← hv]; exact ref_barValid ⟨d, x, y⟩ w HFIT.out
      have HV := Lib.hid hv
      have hiz : (i : Int) < (n : Int) := by omega
      cases v with
      | false =>
        have HN : Hid (chkFrom none bs = 1) := by
          show _ = _
          rw [← HO.out.1, HST.out, if_pos (.inl hv)]
        clear hv
        go_wp2_with fail
        refine wp_region_held_drew (S := (fun w' => w'.cell? ⟨b1, o1 + i * 3, none⟩ = some (.int .i64 d) ∧ w'.cell? ⟨b1, o1 + i * 3 + 1, none⟩ = some (.string x) ∧ w'.cell? ⟨b1, o1 + i * 3 + 2, none⟩ = some (.string y))) (by kernel_rfl) ?_ (fun hHeld => ?_)
        · try dsimp only
          (first | (refine keep3 hp1 ?_; assumption) | (refine keep3 PD.out ?_; exact F3.out))
        refine wpAnyH_take (i := 0) (v := ?_) rfl (by kernel_rfl) (by kernel_rfl) (by kernel_rfl) (fun _ _ _ h => h) (Or.inl ⟨by rfl, ?_⟩) (by assumption) ?_
        rotate_left
        · intro w hSw
          try dsimp only at hSw
          go_simp
          try with_reducible rfl
        try simp only [Act.put, List.getElem_toArray, List.getElem_cons_succ, List.getElem_cons_zero, List.setIfInBounds_toArray, List.set_cons_zero, List.set_cons_succ]
        refine wpAnyH_take (i := 1) (v := ?_) rfl (by kernel_rfl) (by kernel_rfl) (by kernel_rfl) (fun _ _ _ h => h) (Or.inl ⟨by rfl, ?_⟩) (by assumption) ?_
        rotate_left
        · intro w hSw
          try dsimp only at hSw
          go_simp
          try with_reducible rfl
        try simp only [Act.put, List.getElem_toArray, List.getElem_cons_succ, List.getElem_cons_zero, List.setIfInBounds_toArray, List.set_cons_zero, List.set_cons_succ]
        refine wpAnyH_take (i := 2) (v := ?_) rfl (by kernel_rfl) (by kernel_rfl) (by kernel_rfl) (fun _ _ _ h => h) (Or.inl ⟨by rfl, ?_⟩) (by assumption) ?_
        rotate_left
        · intro w hSw
          try dsimp only at hSw
          go_simp
          try with_reducible rfl
        try simp only [Act.put, List.getElem_toArray, List.getElem_cons_succ, List.getElem_cons_zero, List.setIfInBounds_toArray, List.set_cons_zero, List.set_cons_succ]
        refine wpAnyH_take (i := 3) (v := ?_) rfl (by kernel_rfl) (by kernel_rfl) (by kernel_rfl) (fun _ _ _ h => h) (Or.inl ⟨by rfl, ?_⟩) (by assumption) ?_
        rotate_left
        · intro w hSw
          try dsimp only at hSw
          go_simp
          try with_reducible rfl
        try simp only [Act.put, List.getElem_toArray, List.getElem_cons_succ, List.getElem_cons_zero, List.setIfInBounds_toArray, List.set_cons_zero, List.set_cons_succ]
        refine wpAnyH_ready (rs := [4]) (by kernel_rfl) (by simp) ?_
        refine AllReadyH.cons rfl (fun K hK => ?_) AllReadyH.nil
        go_simp
        (go_at_call 63; ((with_reducible refine (C.out _).mono ?_)); rintro e w1 ⟨hp1, rfl⟩)
        refine hK.out _ _ ?_ (fun hHeld => ?_)
        · try dsimp only
          (first | (refine keep3 hp1 ?_; assumption) | (refine keep3 PD.out ?_; exact F3.out))
        clear hK K
        try simp only [Act.put, List.getElem_toArray, List.getElem_cons_succ, List.getElem_cons_zero, List.setIfInBounds_toArray, List.set_cons_zero, List.set_cons_succ]
        refine wpAnyH_take (i := 5) (v := ?_) rfl (by kernel_rfl) (by kernel_rfl) (by kernel_rfl) (fun _ _ _ h => h) (Or.inl ⟨by rfl, ?_⟩) (by assumption) ?_
        rotate_left
        · intro w hSw
          try dsimp only at hSw
          go_simp
          try with_reducible rfl
        try simp only [Act.put, List.getElem_toArray, List.getElem_cons_succ, List.getElem_cons_zero, List.setIfInBounds_toArray, List.set_cons_zero, List.set_cons_succ]
        refine wpAnyH_take (i := 6) (v := ?_) rfl (by kernel_rfl) (by kernel_rfl) (by kernel_rfl) (fun _ _ _ h => h) (Or.inl ⟨by rfl, ?_⟩) (by assumption) ?_
        rotate_left
        · intro w hSw
          try dsimp only at hSw
          go_simp
          try with_reducible rfl
        try simp only [Act.put, List.getElem_toArray, List.getElem_cons_succ, List.getElem_cons_zero, List.setIfInBounds_toArray, List.set_cons_zero, List.set_cons_succ]
        refine wpAnyH_take (i := 7) (v := undef) rfl (by kernel_rfl) (by kernel_rfl) (by kernel_rfl) (fun _ _ _ h => h) (Or.inr ⟨by rfl, rfl⟩) (by assumption) ?_
        try simp only [Act.put, List.getElem_toArray, List.getElem_cons_succ, List.getElem_cons_zero, List.setIfInBounds_toArray, List.set_cons_zero, List.set_cons_succ]
        refine wpAnyH_take (i := 8) (v := undef) rfl (by kernel_rfl) (by kernel_rfl) (by kernel_rfl) (fun _ _ _ h => h) (Or.inr ⟨by rfl, rfl⟩) (by assumption) ?_
        try simp only [Act.put, List.getElem_toArray, List.getElem_cons_succ, List.getElem_cons_zero, List.setIfInBounds_toArray, List.set_cons_zero, List.set_cons_succ]
        refine wpAnyH_take (i := 9) (v := undef) rfl (by kernel_rfl) (by kernel_rfl) (by kernel_rfl) (fun _ _ _ h => h) (Or.inr ⟨by rfl, rfl⟩) (by assumption) ?_
        try simp only [Act.put, List.getElem_toArray, List.getElem_cons_succ, List.getElem_cons_zero, List.setIfInBounds_toArray, List.set_cons_zero, List.set_cons_succ]
        refine wpAnyH_take (i := 10) (v := undef) rfl (by kernel_rfl) (by kernel_rfl) (by kernel_rfl) (fun _ _ _ h => h) (Or.inr ⟨by rfl, rfl⟩) (by assumption) ?_
        try simp only [Act.put, List.getElem_toArray, List.getElem_cons_succ, List.getElem_cons_zero, List.setIfInBounds_toArray, List.set_cons_zero, List.set_cons_succ]
        refine wpAnyH_take (i := 11) (v := undef) rfl (by kernel_rfl) (by kernel_rfl) (by kernel_rfl) (fun _ _ _ h => h) (Or.inr ⟨by rfl, rfl⟩) (by assumption) ?_
        try simp only [Act.put, List.getElem_toArray, List.getElem_cons_succ, List.getElem_cons_zero, List.setIfInBounds_toArray, List.set_cons_zero, List.set_cons_succ]
        refine wpAnyH_take (i := 12) (v := undef) rfl (by kernel_rfl) (by kernel_rfl) (by kernel_rfl) (fun _ _ _ h => h) (Or.inr ⟨by rfl, rfl⟩) (by assumption) ?_
        try simp only [Act.put, List.getElem_toArray, List.getElem_cons_succ, List.getElem_cons_zero, List.setIfInBounds_toArray, List.set_cons_zero, List.set_cons_succ]
        refine wpAnyH_take (i := 13) (v := undef) rfl (by kernel_rfl) (by kernel_rfl) (by kernel_rfl) (fun _ _ _ h => h) (Or.inr ⟨by rfl, rfl⟩) (by assumption) ?_
        try simp only [Act.put, List.getElem_toArray, List.getElem_cons_succ, List.getElem_cons_zero, List.setIfInBounds_toArray, List.set_cons_zero, List.set_cons_succ]
        refine wpAnyH_take (i := 14) (v := undef) rfl (by kernel_rfl) (by kernel_rfl) (by kernel_rfl) (fun _ _ _ h => h) (Or.inr ⟨by rfl, rfl⟩) (by assumption) ?_
        try simp only [Act.put, List.getElem_toArray, List.getElem_cons_succ, List.getElem_cons_zero, List.setIfInBounds_toArray, List.set_cons_zero, List.set_cons_succ]
        refine wpAnyH_take (i := 15) (v := undef) rfl (by kernel_rfl) (by kernel_rfl) (by kernel_rfl) (fun _ _ _ h => h) (Or.inr ⟨by rfl, rfl⟩) (by assumption) ?_
        try simp only [Act.put, List.getElem_toArray, List.getElem_cons_succ, List.getElem_cons_zero, List.setIfInBounds_toArray, List.set_cons_zero, List.set_cons_succ]
        refine wpAnyH_take (i := 16) (v := undef) rfl (by kernel_rfl) (by kernel_rfl) (by kernel_rfl) (fun _ _ _ h => h) (Or.inr ⟨by rfl, rfl⟩) (by assumption) ?_
        try simp only [Act.put, List.getElem_toArray, List.getElem_cons_succ, List.getElem_cons_zero, List.setIfInBounds_toArray, List.set_cons_zero, List.set_cons_succ]
        refine wpAnyH_take (i := 17) (v := undef) rfl (by kernel_rfl) (by kernel_rfl) (by kernel_rfl) (fun _ _ _ h => h) (Or.inr ⟨by rfl, rfl⟩) (by assumption) ?_
        try simp only [Act.put, List.getElem_toArray, List.getElem_cons_succ, List.getElem_cons_zero, List.setIfInBounds_toArray, List.set_cons_zero, List.set_cons_succ]
        refine wpAnyH_take (i := 18) (v := ?_) rfl (by kernel_rfl) (by kernel_rfl) (by kernel_rfl) (fun _ _ _ h => h) (Or.inl ⟨by rfl, ?_⟩) (by assumption) ?_
        rotate_left
        · intro w hSw
          try dsimp only at hSw
          go_simp
          try with_reducible rfl
        try simp only [Act.put, List.getElem_toArray, List.getElem_cons_succ, List.getElem_cons_zero, List.setIfInBounds_toArray, List.set_cons_zero, List.set_cons_succ]
        refine wpAnyH_done (by kernel_rfl) ?_ _
        go_wp2
        go_ret
        exact ⟨HP.out.trans (PD.out.trans hp1), by rw [HR.out, HN.out]; rfl⟩
      | true =>
        obtain ⟨sm, hsm⟩ : ∃ v, (x.toList == y.toList) = v := ⟨_, rfl⟩
        cases sm with
        | true =>
          have HN : Hid (chkFrom none bs = 1) := by
            show _ = _
            rw [← HO.out.1, HST.out, if_pos (.inr hsm)]
          clear hv
          go_wp2_with fail
          go_region_held3 (fun w' => w'.cell? ⟨b1, o1 + i * 3, none⟩ = some (.int .i64 d) ∧ w'.cell? ⟨b1, o1 + i * 3 + 1, none⟩ = some (.string x) ∧ w'.cell? ⟨b1, o1 + i * 3 + 2, none⟩ = some (.string y)) (first | (refine keep3 hp1 ?_; assumption) | (refine keep3 PD.out ?_; exact F3.out))
            (first
              | (go_at_call 63; ((with_reducible refine (C.out _).mono ?_)); rintro e w1 ⟨hp1, rfl⟩))
          go_wp2
          go_ret
          exact ⟨HP.out.trans (PD.out.trans hp1), by rw [HR.out, HN.out]; rfl⟩
        | false =>
          have HNN : Hid (chkFrom none bs = if before (prev bs i) ⟨d, x, y⟩ = true then 6 else chkFrom (prev bs (i + 1)) (bs.drop (i + 1))) := by
            show _ = _
            rw [← HO.out.1, HST.out, if_neg (by rintro (h | h); exact absurd (hv.symm.trans h) (by simp); exact absurd (hsm.symm.trans h) (by simp))]
          have HPO : Hid (prevOk bs (i + 1)) := fun p hp => by
            rw [HPN.out] at hp
            injection hp with hp
            rw [← hp]
            exact HV.out
          clear hv
          by_cases hi0 : i = 0
          · subst hi0
            have HN2 : Hid (chkFrom (prev bs 1) (bs.drop 1) = chkFrom none bs) := by
              show _ = _
              rw [HNN.out]; rfl
            have F3z : Hid (wr.cell? ⟨b1, o1, none⟩ = some (.int .i64 d) ∧ wr.cell? ⟨b1, o1 + 1, none⟩ = some (.string x) ∧ wr.cell? ⟨b1, o1 + 2, none⟩ = some (.string y)) := by
              have := F3.out
              simp only [Nat.zero_mul, Nat.add_zero] at this
              exact this
            go_wp2_with fail
            go_region_held3 (fun w' => w'.cell? ⟨b1, o1, none⟩ = some (.int .i64 d) ∧ w'.cell? ⟨b1, o1 + 1, none⟩ = some (.string x) ∧ w'.cell? ⟨b1, o1 + 2, none⟩ = some (.string y)) (first | (refine keep3 hp1 ?_; assumption) | (refine keep3 PD.out ?_; exact F3z.out))
              (first
                | (go_at_call 63; ((with_reducible refine (C.out _).mono ?_)); rintro e w1 ⟨hp1, rfl⟩))
            go_wp2_with fail
            go_quiet (fail)
            go_wp2
            go_roundw
            case rel => exact ⟨1, by omega, by go_num, ⟨HN2.out, HPO.out⟩, (HP.out.trans (PD.out.trans hp1)).drewN _⟩
            case measure => simp [intOf]; omega
          · obtain ⟨j, rfl⟩ : ∃ j, i = j + 1 := ⟨i - 1, by omega⟩
            have hpl : j < bs.length := by omega
            obtain ⟨p, hpe⟩ : ∃ b, bs[j] = b := ⟨_, rfl⟩
            have hbp := (HC1.out j hpl).past HP.out
            rw [hpe] at hbp
            have hfp : p.x.size ≤ 1000000 ∧ p.y.size ≤ 1000000 := by rw [← hpe]; exact HF.out _ (List.getElem_mem hpl)
            have hpv : prev bs (j + 1) = some p := by unfold prev; rw [if_neg hi0, Nat.add_sub_cancel, List.getElem?_eq_getElem hpl, hpe]
            have HPV := Lib.hid hpv
            have HVP := Lib.hid (HO.out.2 p hpv)
            have HFP := Lib.hid hfp
            clear hpv hfp hpe hi0
            have HCMP := Lib.hid (fun w => ref_cmpB ⟨d, x, y⟩ p w HV.out HVP.out HFIT.out HFP.out)
            obtain ⟨d', x', y'⟩ := p
            have g0 : wr.cell? ⟨b1, o1 + j * 3, none⟩ = some (.int .i64 d') := hbp.1
            have g1 : wr.cell? ⟨b1, o1 + j * 3 + 1, none⟩ = some (.string x') := hbp.2.1
            have g2 : wr.cell? ⟨b1, o1 + j * 3 + 2, none⟩ = some (.string y') := hbp.2.2
            have G3 := Lib.hid (And.intro g0 (And.intro g1 g2))
            clear hbp g0 g1 g2
            have z1 : (j : Int) < (n : Int) := by omega
            have z2 : IntKind.i64.wrap (j : Int) = (j : Int) := by rw [IntKind.wrap_i64]; omega
            have z3 : (j : Int) + 1 < (n : Int) := by omega
            have z4 : (0 : Int) ≤ (j : Int) + 1 := by omega
            have z5 : ((j : Int) + 1).toNat = j + 1 := by omega
            have z6 : (j : Int) + 1 - 1 = (j : Int) := by omega
            go_wp2_with fail
            go_region_held3 (fun w' => w'.cell? ⟨b1, o1 + (j + 1) * 3, none⟩ = some (.int .i64 d) ∧ w'.cell? ⟨b1, o1 + (j + 1) * 3 + 1, none⟩ = some (.string x) ∧ w'.cell? ⟨b1, o1 + (j + 1) * 3 + 2, none⟩ = some (.string y)) (first | (refine keep3 hp1 ?_; assumption) | (refine keep3 PD.out ?_; exact F3.out))
              (first
                | (go_at_call 63; ((with_reducible refine (C.out _).mono ?_)); rintro e w1 ⟨hp1, rfl⟩))
            have P1 := Lib.hid (PD.out.trans hp1)
            have PD2 : Hid (Past w1 w1.drew) := (Past.refl w1).drew
            have H6 : Hid (w1.cell? ⟨b1, o1 + (j + 1) * 3, none⟩ = some (.int .i64 d) ∧ w1.cell? ⟨b1, o1 + (j + 1) * 3 + 1, none⟩ = some (.string x) ∧ w1.cell? ⟨b1, o1 + (j + 1) * 3 + 2, none⟩ = some (.string y) ∧ w1.cell? ⟨b1, o1 + j * 3, none⟩ = some (.int .i64 d') ∧ w1.cell? ⟨b1, o1 + j * 3 + 1, none⟩ = some (.string x') ∧ w1.cell? ⟨b1, o1 + j * 3 + 2, none⟩ = some (.string y')) :=
              ⟨P1.out.cell F3.out.1, P1.out.cell F3.out.2.1, P1.out.cell F3.out.2.2, P1.out.cell G3.out.1, P1.out.cell G3.out.2.1, P1.out.cell G3.out.2.2⟩
            clear hp1
            go_wp2_with fail
            go_region_held3 (fun w' => w'.cell? ⟨b1, o1 + (j + 1) * 3, none⟩ = some (.int .i64 d) ∧ w'.cell? ⟨b1, o1 + (j + 1) * 3 + 1, none⟩ = some (.string x) ∧ w'.cell? ⟨b1, o1 + (j + 1) * 3 + 2, none⟩ = some (.string y) ∧ w'.cell? ⟨b1, o1 + j * 3, none⟩ = some (.int .i64 d') ∧ w'.cell? ⟨b1, o1 + j * 3 + 1, none⟩ = some (.string x') ∧ w'.cell? ⟨b1, o1 + j * 3 + 2, none⟩ = some (.string y')) (first | (refine keep6 hp2 ?_; assumption) | (refine keep6 PD2 ?_; exact H6.out))
              (first
                | (go_at_call 64; ((with_reducible refine (HCMP.out _).mono ?_)); rintro e w2 ⟨hp2, cv, rfl, hcv⟩; have HCV := Lib.hid hcv; clear hcv))
            by_cases hlt : cv < 0
            · have HN : Hid (chkFrom none bs = 6) := by
                show _ = _
                rw [HNN.out, HPV.out, if_pos (show before (some ⟨d', x', y'⟩) ⟨d, x, y⟩ = true from by
                  have := HCV.out
                  rw [decide_eq_true hlt] at this
                  exact this.symm)]
              go_wp2
              go_ret
              exact ⟨HP.out.trans (P1.out.trans (PD2.out.trans hp2)), by rw [HR.out, HN.out]; rfl⟩
            · have HN : Hid (chkFrom (prev bs (j + 1 + 1)) (bs.drop (j + 1 + 1)) = chkFrom none bs) := by
                show _ = _
                rw [HNN.out, HPV.out, if_neg (show ¬ before (some ⟨d', x', y'⟩) ⟨d, x, y⟩ = true from fun h => by
                  have := HCV.out
                  rw [decide_eq_false hlt] at this
                  exact absurd (this.trans h) (by simp))]
              go_wp2
              go_roundw
              case rel => exact ⟨j + 1 + 1, by omega, by go_num, ⟨HN.out, HPO.out⟩, HP.out.trans (P1.out.trans (PD2.out.trans hp2))⟩
              case measure => simp [intOf]; omega
    · have HN : Hid (chkFrom none bs = 0) := by
        show _ = _
        rw [← HO.out.1, List.drop_of_length_le (by have := HL.out; omega)]
        cases prev bs i <;> rfl
      go_wp2
      go_ret
      exact ⟨HP.out, by rw [HR.out, HN.out]; rfl⟩

end Go.Proofs.YtdcjibjldfjllaaGreat

/- What barcode.Normal answers is what the reference's Normal answers. -/
namespace Go.Proofs.YtdcjibjldfjllaaGreat
open Go.RowKit

theorem valid_ends {b : Bar} (hb : validB b = true) : (okE (byt b.x) = true ∧ okE (byt b.y) = true) ∧ eV (byt b.x) = some (valR (byt b.x)) := by
  unfold validB at hb
  simp only [Bool.and_eq_true, decide_eq_true_eq] at hb
  obtain ⟨⟨⟨⟨_, _⟩, h3⟩, h4⟩, _⟩ := hb
  refine ⟨⟨by unfold okE; rw [h3]; simp, h4⟩, ?_⟩
  unfold eV
  have : isInf (byt b.x) = false := by
    cases hi : isInf (byt b.x) with
    | false => rfl
    | true =>
      have e := (isInf_iff _).1 hi
      rw [e] at h3
      exact absurd h3 (by decide)
  rw [this]
  rfl

theorem live_dec {b : Bar} (h : validB b = true) : decide (cmpT (byt b.x) (byt b.y) < 0) = live (decB b) := by
  obtain ⟨⟨h1, h2⟩, h3⟩ := valid_ends h
  unfold live
  apply decide_eq_decide.2
  unfold cmpT decB
  rw [h1, h2, h3]
  exact Iff.rfl

theorem isort_map_on {α β : Type} {lt : α → α → Bool} {lt' : β → β → Bool} {f : β → α} (p : β → Prop) (h : ∀ a b, p a → p b → lt (f a) (f b) = lt' a b) (l : List β) (hl : ∀ a ∈ l, p a) : isort lt (l.map f) = (isort lt' l).map f := by
  obtain ⟨l', rfl⟩ : ∃ l' : List { b : β // p b }, l = l'.map Subtype.val := ⟨l.attach.map fun b => ⟨b.1, hl b.1 b.2⟩, by rw [List.map_map]; exact (List.attach_map_subtype_val l).symm⟩
  rw [List.map_map, isort_map (f := f ∘ Subtype.val) (lt' := fun a b => lt' a.1 b.1) (fun a b => h a.1 b.1 a.2 b.2), isort_map (f := Subtype.val) (lt := lt') (lt' := fun a b => lt' a.1 b.1) (fun _ _ => rfl), List.map_map]

theorem enc_dec {l : List Bar} (h : ∀ b ∈ l, validB b = true) (hf : ∀ b ∈ l, b.x.size ≤ 1000000 ∧ b.y.size ≤ 1000000) : (l.map decB).map VB.enc = l := by
  rw [List.map_map]
  conv => rhs; rw [← List.map_id l]
  apply List.map_congr_left
  intro b hb
  exact (decB_ok (h b hb) (hf b hb)).1

end Go.Proofs.YtdcjibjldfjllaaGreat

/- BarcodeChecksMatch: the walk. -/
namespace Go.Proofs.YtdcjibjldfjllaaGreat
open Go.RowKit

theorem longB_false {bs : List Bar} {m : Int} (h : longB bs m = false) : (bs.length : Int) ≤ m ∧ ∀ b ∈ bs, b.x.size ≤ 200 ∧ b.y.size ≤ 200 := by
  unfold longB at h
  rw [Bool.or_eq_false_iff, decide_eq_false_iff_not, List.any_eq_false] at h
  refine ⟨by omega, fun b hb => ?_⟩
  have := h.2 b hb
  unfold wideB at this
  simp only [Bool.or_eq_true, decide_eq_true_eq, not_or] at this
  omega

end Go.Proofs.YtdcjibjldfjllaaGreat

/- What a row's opened list of bars gives the walk. -/
namespace Go.Proofs.YtdcjibjldfjllaaGreat
open Go.RowKit Go.ChangeShapes Go.WideShapes Go.Deep

/-- A bar that came in: its dimension is an int, its ends are texts of the machine. -/
def inB (b : Bar) : Prop := (-9223372036854775808 ≤ b.d ∧ b.d ≤ 9223372036854775807) ∧ b.x.size ≤ maxLen ∧ b.y.size ≤ maxLen

theorem open_bars {H : Type} {enc : TypeId × Value → H} {P : Program} {w : World} {base : Nat} {sp : Nat → Bool} {held : Bool} {t e : TypeId} {f0 f1 f2 : Field} {fuel : Nat} {A : Option Addr} {n c : Nat} {x : DataW H × List MemPlace}
    (ht : P.underlying t = some (.slice e)) (he : P.underlying e = some (.struct #[f0, f1, f2])) (hone : oneCellFields P #[f0, f1, f2] = true) (hC : P.cellsOf e = 3)
    (h0 : P.underlying f0.type = some (.int .i64)) (h1 : P.underlying f1.type = some .string) (h2 : P.underlying f2.type = some .string)
    (h : DataW.trod enc P w base sp held fuel t [.slice A n c] = some x) :
    ∃ bs : List Bar, Rows w rBar A n c bs ∧ ∀ b ∈ bs, inB b := by
  rcases open_slice ht h with ⟨hcs, _⟩ | ⟨a, len, cap, m, k, D, Pl, hcs, _, hl, hm, hmm, _, hi⟩
  · simp only [List.cons.injEq, Value.slice.injEq, and_true] at hcs
    obtain ⟨rfl, rfl, rfl⟩ := hcs
    exact ⟨[], Rows.nil _ _ _ _ (by omega), by intro b hb; cases hb⟩
  · simp only [List.cons.injEq, Value.slice.injEq, and_true] at hcs
    obtain ⟨rfl, rfl, rfl⟩ := hcs
    have hnm : n ≤ m := by rw [hmm]; split <;> omega
    have each : ∀ i, i < n → ∃ b : Bar, inB b ∧ w.cell? (a.add (i * 3)) = some (.int .i64 b.d) ∧ w.cell? ((a.add (i * 3)).add 1) = some (.string b.x) ∧ w.cell? ((a.add (i * 3)).add 2) = some (.string b.y) := by
      intro i hin
      obtain ⟨cs', hc, hy⟩ := hi i (by omega)
      rw [hC] at hc
      obtain ⟨_, hcl, hat⟩ := World.cells?_some hc
      obtain ⟨y0, y1, y2, k2, _, _, t0, t1, t2⟩ := trod_struct3 he hy
      obtain ⟨o0, c0⟩ := hone_of hone 0 f0 rfl
      obtain ⟨o1, c1⟩ := hone_of hone 1 f1 rfl
      obtain ⟨o2, c2⟩ := hone_of hone 2 f2 rfl
      match cs', hcl with
      | [v0, v1, v2], _ =>
        rw [o0, c0] at t0
        rw [o1, c1] at t1
        rw [o2, c2] at t2
        obtain ⟨d, e0, _, w0⟩ := DataW.trod_int h0 t0
        obtain ⟨s, e1, _, w1⟩ := DataW.trod_string h1 t1
        obtain ⟨u, e2, _, w2⟩ := DataW.trod_string h2 t2
        simp at e0 e1 e2
        subst e0 e1 e2
        have g0 := hat 0 (by omega)
        have g1 := hat 1 (by omega)
        have g2 := hat 2 (by omega)
        refine ⟨⟨d, s, u⟩, ⟨int_of_wf w0, w1, w2⟩, ?_, g1, g2⟩
        have az : ∀ a : Addr, a.add 0 = a := fun a => by unfold Addr.add; rw [if_pos rfl]
        rw [az] at g0
        exact g0
    by_cases hn : n = 0
    · subst hn
      exact ⟨[], Rows.nil _ _ _ _ (by unfold maxLen at hm; omega), by intro b hb; cases hb⟩
    · haveI : Inhabited Bar := ⟨⟨0, ⟨#[]⟩, ⟨#[]⟩⟩⟩
      obtain ⟨V, hV⟩ := choose_lt (α := Bar) each
      obtain ⟨b0, o0, spot⟩ := a
      have hsp : spot = none := by
        have := (hV 0 (by omega)).2.1
        simpa [Addr.add] using World.cell?_spot this
      subst hsp
      refine ⟨(List.range n).map V, ⟨by simp, hl, by unfold maxLen at hm; omega, fun _ => ⟨b0, o0, rfl, fun j hj i u hu => ?_⟩⟩, fun b hb => ?_⟩
      · have hjn : j < n := by simpa using hj
        obtain ⟨_, q0, q1, q2⟩ := hV j hjn
        simp only [List.getElem_map, List.getElem_range] at hu
        have am : ∀ (b o k : Nat), (⟨b, o, none⟩ : Addr).add k = ⟨b, o + k, none⟩ := fun b o k => by unfold Addr.add; split <;> simp_all
        have p0 : w.cell? ⟨b0, o0 + j * 3, none⟩ = some (.int .i64 (V j).d) := by rw [am] at q0; exact q0
        have p1 : w.cell? ⟨b0, o0 + j * 3 + 1, none⟩ = some (.string (V j).x) := by rw [am, am] at q1; exact q1
        have p2 : w.cell? ⟨b0, o0 + j * 3 + 2, none⟩ = some (.string (V j).y) := by rw [am, am] at q2; exact q2
        match i, hu with
        | 0, hu => rw [show u = .int .i64 (V j).d from (Option.some.inj hu).symm]; exact p0
        | 1, hu => rw [show u = .string (V j).x from (Option.some.inj hu).symm]; exact p1
        | 2, hu => rw [show u = .string (V j).y from (Option.some.inj hu).symm]; exact p2
        | i + 3, hu => cases hu
      · obtain ⟨j, hj, rfl⟩ := List.mem_map.1 hb
        exact (hV j (List.mem_range.1 hj)).1

end Go.Proofs.YtdcjibjldfjllaaGreat
