/- Helpers of the proof, joined: Ps4 Ps5. -/
import Derived.Test.YtdcjibjldfjllaaGreatGye
import Derived.Test.YtdcjibjldfjllaaGreatGyc
set_option linter.unusedVariables false
set_option linter.unusedSimpArgs false
/- torusref20.word. -/
namespace Go.Proofs.YtdcjibjldfjllaaGreat
open Go.RowKit

theorem drop_at {s : ByteArray} {q : Nat} (h : q < s.size) : s.data.toList.drop q = s[q]'h :: s.data.toList.drop (q + 1) := by
  have hl : q < s.data.toList.length := by rw [Array.length_toList]; exact h
  rw [List.drop_eq_getElem_cons hl]
  congr 1
theorem wEnd_skip {s : ByteArray} {q : Nat} (h : q < s.size) (h1 : (((s[q]'h).toNat : Nat) : Int) ≠ 32) (h2 : (((s[q]'h).toNat : Nat) : Int) ≠ 10) : wEnd s q = wEnd s (q + 1) := by
  unfold wEnd wordL
  rw [drop_at h, List.takeWhile_cons]
  have e1 : (s[q]'h != 32) = true := by
    rw [bne_iff_ne]; intro e; rw [e] at h1; exact h1 rfl
  have e2 : (s[q]'h != 10) = true := by
    rw [bne_iff_ne]; intro e; rw [e] at h2; exact h2 rfl
  rw [e1, e2]
  simp only [Bool.and_self, if_true, List.length_cons]
  omega
theorem wEnd_stop {s : ByteArray} {q : Nat} (h : q < s.size) (h1 : (((s[q]'h).toNat : Nat) : Int) = 32 ∨ (((s[q]'h).toNat : Nat) : Int) = 10) : wEnd s q = q := by
  unfold wEnd wordL
  rw [drop_at h, List.takeWhile_cons]
  have e : (s[q]'h != 32 && s[q]'h != 10) = false := by
    rcases h1 with h1 | h1
    · have : s[q]'h = 32 := UInt8.toNat_inj.1 (by show (s[q]'h).toNat = 32; omega)
      rw [this]; rfl
    · have : s[q]'h = 10 := UInt8.toNat_inj.1 (by show (s[q]'h).toNat = 10; omega)
      rw [this]; rfl
  rw [e]
  simp
theorem wEnd_all {s : ByteArray} {q : Nat} (h : ¬ q < s.size) : wEnd s q = q := by
  unfold wEnd wordL
  rw [List.drop_eq_nil_of_le (by rw [Array.length_toList]; show s.size ≤ q; omega)]
  simp
theorem ext_to (s : ByteArray) (p : Nat) : s.extract p (wEnd s p) = wordS s p := by
  apply ba_ext
  rw [ByteArray.data_extract, Array.toList_extract, List.extract_eq_take_drop]
  unfold wordS wEnd wordL
  rw [Nat.add_sub_cancel_left]
  exact (List.prefix_iff_eq_take.1 (List.takeWhile_prefix _)).symm

set_option maxRecDepth 100000 in
set_option maxHeartbeats 4000000 in
theorem ref_word (s : ByteArray) (p : Nat) (w : World) (hp : p ≤ s.size) (hsz : s.size ≤ 4000000000) :
    Calls Tryz.prog 74 #[.string s, .int .i64 p] w fun e w' => Past w w' ∧ e = .returned (.int .i64 (wEnd s p)) := by
  go_enter Tryz.func74, Tryz.ntmps74
  go_wp2_with fail
  go_loopg [1] (s.size - p) (fun gg iv wr => ∃ q : Nat, iv = .int .i64 q ∧ q ≤ s.size ∧ Hid (gg = s.size - q) ∧ Hid (wEnd s q = wEnd s p) ∧ wr = w)
  case atStart => exact ⟨p, rfl, hp, rfl, rfl, rfl⟩
  case round =>
    obtain ⟨q, rfl, hq, HG, HE, rfl⟩ := hrel
    by_cases hin : q < s.size
    · obtain ⟨c, hc⟩ : ∃ c : Int, (((s[q]'hin).toNat : Nat) : Int) = c := ⟨_, rfl⟩
      have hqz : (q : Int) < (s.size : Int) := by omega
      by_cases h1 : c = 32
      · have HR : Hid (wEnd s p = q) := by show _ = _; rw [← HE.out]; exact wEnd_stop hin (.inl (hc.trans h1))
        have hb : (c != 32) = false := by simp [h1]
        go_wp2_with fail
        go_ret
        exact ⟨Past.refl _, by rw [HR.out]; rfl⟩
      · have hb1 : (c != 32) = true := by simp [h1]
        by_cases h2 : c = 10
        · have HR : Hid (wEnd s p = q) := by show _ = _; rw [← HE.out]; exact wEnd_stop hin (.inr (hc.trans h2))
          have hb : (c != 10) = false := by simp [h2]
          go_wp2_with fail
          go_ret
          exact ⟨Past.refl _, by rw [HR.out]; rfl⟩
        · have HR : Hid (wEnd s (q + 1) = wEnd s p) := by show _ = _; rw [← HE.out]; exact (wEnd_skip hin (by rw [hc]; exact h1) (by rw [hc]; exact h2)).symm
          have hb : (c != 10) = true := by simp [h2]
          go_wp2_with fail
          go_roundg (s.size - (q + 1))
          case measure => have := HG.out; omega
          case rel => exact ⟨q + 1, by go_num, by omega, rfl, HR.out, rfl⟩
    · have HR : Hid (wEnd s p = q) := by show _ = _; rw [← HE.out]; exact wEnd_all hin
      go_wp2
      go_ret
      exact ⟨Past.refl _, by rw [HR.out]; rfl⟩

end Go.Proofs.YtdcjibjldfjllaaGreat

/- torusref20.Parse at any text. -/
namespace Go.Proofs.YtdcjibjldfjllaaGreat
open Go.RowKit

/-- The reference's parser: the bar's block, the bars so far. -/
def RS (w0 w : World) (gb : Nat) (b : Bar) (v : Value) (l : List Bar) : Prop :=
  w.heap[gb]? = some (.cells #[.int .i64 b.d, .string b.x, .string b.y] 94 (0, 0)) ∧ OwnS w0 w rBar 94 v l ∧ w0.heap.size ≤ gb ∧ v.ownBlock ≠ some gb
section
variable {w0 w w1 : World} {gb : Nat} {b : Bar} {v : Value} {l : List Bar}
theorem RS.past (h : RS w0 w gb b v l) (hp : Past w w1) : RS w0 w1 gb b v l :=
  ⟨(hp.block gb (Array.getElem?_eq_some_iff.1 h.1).1).trans h.1, h.2.1.past hp, h.2.2⟩
theorem RS.box (h : OwnS w0 w rBar 94 v l) (d : Int) (x y : ByteArray) : RS w0 (w.alloc (.cells #[.int .i64 d, .string x, .string y] 94)) w.heap.size ⟨d, x, y⟩ v l := by
  refine ⟨heap_new _ _, h.alloc _, h.2.size, ?_⟩
  intro hv
  have := (h.1.lt _ hv).2
  omega
theorem RS.set1 (h : RS w0 w gb b v l) (s : ByteArray) : RS w0 (w.setCell ⟨gb, 1, none⟩ (.string s)) gb ⟨b.d, s, b.y⟩ v l := by
  refine ⟨?_, h.2.1.grown (grown_set (Past.refl w) gb 1 _) h.2.2.1 h.2.2.2, h.2.2⟩
  rw [heap_setCell_same w gb 1 _ _ _ h.1]
  rfl
theorem RS.set2 (h : RS w0 w gb b v l) (s : ByteArray) : RS w0 (w.setCell ⟨gb, 2, none⟩ (.string s)) gb ⟨b.d, b.x, s⟩ v l := by
  refine ⟨?_, h.2.1.grown (grown_set (Past.refl w) gb 2 _) h.2.2.1 h.2.2.2, h.2.2⟩
  rw [heap_setCell_same w gb 2 _ _ _ h.1]
  rfl
theorem RS.c0 (h : RS w0 w gb b v l) : w.cell? ⟨gb, 0, none⟩ = some (.int .i64 b.d) := by rw [Lib.cell_of_heap h.1]; rfl
theorem RS.c1 (h : RS w0 w gb b v l) : w.cell? ⟨gb, 1, none⟩ = some (.string b.x) := by rw [Lib.cell_of_heap h.1]; rfl
theorem RS.c2 (h : RS w0 w gb b v l) : w.cell? ⟨gb, 2, none⟩ = some (.string b.y) := by rw [Lib.cell_of_heap h.1]; rfl
theorem RS.f (h : RS w0 w gb b v l) (j : Nat) : w.frozen? ⟨gb, j, none⟩ = false := Lib.frozen_of_heap h.1 j
end
theorem wcut {s : ByteArray} {p : Nat} (x : ByteArray) (hx : wordS s p = x) : s.extract p (p + x.size) = x := by
  rw [← wEnd_eq2 hx, ext_to, hx]

set_option maxRecDepth 100000 in
set_option maxHeartbeats 8000000 in
theorem ref_parseG (s : ByteArray) (w : World) :
    Calls Tryz.prog 20 #[.string s] w fun e w' => Past w w' ∧ ∃ v, e = .returned (.tuple #[v, .int .i64 (parseB s).2.1, .int .i64 (parseB s).2.2]) ∧ OwnS w w' rBar 94 v (parseB s).1 := by
  by_cases hbig : 65536 < s.size
  · have HR : Hid (parseB s = ([], 0, 3)) := by unfold parseB; rw [if_pos hbig]; exact rfl
    have hb0 : (65536 : Int) < (s.size : Int) := by omega
    go_enter Tryz.func20, Tryz.ntmps20
    go_wp2
    go_ret3
    exact ⟨Past.refl _, _, by rw [HR.out]; rfl, by rw [HR.out]; exact OwnS.nil (Past.refl _) _ _⟩
  · have HR : Hid (parseB s = parseP s 0 []) := by unfold parseB; rw [if_neg hbig]; exact rfl
    have hss : s.size ≤ 65536 := by omega
    have hb0 : ¬ (65536 : Int) < (s.size : Int) := by omega
    go_enter Tryz.func20, Tryz.ntmps20
    go_wp2_with fail
    go_loopg [5, 6] s.size (fun gg ov pv wr => ∃ (p : Nat) (acc : List Bar) (vo : Value), vo = ov ∧ pv = .int .i64 p ∧ p ≤ s.size ∧ Hid (gg = s.size - p) ∧ Hid (acc.length ≤ p) ∧ Hid (∀ b ∈ acc, b.x.size ≤ 65536 ∧ b.y.size ≤ 65536) ∧ Hid (parseP s p acc = parseP s 0 []) ∧ Hid (OwnS w wr rBar 94 vo acc))
    case atStart => exact ⟨0, [], _, rfl, rfl, Nat.zero_le _, rfl, Nat.le_refl _, (by intro b hb; cases hb), rfl, OwnS.nil (Past.refl _) _ _⟩
    case round =>
      obtain ⟨wo, hwo⟩ : ∃ x, x = wr := ⟨_, rfl⟩
      subst hwo
      obtain ⟨p, acc, vo, hvo, rfl, hps, HG, HAL, HAF, HPP, HO⟩ := hrel
      subst hvo
      by_cases hin : p < s.size
      · obtain ⟨d, r1⟩ : ∃ d : Int, (((s[p]'hin).toNat : Nat) : Int) = 48 + d := ⟨(((s[p]'hin).toNat : Nat) : Int) - 48, by omega⟩
        have hpz : (p : Int) < (s.size : Int) := by omega
        have HC : Hid ((s.data.toList.getD p 0).toNat = (s[p]'hin).toNat) := by
          show _ = _
          rw [List.getD_eq_getElem?_getD, at_some hin]; rfl
        by_cases hd : d < 0 ∨ 4 < d
        · have HE : Hid (parseP s 0 [] = ([], p, 2)) := by
            show _ = _
            rw [← HPP.out]
            refine parseP_bad hin ?_
            unfold stepP
            dsimp only
            rw [HC.out, if_pos (by omega)]
          rcases hd with hd | hd
          · go_wp2_with fail
            go_ret3
            exact ⟨HO.out.2, _, by rw [HR.out, HE.out]; rfl, by rw [HR.out, HE.out]; exact OwnS.nil HO.out.2 _ _⟩
          · have hdn : ¬ d < 0 := by omega
            go_wp2_with fail
            go_ret3
            exact ⟨HO.out.2, _, by rw [HR.out, HE.out]; rfl, by rw [HR.out, HE.out]; exact OwnS.nil HO.out.2 _ _⟩
        · have hd0 : 0 ≤ d := by omega
          have hd1 : d ≤ 4 := by omega
          obtain ⟨x, hx⟩ : ∃ x, wordS s (p + 2) = x := ⟨_, rfl⟩
          obtain ⟨y, hy⟩ : ∃ y, wordS s (p + 2 + x.size + 1) = y := ⟨_, rfl⟩
          have sx : x.size ≤ s.size := by rw [← hx]; exact wordS_le _ _
          have sy : y.size ≤ s.size := by rw [← hy]; exact wordS_le _ _
          have HST : Hid (stepP s p = if s.data.toList[p + 1]? ≠ some 32 then .inl (p + 1) else if okV (byt x) = false then .inl (p + 2) else if s.data.toList[p + 2 + x.size]? ≠ some 32 then .inl (p + 2 + x.size)
              else if okE (byt y) = false then .inl (p + 2 + x.size + 1) else if s.data.toList[p + 2 + x.size + 1 + y.size]? ≠ some 10 then .inl (p + 2 + x.size + 1 + y.size) else .inr (⟨48 + d - 48, x, y⟩, p + 2 + x.size + 1 + y.size + 1)) := by
            show _ = _
            unfold stepP
            dsimp only
            rw [HC.out, if_neg (by omega), wEnd_eq s (p + 2), hx, wEnd_eq s (p + 2 + x.size + 1), hy, r1]
          have HW1 : Hid (wEnd s (p + 2) = p + 2 + x.size) := wEnd_eq2 hx
          have HW2 : Hid (wEnd s (p + 2 + x.size + 1) = p + 2 + x.size + 1 + y.size) := wEnd_eq2 hy
          have HX2 : Hid (p + 2 ≤ s.size → p + 2 + x.size ≤ s.size) := fun h => by have := wEnd_le h; rw [HW1.out] at this; exact this
          have HY2 : Hid (p + 2 + x.size + 1 ≤ s.size → p + 2 + x.size + 1 + y.size ≤ s.size) := fun h => by have := wEnd_le h; rw [HW2.out] at this; exact this
          have HZ1 : Hid (s.extract (p + 2) (p + 2 + x.size) = x) := wcut x hx
          have HZ2 : Hid (s.extract (p + 2 + x.size + 1) (p + 2 + x.size + 1 + y.size) = y) := wcut y hy
          clear hx hy hd
          have PB := Lib.hid (RS.box HO.out (48 + d - 48) ⟨#[]⟩ ⟨#[]⟩)
          by_cases h2 : s.data.toList[p + 1]? = some 32
          · obtain ⟨q2, r2⟩ := at_iff.1 h2
            have H2 := Lib.hid h2
            clear h2
            have hqb2 : ((((s[p + 1]'q2).toNat : Nat) : Int) != 32) = false := by rw [r2]; rfl
            have hpe2 : ((p : Int) + 1 == (s.size : Int)) = false := by simp; omega
            have hpe3 : decide ((p : Int) + 1 = (s.size : Int)) = false := by simp; omega
            have hlz2 : (p : Int) + 1 < (s.size : Int) := by omega
            clear r2
            have hx2 := HX2.out (by omega)
            go_wp2_with fail
            rw [show (p : Int) + 1 + 1 = ((p + 2 : Nat) : Int) by omega]
            refine (ref_word s (p + 2) _ (by omega) (by omega)).mono ?_
            rintro e w2 ⟨hp2, rfl⟩
            rw [HW1.out]
            have P2 := Lib.hid (PB.out.past hp2)
            have g1 := P2.out.c1
            have g2 := P2.out.f 1
            clear hp2
            have hxz : ((p + 2 + x.size : Nat) : Int) ≤ (s.size : Int) := by omega
            have hxz2 : (p : Int) + 1 + 1 ≤ ((p + 2 + x.size : Nat) : Int) := by omega
            go_wp2_with fail
            rw [show s.extract (p + 1 + 1) (p + 2 + x.size) = x from HZ1.out]
            have P3 := Lib.hid (P2.out.set1 x)
            refine (ref_validT x _ (by omega)).mono ?_
            rintro e w3 ⟨hp3, rfl⟩
            have P4 := Lib.hid (P3.out.past hp3)
            clear hp3 g1 g2
            cases hvx : okV (byt x) with
            | false =>
              have HE : Hid (parseP s 0 [] = ([], p + 2, 2)) := by
                show _ = _
                rw [← HPP.out]
                refine parseP_bad hin ?_
                rw [HST.out, if_neg (by rw [H2.out]; simp), if_pos hvx]
              go_wp2_with fail
              go_ret3
              exact ⟨P4.out.2.1.2, _, by rw [HR.out, HE.out]; rfl, by rw [HR.out, HE.out]; exact OwnS.nil P4.out.2.1.2 _ _⟩
            | true =>
              have HVX := Lib.hid hvx
              clear hvx hqb2 hpe2 hpe3
              by_cases h3 : s.data.toList[p + 2 + x.size]? = some 32
              · obtain ⟨q3, r3⟩ := at_iff.1 h3
                have H3 := Lib.hid h3
                clear h3
                have hqb3 : ((((s[p + 2 + x.size]'q3).toNat : Nat) : Int) != 32) = false := by rw [r3]; rfl
                have hpe2 : ((p : Int) + 2 + (x.size : Int) == (s.size : Int)) = false := by simp; omega
                have hpe3 : decide ((p : Int) + 2 + (x.size : Int) = (s.size : Int)) = false := by simp; omega
                have hlz3 : (p : Int) + 2 + (x.size : Int) < (s.size : Int) := by omega
                clear r3
                have hy2 := HY2.out (by omega)
                go_wp2_with fail
                rw [show (p : Int) + 2 + (x.size : Int) + 1 = ((p + 2 + x.size + 1 : Nat) : Int) by omega]
                refine (ref_word s (p + 2 + x.size + 1) _ (by omega) (by omega)).mono ?_
                rintro e w5 ⟨hp5, rfl⟩
                rw [HW2.out]
                have P5 := Lib.hid (P4.out.past hp5)
                have g1 := P5.out.c2
                have g2 := P5.out.f 2
                clear hp5
                have hyz : ((p + 2 + x.size + 1 + y.size : Nat) : Int) ≤ (s.size : Int) := by omega
                have hyz2 : (p : Int) + 2 + (x.size : Int) + 1 ≤ ((p + 2 + x.size + 1 + y.size : Nat) : Int) := by omega
                go_wp2_with fail
                rw [show s.extract (p + 2 + x.size + 1) (p + 2 + x.size + 1 + y.size) = y from HZ2.out]
                have P6 := Lib.hid (P5.out.set2 y)
                refine (ref_endT y _ (by omega)).mono ?_
                rintro e w6 ⟨hp6, rfl⟩
                have P7 := Lib.hid (P6.out.past hp6)
                clear hp6 g1 g2
                cases hvy : okE (byt y) with
                | false =>
                  have HE : Hid (parseP s 0 [] = ([], p + 2 + x.size + 1, 2)) := by
                    show _ = _
                    rw [← HPP.out]
                    refine parseP_bad hin ?_
                    rw [HST.out, if_neg (by rw [H2.out]; simp), if_neg (by rw [HVX.out]; simp), if_neg (by rw [H3.out]; simp), if_pos hvy]
                  go_wp2_with fail
                  go_ret3
                  exact ⟨P7.out.2.1.2, _, by rw [HR.out, HE.out]; rfl, by rw [HR.out, HE.out]; exact OwnS.nil P7.out.2.1.2 _ _⟩
                | true =>
                  have HVY := Lib.hid hvy
                  clear hvy hqb3 hpe2 hpe3
                  by_cases h4 : s.data.toList[p + 2 + x.size + 1 + y.size]? = some 10
                  · obtain ⟨q4, r4⟩ := at_iff.1 h4
                    have H4 := Lib.hid h4
                    clear h4
                    have hqb4 : ((((s[p + 2 + x.size + 1 + y.size]'q4).toNat : Nat) : Int) != 10) = false := by rw [r4]; rfl
                    have hpe2 : ((p : Int) + 2 + (x.size : Int) + 1 + (y.size : Int) == (s.size : Int)) = false := by simp; omega
                    have hpe3 : decide ((p : Int) + 2 + (x.size : Int) + 1 + (y.size : Int) = (s.size : Int)) = false := by simp; omega
                    have hlz4 : (p : Int) + 2 + (x.size : Int) + 1 + (y.size : Int) < (s.size : Int) := by omega
                    clear r4
                    have HGO : Hid (parseP s (p + 2 + x.size + 1 + y.size + 1) (acc ++ [⟨d, x, y⟩]) = parseP s 0 []) := by
                      show _ = _
                      rw [← HPP.out]
                      refine (parseP_go hin ?_).symm
                      rw [HST.out, if_neg (by rw [H2.out]; simp), if_neg (by rw [HVX.out]; simp), if_neg (by rw [H3.out]; simp), if_neg (by rw [HVY.out]; simp), if_neg (by rw [H4.out]; simp), show 48 + d - 48 = d by omega]
                    have g0 := P7.out.c0
                    have g1 := P7.out.c1
                    have g2 := P7.out.c2
                    go_wp2_with (first | (at_builtin; refine wpList_appG el_bar (OwnS.alloc P7.out.2.1 _) rfl rfl rfl ⟨_, 0, none⟩ _ ⟨d, x, y⟩ rfl (cell_newS rBar _ _ _ _ _ (by simp [go_sem]) (by show [Value.int .i64 (48 + d - 48), Value.string x, Value.string y] = [Value.int .i64 d, Value.string x, Value.string y]; rw [show 48 + d - 48 = d by omega])) ?_ ?_; (have := HAL.out; omega); intro v9 w9 hown9 hgr9))
                    have HFF : Hid (∀ b ∈ acc ++ [(⟨d, x, y⟩ : Bar)], b.x.size ≤ 65536 ∧ b.y.size ≤ 65536) := fun b hb => by
                      rcases List.mem_append.1 hb with h | h
                      · exact HAF.out b h
                      · rw [List.mem_singleton] at h
                        subst h
                        exact ⟨by show x.size ≤ _; omega, by show y.size ≤ _; omega⟩
                    go_roundg (s.size - (p + 2 + x.size + 1 + y.size + 1))
                    case measure => have := HG.out; omega
                    case rel => exact ⟨p + 2 + x.size + 1 + y.size + 1, _, _, rfl, by go_num, by omega, rfl, by have := HAL.out; show _ ≤ _; simp; omega, HFF.out, HGO.out, hown9⟩
                  · have hn := h4
                    have sl := HY2.out (by omega)
                    have HE : Hid (parseP s 0 [] = ([], p + 2 + x.size + 1 + y.size, 2)) := by
                      show _ = _
                      rw [← HPP.out]
                      refine parseP_bad hin ?_
                      rw [HST.out, if_neg (by rw [H2.out]; simp), if_neg (by rw [HVX.out]; simp), if_neg (by rw [H3.out]; simp), if_neg (by rw [HVY.out]; simp), if_pos h4]
                    by_cases he : p + 2 + x.size + 1 + y.size = s.size
                    · have hpe2 : ((p : Int) + 2 + (x.size : Int) + 1 + (y.size : Int) == (s.size : Int)) = true := by simp; omega
                      have hpe3 : decide ((p : Int) + 2 + (x.size : Int) + 1 + (y.size : Int) = (s.size : Int)) = true := by simp; omega
                      go_wp2_with fail
                      go_ret3
                      exact ⟨P7.out.2.1.2, _, by rw [HR.out, HE.out]; rfl, by rw [HR.out, HE.out]; exact OwnS.nil P7.out.2.1.2 _ _⟩
                    · have hlt : p + 2 + x.size + 1 + y.size < s.size := by omega
                      have hqb : ((((s[p + 2 + x.size + 1 + y.size]'hlt).toNat : Nat) : Int) != 10) = true := by rw [bne_iff_ne]; intro hh; exact hn (at_iff.2 ⟨hlt, hh⟩)
                      have hpe2 : ((p : Int) + 2 + (x.size : Int) + 1 + (y.size : Int) == (s.size : Int)) = false := by simp; omega
                      have hpe3 : decide ((p : Int) + 2 + (x.size : Int) + 1 + (y.size : Int) = (s.size : Int)) = false := by simp; omega
                      have hlz : (p : Int) + 2 + (x.size : Int) + 1 + (y.size : Int) < (s.size : Int) := by omega
                      go_wp2_with fail
                      go_ret3
                      exact ⟨P7.out.2.1.2, _, by rw [HR.out, HE.out]; rfl, by rw [HR.out, HE.out]; exact OwnS.nil P7.out.2.1.2 _ _⟩
              · have hn := h3
                have sl := HX2.out (by omega)
                have HE : Hid (parseP s 0 [] = ([], p + 2 + x.size, 2)) := by
                  show _ = _
                  rw [← HPP.out]
                  refine parseP_bad hin ?_
                  rw [HST.out, if_neg (by rw [H2.out]; simp), if_neg (by rw [HVX.out]; simp), if_pos h3]
                by_cases he : p + 2 + x.size = s.size
                · have hpe2 : ((p : Int) + 2 + (x.size : Int) == (s.size : Int)) = true := by simp; omega
                  have hpe3 : decide ((p : Int) + 2 + (x.size : Int) = (s.size : Int)) = true := by simp; omega
                  go_wp2_with fail
                  go_ret3
                  exact ⟨P4.out.2.1.2, _, by rw [HR.out, HE.out]; rfl, by rw [HR.out, HE.out]; exact OwnS.nil P4.out.2.1.2 _ _⟩
                · have hlt : p + 2 + x.size < s.size := by omega
                  have hqb : ((((s[p + 2 + x.size]'hlt).toNat : Nat) : Int) != 32) = true := by rw [bne_iff_ne]; intro hh; exact hn (at_iff.2 ⟨hlt, hh⟩)
                  have hpe2 : ((p : Int) + 2 + (x.size : Int) == (s.size : Int)) = false := by simp; omega
                  have hpe3 : decide ((p : Int) + 2 + (x.size : Int) = (s.size : Int)) = false := by simp; omega
                  have hlz : (p : Int) + 2 + (x.size : Int) < (s.size : Int) := by omega
                  go_wp2_with fail
                  go_ret3
                  exact ⟨P4.out.2.1.2, _, by rw [HR.out, HE.out]; rfl, by rw [HR.out, HE.out]; exact OwnS.nil P4.out.2.1.2 _ _⟩
          · have hn := h2
            have HE : Hid (parseP s 0 [] = ([], p + 1, 2)) := by
              show _ = _
              rw [← HPP.out]
              refine parseP_bad hin ?_
              rw [HST.out, if_pos h2]
            by_cases he : p + 1 = s.size
            · have hpe2 : ((p : Int) + 1 == (s.size : Int)) = true := by simp; omega
              have hpe3 : decide ((p : Int) + 1 = (s.size : Int)) = true := by simp; omega
              go_wp2_with fail
              go_ret3
              exact ⟨PB.out.2.1.2, _, by rw [HR.out, HE.out]; rfl, by rw [HR.out, HE.out]; exact OwnS.nil PB.out.2.1.2 _ _⟩
            · have hlt : p + 1 < s.size := by omega
              have hqb : ((((s[p + 1]'hlt).toNat : Nat) : Int) != 32) = true := by rw [bne_iff_ne]; intro hh; exact hn (at_iff.2 ⟨hlt, hh⟩)
              have hpe2 : ((p : Int) + 1 == (s.size : Int)) = false := by simp; omega
              have hpe3 : decide ((p : Int) + 1 = (s.size : Int)) = false := by simp; omega
              have hlz : (p : Int) + 1 < (s.size : Int) := by omega
              go_wp2_with fail
              go_ret3
              exact ⟨PB.out.2.1.2, _, by rw [HR.out, HE.out]; rfl, by rw [HR.out, HE.out]; exact OwnS.nil PB.out.2.1.2 _ _⟩
      · have hpe : p = s.size := by omega
        have HE : Hid (parseP s 0 [] = if checkB acc ≠ 0 then ([], 0, checkB acc) else (acc, 0, 0)) := by
          show _ = _
          rw [← HPP.out, parseP_end hin]
        obtain ⟨A, c, rfl, hrows⟩ := HO.out.reads
        have HRO := Lib.hid hrows
        clear hrows hin
        subst hpe
        go_wp2_with fail
        refine (ref_checkG A acc.length c acc _ HRO.out (fun b hb => ⟨by have := (HAF.out b hb).1; omega, by have := (HAF.out b hb).2; omega⟩)).mono ?_
        rintro e w2 ⟨hp2, rfl⟩
        have HOF := Lib.hid (HO.out.past hp2)
        clear hp2
        obtain ⟨ck, hck⟩ : ∃ k, checkB acc = k := ⟨_, rfl⟩
        rw [hck] at HE ⊢
        clear hck
        by_cases hk0 : ck = 0
        · subst hk0
          go_wp2_with fail
          go_ret3
          exact ⟨HOF.out.2, _, by rw [HR.out, HE.out]; rfl, by rw [HR.out, HE.out]; exact HOF.out⟩
        · have hkb : (ck != 0) = true := by simp [hk0]
          go_wp2_with fail
          go_ret3
          exact ⟨HOF.out.2, _, by rw [HR.out, HE.out, if_pos hk0]; rfl, by rw [HR.out, HE.out, if_pos hk0]; exact OwnS.nil HOF.out.2 _ _⟩

end Go.Proofs.YtdcjibjldfjllaaGreat
