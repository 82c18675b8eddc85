/- Helpers of the proof, joined: LwRk Rk3. -/
import Derived.Test.YtdcjibjldfjllaaGreatGu
import Derived.OpenShut
import Derived.Lib.SmallJoins
import Derived.Laws.IdiomArrays
set_option linter.unusedVariables false
set_option linter.unusedSimpArgs false
/- BarcodeRanks: the walk. -/
namespace Go.Proofs.YtdcjibjldfjllaaGreat
open Go.RowKit

/-- Four texts in a block. -/
def TAt (w : World) (g : Nat) (ss : List ByteArray) : Prop :=
  ss.length = 4 ∧ ∀ j, j < 4 → w.cell? ⟨g, j, none⟩ = some (.string (ss.getD j ⟨#[]⟩)) ∧ w.frozen? ⟨g, j, none⟩ = false
theorem TAt.past {w w' : World} {g : Nat} {ss : List ByteArray} (h : TAt w g ss) (hp : Past w w') : TAt w' g ss :=
  ⟨h.1, fun j hj => hp.free (h.2 j hj).1 (h.2 j hj).2⟩
theorem TAt.set {w : World} {g : Nat} {ss : List ByteArray} (h : TAt w g ss) {j : Nat} (hj : j < 4) (s : ByteArray) : TAt (w.setCell ⟨g, j, none⟩ (.string s)) g (ss.set j s) := by
  refine ⟨by rw [List.length_set]; exact h.1, fun k hk => ?_⟩
  have hc := h.2 k hk
  have hcj := h.2 j hj
  by_cases e : k = j
  · subst e
    refine ⟨?_, by simp [go_sem, hc.2]⟩
    rw [List.getD_eq_getElem?_getD, List.getElem?_set_self (by rw [h.1]; exact hk)]
    simp [go_sem, hc.1]
  · refine ⟨?_, by simp [go_sem, hc.2]⟩
    rw [List.getD_eq_getElem?_getD, List.getElem?_set_ne (by omega), ← List.getD_eq_getElem?_getD]
    have e' : ¬ j = k := fun x => e x.symm
    simp [go_sem, hc.1, e, e']
theorem TAt.at_ {w : World} {g : Nat} {ss : List ByteArray} (h : TAt w g ss) {j : Nat} {s : ByteArray} (hs : ss[j]? = some s) : w.cell? ⟨g, j, none⟩ = some (.string s) ∧ w.frozen? ⟨g, j, none⟩ = false := by
  have hj : j < 4 := by rw [← h.1]; exact (List.getElem?_eq_some_iff.1 hs).1
  have := h.2 j hj
  rw [List.getD_eq_getElem?_getD, hs] at this
  exact this

def ltQ (a b : Rat) : Bool := decide (cmpE (some a) (some b) < 0)
theorem ltQ_false {a b : Rat} (h : ltQ b a = false) : cmpE (some a) (some b) ≤ 0 := by
  have := of_decide_eq_false (show decide (cmpE (some b) (some a) < 0) = false from h)
  rw [cmpE_neg]; omega
theorem ltQ_ord (l : List Rat) : Asc ltQ (isort ltQ l) := by
  refine isort_ord (fun a b c h k => ?_) (fun a b h => ?_) l
  · have := cmpE_trans (ltQ_false h) (ltQ_false k)
    refine decide_eq_false ?_
    rw [cmpE_neg]; omega
  · have := of_decide_eq_true (show decide (cmpE (some a) (some b) < 0) = true from h)
    refine decide_eq_false ?_
    rw [cmpE_neg]; omega
abbrev tx (q : Rat) : ByteArray := tE (some q)
/-- The texts while the sort is under way. -/
def way (P : List Rat) (x : Rat) (j i : Nat) : List ByteArray := (onWay P x j []).map tx ++ List.replicate (3 - i) ⟨#[]⟩
theorem way_step {P : List Rat} {x : Rat} {k i : Nat} (h : k < P.length) : ((way P x (k + 1) i).set (k + 1) (tx P[k])).set k (tx x) = way P x k i := by
  have hl := onWay_length P x (k + 1) [] (by omega)
  unfold way
  rw [List.set_append_left _ _ (by rw [List.length_map]; omega), List.set_append_left _ _ (by rw [List.length_set, List.length_map]; omega), ← List.map_set, ← List.map_set, onWay_step h]
theorem way_at {P : List Rat} {x : Rat} {j i : Nat} (h : j ≤ P.length) : (way P x j i)[j]? = some (tx x) := by
  have hl := onWay_length P x j [] h
  unfold way
  rw [List.getElem?_append_left (by rw [List.length_map]; omega), List.getElem?_map, onWay_at h]
  rfl
theorem way_before {P : List Rat} {x : Rat} {k i : Nat} (h : k < P.length) : (way P x (k + 1) i)[k]? = some (tx P[k]) := by
  have hl := onWay_length P x (k + 1) [] (by omega)
  unfold way
  rw [List.getElem?_append_left (by rw [List.length_map]; omega), List.getElem?_map, onWay_before h]
  rfl
theorem way_start {P : List Rat} {x : Rat} {i : Nat} (hP : P.length = i) (hi : i < 4) : (P.map tx ++ List.replicate (4 - i) (⟨#[]⟩ : ByteArray)).set i (tx x) = way P x i i := by
  subst hP
  unfold way
  rw [onWay_start, List.set_append_right _ _ (by simp), List.length_map, Nat.sub_self, show 4 - P.length = (3 - P.length) + 1 by omega, List.replicate_succ, List.set_cons_zero]
  simp
theorem way_done {P : List Rat} {x : Rat} {j i : Nat} {L : List Rat} (h : onWay P x j [] = L) : way P x j i = L.map tx ++ List.replicate (3 - i) ⟨#[]⟩ := by
  unfold way; rw [h]


theorem rd4 (n0 n1 n2 n3 : Int) (w : World) (t : TypeId) : ∀ i, i < 4 → (w.alloc (.cells #[.int .i64 n0, .int .i64 n1, .int .i64 n2, .int .i64 n3] t)).cell? ⟨w.heap.size, i, none⟩ = some (.int .i64 (rd [n0, n1, n2, n3] i)) := by
  intro i hi
  rw [cell_box]
  match i, hi with
  | 0, _ => rfl
  | 1, _ => rfl
  | 2, _ => rfl
  | 3, _ => rfl
theorem tat_new (w : World) (t : TypeId) : TAt (w.alloc (.cells #[.string ⟨#[]⟩, .string ⟨#[]⟩, .string ⟨#[]⟩, .string ⟨#[]⟩] t)) w.heap.size [⟨#[]⟩, ⟨#[]⟩, ⟨#[]⟩, ⟨#[]⟩] := by
  refine ⟨rfl, fun j hj => ⟨?_, by simp [go_sem]⟩⟩
  rw [cell_box]
  match j, hj with
  | 0, _ => rfl
  | 1, _ => rfl
  | 2, _ => rfl
  | 3, _ => rfl

set_option maxRecDepth 100000 in
set_option maxHeartbeats 8000000 in
theorem law_ranks (A : Option Addr) (n c : Nat) (xs : List Int) (n0 n1 n2 n3 d : Int) (w : World) (hx : RInts w .i64 A n c xs) (hr : ∀ x ∈ xs, -9223372036854775808 ≤ x ∧ x ≤ 9223372036854775807)
    (hn : ∀ x ∈ [n0, n1, n2, n3], -9223372036854775808 ≤ x ∧ x ≤ 9223372036854775807) (hd : 0 ≤ d ∧ d ≤ 255) :
    Calls Tryz.prog 5 #[.slice A n c, .agg #[.int .i64 n0, .int .i64 n1, .int .i64 n2, .int .i64 n3], .int .u8 d] w fun e w' => Past w w' ∧ e = .returned (.bool true) := by
  have HX := Lib.hid hx
  have HR := Lib.hid hr
  have HNS := Lib.hid hn
  have HD := Lib.hid hd
  clear hx hr hn hd
  obtain ⟨g1, g2, g3⟩ := fitV_good xs 12
  obtain ⟨l, hl⟩ : ∃ l, fitV xs 12 = l := ⟨_, rfl⟩
  rw [hl] at g1 g2 g3
  have HLF := Lib.hid hl
  have G1 := Lib.hid g1
  have G2 := Lib.hid g2
  have G3 := Lib.hid g3
  have HFIT : Hid (∀ b ∈ l.map VB.enc, b.fit) := by
    intro b hb
    obtain ⟨v, hv, rfl⟩ := List.mem_map.1 hb
    exact (g1 v hv).1.fit
  obtain ⟨bs, hbs⟩ : ∃ bs, l.map VB.enc = bs := ⟨_, rfl⟩
  have HBL : Hid (bs.length < 20) := by rw [← hbs]; unfold Hid; rw [List.length_map]; omega
  rw [hbs] at HFIT
  have HBS := Lib.hid hbs
  clear hl g1 g2 g3 hbs
  obtain ⟨ns, hns⟩ : ∃ ns, [n0, n1, n2, n3] = ns := ⟨_, rfl⟩
  have HNL : Hid (ns.length = 4) := by rw [← hns]; rfl
  rw [hns] at HNS
  obtain ⟨wb, hwb⟩ : ∃ wb, (w.alloc (.cells #[.int .i64 n0, .int .i64 n1, .int .i64 n2, .int .i64 n3] 44)) = wb := ⟨_, rfl⟩
  have HPB : Hid (Past w wb) := by rw [← hwb]; exact (Past.refl _).alloc _
  have HB : Hid (∀ i, i < 4 → wb.cell? ⟨w.heap.size, i, none⟩ = some (.int .i64 (rd ns i))) := by rw [← hwb, ← hns]; exact rd4 _ _ _ _ _ _
  have HWB := Lib.hid hwb
  clear hwb hns
  go_enter Tryz.func5, Tryz.ntmps5
  go_wp2_with fail
  rw [HWB.out]
  refine (law_awake _).mono ?_
  rintro e w1 ⟨hp1, rfl⟩
  have HP1 : Hid (Past w w1) := HPB.out.trans hp1
  have HB1 : Hid (∀ i, i < 4 → w1.cell? ⟨w.heap.size, i, none⟩ = some (.int .i64 (rd ns i))) := fun i hi => hp1.cell (HB.out i hi)
  clear hp1
  go_wp2_with fail
  refine (ref_fit A n c 12 xs _ (HX.out.past HP1.out) HR.out (by decide)).mono ?_
  rintro e w2 ⟨hp2, v2, rfl, ho2⟩
  rw [HLF.out, HBS.out] at ho2
  obtain ⟨A2, c2, rfl, hr2⟩ := ho2.reads
  have HR2 : Hid (Rows w2 rBar A2 bs.length c2 bs) := hr2
  have HP2 : Hid (Past w w2) := HP1.out.trans hp2
  have HB2 : Hid (∀ i, i < 4 → w2.cell? ⟨w.heap.size, i, none⟩ = some (.int .i64 (rd ns i))) := fun i hi => hp2.cell (HB1.out i hi)
  clear hp2 ho2 hr2
  go_wp2_with fail
  obtain ⟨wc, hwc⟩ : ∃ wc, (w2.alloc (.cells #[.string ⟨#[]⟩, .string ⟨#[]⟩, .string ⟨#[]⟩, .string ⟨#[]⟩] 45)) = wc := ⟨_, rfl⟩
  have HPC : Hid (Past w2 wc) := by rw [← hwc]; exact (Past.refl _).alloc _
  have HTC : Hid (TAt wc w2.heap.size [⟨#[]⟩, ⟨#[]⟩, ⟨#[]⟩, ⟨#[]⟩]) := by rw [← hwc]; exact tat_new _ _
  rw [hwc]
  have HWC := Lib.hid hwc
  clear hwc
  obtain ⟨Z, hZ⟩ : ∃ Z, ns.map smallQ = Z := ⟨_, rfl⟩
  have HZL : Hid (Z.length = 4) := by rw [← hZ]; unfold Hid; rw [List.length_map]; exact HNL.out
  have HZT : Hid (∀ q ∈ Z, tlQ q ≤ 100) := by
    intro q hq
    rw [← hZ] at hq
    obtain ⟨m, _, rfl⟩ := List.mem_map.1 hq
    exact small_tl m
  have HZZ := Lib.hid hZ
  clear hZ
  obtain ⟨g, hg⟩ : ∃ g, w2.heap.size = g := ⟨_, rfl⟩
  rw [hg] at HTC
  have HGG : Hid (w2.heap.size ≤ g) := by unfold Hid; omega
  rw [hg]
  clear hg
  go_loopg [24] 4 (fun gg iv wr => ∃ i : Nat, iv = .int .i64 i ∧ i ≤ 4 ∧ Hid (gg = 4 - i) ∧ Hid (Past w2 wr) ∧ Hid (TAt wr g ((isort ltQ (Z.take i)).map tx ++ List.replicate (4 - i) ⟨#[]⟩)))
  case atStart => exact ⟨0, rfl, by omega, rfl, HPC, HTC⟩
  case round =>
    obtain ⟨i, rfl, hi, HG, HPW, HT⟩ := hrel
    by_cases hin : i < 4
    · have hil : i < Z.length := by have := HZL.out; omega
      obtain ⟨x, hxe⟩ : ∃ b, Z[i] = b := ⟨_, rfl⟩
      obtain ⟨P, hP⟩ : ∃ P, isort ltQ (Z.take i) = P := ⟨_, rfl⟩
      have hPl : P.length = i := by rw [← hP, isort_length, List.length_take]; omega
      have HE : Hid (isort ltQ (Z.take (i + 1)) = insR ltQ x P) := by
        show _ = _
        rw [isort_take_succ ltQ hil hxe, hP]
      have HTX : Hid (tlE (some x) ≤ 10000000) := Nat.le_trans (show tlQ x ≤ 100 by rw [← hxe]; exact HZT.out _ (List.getElem_mem hil)) (by decide)
      have HTP : Hid (∀ q ∈ P, tlE (some q) ≤ 10000000) := fun q hq => Nat.le_trans (show tlQ q ≤ 100 from HZT.out q (List.mem_of_mem_take ((isort_perm _ _).mem_iff.1 (by rw [hP]; exact hq)))) (by decide)
      have HSQ : Hid (smallQ (rd ns i) = x) := by
        have hin' : i < ns.length := by have := HNL.out; omega
        rw [← hxe]
        show _ = _
        have e : Z[i]? = some (smallQ (rd ns i)) := by
          rw [← HZZ.out, List.getElem?_map, List.getElem?_eq_getElem hin']
          unfold rd
          rw [List.getD_eq_getElem?_getD, List.getElem?_eq_getElem hin']
          rfl
        rw [List.getElem?_eq_getElem hil] at e
        injection e with e
        exact e.symm
      have HRG : Hid (-9223372036854775808 ≤ rd ns i ∧ rd ns i ≤ 9223372036854775807) := by
        have hin' : i < ns.length := by have := HNL.out; omega
        refine HNS.out _ ?_
        unfold rd
        rw [List.getD_eq_getElem?_getD, List.getElem?_eq_getElem hin']
        exact List.getElem_mem hin'
      have HPL := Lib.hid hPl
      rw [hP] at HT
      have c0 := HPW.out.cell (HB2.out i hin)
      obtain ⟨-, f0⟩ := HT.out.2 i hin
      obtain ⟨s0, e0⟩ : ∃ s, wr.cell? ⟨g, i, none⟩ = some (.string s) := ⟨_, (HT.out.2 i hin).1⟩
      have z1 : (i : Int) < 4 := by omega
      clear hPl hP hxe
      go_wp2_with fail
      refine (fr_small' (rd ns i) _ HRG.out).mono ?_
      rintro e w3 ⟨hp3, rfl⟩
      rw [HSQ.out]
      have HP3 := Lib.hid (HPW.out.trans hp3)
      have HT3 := Lib.hid (HT.out.past hp3)
      obtain ⟨e1, f1⟩ := hp3.free e0 f0
      clear hp3 e0 f0 c0
      go_wp2_with fail
      have HT4 : Hid (TAt (w3.setCell ⟨g, i, none⟩ (.string (tE (some x)))) g (way P x i i)) := by
        have h := HT3.out.set hin (tx x)
        rw [way_start HPL.out hin] at h
        exact h
      have HP4 : Hid (Past w2 (w3.setCell ⟨g, i, none⟩ (.string (tE (some x))))) := HP3.out.setCell HGG.out _
      clear e1 f1
      go_loopg [10] i (fun gj jv wx => ∃ j : Nat, jv = .int .i64 j ∧ j ≤ i ∧ Hid (gj = j) ∧ Hid (slot ltQ x P j = slot ltQ x P i) ∧ Hid (Past w2 wx) ∧ Hid (TAt wx g (way P x j i)))
      case atStart => exact ⟨i, rfl, Nat.le_refl _, rfl, rfl, HP4, HT4⟩
      case round =>
        clear HT4 HP4
        obtain ⟨j, rfl, hji, HGJ, HSL, HPX, HT5⟩ := hrel
        by_cases hj0 : j = 0
        · subst hj0
          have HN : Hid (way P x 0 i = (isort ltQ (Z.take (i + 1))).map tx ++ List.replicate (4 - (i + 1)) ⟨#[]⟩) := by
            show _ = _
            rw [HE.out, way_done (onWay_end ltQ P x 0 [] (by rw [HPL.out]; exact HSL.out) rfl), List.append_nil, show 4 - (i + 1) = 3 - i by omega]
          go_wp2
          go_quiet (fail)
          go_wp2
          go_roundg (4 - (i + 1))
          case measure => have := HG.out; omega
          case rel => exact ⟨i + 1, by go_num, by omega, rfl, HPX.out.drewN _, by rw [← HN.out]; exact HT5.out.past ((Past.refl _).drewN _)⟩
        · obtain ⟨k, rfl⟩ : ∃ k, j = k + 1 := ⟨j - 1, by omega⟩
          have hkP : k < P.length := by have := HPL.out; omega
          obtain ⟨p, hpe⟩ : ∃ b, P[k] = b := ⟨_, rfl⟩
          have HTQ : Hid (tlE (some p) ≤ 10000000) := by rw [← hpe]; exact HTP.out _ (List.getElem_mem hkP)
          obtain ⟨e1, f1⟩ := HT5.out.at_ (way_at (i := i) (show k + 1 ≤ P.length by omega))
          obtain ⟨e2, f2⟩ := HT5.out.at_ (j := k) (s := tE (some p)) (by rw [way_before hkP, hpe])
          have hst : slot ltQ x P (k + 1) = if ltQ x p = true then slot ltQ x P k else k + 1 := by
            rw [slot, List.getElem?_eq_getElem hkP, hpe]
          have HST := Lib.hid hst
          have HPE := Lib.hid hpe
          have H2 : Hid (wr.cell? ⟨g, k + 1, none⟩ = some (.string (tE (some x))) ∧ wr.cell? ⟨g, k, none⟩ = some (.string (tE (some p)))) := ⟨e1, e2⟩
          clear hst hpe e1 e2 f1 f2
          have z1 : (k : Int) < 4 := by omega
          have z2 : IntKind.i64.wrap (k : Int) = (k : Int) := by rw [IntKind.wrap_i64]; omega
          have z3 : (k : Int) + 1 < 4 := by omega
          have z4 : (0 : Int) ≤ (k : Int) + 1 := by omega
          have z5 : ((k : Int) + 1).toNat = k + 1 := by omega
          have PD : Hid (Past wr wr.drew) := (Past.refl wr).drew
          go_wp2_with fail
          go_region_held3 (fun w' => w'.cell? ⟨g, k + 1, none⟩ = some (.string (tE (some x))) ∧ w'.cell? ⟨g, k, none⟩ = some (.string (tE (some p)))) (first | (refine keep2 hp2 ?_; assumption) | (refine keep2 PD ?_; exact H2.out))
            (first
              | (go_at_call 24; ((with_reducible refine (fr_compare (some x) (some p) _ HTX.out HTQ.out).mono ?_)); rintro e w4 ⟨hp2, rfl⟩))
          have HPP := Lib.hid (PD.out.trans hp2)
          obtain ⟨q0, q1⟩ := keep2 HPP.out H2.out
          obtain ⟨cv, hcv⟩ : ∃ c, cmpE (some x) (some p) = c := ⟨_, rfl⟩
          rw [hcv]
          have HCV := Lib.hid hcv
          have HT6 := Lib.hid (HT5.out.past HPP.out)
          have HP6 := Lib.hid (HPX.out.trans HPP.out)
          clear hcv hp2
          by_cases hlt : cv < 0
          · have HLT : Hid (ltQ x p = true) := decide_eq_true (by rw [HCV.out]; exact hlt)
            have f0 := (HT6.out.2 (k + 1) (by omega)).2
            have f1 := (HT6.out.2 k (by omega)).2
            go_wp2_with fail
            go_region
            all_goals go_wp2_with fail
            have HFIN : Hid (TAt ((w4.setCell ⟨g, k + 1, none⟩ (.string (tE (some p)))).setCell ⟨g, k, none⟩ (.string (tE (some x)))) g (way P x k i)) := by
              have h1 := (HT6.out.set (j := k + 1) (by omega) (tx P[k])).set (j := k) (by omega) (tx x)
              rw [way_step hkP, HPE.out] at h1
              exact h1
            go_roundg k
            case measure => have := HGJ.out; omega
            case rel => exact ⟨k, rfl, by omega, rfl, by show _ = _; rw [← HSL.out, HST.out, HLT.out]; rfl, ((HP6.out.setCell HGG.out _).setCell HGG.out _).drew, HFIN.out.past (Past.refl _).drew⟩
          · have HLT : Hid (ltQ x p = false) := decide_eq_false (by rw [HCV.out]; exact hlt)
            have HN : Hid (way P x (k + 1) i = (isort ltQ (Z.take (i + 1))).map tx ++ List.replicate (4 - (i + 1)) ⟨#[]⟩) := by
              show _ = _
              rw [HE.out, way_done (onWay_end ltQ P x (k + 1) [] (by rw [HPL.out]; exact HSL.out) (by rw [HST.out, HLT.out]; rfl)), List.append_nil, show 4 - (i + 1) = 3 - i by omega]
            go_wp2
            go_roundg (4 - (i + 1))
            case measure => have := HG.out; omega
            case rel => exact ⟨i + 1, by go_num, by omega, rfl, HP6.out, by rw [← HN.out]; exact HT6.out⟩
    · have hi4 : i = 4 := by omega
      subst hi4
      have HT4 : Hid (TAt wr g ((isort ltQ Z).map tx)) := by
        have h := HT.out
        rw [List.take_of_length_le (by have := HZL.out; omega)] at h
        unfold Hid
        simpa using h
      obtain ⟨t0, t1, t2, t3, hts⟩ : ∃ t0 t1 t2 t3, isort ltQ Z = [t0, t1, t2, t3] := by
        have h : (isort ltQ Z).length = 4 := by rw [isort_length]; exact HZL.out
        match isort ltQ Z, h with
        | [t0, t1, t2, t3], _ => exact ⟨t0, t1, t2, t3, rfl⟩
      have hord := ltQ_ord Z
      have htl : ∀ q ∈ isort ltQ Z, tlQ q ≤ 100 := fun q hq => HZT.out q ((isort_perm _ _).mem_iff.1 hq)
      rw [hts] at HT4 hord htl
      clear HT hts
      have T0 : Hid (tlQ t0 ≤ 100) := htl t0 (by simp)
      have T1 : Hid (tlQ t1 ≤ 100) := htl t1 (by simp)
      have T2 : Hid (tlQ t2 ≤ 100) := htl t2 (by simp)
      have T3 : Hid (tlQ t3 ≤ 100) := htl t3 (by simp)
      obtain ⟨o0, hord⟩ := List.pairwise_cons.1 hord
      obtain ⟨o1, hord⟩ := List.pairwise_cons.1 hord
      obtain ⟨o2, -⟩ := List.pairwise_cons.1 hord
      have L01 : Hid (cmpE (some t0) (some t1) ≤ 0) := ltQ_false (o0 t1 (by simp))
      have L03 : Hid (cmpE (some t0) (some t3) ≤ 0) := ltQ_false (o0 t3 (by simp))
      have L12 : Hid (cmpE (some t1) (some t2) ≤ 0) := ltQ_false (o1 t2 (by simp))
      have L23 : Hid (cmpE (some t2) (some t3) ≤ 0) := ltQ_false (o2 t3 (by simp))
      clear o0 o1 o2 hord htl
      obtain ⟨k, hk, hk0, hk2⟩ : ∃ k : Int, d.tmod 3 = k ∧ 0 ≤ k ∧ k ≤ 2 := by
        have := HD.out
        refine ⟨_, rfl, ?_⟩
        rw [Int.tmod_eq_emod_of_nonneg HD.out.1]
        omega
      have hwd : wrap64 d = d := by
        have := HD.out
        unfold wrap64
        omega
      have HK : Hid (0 ≤ k ∧ k ≤ 2) := ⟨hk0, hk2⟩
      clear hk0 hk2
      have gl : l.length ≤ 2048 := by have := G3.out; omega
      have r1 := rank_enc (d := k) G1.out G2.out gl HK.out.1 (by have := HK.out.2; omega) T0.out T3.out L03.out
      have r2 := rank_enc (d := k) G1.out G2.out gl HK.out.1 (by have := HK.out.2; omega) T1.out T2.out L12.out
      have r3 := rank_enc (d := k) G1.out G2.out gl HK.out.1 (by have := HK.out.2; omega) T1.out T1.out (by rw [cmpE_self]; omega)
      have hab : cntV l k t0 t3 ≤ cntV l k t1 t2 := cnt_mono L01.out L23.out
      have hbc : cntV l k t1 t2 ≤ cntV l k t1 t1 := cnt_mono (by rw [cmpE_self]; omega) L12.out
      obtain ⟨na, hna⟩ : ∃ z, cntV l k t0 t3 = z := ⟨_, rfl⟩
      obtain ⟨nb, hnb⟩ : ∃ z, cntV l k t1 t2 = z := ⟨_, rfl⟩
      obtain ⟨nc, hnc⟩ : ∃ z, cntV l k t1 t1 = z := ⟨_, rfl⟩
      rw [hna, hnb] at hab
      rw [hnb, hnc] at hbc
      rw [HBS.out, hna] at r1
      rw [HBS.out, hnb] at r2
      rw [HBS.out, hnc] at r3
      have R1 := Lib.hid r1
      have R2 := Lib.hid r2
      have R3 := Lib.hid r3
      clear r1 r2 r3 hna hnb hnc gl
      have sz : ∀ {q : Rat}, tlQ q ≤ 100 → (tE (some q)).size ≤ 100000000 := fun {q} h => Nat.le_trans (tE_size (e := some q) h) (by decide)
      have SZ := Lib.hid (show ∀ q : Rat, tlQ q ≤ 100 → (tE (some q)).size ≤ 100000000 from fun q h => sz h)
      clear sz
      have HPF : Hid (Past w wr) := HP2.out.trans HPW.out
      have HR3 : Hid (Rows wr rBar A2 bs.length c2 bs) := HR2.out.past HPW.out
      obtain ⟨e0, -⟩ := HT4.out.at_ (j := 0) rfl
      obtain ⟨e3, -⟩ := HT4.out.at_ (j := 3) rfl
      go_wp2_with fail
      clear e0 e3
      refine (bar_rank A2 bs.length c2 bs k (tE (some t0)) (tE (some t3)) _ HR3.out HFIT.out (SZ.out _ T0.out) (SZ.out _ T3.out) HBL.out).mono ?_
      rintro e w5 ⟨hp5, rfl⟩
      rw [R1.out]
      have HT5 := Lib.hid (HT4.out.past hp5)
      have HR5 := Lib.hid (HR3.out.past hp5)
      have HP5 := Lib.hid (HPF.out.trans hp5)
      clear hp5
      obtain ⟨e1, -⟩ := HT5.out.at_ (j := 1) rfl
      obtain ⟨e2, -⟩ := HT5.out.at_ (j := 2) rfl
      go_wp2_with fail
      clear e1 e2
      refine (bar_rank A2 bs.length c2 bs k (tE (some t1)) (tE (some t2)) _ HR5.out HFIT.out (SZ.out _ T1.out) (SZ.out _ T2.out) HBL.out).mono ?_
      rintro e w6 ⟨hp6, rfl⟩
      rw [R2.out]
      have HT6 := Lib.hid (HT5.out.past hp6)
      have HR6 := Lib.hid (HR5.out.past hp6)
      have HP6 := Lib.hid (HP5.out.trans hp6)
      clear hp6
      obtain ⟨e1, -⟩ := HT6.out.at_ (j := 1) rfl
      go_wp2_with fail
      clear e1
      refine (bar_rank A2 bs.length c2 bs k (tE (some t1)) (tE (some t1)) _ HR6.out HFIT.out (SZ.out _ T1.out) (SZ.out _ T1.out) HBL.out).mono ?_
      rintro e w7 ⟨hp7, rfl⟩
      rw [R3.out]
      have HT7 := Lib.hid (HT6.out.past hp7)
      have HR7 := Lib.hid (HR6.out.past hp7)
      have HP7 := Lib.hid (HP6.out.trans hp7)
      clear hp7
      obtain ⟨e1, -⟩ := HT7.out.at_ (j := 1) rfl
      go_wp2_with fail
      clear e1
      refine (bar_betti A2 bs.length c2 bs k (tE (some t1)) _ HR7.out HFIT.out (SZ.out _ T1.out) HBL.out).mono ?_
      rintro e w8 ⟨hp8, rfl⟩
      rw [R3.out]
      have HP8 := Lib.hid (HP7.out.trans hp8)
      clear hp8
      have zn : (0 : Int) ≤ (na : Int) := by omega
      go_wp2
      go_ret
      exact ⟨HP8.out, rfl⟩

end Go.Proofs.YtdcjibjldfjllaaGreat

/- What a row's opened array of four integers, and its opened byte, give the walk. -/
namespace Go.Proofs.YtdcjibjldfjllaaGreat
open Go.RowKit Go.ChangeShapes

theorem okWide_arr {P : Program} {w : World} {r : Reach} {b0 : Nat} {t e : TypeId} {n : Nat} {v : Value} (hs : P.underlying t = some (.array n e)) (h : Value.okWide P w r b0 t v) : ∃ cs, v = .agg cs ∧ cs.size = P.cellsOf t := by
  simp only [Value.okWide, hs] at h
  obtain ⟨cs, h1, h2, _⟩ := h
  exact ⟨cs, h1, h2⟩

theorem open_arr4 {H : Type} {enc : TypeId × Value → H} {P : Program} {w : World} {base : Nat} {sp : Nat → Bool} {held : Bool} {r : Reach} {b0 : Nat} {t e : TypeId} {v : Value} {d : DataW H} {p : List MemPlace}
    (hs : P.underlying t = some (.array 4 e)) (he : P.underlying e = some (.int .i64)) (hC : P.cellsOf t = 4) (hE : P.cellsOf e = 1) (hv : Value.okWide P w r b0 t v) (h : DataW.Trod enc P w base sp held t v d p) :
    ∃ n0 n1 n2 n3, v = .agg #[.int .i64 n0, .int .i64 n1, .int .i64 n2, .int .i64 n3] ∧ ∀ x ∈ [n0, n1, n2, n3], -9223372036854775808 ≤ x ∧ x ≤ 9223372036854775807 := by
  obtain ⟨cs, rfl, hsz⟩ := okWide_arr hs hv
  obtain ⟨c0, c1, c2, c3, rfl⟩ := Joins.array4 (hsz.trans hC)
  obtain ⟨fuel, hf⟩ := h
  have hf' : DataW.trod enc P w base sp held fuel t [c0, c1, c2, c3] = some (d, p) := by simpa [Value.cells] using hf
  obtain ⟨y0, y1, y2, y3, n, hx, h0, h1, h2, h3⟩ := trod_array4 hs hE hf'
  obtain ⟨a0, e0, -, w0⟩ := DataW.trod_int he h0
  obtain ⟨a1, e1, -, w1⟩ := DataW.trod_int he h1
  obtain ⟨a2, e2, -, w2⟩ := DataW.trod_int he h2
  obtain ⟨a3, e3, -, w3⟩ := DataW.trod_int he h3
  simp at e0 e1 e2 e3
  subst e0 e1 e2 e3
  refine ⟨a0, a1, a2, a3, rfl, ?_⟩
  have k0 := int_of_wf w0
  have k1 := int_of_wf w1
  have k2 := int_of_wf w2
  have k3 := int_of_wf w3
  intro x hx
  simp only [List.mem_cons, List.not_mem_nil, or_false] at hx
  rcases hx with rfl | rfl | rfl | rfl <;> assumption

theorem byte_of_wf {n : Int} (h : (Lit.int .u8 n).wf = true) : 0 ≤ n ∧ n ≤ 255 := by
  have h2 : IntKind.min .u8 ≤ n ∧ n ≤ IntKind.max .u8 := by simpa [Lit.wf] using h
  have e1 : IntKind.min .u8 = 0 := by decide
  have e2 : IntKind.max .u8 = 255 := by decide
  omega

end Go.Proofs.YtdcjibjldfjllaaGreat
