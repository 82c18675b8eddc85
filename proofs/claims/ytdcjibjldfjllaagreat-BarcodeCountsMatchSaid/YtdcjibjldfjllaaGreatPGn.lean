/- Helpers of the proof, joined: Bar7 Bar8 Bar9. -/
import Derived.Test.YtdcjibjldfjllaaGreatPGm
import Derived.Test.YtdcjibjldfjllaaGreatPGl
set_option linter.unusedVariables false
set_option linter.unusedSimpArgs false
/- barcode.Dim, cover, Rank, Betti. -/
namespace Go.Proofs.YtdcjibjldfjllaaGreat
open Go.RowKit

def dimChg (d : Int) : Chg := fun b => (b, b.d == d, 0)

theorem OwnS.low {w' w0 w : World} {e : TypeId} {v : Value} {xs : List Bar} (h : OwnS w0 w rBar e v xs) (hp : Past w' w0) : OwnS w' w rBar e v xs :=
  ⟨⟨h.1.1, h.1.2.imp id fun ⟨g, cap, cur, h1, h2, rest⟩ => ⟨g, cap, cur, h1, Nat.le_trans hp.size h2, rest⟩⟩, hp.trans h.2⟩

set_option maxRecDepth 100000 in
set_option maxHeartbeats 4000000 in
theorem dim_chg (w0 : World) (gd : Nat) (d : Int) (h : w0.cell? ⟨gd, 0, none⟩ = some (.int .i64 d)) : ChgOk w0 (.func (.func 114) #[] #[.pointer (some ⟨gd, 0, none⟩)]) (dimChg d) := by
  refine ⟨_, _, rfl, fun args w => by simp [go_sem], fun w g b hp hg hb hf hfit => ?_⟩
  have e1 := hp.cell h
  have HF := Lib.hid hf
  have HB := Lib.hid hb
  have HFIT := Lib.hid hfit
  obtain ⟨b0, b1, b2⟩ := b
  have e2 : w.cell? ⟨g, 0, none⟩ = some (.int .i64 b0) := hb.1
  clear hb hf hfit hp h
  show Calls _ _ #[.pointer (some ⟨g, 0, none⟩), .pointer (some ⟨gd, 0, none⟩)] w _
  go_enter Tryz.func114, Tryz.ntmps114
  go_wp2
  go_quiet (fail)
  go_wp2
  go_ret2
  exact ⟨⟨rfl, rfl, rfl, Nat.le_refl _, fun _ _ _ => rfl⟩, HB.out, HF.out, HFIT.out, rfl⟩

/-- What barcode.Dim answers. -/
def dimB (bs : List Bar) (d : Int) : List Bar × Int := if checkB bs ≠ 0 then ([], checkB bs) else if d < 0 ∨ 4 < d then ([], 1) else chgAll [dimChg d] [] bs

set_option maxRecDepth 100000 in
set_option maxHeartbeats 4000000 in
theorem bar_dim (A : Option Addr) (n c : Nat) (bs : List Bar) (d : Int) (w : World) (hx : Rows w rBar A n c bs) (hf : ∀ b ∈ bs, b.fit) (hn : n < 20) :
    Calls Tryz.prog 53 #[.slice A n c, .int .i64 d] w fun e w' => Past w w' ∧ ∃ v, e = .returned (.tuple #[v, .int .i64 (dimB bs d).2]) ∧ OwnS w w' rBar 94 v (dimB bs d).1 ∧ ∀ b ∈ (dimB bs d).1, b.fit := by
  have HX := Lib.hid hx
  have HF := Lib.hid hf
  have HN := Lib.hid hn
  clear hx hf hn
  have hmf : ∀ (fn : Fn) (first cap : Array Value) (w : World), (Instr.makeFunc fn first cap).run Tryz.prog w = .ok (.func fn first cap) w := fun _ _ _ _ => rfl
  have HD : Hid ((w.alloc (.cells #[.int .i64 d] 3)).cell? ⟨w.heap.size, 0, none⟩ = some (.int .i64 d)) := cell_new1 _ _ _
  obtain ⟨ec, hec⟩ : ∃ x, checkB bs = x := ⟨_, rfl⟩
  have HEC := Lib.hid hec
  clear hec
  by_cases he : ec = 0
  · subst he
    by_cases hd1 : d < 0
    · have t1 : decide (d < 0) = true := decide_eq_true hd1
      have HR : Hid (dimB bs d = ([], 1)) := by unfold dimB; rw [HEC.out]; simp [hd1, Hid]
      go_enter Tryz.func53, Tryz.ntmps53
      go_wp2_with fail
      refine (bar_check A n c bs _ (HX.out.past ((Past.refl _).alloc _)) HF.out).mono ?_
      rintro e w1 ⟨hp1, rfl⟩
      rw [HEC.out]
      have k1 := hp1.cell HD.out
      go_wp2
      go_ret2
      exact ⟨((Past.refl _).alloc _).trans hp1, _, by rw [HR.out]; rfl, by rw [HR.out]; exact OwnS.nil (((Past.refl _).alloc _).trans hp1) _ _, by rw [HR.out]; intro b hb; cases hb⟩
    · have t1 : decide (d < 0) = false := decide_eq_false hd1
      by_cases hd2 : 4 < d
      · have t2 : decide (4 < d) = true := decide_eq_true hd2
        have HR : Hid (dimB bs d = ([], 1)) := by unfold dimB; rw [HEC.out]; simp [hd2, Hid]
        go_enter Tryz.func53, Tryz.ntmps53
        go_wp2_with fail
        refine (bar_check A n c bs _ (HX.out.past ((Past.refl _).alloc _)) HF.out).mono ?_
        rintro e w1 ⟨hp1, rfl⟩
        rw [HEC.out]
        have k1 := hp1.cell HD.out
        go_wp2
        go_ret2
        exact ⟨((Past.refl _).alloc _).trans hp1, _, by rw [HR.out]; rfl, by rw [HR.out]; exact OwnS.nil (((Past.refl _).alloc _).trans hp1) _ _, by rw [HR.out]; intro b hb; cases hb⟩
      · have t2 : decide (4 < d) = false := decide_eq_false hd2
        have HR : Hid (dimB bs d = chgAll [dimChg d] [] bs) := by unfold dimB; rw [HEC.out]; simp [hd1, hd2, Hid]
        go_enter Tryz.func53, Tryz.ntmps53
        go_wp2_with fail
        refine (bar_check A n c bs _ (HX.out.past ((Past.refl _).alloc _)) HF.out).mono ?_
        rintro e w1 ⟨hp1, rfl⟩
        rw [HEC.out]
        have k1 := hp1.cell HD.out
        have K1 := Lib.hid k1
        have HP1 : Hid (Past w w1) := ((Past.refl _).alloc _).trans hp1
        clear hp1
        go_wp2_with fail
        refine (bar_changed A _ n c 1 1 bs [.func (.func 114) #[] #[.pointer (some ⟨w.heap.size, 0, none⟩)]] [dimChg d] _ (HX.out.past (HP1.out.alloc _)) HF.out HN.out rfl rfl (by omega) (fun _ => ⟨_, _, rfl, ?_⟩) ?_).mono ?_
        · intro j hj
          match j, hj with
          | 0, _ => exact cell_new1 _ _ _
        · intro j hj _
          match j, hj with
          | 0, _ => exact dim_chg _ _ _ (((Past.refl _).alloc _).cell K1.out)
        · rintro e w2 ⟨hp2, v, rfl, hown, hfit⟩
          have HOW : Hid (Past w w2 ∧ OwnS w w2 rBar 94 v (chgAll [dimChg d] [] bs).1 ∧ ∀ b ∈ (chgAll [dimChg d] [] bs).1, b.fit) := ⟨(HP1.out.alloc _).trans hp2, hown.low (HP1.out.alloc _), hfit⟩
          clear hp2 hown hfit
          go_wp2
          go_ret2
          exact ⟨HOW.out.1, v, by rw [HR.out]; rfl, by rw [HR.out]; exact HOW.out.2.1, by rw [HR.out]; exact HOW.out.2.2⟩
  · have HR : Hid (dimB bs d = ([], ec)) := by unfold dimB; rw [HEC.out]; simp [he, Hid]
    have hb : (ec != 0) = true := by simp [he]
    go_enter Tryz.func53, Tryz.ntmps53
    go_wp2_with fail
    refine (bar_check A n c bs _ (HX.out.past ((Past.refl _).alloc _)) HF.out).mono ?_
    rintro e w1 ⟨hp1, rfl⟩
    rw [HEC.out]
    go_wp2
    go_ret2
    exact ⟨((Past.refl _).alloc _).trans hp1, _, by rw [HR.out]; rfl, by rw [HR.out]; exact OwnS.nil (((Past.refl _).alloc _).trans hp1) _ _, by rw [HR.out]; intro b hb; cases hb⟩

end Go.Proofs.YtdcjibjldfjllaaGreat

/- barcode.cover, Rank, Betti. -/
namespace Go.Proofs.YtdcjibjldfjllaaGreat
open Go.RowKit

def covB (s t : ByteArray) (b : Bar) : Bool := decide (cmpT (byt b.x) (byt s) ≤ 0) && decide (cmpT (byt t) (byt b.y) < 0)
theorem take_count {p : Bar → Bool} {l : List Bar} {i : Nat} {b : Bar} (h : i < l.length) (hb : l[i] = b) : (l.take (i + 1)).countP p = (l.take i).countP p + if p b = true then 1 else 0 := by
  rw [List.take_succ_eq_append_getElem h, hb, List.countP_append, List.countP_singleton]

set_option maxRecDepth 100000 in
set_option maxHeartbeats 4000000 in
theorem bar_cover (A : Option Addr) (n c : Nat) (bs : List Bar) (s t : ByteArray) (w : World) (hx : Rows w rBar A n c bs) (hf : ∀ b ∈ bs, b.fit) (hs : s.size ≤ 100000000) (ht : t.size ≤ 100000000) (hn : n < 1000000000) :
    Calls Tryz.prog 87 #[.slice A n c, .string s, .string t] w fun e w' => Past w w' ∧ e = .returned (.int .i64 (bs.countP (covB s t) : Nat)) := by
  have HX := Lib.hid hx
  have HL := Lib.hid hx.len
  have HF := Lib.hid hf
  have HS := Lib.hid hs
  have HT := Lib.hid ht
  clear hx hf hs ht
  go_enter Tryz.func87, Tryz.ntmps87
  go_wp2_with fail
  go_loopg [6, 11] n (fun gg kv iv wr => ∃ (i k : Nat), kv = .int .i64 k ∧ iv = .int .i64 i ∧ i ≤ n ∧ k ≤ i ∧ Hid (gg = n - i) ∧ Hid ((bs.take i).countP (covB s t) = k) ∧ Hid (Past w wr))
  case atStart => exact ⟨0, 0, rfl, rfl, Nat.zero_le _, Nat.le_refl _, rfl, by simp [Hid], Past.refl _⟩
  case round =>
    obtain ⟨i, k, rfl, rfl, hi, hk, HG, HK, HP⟩ := hrel
    by_cases hin : i < n
    · have hil : i < bs.length := by have := HL.out; omega
      obtain ⟨b1, o1, rfl, hc1⟩ := HX.out.bar (by omega)
      have hbi := (hc1 i hil).past HP.out
      obtain ⟨b, hbe⟩ : ∃ b, bs[i] = b := ⟨_, rfl⟩
      rw [hbe] at hbi
      have HFIT : Hid b.fit := by rw [← hbe]; exact HF.out _ (List.getElem_mem hil)
      have HTC : Hid ((bs.take (i + 1)).countP (covB s t) = k + if covB s t b = true then 1 else 0) := by
        show _ = _
        rw [take_count hil hbe, HK.out]
      clear hc1 hbe
      obtain ⟨x0, x1, x2⟩ := b
      have HF1 : Hid (x1.size ≤ 100000000) := HFIT.out.1
      have HF2 : Hid (x2.size ≤ 100000000) := HFIT.out.2
      have e0 : wr.cell? ⟨b1, o1 + i * 3, none⟩ = some (.int .i64 x0) := hbi.1
      have e1 : wr.cell? ⟨b1, o1 + i * 3 + 1, none⟩ = some (.string x1) := hbi.2.1
      have e2 : wr.cell? ⟨b1, o1 + i * 3 + 2, none⟩ = some (.string x2) := hbi.2.2
      have F2 : Hid ((wr.alloc (.cells #[.int .i64 x0, .string x1, .string x2] 94)).cell? ⟨wr.heap.size, 2, none⟩ = some (.string x2)) := by simp [go_sem, Hid]
      clear hbi
      obtain ⟨c1, hc1⟩ : ∃ x, decide (cmpT (byt x1) (byt s) ≤ 0) = x := ⟨_, rfl⟩
      cases c1 with
      | false =>
        have HV : Hid ((bs.take (i + 1)).countP (covB s t) = k) := by
          show _ = _
          rw [HTC.out, show covB s t ⟨x0, x1, x2⟩ = false by unfold covB; simp only [hc1, Bool.false_and]]; rfl
        go_wp2_with (first | (go_at_call 79; (with_reducible refine (ratio_Cmp x1 s _ HF1.out HS.out).mono ?_); rintro e w1 ⟨hp1, rfl⟩))
        go_roundg (n - (i + 1))
        case measure => have := HG.out; omega
        case rel => exact ⟨i + 1, k, rfl, by go_num, by omega, by omega, rfl, HV.out, (HP.out.alloc _).trans hp1⟩
      | true =>
        obtain ⟨c2, hc2⟩ : ∃ x, cmpT (byt t) (byt x2) = x := ⟨_, rfl⟩
        have HC2 := Lib.hid hc2
        clear hc2
        by_cases hlt : c2 < 0
        · have HV : Hid ((bs.take (i + 1)).countP (covB s t) = k + 1) := by
            show _ = _
            rw [HTC.out, show covB s t ⟨x0, x1, x2⟩ = true by unfold covB; simp only [hc1, HC2.out, Bool.true_and]; exact decide_eq_true hlt]; rfl
          go_wp2_with (first | (go_at_call 79; (with_reducible refine (ratio_Cmp x1 s _ HF1.out HS.out).mono ?_); rintro e w1 ⟨hp1, rfl⟩; have k2 := hp1.cell F2.out) | (go_at_call 79; (with_reducible refine (ratio_Cmp t x2 _ HT.out HF2.out).mono ?_); rintro e w2 ⟨hp2, rfl⟩; rw [HC2.out]))
          go_roundg (n - (i + 1))
          case measure => have := HG.out; omega
          case rel => exact ⟨i + 1, k + 1, by go_num, by go_num, by omega, by omega, rfl, HV.out, ((HP.out.alloc _).trans hp1).trans hp2⟩
        · have HV : Hid ((bs.take (i + 1)).countP (covB s t) = k) := by
            show _ = _
            rw [HTC.out, show covB s t ⟨x0, x1, x2⟩ = false by unfold covB; simp only [hc1, HC2.out, Bool.true_and]; exact decide_eq_false hlt]; rfl
          go_wp2_with (first | (go_at_call 79; (with_reducible refine (ratio_Cmp x1 s _ HF1.out HS.out).mono ?_); rintro e w1 ⟨hp1, rfl⟩; have k2 := hp1.cell F2.out) | (go_at_call 79; (with_reducible refine (ratio_Cmp t x2 _ HT.out HF2.out).mono ?_); rintro e w2 ⟨hp2, rfl⟩; rw [HC2.out]))
          go_roundg (n - (i + 1))
          case measure => have := HG.out; omega
          case rel => exact ⟨i + 1, k, rfl, by go_num, by omega, by omega, rfl, HV.out, ((HP.out.alloc _).trans hp1).trans hp2⟩
    · have HV : Hid (bs.countP (covB s t) = k) := by
        show _ = _
        rw [← HK.out, List.take_of_length_le (by have := HL.out; omega)]
      go_wp2
      go_ret
      exact ⟨HP.out, by rw [HV.out]; rfl⟩

/-- What barcode.Rank answers. -/
def rankB (bs : List Bar) (d : Int) (s t : ByteArray) : Int × Int :=
  if (dimB bs d).2 ≠ 0 then (0, (dimB bs d).2) else if okV (byt s) = false ∨ okV (byt t) = false ∨ 0 < cmpT (byt s) (byt t) then (0, 1) else ((((dimB bs d).1.countP (covB s t) : Nat) : Int), 0)

theorem chgAll_len (φs : List Chg) : ∀ (bs out : List Bar), (chgAll φs out bs).1.length ≤ out.length + bs.length
  | [], out => by rw [chgAll, isort_length]; simp
  | b :: bs, out => by
    rw [chgAll]
    split
    · simp
    · split
      · have := chgAll_len φs bs out; simp only [List.length_cons]; omega
      · split
        · have := chgAll_len φs bs (out ++ [(runChg φs b).1])
          simp only [List.length_append, List.length_cons, List.length_nil] at this ⊢
          omega
        · have := chgAll_len φs bs out; simp only [List.length_cons]; omega
theorem dimB_len (bs : List Bar) (d : Int) : (dimB bs d).1.length ≤ bs.length := by
  unfold dimB
  split
  · simp
  · split
    · simp
    · simpa using chgAll_len [dimChg d] bs []

set_option maxRecDepth 100000 in
set_option maxHeartbeats 4000000 in
theorem bar_rank (A : Option Addr) (n c : Nat) (bs : List Bar) (d : Int) (s t : ByteArray) (w : World) (hx : Rows w rBar A n c bs) (hf : ∀ b ∈ bs, b.fit) (hs : s.size ≤ 100000000) (ht : t.size ≤ 100000000) (hn : n < 20) :
    Calls Tryz.prog 28 #[.slice A n c, .int .i64 d, .string s, .string t] w fun e w' => Past w w' ∧ e = .returned (.tuple #[.int .i64 (rankB bs d s t).1, .int .i64 (rankB bs d s t).2]) := by
  have HX := Lib.hid hx
  have HL := Lib.hid hx.len
  have HF := Lib.hid hf
  have HS := Lib.hid hs
  have HT := Lib.hid ht
  have HN := Lib.hid hn
  clear hx hf hs ht hn
  obtain ⟨own, hown⟩ : ∃ x, (dimB bs d).1 = x := ⟨_, rfl⟩
  obtain ⟨er, her⟩ : ∃ x, (dimB bs d).2 = x := ⟨_, rfl⟩
  have HLEN : Hid (own.length < 20) := by
    have h1 := dimB_len bs d
    have := HL.out
    have := HN.out
    rw [hown] at h1
    unfold Hid
    omega
  have HOWN := Lib.hid hown
  have HER := Lib.hid her
  have HRK : Hid (rankB bs d s t = if er ≠ 0 then (0, er) else if okV (byt s) = false ∨ okV (byt t) = false ∨ 0 < cmpT (byt s) (byt t) then (0, 1) else (((own.countP (covB s t) : Nat) : Int), 0)) := by unfold rankB; rw [hown, her]; exact rfl
  clear hown her
  by_cases h0 : er = 0
  · subst h0
    obtain ⟨v1, hv1⟩ : ∃ x, okV (byt s) = x := ⟨_, rfl⟩
    cases v1 with
    | false =>
      have HR : Hid (rankB bs d s t = (0, 1)) := by show _ = _; rw [HRK.out]; simp [hv1]
      go_enter Tryz.func28, Tryz.ntmps28
      go_wp2_with fail
      refine (bar_dim A n c bs d _ HX.out HF.out HN.out).mono ?_
      rintro e w1 ⟨hp1, v, rfl, hov, hof⟩
      rw [HER.out]
      go_wp2_with (first | (go_at_call 72; (with_reducible refine (ratio_valid s _ HS.out).mono ?_); rintro e w2 ⟨hp2, rfl⟩))
      go_ret2
      exact ⟨hp1.trans hp2, by rw [HR.out]; rfl⟩
    | true =>
      obtain ⟨v2, hv2⟩ : ∃ x, okV (byt t) = x := ⟨_, rfl⟩
      cases v2 with
      | false =>
        have HR : Hid (rankB bs d s t = (0, 1)) := by show _ = _; rw [HRK.out]; simp [hv2]
        go_enter Tryz.func28, Tryz.ntmps28
        go_wp2_with fail
        refine (bar_dim A n c bs d _ HX.out HF.out HN.out).mono ?_
        rintro e w1 ⟨hp1, v, rfl, hov, hof⟩
        rw [HER.out]
        go_wp2_with (first | (go_at_call 72; first | ((with_reducible refine (ratio_valid s _ HS.out).mono ?_); rintro e w2 ⟨hp2, rfl⟩; rw [hv1]) | ((with_reducible refine (ratio_valid t _ HT.out).mono ?_); rintro e w3 ⟨hp3, rfl⟩; rw [hv2])))
        go_ret2
        exact ⟨(hp1.trans hp2).trans hp3, by rw [HR.out]; rfl⟩
      | true =>
        obtain ⟨c2, hc2⟩ : ∃ x, cmpT (byt s) (byt t) = x := ⟨_, rfl⟩
        have HC2 := Lib.hid hc2
        by_cases hlt : 0 < c2
        · have HR : Hid (rankB bs d s t = (0, 1)) := by show _ = _; rw [HRK.out]; simp [hc2, hlt]
          clear hc2
          go_enter Tryz.func28, Tryz.ntmps28
          go_wp2_with fail
          refine (bar_dim A n c bs d _ HX.out HF.out HN.out).mono ?_
          rintro e w1 ⟨hp1, v, rfl, hov, hof⟩
          rw [HER.out]
          go_wp2_with (first | (go_at_call 79; refine (ratio_Cmp s t _ HS.out HT.out).mono ?_; rintro e w4 ⟨hp4, rfl⟩; rw [HC2.out]) | (go_at_call 72; first | ((with_reducible refine (ratio_valid s _ HS.out).mono ?_); rintro e w2 ⟨hp2, rfl⟩; rw [hv1]) | ((with_reducible refine (ratio_valid t _ HT.out).mono ?_); rintro e w3 ⟨hp3, rfl⟩; rw [hv2])))
          go_ret2
          exact ⟨((hp1.trans hp2).trans hp3).trans hp4, by rw [HR.out]; rfl⟩
        · have HR : Hid (rankB bs d s t = (((own.countP (covB s t) : Nat) : Int), 0)) := by show _ = _; rw [HRK.out]; simp [hc2, hlt, hv1, hv2]
          clear hc2
          go_enter Tryz.func28, Tryz.ntmps28
          go_wp2_with fail
          refine (bar_dim A n c bs d _ HX.out HF.out HN.out).mono ?_
          rintro e w1 ⟨hp1, v, rfl, hov, hof⟩
          rw [HOWN.out] at hov hof
          rw [HER.out]
          obtain ⟨A', c', rfl, hrows⟩ := hov.reads
          have HRO := Lib.hid hrows
          have HOF := Lib.hid hof
          clear hov hof hrows
          go_wp2_with (first | (go_at_call 79; refine (ratio_Cmp s t _ HS.out HT.out).mono ?_; rintro e w4 ⟨hp4, rfl⟩; rw [HC2.out]) | (go_at_call 72; first | ((with_reducible refine (ratio_valid s _ HS.out).mono ?_); rintro e w2 ⟨hp2, rfl⟩; rw [hv1]) | ((with_reducible refine (ratio_valid t _ HT.out).mono ?_); rintro e w3 ⟨hp3, rfl⟩; rw [hv2])) | (go_at_call 87; refine (bar_cover A' own.length c' own s t _ (HRO.out.past ((hp2.trans hp3).trans hp4)) HOF.out HS.out HT.out (by have := HLEN.out; omega)).mono ?_; rintro e w5 ⟨hp5, rfl⟩))
          go_ret2
          exact ⟨(((hp1.trans hp2).trans hp3).trans hp4).trans hp5, by rw [HR.out]; rfl⟩
  · have HR : Hid (rankB bs d s t = (0, er)) := by show _ = _; rw [HRK.out, if_pos h0]
    have hb : (er != 0) = true := by simp [h0]
    go_enter Tryz.func28, Tryz.ntmps28
    go_wp2_with fail
    refine (bar_dim A n c bs d _ HX.out HF.out HN.out).mono ?_
    rintro e w1 ⟨hp1, v, rfl, hov, hof⟩
    rw [HER.out]
    go_wp2
    go_ret2
    exact ⟨hp1, by rw [HR.out]; rfl⟩

theorem bar_betti (A : Option Addr) (n c : Nat) (bs : List Bar) (d : Int) (t : ByteArray) (w : World) (hx : Rows w rBar A n c bs) (hf : ∀ b ∈ bs, b.fit) (ht : t.size ≤ 100000000) (hn : n < 20) :
    Calls Tryz.prog 27 #[.slice A n c, .int .i64 d, .string t] w fun e w' => Past w w' ∧ e = .returned (.tuple #[.int .i64 (rankB bs d t t).1, .int .i64 (rankB bs d t t).2]) := by
  have HR := Lib.hid (bar_rank A n c bs d t t w hx hf ht ht hn)
  clear hx hf ht hn
  go_enter Tryz.func27, Tryz.ntmps27
  go_wp2_with fail
  refine HR.out.mono ?_
  rintro e w1 ⟨hp1, rfl⟩
  go_wp2
  go_ret2
  exact ⟨hp1, rfl⟩

end Go.Proofs.YtdcjibjldfjllaaGreat

/- barcode.Clip. -/
namespace Go.Proofs.YtdcjibjldfjllaaGreat
open Go.RowKit

def clip1 (s : ByteArray) : Chg := fun b => (⟨b.d, txt (maxT (byt b.x) (byt s)), b.y⟩, true, 0)
def clip2 (t : ByteArray) : Chg := fun b => (⟨b.d, b.x, txt (minT (byt b.y) (byt t))⟩, true, 0)
theorem etx_eV {l : List Int} (h : okE l = true) : etx (eV l) = l := by
  unfold okE at h
  rw [Bool.or_eq_true] at h
  unfold eV
  by_cases hi : isInf l = true
  · rw [if_pos hi]
    unfold isInf at hi
    exact (of_decide_eq_true hi).symm
  · rw [if_neg hi]
    have hv : okV l = true := h.resolve_left hi
    unfold okV at hv
    rw [Bool.and_eq_true] at hv
    exact (rtx_valR hv.1).symm
theorem maxT_size (a b : ByteArray) (ha : a.size ≤ 100000000) (hb : b.size ≤ 100000000) : (txt (maxT (byt a) (byt b))).size ≤ 100000000 := by
  unfold maxT
  split
  · split
    · rw [txt_byt]; exact hb
    · rw [txt_byt]; exact ha
  · rw [txt_size]; simp

theorem grown_set {w w2 : World} (hp : Past w w2) (g o : Nat) (v : Value) : w.grownBy (w2.setCell ⟨g, o, none⟩ v) (some g) :=
  ⟨hp.os, hp.tape, hp.output, by have := hp.size; simpa [World.setCell] using this, fun k hk hne => (Below.heap_setCell _ _ _ _ (by simpa using hne)).trans (hp.block k hk)⟩
theorem barAt_set1 {w : World} {g : Nat} {b0 : Int} {b1 b2 : ByteArray} (h : BarAt w g 0 ⟨b0, b1, b2⟩) (s : ByteArray) : BarAt (w.setCell ⟨g, 1, none⟩ (.string s)) g 0 ⟨b0, s, b2⟩ := by
  obtain ⟨h0, h1, h2⟩ := h
  refine ⟨?_, ?_, ?_⟩
  · rw [World.cell?_setCell_other _ _ _ _ (by simp)]; exact h0
  · have h1' : w.cell? ⟨g, 1, none⟩ = some (.string b1) := h1
    show (w.setCell ⟨g, 1, none⟩ (.string s)).cell? ⟨g, 1, none⟩ = some (.string s)
    simp [go_sem, h1']
  · rw [World.cell?_setCell_other _ _ _ _ (by simp)]; exact h2
theorem barAt_set2 {w : World} {g : Nat} {b0 : Int} {b1 b2 : ByteArray} (h : BarAt w g 0 ⟨b0, b1, b2⟩) (s : ByteArray) : BarAt (w.setCell ⟨g, 2, none⟩ (.string s)) g 0 ⟨b0, b1, s⟩ := by
  obtain ⟨h0, h1, h2⟩ := h
  refine ⟨?_, ?_, ?_⟩
  · rw [World.cell?_setCell_other _ _ _ _ (by simp)]; exact h0
  · rw [World.cell?_setCell_other _ _ _ _ (by simp)]; exact h1
  · have h1' : w.cell? ⟨g, 2, none⟩ = some (.string b2) := h2
    show (w.setCell ⟨g, 2, none⟩ (.string s)).cell? ⟨g, 2, none⟩ = some (.string s)
    simp [go_sem, h1']

set_option maxRecDepth 100000 in
set_option maxHeartbeats 4000000 in
theorem clip1_chg (w0 : World) (gd : Nat) (s : ByteArray) (h : w0.cell? ⟨gd, 0, none⟩ = some (.string s)) (hs : s.size ≤ 100000000) : ChgOk w0 (.func (.func 81) #[] #[.pointer (some ⟨gd, 0, none⟩)]) (clip1 s) := by
  refine ⟨_, _, rfl, fun args w => by simp [go_sem], fun w g b hp hg hb hf hfit => ?_⟩
  have e1 := hp.cell h
  have HF := Lib.hid hf
  have HB := Lib.hid hb
  have HS := Lib.hid hs
  obtain ⟨b0, b1, b2⟩ := b
  have HX1 : Hid (b1.size ≤ 100000000) := hfit.1
  have HX2 : Hid (b2.size ≤ 100000000) := hfit.2
  have e2 : w.cell? ⟨g, 1, none⟩ = some (.string b1) := hb.2.1
  clear hb hf hfit hs
  show Calls _ _ #[.pointer (some ⟨g, 0, none⟩), .pointer (some ⟨gd, 0, none⟩)] w _
  go_enter Tryz.func81, Tryz.ntmps81
  go_wp2_with fail
  go_region_with (first | (go_at_call 82; ((with_reducible refine (ratio_Max b1 s _ HX1.out HS.out).mono ?_)); rintro e w2 ⟨hp2, rfl⟩; obtain ⟨q1, f1⟩ := hp2.free e2 (HF.out 1)))
  all_goals
    have HPP : Hid (Past w w2) := Past.trans ((Past.refl w).drewN _) hp2
    have HFZ : Hid (∀ j, w2.frozen? ⟨g, j, none⟩ = false) := fun j => (Below.frozen HPP.out (p := ⟨g, j, none⟩) (show g < w.heap.size from World.block_lt_of_cell? w _ e2)).trans (HF.out j)
    clear hp2
    go_wp2
    go_ret2
    exact ⟨grown_set HPP.out _ _ _, barAt_set1 (HB.out.past HPP.out) _, fun j => by simp [go_sem]; exact HFZ.out j, ⟨maxT_size _ _ HX1.out HS.out, HX2.out⟩, rfl⟩

theorem minT_size (a b : ByteArray) (ha : a.size ≤ 100000000) (hb : b.size ≤ 100000000) : (txt (minT (byt a) (byt b))).size ≤ 100000000 := by
  unfold minT
  split
  · rename_i h
    simp only [Bool.and_eq_true] at h
    unfold minE
    split
    · rw [etx_eV h.2, txt_byt]; exact hb
    · rw [etx_eV h.1, txt_byt]; exact ha
  · rw [txt_size]; simp

set_option maxRecDepth 100000 in
set_option maxHeartbeats 4000000 in
theorem clip2_chg (w0 : World) (gd : Nat) (s : ByteArray) (h : w0.cell? ⟨gd, 0, none⟩ = some (.string s)) (hs : s.size ≤ 100000000) : ChgOk w0 (.func (.func 83) #[] #[.pointer (some ⟨gd, 0, none⟩)]) (clip2 s) := by
  refine ⟨_, _, rfl, fun args w => by simp [go_sem], fun w g b hp hg hb hf hfit => ?_⟩
  have e1 := hp.cell h
  have HF := Lib.hid hf
  have HB := Lib.hid hb
  have HS := Lib.hid hs
  obtain ⟨b0, b1, b2⟩ := b
  have HX1 : Hid (b1.size ≤ 100000000) := hfit.1
  have HX2 : Hid (b2.size ≤ 100000000) := hfit.2
  have e2 : w.cell? ⟨g, 2, none⟩ = some (.string b2) := hb.2.2
  clear hb hf hfit hs
  show Calls _ _ #[.pointer (some ⟨g, 0, none⟩), .pointer (some ⟨gd, 0, none⟩)] w _
  go_enter Tryz.func83, Tryz.ntmps83
  go_wp2_with fail
  go_region_with (first | (go_at_call 84; ((with_reducible refine (ratio_Min b2 s _ HX2.out HS.out).mono ?_)); rintro e w2 ⟨hp2, rfl⟩; obtain ⟨q1, f1⟩ := hp2.free e2 (HF.out 2)))
  all_goals
    have HPP : Hid (Past w w2) := Past.trans ((Past.refl w).drewN _) hp2
    have HFZ : Hid (∀ j, w2.frozen? ⟨g, j, none⟩ = false) := fun j => (Below.frozen HPP.out (p := ⟨g, j, none⟩) (show g < w.heap.size from World.block_lt_of_cell? w _ e2)).trans (HF.out j)
    clear hp2
    go_wp2
    go_ret2
    exact ⟨grown_set HPP.out _ _ _, barAt_set2 (HB.out.past HPP.out) _, fun j => by simp [go_sem]; exact HFZ.out j, ⟨HX1.out, minT_size _ _ HX2.out HS.out⟩, rfl⟩

/-- What barcode.Clip answers. -/
def clipB (bs : List Bar) (s t : ByteArray) : List Bar × Int :=
  if checkB bs ≠ 0 then ([], checkB bs) else if okV (byt s) = false ∨ okE (byt t) = false ∨ 0 < cmpT (byt s) (byt t) then ([], 1) else chgAll [clip1 s, clip2 t] [] bs

set_option maxRecDepth 100000 in
set_option maxHeartbeats 4000000 in
theorem bar_clip (A : Option Addr) (n c : Nat) (bs : List Bar) (s t : ByteArray) (w : World) (hx : Rows w rBar A n c bs) (hf : ∀ b ∈ bs, b.fit) (hs : s.size ≤ 100000000) (ht : t.size ≤ 100000000) (hn : n < 20) :
    Calls Tryz.prog 25 #[.slice A n c, .string s, .string t] w fun e w' => Past w w' ∧ ∃ v, e = .returned (.tuple #[v, .int .i64 (clipB bs s t).2]) ∧ OwnS w w' rBar 94 v (clipB bs s t).1 ∧ ∀ b ∈ (clipB bs s t).1, b.fit := by
  have HX := Lib.hid hx
  have HF := Lib.hid hf
  have HS := Lib.hid hs
  have HT := Lib.hid ht
  have HN := Lib.hid hn
  clear hx hf hs ht hn
  have hmf : ∀ (fn : Fn) (first cap : Array Value) (w : World), (Instr.makeFunc fn first cap).run Tryz.prog w = .ok (.func fn first cap) w := fun _ _ _ _ => rfl
  obtain ⟨wb, hwb⟩ : ∃ wb, ((w.alloc (.cells #[.string s] 36)).alloc (.cells #[.string t] 36)) = wb := ⟨_, rfl⟩
  have HPB : Hid (Past w wb) := by rw [← hwb]; exact ((Past.refl _).alloc _).alloc _
  have HB1 : Hid (wb.cell? ⟨w.heap.size, 0, none⟩ = some (.string s)) := by unfold Hid; rw [← hwb]; simp [go_sem]
  have HB2 : Hid (wb.cell? ⟨w.heap.size + 1, 0, none⟩ = some (.string t)) := by unfold Hid; rw [← hwb]; simp [go_sem]
  have HWB := Lib.hid hwb
  clear hwb
  obtain ⟨ec, hec⟩ : ∃ x, checkB bs = x := ⟨_, rfl⟩
  have HRK : Hid (clipB bs s t = if ec ≠ 0 then ([], ec) else if okV (byt s) = false ∨ okE (byt t) = false ∨ 0 < cmpT (byt s) (byt t) then ([], 1) else chgAll [clip1 s, clip2 t] [] bs) := by unfold clipB; rw [hec]; exact rfl
  have HEC := Lib.hid hec
  clear hec
  by_cases h0 : ec = 0
  · subst h0
    obtain ⟨v1, hv1⟩ : ∃ x, okV (byt s) = x := ⟨_, rfl⟩
    obtain ⟨v2, hv2⟩ : ∃ x, okE (byt t) = x := ⟨_, rfl⟩
    obtain ⟨c2, hc2⟩ : ∃ x, cmpT (byt s) (byt t) = x := ⟨_, rfl⟩
    have HC2 := Lib.hid hc2
    have HV1 := Lib.hid hv1
    have HV2 := Lib.hid hv2
    cases v1 with
    | false =>
      have HR : Hid (clipB bs s t = ([], 1)) := by show _ = _; rw [HRK.out]; simp [hv1]
      clear hv1 hv2 hc2
      go_enter Tryz.func25, Tryz.ntmps25
      go_wp2_with fail
      rw [HWB.out]
      refine (bar_check A n c bs _ (HX.out.past HPB.out) HF.out).mono ?_
      rintro e w1 ⟨hp1, rfl⟩
      rw [HEC.out]
      have k1 := hp1.cell HB1.out
      go_wp2_with (first | (go_at_call 72; (with_reducible refine (ratio_valid s _ HS.out).mono ?_); rintro e w2 ⟨hp2, rfl⟩; rw [HV1.out]))
      go_ret2
      exact ⟨(HPB.out.trans hp1).trans hp2, _, by rw [HR.out]; rfl, by rw [HR.out]; exact OwnS.nil ((HPB.out.trans hp1).trans hp2) _ _, by rw [HR.out]; intro b hb; cases hb⟩
    | true =>
      cases v2 with
      | false =>
        have HR : Hid (clipB bs s t = ([], 1)) := by show _ = _; rw [HRK.out]; simp [hv2]
        clear hv1 hv2 hc2
        go_enter Tryz.func25, Tryz.ntmps25
        go_wp2_with fail
        rw [HWB.out]
        refine (bar_check A n c bs _ (HX.out.past HPB.out) HF.out).mono ?_
        rintro e w1 ⟨hp1, rfl⟩
        rw [HEC.out]
        have k1 := hp1.cell HB1.out
        have k2 := hp1.cell HB2.out
        go_wp2_with (first | (go_at_call 72; (with_reducible refine (ratio_valid s _ HS.out).mono ?_); rintro e w2 ⟨hp2, rfl⟩; rw [HV1.out]; have m1 := hp2.cell k1; have m2 := hp2.cell k2) | (go_at_call 73; (with_reducible refine (ratio_end t _ HT.out).mono ?_); rintro e w3 ⟨hp3, rfl⟩; rw [HV2.out]))
        go_ret2
        exact ⟨((HPB.out.trans hp1).trans hp2).trans hp3, _, by rw [HR.out]; rfl, by rw [HR.out]; exact OwnS.nil (((HPB.out.trans hp1).trans hp2).trans hp3) _ _, by rw [HR.out]; intro b hb; cases hb⟩
      | true =>
        by_cases hlt : 0 < c2
        · have HR : Hid (clipB bs s t = ([], 1)) := by show _ = _; rw [HRK.out]; simp [hc2, hlt]
          clear hv1 hv2 hc2
          go_enter Tryz.func25, Tryz.ntmps25
          go_wp2_with fail
          rw [HWB.out]
          refine (bar_check A n c bs _ (HX.out.past HPB.out) HF.out).mono ?_
          rintro e w1 ⟨hp1, rfl⟩
          rw [HEC.out]
          have k1 := hp1.cell HB1.out
          have k2 := hp1.cell HB2.out
          go_wp2_with (first | (go_at_call 72; (with_reducible refine (ratio_valid s _ HS.out).mono ?_); rintro e w2 ⟨hp2, rfl⟩; rw [HV1.out]; have m1 := hp2.cell k1; have m2 := hp2.cell k2) | (go_at_call 73; (with_reducible refine (ratio_end t _ HT.out).mono ?_); rintro e w3 ⟨hp3, rfl⟩; rw [HV2.out]; have l1 := hp3.cell m1; have l2 := hp3.cell m2) | (go_at_call 79; (with_reducible refine (ratio_Cmp s t _ HS.out HT.out).mono ?_); rintro e w4 ⟨hp4, rfl⟩; rw [HC2.out]))
          go_ret2
          exact ⟨(((HPB.out.trans hp1).trans hp2).trans hp3).trans hp4, _, by rw [HR.out]; rfl, by rw [HR.out]; exact OwnS.nil ((((HPB.out.trans hp1).trans hp2).trans hp3).trans hp4) _ _, by rw [HR.out]; intro b hb; cases hb⟩
        · have HR : Hid (clipB bs s t = chgAll [clip1 s, clip2 t] [] bs) := by show _ = _; rw [HRK.out]; simp [hc2, hlt, hv1, hv2]
          clear hv1 hv2 hc2
          go_enter Tryz.func25, Tryz.ntmps25
          go_wp2_with fail
          rw [HWB.out]
          refine (bar_check A n c bs _ (HX.out.past HPB.out) HF.out).mono ?_
          rintro e w1 ⟨hp1, rfl⟩
          rw [HEC.out]
          have k1 := hp1.cell HB1.out
          have k2 := hp1.cell HB2.out
          go_wp2_with (first | (go_at_call 72; (with_reducible refine (ratio_valid s _ HS.out).mono ?_); rintro e w2 ⟨hp2, rfl⟩; rw [HV1.out]; have m1 := hp2.cell k1; have m2 := hp2.cell k2) | (go_at_call 73; (with_reducible refine (ratio_end t _ HT.out).mono ?_); rintro e w3 ⟨hp3, rfl⟩; rw [HV2.out]; have l1 := hp3.cell m1; have l2 := hp3.cell m2) | (go_at_call 79; (with_reducible refine (ratio_Cmp s t _ HS.out HT.out).mono ?_); rintro e w4 ⟨hp4, rfl⟩; rw [HC2.out]))
          have HPP : Hid (Past w w4) := (((HPB.out.trans hp1).trans hp2).trans hp3).trans hp4
          have HK1 := Lib.hid (hp4.cell l1)
          have HK2 := Lib.hid (hp4.cell l2)
          refine (bar_changed A _ n c 2 2 bs [.func (.func 81) #[] #[.pointer (some ⟨w.heap.size, 0, none⟩)], .func (.func 83) #[] #[.pointer (some ⟨w.heap.size + 1, 0, none⟩)]] [clip1 s, clip2 t] _ (HX.out.past (HPP.out.alloc _)) HF.out HN.out rfl rfl (by omega) (fun _ => ⟨_, _, rfl, ?_⟩) ?_).mono ?_
          · intro j hj
            rw [Nat.zero_add, cell_box]
            match j, hj with
            | 0, _ => rfl
            | 1, _ => rfl
          · intro j hj _
            match j, hj with
            | 0, _ => exact clip1_chg _ _ _ (((Past.refl _).alloc _).cell HK1.out) HS.out
            | 1, _ => exact clip2_chg _ _ _ (((Past.refl _).alloc _).cell HK2.out) HT.out
          · rintro e w5 ⟨hp5, v, rfl, hown, hfit⟩
            have HOW : Hid (Past w w5 ∧ OwnS w w5 rBar 94 v (chgAll [clip1 s, clip2 t] [] bs).1 ∧ ∀ b ∈ (chgAll [clip1 s, clip2 t] [] bs).1, b.fit) := ⟨(HPP.out.alloc _).trans hp5, hown.low (HPP.out.alloc _), hfit⟩
            clear hp5 hown hfit
            go_wp2
            go_ret2
            exact ⟨HOW.out.1, v, by rw [HR.out]; rfl, by rw [HR.out]; exact HOW.out.2.1, by rw [HR.out]; exact HOW.out.2.2⟩
  · have HR : Hid (clipB bs s t = ([], ec)) := by show _ = _; rw [HRK.out, if_pos h0]
    have hb : (ec != 0) = true := by simp [h0]
    go_enter Tryz.func25, Tryz.ntmps25
    go_wp2_with fail
    rw [HWB.out]
    refine (bar_check A n c bs _ (HX.out.past HPB.out) HF.out).mono ?_
    rintro e w1 ⟨hp1, rfl⟩
    rw [HEC.out]
    go_wp2
    go_ret2
    exact ⟨HPB.out.trans hp1, _, by rw [HR.out]; rfl, by rw [HR.out]; exact OwnS.nil (HPB.out.trans hp1) _ _, by rw [HR.out]; intro b hb; cases hb⟩

end Go.Proofs.YtdcjibjldfjllaaGreat
