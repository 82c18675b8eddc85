/- Helpers of the proof, joined: Dec1 Dec2 Dec3 Dec4 Dec5 Dec6 Dec7 Dec8 Dec9 Dec10. -/
import Derived.Test.YtdcjibjldfjllaaGreatPGg
import Derived.Test.YtdcjibjldfjllaaGreatPGf
import Derived.Test.YtdcjibjldfjllaaGreatPGb
import Derived.BigRegion
set_option linter.unusedVariables false
set_option linter.unusedSimpArgs false
/- The reference's whole numbers: decimal digits. -/
namespace Go.Proofs.YtdcjibjldfjllaaGreat
open Go.RowKit

set_option maxHeartbeats 400000 in
theorem ref_trim (A : Option Addr) (n c : Nat) (xs : List Int) (w : World) (hx : RInts w .i64 A n c xs) :
    Calls Tryz.prog 196 #[.slice A n c] w fun e w' => Drew w w' ∧ ∃ m, e = .returned (.slice A m c) ∧ RInts w .i64 A m c (Dg.trim xs) := by
  have HX := Lib.hid hx
  have hcap := hx.cap
  have hbig := hx.big
  have hlen := Lib.hid hx.len
  clear hx
  go_enter Tryz.func196, Tryz.ntmps196
  go_wp2
  go_loopw [0] (fun s w' => ∃ m : Nat, m ≤ n ∧ s = .slice A m c ∧ Hid (Dg.trim (xs.take m) = Dg.trim xs) ∧ Hid (Drew w w')) (fun s _ => match s with | .slice _ m _ => m | _ => 0)
  case atStart => exact ⟨n, Nat.le_refl _, rfl, by rw [List.take_of_length_le (by have := hlen.out; omega)]; rfl, Drew.refl w⟩
  case round =>
    obtain ⟨m, hm, rfl, HT, HD⟩ := hrel
    cases m with
    | zero =>
      have HT2 : Hid (Dg.trim xs = []) := HT.out.symm
      clear HT
      go_wp2
      go_ret
      exact ⟨HD.out, 0, rfl, by rw [HT2.out]; exact RInts.nil _ _ _ _ hbig⟩
    | succ m =>
      obtain ⟨b, off, rfl, hc⟩ := HX.out.at_ (by omega)
      have hcm := hc m (by omega)
      have HC := Lib.hid hc
      clear hc
      have h0 : (0 : Int) ≤ m := by omega
      by_cases hz : rd xs m = 0
      · have HZ := Lib.hid hz
        have hcm' : w.cell? ⟨b, off + m, none⟩ = some (.int .i64 0) := by rw [hcm, hz]
        clear hcm hz
        have hcr := HD.out.past.cell hcm'
        clear hcm'
        go_wp2
        go_roundw
        case rel => exact ⟨m, by omega, rfl, by rw [← HT.out, trim_take_succ (by have := hlen.out; omega) HZ.out]; exact rfl, HD⟩
        case measure => simp
      · have HZ := Lib.hid hz
        have hcr := HD.out.past.cell hcm
        have hzb : (rd xs m == 0) = false := beq_eq_false_iff_ne.2 hz
        clear hcm hz
        go_wp2
        go_ret
        exact ⟨HD.out, m + 1, rfl, by
          rw [← HT.out, trim_take_end (by have := hlen.out; omega) HZ.out]
          exact HX.out.take (m + 1) (by omega)⟩

set_option maxHeartbeats 400000 in
theorem ref_size (A B : Option Addr) (n m c d : Nat) (xs ys : List Int) (w : World) (hx : RInts w .i64 A n c xs) (hy : RInts w .i64 B m d ys) :
    Calls Tryz.prog 131 #[.slice A n c, .slice B m d] w fun e w' => Drew w w' ∧ e = .returned (.int .i64 (cmpSize xs ys)) := by
  have hm1 := hx.cap
  have hm2 := hy.cap
  have hm3 := hx.big
  have hm4 := hy.big
  have HL1 := Lib.hid hx.len
  have HL2 := Lib.hid hy.len
  have HX := Lib.hid hx
  have HY := Lib.hid hy
  clear hx hy
  by_cases hnm : n = m
  · subst hnm
    go_enter Tryz.func131, Tryz.ntmps131
    go_wp2
    go_loopw [5] (fun i w' => ∃ k : Nat, k ≤ n ∧ i = .int .i64 ((k : Int) - 1) ∧ Hid (cmpTop xs ys n = cmpTop xs ys k) ∧ Hid (Drew w w')) (fun i _ => (intOf i + 1).toNat)
    case atStart => exact ⟨n, Nat.le_refl _, rfl, rfl, Drew.refl w⟩
    case round =>
      obtain ⟨k, hk, rfl, HC, HQ⟩ := hrel
      cases k with
      | zero =>
        go_wp2
        go_ret
        exact ⟨HQ.out, ret_int (by rw [cmpSize, HL1.out, HL2.out, if_neg (by omega), if_neg (by omega), HC.out]; rfl)⟩
      | succ k =>
        obtain ⟨b1, o1, rfl, hc1⟩ := HX.out.at_ (by omega)
        obtain ⟨b2, o2, rfl, hc2⟩ := HY.out.at_ (by omega)
        have e1 := HQ.out.past.cell (hc1 k (by omega))
        have e2 := HQ.out.past.cell (hc2 k (by omega))
        clear hc1 hc2
        have ek : ((k + 1 : Nat) : Int) - 1 = (k : Int) := by omega
        simp only [ek]
        clear ek
        have h0 : (0 : Int) ≤ k := by omega
        have h1 : (k : Int) < n := by omega
        by_cases hE : rd xs k = rd ys k
        · have HE := Lib.hid hE
          have hb1 : decide (rd xs k < rd ys k) = false := by simp [hE]
          have hb2 : decide (rd ys k < rd xs k) = false := by simp [hE]
          clear hE
          go_wp2
          repeat (go_quiet (fail); try go_wp2)
          go_roundw
          case rel => exact ⟨k, by omega, rfl, by rw [HC.out, cmpTop, if_pos HE.out]; exact rfl, (by first | exact HQ.out.step _ | exact (HQ.out.step _).step _)⟩
          case measure => simp [intOf]
        · have HE := Lib.hid hE
          by_cases hL : rd xs k < rd ys k
          · have HL := Lib.hid hL
            have hb1 : decide (rd xs k < rd ys k) = true := by simp [hL]
            clear hE hL
            go_wp2
            repeat (go_quiet (fail); try go_wp2)
            go_ret
            exact ⟨HQ.out.step _, ret_int (by rw [cmpSize, HL1.out, HL2.out, if_neg (by omega), if_neg (by omega), HC.out, cmpTop, if_neg HE.out, if_pos HL.out])⟩
          · have HL := Lib.hid hL
            have hb1 : decide (rd xs k < rd ys k) = false := by simp; omega
            have hb2 : decide (rd ys k < rd xs k) = true := by simp; omega
            clear hE hL
            go_wp2
            repeat (go_quiet (fail); try go_wp2)
            go_ret
            exact ⟨(by first | exact HQ.out.step _ | exact (HQ.out.step _).step _), ret_int (by rw [cmpSize, HL1.out, HL2.out, if_neg (by omega), if_neg (by omega), HC.out, cmpTop, if_neg HE.out, if_neg (Int.not_lt.2 HL.out)])⟩
  · by_cases hL : n < m
    · go_enter Tryz.func131, Tryz.ntmps131
      go_wp2
      go_ret
      exact ⟨Drew.refl w, ret_int (by rw [cmpSize, HL1.out, HL2.out, if_pos hL])⟩
    · have hL' : m < n := by omega
      go_enter Tryz.func131, Tryz.ntmps131
      go_wp2
      go_ret
      exact ⟨Drew.refl w, ret_int (by rw [cmpSize, HL1.out, HL2.out, if_neg hL, if_pos hL'])⟩

theorem info_int : (Tryz.prog.info? 3).map (fun i => (i.zero, i.size, i.bytes)) = some (some (.int .i64 0), 1, 8) := by kernel_rfl
theorem el_int : ElT Tryz.prog 34 3 := by
  refine ⟨Tryz.underlying34, ?_⟩
  obtain ⟨i, h1, h2, h3, h4⟩ := info_parts info_int
  exact ⟨i, _, h1, h2, h3, by omega, rfl⟩

/-- The digits of a text, from the lowest one on. -/
def dgr (l : List Int) : List Int := (((l.filter (· != 45)).reverse).map (· - 48))
theorem dgr_cons (x : Int) (l : List Int) : dgr (x :: l) = if x = 45 then dgr l else dgr l ++ [x - 48] := by
  unfold dgr
  by_cases h : x = 45
  · subst h; simp
  · simp [h]

theorem byt_at (s : ByteArray) (k : Nat) (h : k < s.size) : (((s[k]'h).toNat : Nat) : Int) = rd (byt s) k := by
  unfold rd byt
  have hl : k < s.data.toList.length := by rw [← Lib.size_eq]; exact h
  rw [Dg.getD_eq (by simpa using hl), List.getElem_map]
  rfl
theorem byt_bd (s : ByteArray) (k : Nat) (h : k < s.size) : 0 ≤ rd (byt s) k ∧ rd (byt s) k < 256 := by
  rw [← byt_at s k h]
  have := (s[k]'h).toNat_lt
  omega
theorem drop_rd {l : List Int} {k : Nat} (h : k < l.length) : l.drop k = rd l k :: l.drop (k + 1) := by
  unfold rd
  rw [Dg.drop_cons_getD h]
theorem dgr_drop {l : List Int} {k : Nat} {x : Int} (h : k < l.length) (hx : x = rd l k) : dgr (l.drop k) = if x = 45 then dgr (l.drop (k + 1)) else dgr (l.drop (k + 1)) ++ [x - 48] := by
  rw [drop_rd h, dgr_cons, hx]

def AnsD (s : Bool) (xs : List Int) (w : World) (e : Ending) (w' : World) : Prop := Past w w' ∧ ∃ A n c, e = .returned (.tuple #[.bool s, .slice A n c]) ∧ RInts w' .i64 A n c xs

set_option maxRecDepth 100000 in
set_option maxHeartbeats 4000000 in
theorem ref_digits (s : ByteArray) (w : World) (hs : s.size ≤ 1000000000) :
    Calls Tryz.prog 130 #[.string s] w (AnsD (signL (byt s)) (Dg.trim (dgr (byt s))) w) := by
  obtain ⟨n, hn⟩ : ∃ n, s.size = n := ⟨_, rfl⟩
  have HLN : Hid ((byt s).length = n) := by rw [← hn]; exact byt_length s
  obtain ⟨ng, hng⟩ : ∃ ng, signL (byt s) = ng := ⟨_, rfl⟩
  have HNG := Lib.hid hng
  rw [hng]
  clear hng
  have main : Calls Tryz.prog 130 #[.string s] w (AnsD ng (Dg.trim (dgr (byt s))) w) := by
    cases n with
    | zero =>
      have hb0 : byt s = [] := List.eq_nil_of_length_eq_zero HLN.out
      have HB0 := Lib.hid hb0
      have HNF : Hid (ng = false) := by have := HNG.out; rw [hb0] at this; rw [← this]; rfl
      clear hb0
      go_enter Tryz.func130, Tryz.ntmps130
      go_wp2
      go_loopw [5, 6] (fun dv iv wr => iv = .int .i64 (-1) ∧ dv = .slice none 0 0 ∧ wr = w) (fun _ _ _ => 0)
      case atStart => exact ⟨rfl, rfl, rfl⟩
      case round =>
        obtain ⟨rfl, rfl, rfl⟩ := hrel
        go_wp2_with fail
        refine (ref_trim _ _ _ [] _ (RInts.nil _ _ _ _ (by omega))).mono ?_
        rintro e w1 ⟨hd, m, rfl, hr⟩
        go_wp2
        go_ret2
        exact ⟨hd.past, _, _, _, by rw [HNF.out]; rfl, by rw [HB0.out]; exact hr.past hd.past⟩
    | succ n0 =>
      have h0 : 0 < s.size := by omega
      have hq0 : ((((s[0]'h0).toNat : Nat) : Int) == 45) = ng := by
        rw [← HNG.out]
        unfold signL
        rw [byt_head s h0]
        rw [Bool.eq_iff_iff]
        simp
      go_enter Tryz.func130, Tryz.ntmps130
      go_wp2
      go_loopw [5, 6] (fun dv iv wr => ∃ k : Nat, k ≤ n0 + 1 ∧ iv = .int .i64 ((k : Int) - 1) ∧ Hid (Own w wr 3 .i64 dv (dgr ((byt s).drop k)))) (fun _ iv _ => (intOf iv + 1).toNat)
      case atStart => exact ⟨n0 + 1, Nat.le_refl _, by go_num, by rw [List.drop_of_length_le (by rw [HLN.out]; omega)]; exact Own.nil (Past.refl w) _ _⟩
      case round =>
        obtain ⟨k, hk, rfl, HO⟩ := hrel
        cases k with
        | zero =>
          obtain ⟨A1, c1, rfl, hrr⟩ := HO.out.reads
          rw [List.drop_zero] at hrr
          go_wp2_with fail
          refine (ref_trim _ _ _ _ _ hrr).mono ?_
          rintro e w1 ⟨hd, m, rfl, hr⟩
          go_wp2
          go_ret2
          exact ⟨HO.out.2.trans hd.past, _, _, _, rfl, hr.past hd.past⟩
        | succ k =>
          have ek : ((k + 1 : Nat) : Int) - 1 = (k : Int) := by omega
          simp only [ek]
          clear ek
          have hks : k < s.size := by omega
          obtain ⟨x, hx⟩ : ∃ x : Int, (((s[k]'hks).toNat : Nat) : Int) = x := ⟨_, rfl⟩
          have hxr : x = rd (byt s) k := by rw [← hx]; exact byt_at s k hks
          have hbd := byt_bd s k hks
          rw [← hxr] at hbd
          obtain ⟨hx0, hx1⟩ := hbd
          have HDR := Lib.hid (dgr_drop (l := byt s) (k := k) (by rw [HLN.out]; omega) hxr)
          clear hxr
          have h0k : (0 : Int) ≤ k := by omega
          have h1k : (k : Int) < s.size := by omega
          by_cases h45 : x = 45
          · have hb : (x != 45) = false := by simp [h45]
            have HD2 : Hid (dgr ((byt s).drop k) = dgr ((byt s).drop (k + 1))) := by rw [HDR.out, if_pos h45]; exact rfl
            clear h45
            go_wp2
            go_roundw
            case rel => exact ⟨k, by omega, by go_num, by rw [HD2.out]; exact HO⟩
            case measure => simp [intOf]
          · have hb : (x != 45) = true := by simp [h45]
            have HD2 : Hid (dgr ((byt s).drop k) = dgr ((byt s).drop (k + 1)) ++ [x - 48]) := by rw [HDR.out, if_neg h45]; exact rfl
            have HLEN : Hid ((dgr ((byt s).drop (k + 1))).length < 1099511627776) := by
              unfold dgr
              have h1 := List.length_filter_le (fun x : Int => x != 45) ((byt s).drop (k + 1))
              rw [List.length_drop, HLN.out] at h1
              rw [List.length_map, List.length_reverse]
              unfold Hid
              omega
            clear h45
            go_wp2_with (first | (at_builtin; refine wpList_app el_int (HO.out.alloc _) rfl rfl rfl _ _ _ rfl (cell_new1 _ _ _) ?_ ?_; (exact HLEN.out); intro v1 w1 hown1 hp1))
            go_roundw
            case rel => exact ⟨k, by omega, by go_num, by rw [HD2.out]; exact hown1⟩
            case measure => simp [intOf]
  exact main

end Go.Proofs.YtdcjibjldfjllaaGreat

/- The reference's whole numbers: texts. -/
namespace Go.Proofs.YtdcjibjldfjllaaGreat
open Go.RowKit

theorem text_eq {s : Bool} {xs ys : List Int} (h : Dg.trim xs = ys) (hd : Dg.Dig 10 xs) (hn : ys ≠ []) :
    (if s then [45] else []) ++ (ys.map (48 + ·)).reverse = dtx (if s then - Dg.val 10 xs else Dg.val 10 xs) := by
  have h1 := Dg.trim_eq_toD (b := 10) (by omega) hd
  have h0 := Dg.val_nonneg (b := 10) (by omega) hd
  rw [h] at h1
  have hv : Dg.val 10 xs ≠ 0 := by
    intro e
    apply hn
    rw [h1]
    have : (Dg.val ((10 : Nat) : Int) xs).toNat = 0 := by
      have : Dg.val ((10 : Nat) : Int) xs = 0 := e
      rw [this]; rfl
    rw [this]
    exact Dg.toD_zero 10
  have h2 : ys = dgt (Dg.val 10 xs).natAbs := by
    rw [h1]
    unfold dgt
    congr 1
    have : Dg.val ((10 : Nat) : Int) xs = Dg.val 10 xs := rfl
    omega
  unfold dtx
  cases s with
  | false =>
    simp only [Bool.false_eq_true, if_false]
    rw [if_neg hv, if_neg (by omega), ← h2]
  | true =>
    simp only [if_true]
    rw [if_neg (by omega), if_pos (by omega), Int.natAbs_neg, ← h2]

set_option maxRecDepth 100000 in
set_option maxHeartbeats 4000000 in
theorem ref_text (s : Bool) (A : Option Addr) (n c : Nat) (xs : List Int) (w : World) (hx : RInts w .i64 A n c xs) (hd : Dg.Dig 10 xs) (hn : n ≤ 10000000000) :
    Calls Tryz.prog 133 #[.bool s, .slice A n c] w fun e w' => Past w w' ∧ e = .returned (.string (txt (dtx (if s then - Dg.val 10 xs else Dg.val 10 xs)))) := by
  obtain ⟨Z, hZ⟩ : ∃ Z, (if s then - Dg.val 10 xs else Dg.val 10 xs) = Z := ⟨_, rfl⟩
  rw [hZ]
  have HZZ := Lib.hid hZ
  clear hZ
  have HX := Lib.hid hx
  have HDX := Lib.hid hd
  have HXL : Hid (xs.length ≤ 10000000000) := by rw [hx.len]; exact hn
  clear hx hd hn
  obtain ⟨ys, hys⟩ : ∃ ys, Dg.trim xs = ys := ⟨_, rfl⟩
  have HDY : Hid (Dg.Dig 10 ys) := by rw [← hys]; exact Dg.trim_dig HDX.out
  have hle := Dg.trim_length_le xs
  rw [hys] at hle
  have HYS := Lib.hid hys
  clear hys
  obtain ⟨m, hm⟩ : ∃ m, ys.length = m := ⟨_, rfl⟩
  have HYL := Lib.hid hm
  clear hm
  have HLE := Lib.hid hle
  clear hle
  cases m with
  | zero =>
    have hy0 : ys = [] := List.eq_nil_of_length_eq_zero HYL.out
    have HV : Hid (dtx Z = [48]) := by
      rw [← HZZ.out]
      have h1 := Dg.val_trim 10 xs
      rw [HYS.out, hy0] at h1
      have h2 : Dg.val 10 xs = 0 := h1.symm
      rw [h2]
      cases s <;> rfl
    go_enter Tryz.func133, Tryz.ntmps133
    go_wp2_with fail
    refine (ref_trim _ _ _ _ _ HX.out).mono ?_
    rintro e w1 ⟨hd, m, rfl, hr⟩
    rw [HYS.out, hy0] at hr
    have hm0 : m = 0 := hr.len.symm
    subst hm0
    clear hr hy0
    go_wp2
    go_ret
    exact ⟨hd.past, by rw [HV.out]; rfl⟩
  | succ m0 =>
    obtain ⟨m, hm⟩ : ∃ m, m0 + 1 = m := ⟨_, rfl⟩
    rw [hm] at HYL
    have hmp : 0 < m := by omega
    clear hm
    have HYN : Hid (ys ≠ []) := by intro e; have := HYL.out; rw [e] at this; simp at this; omega
    have hnz : ((m : Int) == 0) = false := by rw [beq_eq_false_iff_ne]; omega
    have hmb : m ≤ 10000000000 := by have := HYL.out; have := HLE.out; have := HXL.out; omega
    obtain ⟨pre, hpre⟩ : ∃ pre : List Int, (if s then [45] else []) = pre := ⟨_, rfl⟩
    have HPL : Hid (pre.length ≤ 1) := by rw [← hpre]; unfold Hid; split <;> simp
    have HPRE := Lib.hid hpre
    clear hpre
    go_enter Tryz.func133, Tryz.ntmps133
    go_wp2_with fail
    refine (ref_trim _ _ _ _ _ HX.out).mono ?_
    rintro e w0 ⟨hd, m', rfl, hr⟩
    rw [HYS.out] at hr
    have hmm : m = m' := by have := hr.len; have := HYL.out; omega
    subst hmm
    have HR := Lib.hid hr
    have hcap := hr.cap
    have hbig := hr.big
    have HD := Lib.hid hd
    clear hr hd
    cases s with
    | true =>
      have hpe : pre = [45] := by rw [← HPRE.out]; rfl
      go_wp2_with (first | (at_builtin; refine wpList_app (w0 := w) (xs := []) el_u8 ((Own.nil HD.out.past _ _).alloc _) rfl rfl rfl _ _ _ rfl (cell_new1 _ _ _) ?_ ?_; (simp); intro v0 w1 hown0 hp1))
      rw [List.nil_append, ← hpe] at hown0
      clear hp1 hpe
      go_loopw [5, 6] (fun dv iv wr => ∃ k : Nat, k ≤ m ∧ iv = .int .i64 ((k : Int) - 1) ∧ Hid (Own w wr 5 .u8 dv (pre ++ ((ys.drop k).map (48 + ·)).reverse))) (fun _ iv _ => (intOf iv + 1).toNat)
      case atStart => exact ⟨m, Nat.le_refl _, rfl, by rw [List.drop_of_length_le (by have := HYL.out; omega)]; simpa [Hid] using hown0⟩
      case round =>
        clear hown0
        obtain ⟨k, hk, rfl, HO⟩ := hrel
        cases k with
        | zero =>
          rw [List.drop_zero] at HO
          obtain ⟨zs, hzs⟩ : ∃ zs, pre ++ (ys.map (48 + ·)).reverse = zs := ⟨_, rfl⟩
          have HZ := Lib.hid hzs
          rw [hzs] at HO
          clear hzs
          have hzl : 0 < zs.length := by rw [← HZ.out]; have := HYL.out; simp; omega
          obtain ⟨g, cp, rfl, _, hd2, _, _, hcc, _⟩ := HO.out.form hzl
          have HZE : Hid (zs = dtx Z) := by rw [← HZ.out, ← HPRE.out, ← HZZ.out]; have h := text_eq (s := true) HYS.out HDX.out HYN.out; simpa [Hid] using h
          have hcv : (convert 103 118 (.slice (some ⟨g, 0, none⟩) zs.length cp)).run Tryz.prog wr = .ok (.string (txt zs)) wr := run_bytes_back (P := Tryz.prog) wr 103 118 5 g 0 cp zs Tryz.underlying103 Tryz.underlying5 Tryz.underlying118 (by rw [HZE.out]; exact dtx_byt _) (fun j hj => by rw [Nat.zero_add]; exact hcc j hj)
          clear hcc
          go_wp2
          go_ret
          exact ⟨HO.out.2, by rw [HZE.out]; rfl⟩
        | succ k =>
          have ek : ((k + 1 : Nat) : Int) - 1 = (k : Int) := by omega
          simp only [ek]
          clear ek
          obtain ⟨b1, o1, rfl, hc1⟩ := HR.out.at_ (by omega)
          have e1 := HO.out.2.cell (hc1 k (by omega))
          clear hc1
          have hdd := rd_dig HDY.out (by omega) k
          obtain ⟨hd0, hd1⟩ := hdd
          have h0k : (0 : Int) ≤ k := by omega
          have h1k : (k : Int) < m := by omega
          have HST : Hid (pre ++ ((ys.drop k).map (48 + ·)).reverse = (pre ++ ((ys.drop (k + 1)).map (48 + ·)).reverse) ++ [48 + rd ys k]) := by
            rw [drop_rd (by have := HYL.out; omega)]
            simp [Hid]
          go_wp2_with (first | (at_builtin; refine wpList_app el_u8 (HO.out.alloc _) rfl rfl rfl _ _ _ rfl (cell_new1 _ _ _) ?_ ?_; (have := HYL.out; have := HPL.out; have := HXL.out; simp; omega); intro v1 w1 hown1 hp1))
          go_roundw
          case rel => exact ⟨k, by omega, by go_num, by rw [HST.out]; exact hown1⟩
          case measure => simp [intOf]
    | false =>
      have hpe : pre = [] := by rw [← HPRE.out]; rfl
      go_wp2
      have hown0 := Own.nil HD.out.past 5 .u8
      rw [← hpe] at hown0
      clear hpe
      go_loopw [5, 6] (fun dv iv wr => ∃ k : Nat, k ≤ m ∧ iv = .int .i64 ((k : Int) - 1) ∧ Hid (Own w wr 5 .u8 dv (pre ++ ((ys.drop k).map (48 + ·)).reverse))) (fun _ iv _ => (intOf iv + 1).toNat)
      case atStart => exact ⟨m, Nat.le_refl _, rfl, by rw [List.drop_of_length_le (by have := HYL.out; omega)]; simpa [Hid] using hown0⟩
      case round =>
        clear hown0
        obtain ⟨k, hk, rfl, HO⟩ := hrel
        cases k with
        | zero =>
          rw [List.drop_zero] at HO
          obtain ⟨zs, hzs⟩ : ∃ zs, pre ++ (ys.map (48 + ·)).reverse = zs := ⟨_, rfl⟩
          have HZ := Lib.hid hzs
          rw [hzs] at HO
          clear hzs
          have hzl : 0 < zs.length := by rw [← HZ.out]; have := HYL.out; simp; omega
          obtain ⟨g, cp, rfl, _, hd2, _, _, hcc, _⟩ := HO.out.form hzl
          have HZE : Hid (zs = dtx Z) := by rw [← HZ.out, ← HPRE.out, ← HZZ.out]; have h := text_eq (s := false) HYS.out HDX.out HYN.out; simpa [Hid] using h
          have hcv : (convert 103 118 (.slice (some ⟨g, 0, none⟩) zs.length cp)).run Tryz.prog wr = .ok (.string (txt zs)) wr := run_bytes_back (P := Tryz.prog) wr 103 118 5 g 0 cp zs Tryz.underlying103 Tryz.underlying5 Tryz.underlying118 (by rw [HZE.out]; exact dtx_byt _) (fun j hj => by rw [Nat.zero_add]; exact hcc j hj)
          clear hcc
          go_wp2
          go_ret
          exact ⟨HO.out.2, by rw [HZE.out]; rfl⟩
        | succ k =>
          have ek : ((k + 1 : Nat) : Int) - 1 = (k : Int) := by omega
          simp only [ek]
          clear ek
          obtain ⟨b1, o1, rfl, hc1⟩ := HR.out.at_ (by omega)
          have e1 := HO.out.2.cell (hc1 k (by omega))
          clear hc1
          have hdd := rd_dig HDY.out (by omega) k
          obtain ⟨hd0, hd1⟩ := hdd
          have h0k : (0 : Int) ≤ k := by omega
          have h1k : (k : Int) < m := by omega
          have HST : Hid (pre ++ ((ys.drop k).map (48 + ·)).reverse = (pre ++ ((ys.drop (k + 1)).map (48 + ·)).reverse) ++ [48 + rd ys k]) := by
            rw [drop_rd (by have := HYL.out; omega)]
            simp [Hid]
          go_wp2_with (first | (at_builtin; refine wpList_app el_u8 (HO.out.alloc _) rfl rfl rfl _ _ _ rfl (cell_new1 _ _ _) ?_ ?_; (have := HYL.out; have := HPL.out; have := HXL.out; simp; omega); intro v1 w1 hown1 hp1))
          go_roundw
          case rel => exact ⟨k, by omega, by go_num, by rw [HST.out]; exact hown1⟩
          case measure => simp [intOf]

end Go.Proofs.YtdcjibjldfjllaaGreat

/- The reference's whole numbers: comparison, signs. -/
namespace Go.Proofs.YtdcjibjldfjllaaGreat
open Go.RowKit

/-- The decimal text of a whole number. -/
def tZ (z : Int) : ByteArray := txt (dtx z)
theorem byt_tZ (z : Int) : byt (tZ z) = dtx z := byt_txt (dtx_byt z)
/-- How long the text is. -/
def tlen (z : Int) : Nat := (dtx z).length
theorem tZ_size (z : Int) : (tZ z).size = tlen z := txt_size _

theorem dgr_dtx (z : Int) : Dg.trim (dgr (dtx z)) = dgt z.natAbs := by
  unfold dtx
  by_cases h : z = 0
  · rw [if_pos h, h]
    show Dg.trim (dgr [48]) = dgt 0
    rw [(dgt_nil 0).2 rfl]
    rfl
  · rw [if_neg h]
    have key : ∀ pre : List Int, (∀ x ∈ pre, x = 45) → dgr (pre ++ ((dgt z.natAbs).map (48 + ·)).reverse) = dgt z.natAbs := by
      intro pre hp
      unfold dgr
      rw [List.filter_append]
      have h1 : pre.filter (· != 45) = [] := by
        rw [List.filter_eq_nil_iff]
        intro x hx
        simp [hp x hx]
      have h2 : (((dgt z.natAbs).map (48 + ·)).reverse).filter (· != 45) = ((dgt z.natAbs).map (48 + ·)).reverse := by
        rw [List.filter_eq_self]
        intro x hx
        rw [List.mem_reverse] at hx
        obtain ⟨y, hy, rfl⟩ := List.mem_map.1 hx
        have := dgt_dig z.natAbs y hy
        rw [bne_iff_ne]
        omega
      rw [h1, h2, List.nil_append, List.reverse_reverse, List.map_map]
      conv => rhs; rw [← List.map_id (dgt z.natAbs)]
      congr 1
      funext x
      simp only [Function.comp, id]
      omega
    rw [key _ (by intro x hx; split at hx <;> simp at hx; exact hx)]
    exact Dg.trim_of_can (Dg.toD_can 10 (by omega) _)

theorem signL_dtx (z : Int) : signL (dtx z) = decide (z < 0) := by
  unfold signL dtx
  by_cases h : z = 0
  · rw [if_pos h, h]; rfl
  · rw [if_neg h]
    by_cases h1 : z < 0
    · rw [if_pos h1]; simp [h1]
    · rw [if_neg h1, List.nil_append]
      have hn : dgt z.natAbs ≠ [] := by rw [Ne, dgt_nil]; omega
      have : ((dgt z.natAbs).map (48 + ·)).reverse.head? ≠ some 45 := by
        intro e
        have hm := List.mem_of_mem_head? e
        rw [List.mem_reverse] at hm
        obtain ⟨y, hy, he⟩ := List.mem_map.1 hm
        have := dgt_dig z.natAbs y hy
        omega
      rw [decide_eq_false h1]
      exact decide_eq_false this

theorem dgt_length_le (z : Int) : (dgt z.natAbs).length ≤ tlen z := by
  unfold tlen dtx
  by_cases h : z = 0
  · rw [if_pos h, h]
    show (dgt 0).length ≤ 1
    rw [(dgt_nil 0).2 rfl]; exact Nat.zero_le _
  · rw [if_neg h, List.length_append, List.length_reverse, List.length_map]; exact Nat.le_add_left _ _

theorem ref_digitsZ (z : Int) (w : World) (hz : tlen z ≤ 1000000000) : Calls Tryz.prog 130 #[.string (tZ z)] w (AnsD (decide (z < 0)) (dgt z.natAbs) w) := by
  have h := ref_digits (tZ z) w (by rw [tZ_size]; exact hz)
  rw [byt_tZ, signL_dtx, dgr_dtx] at h
  exact h

theorem ref_textZ (s : Bool) (A : Option Addr) (n c : Nat) (xs : List Int) (z : Int) (w : World) (hx : RInts w .i64 A n c xs) (hd : Dg.Dig 10 xs) (hz : (if s then - Dg.val 10 xs else Dg.val 10 xs) = z) (hn : n ≤ 10000000000) :
    Calls Tryz.prog 133 #[.bool s, .slice A n c] w fun e w' => Past w w' ∧ e = .returned (.string (tZ z)) := by
  have h := ref_text s A n c xs w hx hd hn
  rw [hz] at h
  exact h

theorem cmp10 (x y : Nat) : cmpSize (dgt x) (dgt y) = cmpN x y := cmpSize_eq (b := 10) (by omega) x y

set_option maxRecDepth 100000 in
set_option maxHeartbeats 4000000 in
theorem ref_compare (x y : Int) (w : World) (hx : tlen x ≤ 1000000000) (hy : tlen y ≤ 1000000000) :
    Calls Tryz.prog 77 #[.string (tZ x), .string (tZ y)] w fun e w' => Past w w' ∧ e = .returned (.int .i64 (cmpZ x y)) := by
  obtain ⟨p, hp⟩ : ∃ p, decide (x < 0) = p := ⟨_, rfl⟩
  obtain ⟨q, hq⟩ : ∃ q, decide (y < 0) = q := ⟨_, rfl⟩
  have HP := Lib.hid hp
  have HQ := Lib.hid hq
  have HXY := Lib.hid (And.intro hx hy)
  clear hp hq hx hy
  obtain ⟨s, hs⟩ : ∃ s, tZ x = s := ⟨_, rfl⟩
  obtain ⟨t, ht⟩ : ∃ t, tZ y = t := ⟨_, rfl⟩
  rw [hs, ht]
  have HS := Lib.hid hs
  have HT := Lib.hid ht
  clear hs ht
  have c1 : ∀ w, Calls Tryz.prog 130 #[.string s] w (AnsD p (dgt x.natAbs) w) := fun w => by rw [← HS.out, ← HP.out]; exact ref_digitsZ x w HXY.out.1
  have c2 : ∀ w, Calls Tryz.prog 130 #[.string t] w (AnsD q (dgt y.natAbs) w) := fun w => by rw [← HT.out, ← HQ.out]; exact ref_digitsZ y w HXY.out.2
  have C1 := Lib.hid c1
  have C2 := Lib.hid c2
  clear c1 c2
  cases p with
  | true =>
    have h1 : x < 0 := of_decide_eq_true HP.out
    have H1 := Lib.hid h1
    clear h1
    cases q with
    | true =>
      have HR : Hid (cmpSize (dgt y.natAbs) (dgt x.natAbs) = cmpZ x y) := by
        have h1 := H1.out
        have h2 : y < 0 := of_decide_eq_true HQ.out
        rw [cmp10]
        unfold cmpN cmpZ Hid
        split <;> split <;> first | rfl | omega | (split <;> first | rfl | omega)
      go_enter Tryz.func77, Tryz.ntmps77
      go_wp2_with fail
      refine (C1.out _).mono ?_
      rintro e w1 ⟨hp1, A1, n1, d1, rfl, hr1⟩
      have HR1 := Lib.hid hr1
      clear hr1
      go_wp2_with fail
      refine (C2.out _).mono ?_
      rintro e w2 ⟨hp2, A2, n2, d2, rfl, hr2⟩
      have HR2 := Lib.hid hr2
      clear hr2
      go_wp2_with fail
      refine (ref_size _ _ _ _ _ _ _ _ _ HR2.out (HR1.out.past hp2)).mono ?_
      rintro e w3 ⟨hp3, rfl⟩
      go_wp2
      go_ret
      exact ⟨(hp1.trans hp2).trans hp3.past, by rw [← HR.out]; rfl⟩
    | false =>
      have HR : Hid (cmpZ x y = -1) := by
        have h1 := H1.out
        have h2 : ¬ y < 0 := of_decide_eq_false HQ.out
        unfold cmpZ Hid
        rw [if_pos (by omega)]
      go_enter Tryz.func77, Tryz.ntmps77
      go_wp2_with fail
      refine (C1.out _).mono ?_
      rintro e w1 ⟨hp1, A1, n1, d1, rfl, hr1⟩
      go_wp2_with fail
      refine (C2.out _).mono ?_
      rintro e w2 ⟨hp2, A2, n2, d2, rfl, hr2⟩
      go_wp2
      go_ret
      exact ⟨hp1.trans hp2, by rw [HR.out]; rfl⟩
  | false =>
    have h1 : ¬ x < 0 := of_decide_eq_false HP.out
    have H1 := Lib.hid h1
    clear h1
    cases q with
    | true =>
      have HR : Hid (cmpZ x y = 1) := by
        have h1 := H1.out
        have h2 : y < 0 := of_decide_eq_true HQ.out
        unfold cmpZ Hid
        rw [if_neg (by omega), if_pos (by omega)]
      go_enter Tryz.func77, Tryz.ntmps77
      go_wp2_with fail
      refine (C1.out _).mono ?_
      rintro e w1 ⟨hp1, A1, n1, d1, rfl, hr1⟩
      go_wp2_with fail
      refine (C2.out _).mono ?_
      rintro e w2 ⟨hp2, A2, n2, d2, rfl, hr2⟩
      go_wp2
      go_ret
      exact ⟨hp1.trans hp2, by rw [HR.out]; rfl⟩
    | false =>
      have HR : Hid (cmpSize (dgt x.natAbs) (dgt y.natAbs) = cmpZ x y) := by
        have h1 := H1.out
        have h2 : ¬ y < 0 := of_decide_eq_false HQ.out
        rw [cmp10]
        unfold cmpN cmpZ Hid
        split <;> split <;> first | rfl | omega | (split <;> first | rfl | omega)
      go_enter Tryz.func77, Tryz.ntmps77
      go_wp2_with fail
      refine (C1.out _).mono ?_
      rintro e w1 ⟨hp1, A1, n1, d1, rfl, hr1⟩
      have HR1 := Lib.hid hr1
      clear hr1
      go_wp2_with fail
      refine (C2.out _).mono ?_
      rintro e w2 ⟨hp2, A2, n2, d2, rfl, hr2⟩
      have HR2 := Lib.hid hr2
      clear hr2
      go_wp2_with fail
      refine (ref_size _ _ _ _ _ _ _ _ _ (HR1.out.past hp2) HR2.out).mono ?_
      rintro e w3 ⟨hp3, rfl⟩
      go_wp2
      go_ret
      exact ⟨(hp1.trans hp2).trans hp3.past, by rw [← HR.out]; rfl⟩

set_option maxRecDepth 100000 in
set_option maxHeartbeats 2000000 in
theorem ref_positive (x : Int) (w : World) (hx : tlen x ≤ 1000000000) :
    Calls Tryz.prog 209 #[.string (tZ x)] w fun e w' => Past w w' ∧ e = .returned (.string (tZ (x.natAbs : Nat))) := by
  have HX := Lib.hid hx
  clear hx
  go_enter Tryz.func209, Tryz.ntmps209
  go_wp2_with fail
  refine (ref_digitsZ x _ HX.out).mono ?_
  rintro e w1 ⟨hp1, A1, n1, d1, rfl, hr1⟩
  have HR1 := Lib.hid hr1
  clear hr1
  go_wp2_with fail
  refine (ref_textZ false _ _ _ _ (x.natAbs : Nat) _ HR1.out (dgt_dig _) (by rw [if_neg (by simp), dgt_val]) (by have h1 := HR1.out.len; have h2 := dgt_length_le x; have := HX.out; omega)).mono ?_
  rintro e w2 ⟨hp2, rfl⟩
  go_wp2
  go_ret
  exact ⟨hp1.trans hp2, rfl⟩

set_option maxRecDepth 100000 in
set_option maxHeartbeats 2000000 in
theorem ref_opposite (x : Int) (w : World) (hx : tlen x ≤ 1000000000) :
    Calls Tryz.prog 92 #[.string (tZ x)] w fun e w' => Past w w' ∧ e = .returned (.string (tZ (-x))) := by
  have HX := Lib.hid hx
  clear hx
  go_enter Tryz.func92, Tryz.ntmps92
  go_wp2_with fail
  refine (ref_digitsZ x _ HX.out).mono ?_
  rintro e w1 ⟨hp1, A1, n1, d1, rfl, hr1⟩
  have HR1 := Lib.hid hr1
  clear hr1
  go_wp2_with fail
  have e : (if (!decide (x < 0)) = true then -Dg.val 10 (dgt x.natAbs) else Dg.val 10 (dgt x.natAbs)) = -x := by
    rw [dgt_val]
    by_cases h : x < 0
    · rw [decide_eq_true h, if_neg (by simp)]; omega
    · rw [decide_eq_false h, if_pos (by simp)]; omega
  refine (ref_textZ (!decide (x < 0)) _ _ _ _ (-x) _ HR1.out (dgt_dig _) e (by have h1 := HR1.out.len; have h2 := dgt_length_le x; have := HX.out; omega)).mono ?_
  clear e
  rintro e w2 ⟨hp2, rfl⟩
  go_wp2
  go_ret
  exact ⟨hp1.trans hp2, rfl⟩

end Go.Proofs.YtdcjibjldfjllaaGreat

/- The reference's whole numbers: number of digits, numbers as texts. -/
namespace Go.Proofs.YtdcjibjldfjllaaGreat
open Go.RowKit

/-- How many digits a text has. -/
def dcount (l : List Int) : Nat := if signL l then l.length - 1 else l.length

set_option maxRecDepth 100000 in
set_option maxHeartbeats 2000000 in
theorem ref_Digits (s : ByteArray) (w : World) (hs : s.size ≤ 1000000000) :
    Calls Tryz.prog 186 #[.string s] w fun e w' => Past w w' ∧ e = .returned (.int .i64 (dcount (byt s))) := by
  obtain ⟨n, hn⟩ : ∃ n, s.size = n := ⟨_, rfl⟩
  have HLN : Hid ((byt s).length = n) := by rw [← hn]; exact byt_length s
  cases n with
  | zero =>
    have HB0 : Hid (dcount (byt s) = 0) := by rw [List.eq_nil_of_length_eq_zero HLN.out]; rfl
    go_enter Tryz.func186, Tryz.ntmps186
    go_wp2
    go_ret
    exact ⟨Past.refl w, by rw [HB0.out]; rfl⟩
  | succ n0 =>
    have h0 : 0 < s.size := by omega
    obtain ⟨ng, hng⟩ : ∃ ng, signL (byt s) = ng := ⟨_, rfl⟩
    have hq0 : ((((s[0]'h0).toNat : Nat) : Int) == 45) = ng := by
      rw [← hng]
      unfold signL
      rw [byt_head s h0]
      rw [Bool.eq_iff_iff]
      simp
    have HNG := Lib.hid hng
    clear hng
    cases ng with
    | true =>
      have HR : Hid (((dcount (byt s) : Nat) : Int) = (n0 : Int)) := by unfold dcount; rw [HNG.out, if_pos rfl, byt_length]; unfold Hid; omega
      go_enter Tryz.func186, Tryz.ntmps186
      go_wp2
      go_ret
      exact ⟨Past.refl w, by rw [HR.out]; rfl⟩
    | false =>
      have HR : Hid (((dcount (byt s) : Nat) : Int) = (n0 : Int) + 1) := by unfold dcount; rw [HNG.out, if_neg (by simp), byt_length]; unfold Hid; omega
      go_enter Tryz.func186, Tryz.ntmps186
      go_wp2
      go_ret
      exact ⟨Past.refl w, by rw [HR.out]; rfl⟩

/-! ### a number as a text -/
theorem digs_step {os : List Int} {n N : Int} {i : Nat} (hl : os.length = i) (hv : Dg.val 10 os + 10 ^ i * n = N) : Dg.val 10 (os ++ [n % 10]) + 10 ^ (i + 1) * (n / 10) = N := by
  rw [Dg.val_snoc, hl, Int.pow_succ, Int.mul_assoc]
  have h := Int.mul_ediv_add_emod n 10
  rw [← hv]
  have e : (10 : Int) ^ i * n = 10 ^ i * (10 * (n / 10) + n % 10) := by rw [h]
  rw [e, Int.mul_add]
  omega

theorem pow_bd {i : Nat} {n : Int} (h0 : 0 < n) (h : (10 : Int) ^ i * n ≤ 1000000000000000000) : i ≤ 18 := by
  rcases Nat.lt_or_ge 18 i with h1 | h1
  · have h2 : (10 : Int) ^ 19 ≤ 10 ^ i := Dg.pow_mono (by omega) h1
    have h3 : (10 : Int) ^ i * 1 ≤ 10 ^ i * n := Int.mul_le_mul_of_nonneg_left (by omega) (Int.le_of_lt (Dg.pow_pos (by omega) _))
    omega
  · exact h1

set_option maxRecDepth 100000 in
set_option maxHeartbeats 4000000 in
theorem ref_number (N : Int) (w : World) (h1 : -1000000000000000000 ≤ N) (h2 : N ≤ 1000000000000000000) :
    Calls Tryz.prog 129 #[.int .i64 N] w fun e w' => Past w w' ∧ e = .returned (.string (tZ N)) := by
  by_cases hneg : N < 0
  · obtain ⟨p, hp⟩ : ∃ p : Int, N = -p := ⟨-N, by omega⟩
    subst hp
    have hp0 : 0 < p := by omega
    have hp1 : p ≤ 1000000000000000000 := by omega
    obtain ⟨q, hq⟩ : ∃ q, p / 10 = q := ⟨_, rfl⟩
    obtain ⟨r, hr⟩ : ∃ r, p % 10 = r := ⟨_, rfl⟩
    have ht1 : Int.tdiv (-p) 10 = -q := by rw [Int.neg_tdiv, Int.tdiv_eq_ediv_of_nonneg (by omega), hq]
    have ht2 : Int.tmod (-p) 10 = -r := by rw [Int.neg_tmod, Int.tmod_eq_emod_of_nonneg (by omega), hr]
    have hq0 : 0 ≤ q := by omega
    have hq1 : q ≤ 100000000000000000 := by omega
    have hr0 : 0 ≤ r := by omega
    have hr1 : r < 10 := by omega
    have HQR : Hid (r + 10 * q = p) := by unfold Hid; omega
    have hb : decide (-p < 0) = true := by simp; omega
    clear hq hr hneg
    go_enter Tryz.func129, Tryz.ntmps129
    go_wp2_with (first | (at_builtin; refine wpList_app (w0 := w) (xs := []) el_int ((Own.nil (Past.refl w) _ _).alloc _) rfl rfl rfl _ _ _ rfl (cell_new1 _ _ _) ?_ ?_; (simp); intro v0 w1 hown0 hpp))
    clear ht1 ht2
    go_loopw [5, 3] (fun dv nv wr => ∃ (os : List Int) (n : Int), nv = .int .i64 n ∧ 0 ≤ n ∧ n ≤ 100000000000000000 ∧ Hid (Dg.Dig 10 os) ∧ Hid (Dg.val 10 os + 10 ^ os.length * n = p) ∧ Hid (os.length ≤ 19) ∧ Hid (Own w wr 3 .i64 dv os)) (fun _ nv _ => (intOf nv).toNat)
    case atStart => exact ⟨[r], q, rfl, hq0, hq1, (Dg.Dig.nil 10).cons hr0 hr1, by simp [Hid]; exact HQR.out, by simp [Hid], by simpa [Hid] using hown0⟩
    case round =>
      clear hown0 hpp
      obtain ⟨os, n, rfl, hn0, hn1, HD, HV, HL, HO⟩ := hrel
      by_cases hnp : 0 < n
      · have hL : os.length ≤ 18 := by
          refine pow_bd hnp ?_
          have := HV.out
          have := Dg.val_nonneg (b := 10) (by omega) HD.out
          omega
        have HL2 := Lib.hid hL
        clear hL
        have hm0 := Int.emod_nonneg n (show (10 : Int) ≠ 0 by omega)
        have hm1 := Int.emod_lt_of_pos n (show (0 : Int) < 10 by omega)
        go_wp2_with (first | (at_builtin; refine wpList_app el_int (HO.out.alloc _) rfl rfl rfl _ _ _ rfl (cell_new1 _ _ _) ?_ ?_; (have := HL2.out; omega); intro v1 w1 hown1 hp1))
        go_roundw
        case rel => exact ⟨os ++ [n % 10], n / 10, rfl, by omega, by omega, HD.out.snoc hm0 hm1, by rw [List.length_append]; exact digs_step rfl HV.out, by have := HL2.out; simp [Hid]; omega, hown1⟩
        case measure => simp [intOf]; omega
      · have hn00 : n = 0 := by omega
        have HVV : Hid (Dg.val 10 os = p) := by have h := HV.out; rw [hn00, Int.mul_zero, Int.add_zero] at h; exact h
        clear hn00
        obtain ⟨A1, c1, rfl, hrr⟩ := HO.out.reads
        have HRR := Lib.hid hrr
        clear hrr
        go_wp2_with fail
        refine (ref_textZ true _ _ _ _ (-p) _ HRR.out HD.out (by rw [if_pos rfl, HVV.out]) (by have := HL.out; omega)).mono ?_
        rintro e w2 ⟨hp2, rfl⟩
        go_wp2
        go_ret
        exact ⟨HO.out.2.trans hp2, rfl⟩
  · have hp0 : 0 ≤ N := by omega
    have hb : decide (N < 0) = false := by simp; omega
    clear hneg h1
    go_enter Tryz.func129, Tryz.ntmps129
    go_wp2
    go_loopw [6, 0] (fun dv nv wr => ∃ (os : List Int) (n : Int), nv = .int .i64 n ∧ 0 ≤ n ∧ n ≤ 1000000000000000000 ∧ Hid (Dg.Dig 10 os) ∧ Hid (Dg.val 10 os + 10 ^ os.length * n = N) ∧ Hid (os.length ≤ 19) ∧ Hid (Own w wr 3 .i64 dv os)) (fun _ nv _ => (intOf nv).toNat)
    case atStart => exact ⟨[], N, rfl, hp0, h2, Dg.Dig.nil 10, by simp [Hid], by simp [Hid], Own.nil (Past.refl w) _ _⟩
    case round =>
      obtain ⟨os, n, rfl, hn0, hn1, HD, HV, HL, HO⟩ := hrel
      by_cases hnp : 0 < n
      · have hL : os.length ≤ 18 := by
          refine pow_bd hnp ?_
          have := HV.out
          have := Dg.val_nonneg (b := 10) (by omega) HD.out
          omega
        have HL2 := Lib.hid hL
        clear hL
        have hm0 := Int.emod_nonneg n (show (10 : Int) ≠ 0 by omega)
        have hm1 := Int.emod_lt_of_pos n (show (0 : Int) < 10 by omega)
        go_wp2_with (first | (at_builtin; refine wpList_app el_int (HO.out.alloc _) rfl rfl rfl _ _ _ rfl (cell_new1 _ _ _) ?_ ?_; (have := HL2.out; omega); intro v1 w1 hown1 hp1))
        go_roundw
        case rel => exact ⟨os ++ [n % 10], n / 10, rfl, by omega, by omega, HD.out.snoc hm0 hm1, by rw [List.length_append]; exact digs_step rfl HV.out, by have := HL2.out; simp [Hid]; omega, hown1⟩
        case measure => simp [intOf]; omega
      · have hn00 : n = 0 := by omega
        have HVV : Hid (Dg.val 10 os = N) := by have h := HV.out; rw [hn00, Int.mul_zero, Int.add_zero] at h; exact h
        clear hn00
        obtain ⟨A1, c1, rfl, hrr⟩ := HO.out.reads
        have HRR := Lib.hid hrr
        clear hrr
        go_wp2_with fail
        refine (ref_textZ false _ _ _ _ N _ HRR.out HD.out (by rw [if_neg (by simp), HVV.out]) (by have := HL.out; omega)).mono ?_
        rintro e w2 ⟨hp2, rfl⟩
        go_wp2
        go_ret
        exact ⟨HO.out.2.trans hp2, rfl⟩

end Go.Proofs.YtdcjibjldfjllaaGreat

/- The reference's whole numbers: short ones. -/
namespace Go.Proofs.YtdcjibjldfjllaaGreat
open Go.RowKit

def fil (l : List Int) : List Int := l.filter (· != 45)
theorem decV_fil (l : List Int) : decV (fil l) = Dg.val 10 (dgr l) := by
  unfold decV digL dgr fil
  rw [List.map_reverse]
theorem decV_dtx (z : Int) : decV (fil (dtx z)) = (z.natAbs : Int) := by
  rw [decV_fil, ← Dg.val_trim, dgr_dtx, dgt_val]
theorem fil_dtx_all (z : Int) : (fil (dtx z)).all isDg = true := by
  rw [List.all_eq_true]
  intro x hx
  unfold fil at hx
  rw [List.mem_filter] at hx
  obtain ⟨hx, hn⟩ := hx
  unfold dtx at hx
  split at hx
  · simp at hx; rw [hx]; rfl
  · rw [List.mem_append] at hx
    rcases hx with hx | hx
    · split at hx
      · simp at hx; rw [hx] at hn; simp at hn
      · cases hx
    · rw [List.mem_reverse] at hx
      obtain ⟨y, hy, rfl⟩ := List.mem_map.1 hx
      have := dgt_dig z.natAbs y hy
      unfold isDg
      simp
      omega
theorem fil_take_all {l : List Int} (h : (fil l).all isDg = true) (i : Nat) : (fil (l.take i)).all isDg = true := by
  rw [List.all_eq_true] at *
  intro x hx
  refine h x ?_
  unfold fil at *
  rw [List.mem_filter] at *
  exact ⟨List.mem_of_mem_take hx.1, hx.2⟩
theorem fil_take_len (l : List Int) (i : Nat) : (fil (l.take i)).length ≤ dcount l := by
  unfold fil dcount
  have h1 : ((l.take i).filter (· != 45)).length ≤ (l.filter (· != 45)).length := List.Sublist.length_le ((List.take_sublist i l).filter _)
  refine Nat.le_trans h1 ?_
  have h2 := List.length_filter_le (· != 45) l
  cases l with
  | nil => simp
  | cons x xs =>
    by_cases h : signL (x :: xs) = true
    · rw [if_pos h]
      have hx : x = 45 := by unfold signL at h; simpa using h
      have h3 := List.length_filter_le (· != 45) xs
      subst hx
      simp
      exact h3
    · rw [if_neg h]; exact h2
theorem fil_take_succ {l : List Int} {i : Nat} {x : Int} (h : i < l.length) (hx : x = rd l i) : decV (fil (l.take (i + 1))) = if x = 45 then decV (fil (l.take i)) else 10 * decV (fil (l.take i)) + x - 48 := by
  rw [take_succ_rd h, ← hx]
  unfold fil
  rw [List.filter_append]
  by_cases h45 : x = 45
  · rw [if_pos h45, h45]; simp
  · rw [if_neg h45]
    have : [x].filter (· != 45) = [x] := by simp [h45]
    rw [this, decV_snoc]
    omega

set_option maxRecDepth 100000 in
set_option maxHeartbeats 4000000 in
theorem ref_short (z : Int) (w : World) (hz : tlen z ≤ 1000000000) :
    Calls Tryz.prog 132 #[.string (tZ z)] w fun e w' => Past w w' ∧ e = .returned (if 9 < dcount (dtx z) then .tuple #[.int .i64 0, .bool false] else .tuple #[.int .i64 z, .bool true]) := by
  obtain ⟨s, hs⟩ : ∃ s, tZ z = s := ⟨_, rfl⟩
  have hb : byt s = dtx z := by rw [← hs, byt_tZ]
  have hsz : s.size ≤ 1000000000 := by rw [← hs, tZ_size]; exact hz
  rw [hs]
  have HS := Lib.hid hsz
  have HBY := Lib.hid hb
  clear hs hsz hz
  rw [← hb]
  have HALL : Hid ((fil (byt s)).all isDg = true) := by rw [hb]; exact fil_dtx_all z
  have HV : Hid (decV (fil (byt s)) = (z.natAbs : Int)) := by rw [hb]; exact decV_dtx z
  have hsg : signL (byt s) = decide (z < 0) := by rw [hb]; exact signL_dtx z
  clear hb
  obtain ⟨n, hn⟩ : ∃ n, s.size = n := ⟨_, rfl⟩
  have HLN : Hid ((byt s).length = n) := by rw [← hn]; exact byt_length s
  have hnp : 0 < n := by
    have h1 := HLN.out
    rw [HBY.out] at h1
    have h2 : dtx z ≠ [] := by
      unfold dtx
      split
      · simp
      · rename_i h0
        have : dgt z.natAbs ≠ [] := by rw [Ne, dgt_nil]; omega
        simp [this]
    have := List.length_pos_iff.2 h2
    omega
  have h0 : 0 < s.size := by omega
  have hnb : n ≤ 1000000000 := by have := HS.out; omega
  obtain ⟨ng, hng⟩ : ∃ ng, decide (z < 0) = ng := ⟨_, rfl⟩
  have hq0 : ((((s[0]'h0).toNat : Nat) : Int) == 45) = ng := by
    rw [← hng, ← hsg]
    unfold signL
    rw [byt_head s h0]
    rw [Bool.eq_iff_iff]
    simp
  have HNG := Lib.hid hng
  clear hng hsg
  by_cases h9 : 9 < dcount (byt s)
  · have h9i : (9 : Int) < (dcount (byt s) : Int) := by omega
    have HIF : Hid ((if 9 < dcount (byt s) then Value.tuple #[.int .i64 0, .bool false] else .tuple #[.int .i64 z, .bool true]) = Value.tuple #[.int .i64 0, .bool false]) := if_pos h9
    clear h9
    rw [HIF.out]
    go_enter Tryz.func132, Tryz.ntmps132
    go_wp2_with fail
    refine (ref_Digits s _ HS.out).mono ?_
    rintro e w1 ⟨hp1, rfl⟩
    go_wp2
    go_ret2
    exact ⟨hp1, rfl⟩
  · have h9i : ¬ (9 : Int) < (dcount (byt s) : Int) := by omega
    have H9 : Hid (dcount (byt s) ≤ 9) := by unfold Hid; omega
    have HIF : Hid ((if 9 < dcount (byt s) then Value.tuple #[.int .i64 0, .bool false] else .tuple #[.int .i64 z, .bool true]) = Value.tuple #[.int .i64 z, .bool true]) := if_neg h9
    clear h9
    rw [HIF.out]
    go_enter Tryz.func132, Tryz.ntmps132
    go_wp2_with fail
    refine (ref_Digits s _ HS.out).mono ?_
    rintro e w1 ⟨hp1, rfl⟩
    go_wp2
    go_loopw [4, 5] (fun nv iv wr => ∃ (i : Nat) (x : Int), i ≤ n ∧ iv = .int .i64 i ∧ nv = .int .i64 x ∧ 0 ≤ x ∧ x < 1000000000 ∧ Hid (x = decV (fil ((byt s).take i))) ∧ wr = w1) (fun _ iv _ => n - (intOf iv).toNat)
    case atStart => exact ⟨0, 0, Nat.zero_le _, rfl, rfl, by omega, by omega, rfl, rfl⟩
    case round =>
      obtain ⟨i, x, hi, rfl, rfl, hx0, hx1, HX, rfl⟩ := hrel
      by_cases hin : i < n
      · have his : i < s.size := by omega
        obtain ⟨y, hy⟩ : ∃ y : Int, (((s[i]'his).toNat : Nat) : Int) = y := ⟨_, rfl⟩
        have hyr : y = rd (byt s) i := by rw [← hy]; exact byt_at s i his
        have hbd := byt_bd s i his
        rw [← hyr] at hbd
        obtain ⟨hy0, hy1⟩ := hbd
        have HST := Lib.hid (fil_take_succ (l := byt s) (i := i) (by rw [HLN.out]; omega) hyr)
        have HBD : Hid (0 ≤ decV (fil ((byt s).take (i + 1))) ∧ decV (fil ((byt s).take (i + 1))) < 1000000000) := by
          have h1 := decV_bd (fil_take_all HALL.out (i + 1))
          have h2 := fil_take_len (byt s) (i + 1)
          have h3 : (10 : Int) ^ (fil ((byt s).take (i + 1))).length ≤ 10 ^ 9 := Dg.pow_mono (by omega) (by have := H9.out; omega)
          unfold Hid
          omega
        clear hyr
        have h0i : (0 : Int) ≤ i := by omega
        have h1i : (i : Int) < s.size := by omega
        by_cases h45 : y = 45
        · have hbb : (y != 45) = false := by simp [h45]
          have HX2 : Hid (x = decV (fil ((byt s).take (i + 1)))) := by rw [HST.out, if_pos h45]; exact HX.out
          clear h45
          go_wp2
          go_roundw
          case rel => exact ⟨i + 1, x, by omega, by go_num, rfl, hx0, hx1, HX2, by first | rfl | trivial⟩
          case measure => simp [intOf]; omega
        · have hbb : (y != 45) = true := by simp [h45]
          have HX2 : Hid (10 * x + y - 48 = decV (fil ((byt s).take (i + 1)))) := by rw [HST.out, if_neg h45, ← HX.out]; exact rfl
          clear h45
          go_wp2
          go_roundw
          case rel => exact ⟨i + 1, 10 * x + y - 48, by omega, by go_num, rfl, by have := HX2.out; have := HBD.out; omega, by have := HX2.out; have := HBD.out; omega, HX2, by first | rfl | trivial⟩
          case measure => simp [intOf]; omega
      · have HXE : Hid (x = (z.natAbs : Int)) := by
          rw [HX.out, List.take_of_length_le (by rw [HLN.out]; omega)]
          exact HV.out
        cases ng with
        | true =>
          have HZ : Hid (z = -x) := by have h1 := HXE.out; have h2 : z < 0 := of_decide_eq_true HNG.out; unfold Hid; omega
          go_wp2
          go_ret2
          exact ⟨hp1, by rw [HZ.out]; rfl⟩
        | false =>
          have HZ : Hid (z = x) := by have h1 := HXE.out; have h2 : ¬ z < 0 := of_decide_eq_false HNG.out; unfold Hid; omega
          go_wp2
          go_ret2
          exact ⟨hp1, by rw [HZ.out]; rfl⟩

end Go.Proofs.YtdcjibjldfjllaaGreat

/- The reference's whole numbers: sum and difference of digits. -/
namespace Go.Proofs.YtdcjibjldfjllaaGreat
open Go.RowKit

def AnsI64 (xs : List Int) (w : World) (e : Ending) (w' : World) : Prop := Past w w' ∧ ∃ A n c, e = .returned (.slice A n c) ∧ RInts w' .i64 A n c xs

set_option maxRecDepth 100000 in
set_option maxHeartbeats 4000000 in
theorem ref_sum (A B : Option Addr) (n m c d : Nat) (xs ys : List Int) (w : World) (hx : RInts w .i64 A n c xs) (hy : RInts w .i64 B m d ys) (dx : Dg.Dig 10 xs) (dy : Dg.Dig 10 ys) (hn : n ≤ 1000000000) (hm : m ≤ 1000000000) :
    Calls Tryz.prog 148 #[.slice A n c, .slice B m d] w fun e w' => ∃ os, AnsI64 os w e w' ∧ Dg.Dig 10 os ∧ Dg.val 10 os = Dg.val 10 xs + Dg.val 10 ys ∧ os.length ≤ 1000000001 := by
  have HX := Lib.hid hx
  have HY := Lib.hid hy
  have DX := Lib.hid dx
  have DY := Lib.hid dy
  have HLX := Lib.hid hx.len
  have HLY := Lib.hid hy.len
  have hcx := hx.cap
  have hcy := hy.cap
  have hbx := hx.big
  have hby := hy.big
  clear hx hy dx dy
  go_enter Tryz.func148, Tryz.ntmps148
  go_wp2
  go_loopw [5, 6, 7] (fun dv cv iv wr => ∃ (i : Nat) (os : List Int) (cr : Int), i ≤ 1000000001 ∧ iv = .int .i64 i ∧ cv = .int .i64 cr ∧ 0 ≤ cr ∧ cr ≤ 1 ∧ Hid (os.length = i) ∧ Hid (Dg.Dig 10 os) ∧ Hid (Dg.val 10 os + 10 ^ i * cr = Dg.val 10 (xs.take i) + Dg.val 10 (ys.take i)) ∧ (i ≤ n ∨ i ≤ m ∨ i = max n m + 1 ∧ cr = 0) ∧ Hid (Own w wr 3 .i64 dv os)) (fun _ _ iv _ => max n m + 1 - (intOf iv).toNat)
  case atStart => exact ⟨0, [], 0, by omega, rfl, rfl, by omega, by omega, rfl, Dg.Dig.nil _, by simp [Hid], by omega, Own.nil (Past.refl w) _ _⟩
  case round =>
    obtain ⟨i, os, cr, hi, rfl, rfl, hc0, hc1, HLo, HDo, HV, hle, HO⟩ := hrel
    have hdx := rd_dig DX.out (by omega) i
    have hdy := rd_dig DY.out (by omega) i
    obtain ⟨hdx0, hdx1⟩ := hdx
    obtain ⟨hdy0, hdy1⟩ := hdy
    by_cases hin : i < n
    · by_cases him : i < m
      · obtain ⟨b1, o1, rfl, hc1⟩ := HX.out.at_ (by omega)
        have e1 := HO.out.2.cell (hc1 i (by omega))
        clear hc1
        obtain ⟨b2, o2, rfl, hc2⟩ := HY.out.at_ (by omega)
        have e2 := HO.out.2.cell (hc2 i (by omega))
        clear hc2
        have HT : Hid (cr + rd xs i + rd ys i = rd xs i + cr + rd ys i) := by unfold Hid; omega
        have hm0 := Int.emod_nonneg (cr + rd xs i + rd ys i) (show (10 : Int) ≠ 0 by omega)
        have hm1 := Int.emod_lt_of_pos (cr + rd xs i + rd ys i) (show (0 : Int) < 10 by omega)
        go_wp2_with (first | (at_builtin; refine wpList_app el_int (HO.out.alloc _) rfl rfl rfl _ _ _ rfl (cell_new1 _ _ _) ?_ ?_; (have := HLo.out; omega); intro v1 w1 hown1 hp1))
        go_roundw
        case rel => exact ⟨i + 1, os ++ [(cr + rd xs i + rd ys i) % 10], (cr + rd xs i + rd ys i) / 10, by omega, by go_num, rfl, by omega, by omega, by simp [Hid, HLo.out], HDo.out.snoc hm0 hm1, plus_step HLo.out HV.out HT.out, by omega, hown1⟩
        case measure => simp [intOf]; omega
      · have hy0 : rd ys i = 0 := rd_out (by have := HLY.out; omega)
        obtain ⟨b1, o1, rfl, hc1⟩ := HX.out.at_ (by omega)
        have e1 := HO.out.2.cell (hc1 i (by omega))
        clear hc1
        have HT : Hid (cr + rd xs i = rd xs i + cr + rd ys i) := by unfold Hid; omega
        have hm0 := Int.emod_nonneg (cr + rd xs i) (show (10 : Int) ≠ 0 by omega)
        have hm1 := Int.emod_lt_of_pos (cr + rd xs i) (show (0 : Int) < 10 by omega)
        go_wp2_with (first | (at_builtin; refine wpList_app el_int (HO.out.alloc _) rfl rfl rfl _ _ _ rfl (cell_new1 _ _ _) ?_ ?_; (have := HLo.out; omega); intro v1 w1 hown1 hp1))
        go_roundw
        case rel => exact ⟨i + 1, os ++ [(cr + rd xs i) % 10], (cr + rd xs i) / 10, by omega, by go_num, rfl, by omega, by omega, by simp [Hid, HLo.out], HDo.out.snoc hm0 hm1, plus_step HLo.out HV.out HT.out, by omega, hown1⟩
        case measure => simp [intOf]; omega
    · have hx0 : rd xs i = 0 := rd_out (by have := HLX.out; omega)
      by_cases him : i < m
      · obtain ⟨b2, o2, rfl, hc2⟩ := HY.out.at_ (by omega)
        have e2 := HO.out.2.cell (hc2 i (by omega))
        clear hc2
        have HT : Hid (cr + rd ys i = rd xs i + cr + rd ys i) := by unfold Hid; omega
        have hm0 := Int.emod_nonneg (cr + rd ys i) (show (10 : Int) ≠ 0 by omega)
        have hm1 := Int.emod_lt_of_pos (cr + rd ys i) (show (0 : Int) < 10 by omega)
        go_wp2_with (first | (at_builtin; refine wpList_app el_int (HO.out.alloc _) rfl rfl rfl _ _ _ rfl (cell_new1 _ _ _) ?_ ?_; (have := HLo.out; omega); intro v1 w1 hown1 hp1))
        go_roundw
        case rel => exact ⟨i + 1, os ++ [(cr + rd ys i) % 10], (cr + rd ys i) / 10, by omega, by go_num, rfl, by omega, by omega, by simp [Hid, HLo.out], HDo.out.snoc hm0 hm1, plus_step HLo.out HV.out HT.out, by omega, hown1⟩
        case measure => simp [intOf]; omega
      · have hy0 : rd ys i = 0 := rd_out (by have := HLY.out; omega)
        by_cases hcp : 0 < cr
        · have him2 : i ≤ n ∨ i ≤ m := by omega
          have HT : Hid (cr = rd xs i + cr + rd ys i) := by unfold Hid; omega
          have hm0 := Int.emod_nonneg (cr) (show (10 : Int) ≠ 0 by omega)
          have hm1 := Int.emod_lt_of_pos (cr) (show (0 : Int) < 10 by omega)
          go_wp2_with (first | (at_builtin; refine wpList_app el_int (HO.out.alloc _) rfl rfl rfl _ _ _ rfl (cell_new1 _ _ _) ?_ ?_; (have := HLo.out; omega); intro v1 w1 hown1 hp1))
          go_roundw
          case rel => exact ⟨i + 1, os ++ [(cr) % 10], (cr) / 10, by omega, by go_num, rfl, by omega, by omega, by simp [Hid, HLo.out], HDo.out.snoc hm0 hm1, plus_step HLo.out HV.out HT.out, by omega, hown1⟩
          case measure => simp [intOf]; omega
        · have hcz : cr = 0 := by omega
          have HVV : Hid (Dg.val 10 os = Dg.val 10 xs + Dg.val 10 ys) := by
            have h := HV.out
            rw [hcz, Int.mul_zero, Int.add_zero, Dg.val_take_all 10 (by have := HLX.out; omega), Dg.val_take_all 10 (by have := HLY.out; omega)] at h
            exact h
          clear hcz
          obtain ⟨A1, c1, rfl, hrr⟩ := HO.out.reads
          have HRR := Lib.hid hrr
          clear hrr
          go_wp2
          go_ret
          exact ⟨os, ⟨HO.out.2, _, _, _, rfl, HRR.out⟩, HDo.out, HVV.out, by have := HLo.out; omega⟩

end Go.Proofs.YtdcjibjldfjllaaGreat

/- The reference's whole numbers: difference of digits. -/
namespace Go.Proofs.YtdcjibjldfjllaaGreat
open Go.RowKit

theorem diff_step {X Y os : List Int} {i : Nat} {br t u b2 : Int} (hl : os.length = i) (h : Dg.val 10 os - 10 ^ i * br = Dg.val 10 (X.take i) - Dg.val 10 (Y.take i)) (ht : t = rd X i - br - rd Y i) (hu : u = t + 10 * b2) :
    Dg.val 10 (os ++ [u]) - 10 ^ (i + 1) * b2 = Dg.val 10 (X.take (i + 1)) - Dg.val 10 (Y.take (i + 1)) := by
  rw [Dg.val_snoc, hl, Dg.val_take_succ', Dg.val_take_succ', Int.pow_succ, hu, ht, Int.mul_assoc]
  have e : (10 : Int) ^ i * (rd X i - br - rd Y i + 10 * b2) = 10 ^ i * rd X i - 10 ^ i * br - 10 ^ i * rd Y i + 10 ^ i * (10 * b2) := by
    rw [Int.mul_add, Int.mul_sub, Int.mul_sub]
  rw [e]
  unfold rd
  omega

set_option maxRecDepth 100000 in
set_option maxHeartbeats 4000000 in
theorem ref_difference (A B : Option Addr) (n m c d : Nat) (xs ys : List Int) (w : World) (hx : RInts w .i64 A n c xs) (hy : RInts w .i64 B m d ys) (dx : Dg.Dig 10 xs) (dy : Dg.Dig 10 ys) (hn : n ≤ 1000000000) (hmn : m ≤ n) (hle : Dg.val 10 ys ≤ Dg.val 10 xs) :
    Calls Tryz.prog 149 #[.slice A n c, .slice B m d] w (AnsI64 (dgt (Dg.val 10 xs - Dg.val 10 ys).toNat) w) := by
  have HX := Lib.hid hx
  have HY := Lib.hid hy
  have DX := Lib.hid dx
  have DY := Lib.hid dy
  have HLX := Lib.hid hx.len
  have HLY := Lib.hid hy.len
  have HLE := Lib.hid hle
  have hcx := hx.cap
  have hcy := hy.cap
  have hbx := hx.big
  have hby := hy.big
  clear hx hy dx dy hle
  go_enter Tryz.func149, Tryz.ntmps149
  go_wp2
  go_loopw [5, 6, 7] (fun dv cv iv wr => ∃ (i : Nat) (os : List Int) (br : Int), i ≤ n ∧ iv = .int .i64 i ∧ cv = .int .i64 br ∧ 0 ≤ br ∧ br ≤ 1 ∧ Hid (os.length = i) ∧ Hid (Dg.Dig 10 os) ∧ Hid (Dg.val 10 os - 10 ^ i * br = Dg.val 10 (xs.take i) - Dg.val 10 (ys.take i)) ∧ Hid (Own w wr 3 .i64 dv os)) (fun _ _ iv _ => n - (intOf iv).toNat)
  case atStart => exact ⟨0, [], 0, by omega, rfl, rfl, by omega, by omega, rfl, Dg.Dig.nil _, by simp [Hid], Own.nil (Past.refl w) _ _⟩
  case round =>
    obtain ⟨i, os, br, hi, rfl, rfl, hc0, hc1, HLo, HDo, HV, HO⟩ := hrel
    have hdx := rd_dig DX.out (by omega) i
    have hdy := rd_dig DY.out (by omega) i
    obtain ⟨hdx0, hdx1⟩ := hdx
    obtain ⟨hdy0, hdy1⟩ := hdy
    by_cases hin : i < n
    · obtain ⟨b1, o1, rfl, hc1'⟩ := HX.out.at_ (by omega)
      have e1 := HO.out.2.cell (hc1' i (by omega))
      clear hc1'
      by_cases him : i < m
      · obtain ⟨b2, o2, rfl, hc2'⟩ := HY.out.at_ (by omega)
        have e2 := HO.out.2.cell (hc2' i (by omega))
        clear hc2'
        by_cases hneg : rd xs i - br - rd ys i < 0
        · have hb : decide (rd xs i - br - rd ys i < 0) = true := decide_eq_true hneg
          have HT : Hid (rd xs i - br - rd ys i = rd xs i - br - rd ys i) := by unfold Hid; omega
          go_wp2_with (first | (at_builtin; refine wpList_app el_int (HO.out.alloc _) rfl rfl rfl _ _ _ rfl (cell_new1 _ _ _) ?_ ?_; (have := HLo.out; omega); intro v1 w1 hown1 hp1))
          go_roundw
          case rel => exact ⟨i + 1, os ++ [(rd xs i - br - rd ys i + 10)], 1, by omega, by go_num, rfl, by omega, by omega, by simp [Hid, HLo.out], HDo.out.snoc (by omega) (by omega), diff_step HLo.out HV.out HT.out (by omega), hown1⟩
          case measure => simp [intOf]; omega
        · have hb : decide (rd xs i - br - rd ys i < 0) = false := decide_eq_false hneg
          have HT : Hid (rd xs i - br - rd ys i = rd xs i - br - rd ys i) := by unfold Hid; omega
          go_wp2_with (first | (at_builtin; refine wpList_app el_int (HO.out.alloc _) rfl rfl rfl _ _ _ rfl (cell_new1 _ _ _) ?_ ?_; (have := HLo.out; omega); intro v1 w1 hown1 hp1))
          go_roundw
          case rel => exact ⟨i + 1, os ++ [(rd xs i - br - rd ys i)], 0, by omega, by go_num, rfl, by omega, by omega, by simp [Hid, HLo.out], HDo.out.snoc (by omega) (by omega), diff_step HLo.out HV.out HT.out (by omega), hown1⟩
          case measure => simp [intOf]; omega
      · have hy0 : rd ys i = 0 := rd_out (by have := HLY.out; omega)
        by_cases hneg : rd xs i - br < 0
        · have hb : decide (rd xs i - br < 0) = true := decide_eq_true hneg
          have HT : Hid (rd xs i - br = rd xs i - br - rd ys i) := by unfold Hid; omega
          go_wp2_with (first | (at_builtin; refine wpList_app el_int (HO.out.alloc _) rfl rfl rfl _ _ _ rfl (cell_new1 _ _ _) ?_ ?_; (have := HLo.out; omega); intro v1 w1 hown1 hp1))
          go_roundw
          case rel => exact ⟨i + 1, os ++ [(rd xs i - br + 10)], 1, by omega, by go_num, rfl, by omega, by omega, by simp [Hid, HLo.out], HDo.out.snoc (by omega) (by omega), diff_step HLo.out HV.out HT.out (by omega), hown1⟩
          case measure => simp [intOf]; omega
        · have hb : decide (rd xs i - br < 0) = false := decide_eq_false hneg
          have HT : Hid (rd xs i - br = rd xs i - br - rd ys i) := by unfold Hid; omega
          go_wp2_with (first | (at_builtin; refine wpList_app el_int (HO.out.alloc _) rfl rfl rfl _ _ _ rfl (cell_new1 _ _ _) ?_ ?_; (have := HLo.out; omega); intro v1 w1 hown1 hp1))
          go_roundw
          case rel => exact ⟨i + 1, os ++ [(rd xs i - br)], 0, by omega, by go_num, rfl, by omega, by omega, by simp [Hid, HLo.out], HDo.out.snoc (by omega) (by omega), diff_step HLo.out HV.out HT.out (by omega), hown1⟩
          case measure => simp [intOf]; omega
    · have hie : i = n := by omega
      have HRES : Hid (Dg.trim os = dgt (Dg.val 10 xs - Dg.val 10 ys).toNat) := by
        have h := HV.out
        rw [Dg.val_take_all 10 (by have := HLX.out; omega), Dg.val_take_all 10 (by have := HLY.out; omega)] at h
        have h1 := Dg.val_lt (b := 10) (by omega) HDo.out
        rw [HLo.out] at h1
        have h2 := HLE.out
        have h3 : br = 0 := by
          rcases Int.lt_or_le 0 br with h4 | h4
          · have : br = 1 := by omega
            subst this
            omega
          · omega
        rw [h3, Int.mul_zero, Int.sub_zero] at h
        have h5 := Dg.trim_eq_toD (b := 10) (by omega) HDo.out
        rw [h5]
        unfold dgt
        rw [← h]
        rfl
      obtain ⟨A1, c1, rfl, hrr⟩ := HO.out.reads
      have HRR := Lib.hid hrr
      clear hrr
      go_wp2_with fail
      refine (ref_trim _ _ _ _ _ HRR.out).mono ?_
      rintro e w2 ⟨hd, k, rfl, hr⟩
      go_wp2
      go_ret
      exact ⟨HO.out.2.trans hd.past, _, _, _, rfl, by rw [← HRES.out]; exact hr.past hd.past⟩

end Go.Proofs.YtdcjibjldfjllaaGreat

/- The reference's whole numbers: sums. -/
namespace Go.Proofs.YtdcjibjldfjllaaGreat
open Go.RowKit

theorem dgt_len_mono {a b : Nat} (h : a ≤ b) : (dgt a).length ≤ (dgt b).length := by
  unfold dgt
  refine Dg.toD_length_le (by omega) ?_
  have h1 := Dg.val_lt (b := 10) (by omega) (dgt_dig b)
  rw [dgt_val] at h1
  have h2 : ((b : Nat) : Int) < ((10 ^ (dgt b).length : Nat) : Int) := by rw [Int.natCast_pow]; exact h1
  have h3 := Int.ofNat_lt.1 h2
  unfold dgt at h3
  omega
theorem short_bd {z : Int} (h : dcount (dtx z) ≤ 9) : -1000000000 < z ∧ z < 1000000000 := by
  have h1 := decV_bd (fil_dtx_all z)
  have h2 := fil_take_len (dtx z) (dtx z).length
  rw [List.take_length] at h2
  have h3 : (10 : Int) ^ (fil (dtx z)).length ≤ 10 ^ 9 := Dg.pow_mono (by omega) (by omega)
  rw [decV_dtx] at h1
  omega
theorem ref_short_yes {z : Int} (w : World) (hz : tlen z ≤ 1000000000) (h : dcount (dtx z) ≤ 9) :
    Calls Tryz.prog 132 #[.string (tZ z)] w fun e w' => Past w w' ∧ e = .returned (.tuple #[.int .i64 z, .bool true]) := by
  have h1 := ref_short z w hz
  rw [if_neg (by omega)] at h1
  exact h1
theorem ref_short_no {z : Int} (w : World) (hz : tlen z ≤ 1000000000) (h : 9 < dcount (dtx z)) :
    Calls Tryz.prog 132 #[.string (tZ z)] w fun e w' => Past w w' ∧ e = .returned (.tuple #[.int .i64 0, .bool false]) := by
  have h1 := ref_short z w hz
  rw [if_pos h] at h1
  exact h1

set_option maxRecDepth 100000 in
set_option maxHeartbeats 4000000 in
theorem ref_plus (x y : Int) (w : World) (hx : tlen x ≤ 1000000000) (hy : tlen y ≤ 1000000000) :
    Calls Tryz.prog 93 #[.string (tZ x), .string (tZ y)] w fun e w' => Past w w' ∧ e = .returned (.string (tZ (x + y))) := by
  obtain ⟨p, hp⟩ : ∃ p, decide (x < 0) = p := ⟨_, rfl⟩
  obtain ⟨q, hq⟩ : ∃ q, decide (y < 0) = q := ⟨_, rfl⟩
  have HP := Lib.hid hp
  have HQ := Lib.hid hq
  have HXY := Lib.hid (And.intro hx hy)
  clear hp hq hx hy
  by_cases h1 : dcount (dtx x) ≤ 9
  · have H1 := Lib.hid h1
    have hb1 := short_bd h1
    obtain ⟨hx0, hx1⟩ := hb1
    clear h1
    by_cases h2 : dcount (dtx y) ≤ 9
    · have H2 := Lib.hid h2
      have hb2 := short_bd h2
      obtain ⟨hy0, hy1⟩ := hb2
      clear h2
      go_enter Tryz.func93, Tryz.ntmps93
      go_wp2_with fail
      refine (ref_short_yes _ HXY.out.1 H1.out).mono ?_
      rintro e w1 ⟨hp1, rfl⟩
      go_wp2_with fail
      refine (ref_short_yes _ HXY.out.2 H2.out).mono ?_
      rintro e w2 ⟨hp2, rfl⟩
      go_wp2_with fail
      refine (ref_number (x + y) _ (by omega) (by omega)).mono ?_
      rintro e w3 ⟨hp3, rfl⟩
      go_wp2
      go_ret
      exact ⟨(hp1.trans hp2).trans hp3, rfl⟩
    · have H2 : Hid (9 < dcount (dtx y)) := by unfold Hid; omega
      clear h2
      go_enter Tryz.func93, Tryz.ntmps93
      go_wp2_with fail
      refine (ref_short_yes _ HXY.out.1 H1.out).mono ?_
      rintro e w1 ⟨hp1, rfl⟩
      go_wp2_with fail
      refine (ref_short_no _ HXY.out.2 H2.out).mono ?_
      rintro e w2 ⟨hp2, rfl⟩
      go_wp2_with fail
      refine (ref_digitsZ x _ HXY.out.1).mono ?_
      rintro e w3 ⟨hp3, A3, n3, d3, rfl, hr3⟩
      have HR3 := Lib.hid hr3
      clear hr3
      rw [HP.out]
      go_wp2_with fail
      refine (ref_digitsZ y _ HXY.out.2).mono ?_
      rintro e w4 ⟨hp4, A4, n4, d4, rfl, hr4⟩
      have HR4 := Lib.hid hr4
      have HR3 := Lib.hid (HR3.out.past hp4)
      have HPP : Hid (Past w w4) := ((hp1.trans hp2).trans hp3).trans hp4
      clear hr4 hp1 hp2 hp3 hp4
      rw [HQ.out]
      have HN3 : Hid (n3 ≤ 1000000000) := by have h1 := HR3.out.len; have h2 := dgt_length_le x; have := HXY.out; unfold Hid; omega
      have HN4 : Hid (n4 ≤ 1000000000) := by have h1 := HR4.out.len; have h2 := dgt_length_le y; have := HXY.out; unfold Hid; omega
      by_cases hpq : p = q
      · subst hpq
        have hbe : (p == p) = true := by simp
        go_wp2_with fail
        refine (ref_sum _ _ _ _ _ _ _ _ _ HR3.out HR4.out (dgt_dig _) (dgt_dig _) HN3.out HN4.out).mono ?_
        rintro e w5 ⟨os, ⟨hp5, A5, n5, d5, rfl, hr5⟩, hdo, hvo, hlo⟩
        have HR5 := Lib.hid hr5
        have HDO := Lib.hid hdo
        have HLO := Lib.hid hlo
        have HZ : Hid ((if p then - Dg.val 10 os else Dg.val 10 os) = x + y) := by
          rw [hvo, dgt_val, dgt_val]
          have h1 := HP.out
          have h2 := HQ.out
          cases p with
          | true => rw [if_pos rfl]; have := of_decide_eq_true h1; have := of_decide_eq_true h2; unfold Hid; omega
          | false => rw [if_neg (by simp)]; have := of_decide_eq_false h1; have := of_decide_eq_false h2; unfold Hid; omega
        clear hr5 hdo hvo hlo
        go_wp2_with fail
        refine (ref_textZ p _ _ _ _ (x + y) _ HR5.out HDO.out HZ.out (by have h1 := HR5.out.len; have := HLO.out; omega)).mono ?_
        rintro e w6 ⟨hp6, rfl⟩
        go_wp2
        go_ret
        exact ⟨(HPP.out.trans hp5).trans hp6, rfl⟩
      · have hbe : (p == q) = false := by simp [hpq]
        have HSG : Hid ((p = true ∧ x < 0 ∧ q = false ∧ 0 ≤ y) ∨ (p = false ∧ 0 ≤ x ∧ q = true ∧ y < 0)) := by
          have h1 := HP.out
          have h2 := HQ.out
          cases p <;> cases q
          · exact absurd rfl hpq
          · right; have := of_decide_eq_false h1; have := of_decide_eq_true h2; exact ⟨rfl, by omega, rfl, by omega⟩
          · left; have := of_decide_eq_true h1; have := of_decide_eq_false h2; exact ⟨rfl, by omega, rfl, by omega⟩
          · exact absurd rfl hpq
        clear hpq
        go_wp2_with fail
        refine (ref_size _ _ _ _ _ _ _ _ _ HR3.out HR4.out).mono ?_
        rintro e w5 ⟨hd5, rfl⟩
        rw [cmp10]
        have HR3 := Lib.hid (HR3.out.past hd5.past)
        have HR4 := Lib.hid (HR4.out.past hd5.past)
        have HPP := Lib.hid (HPP.out.trans hd5.past)
        clear hd5
        by_cases hlt : x.natAbs < y.natAbs
        · have hb : decide (cmpN x.natAbs y.natAbs < 0) = true := by unfold cmpN; rw [if_pos hlt]; rfl
          have HLT := Lib.hid hlt
          clear hlt
          go_wp2_with fail
          refine (ref_difference _ _ _ _ _ _ _ _ _ HR4.out HR3.out (dgt_dig _) (dgt_dig _) HN4.out (by have h1 := HR3.out.len; have h2 := HR4.out.len; rw [← h1, ← h2]; exact dgt_len_mono (by have := HLT.out; omega)) (by rw [dgt_val, dgt_val]; have := HLT.out; omega)).mono ?_
          rintro e w6 ⟨hp6, A6, n6, d6, rfl, hr6⟩
          rw [dgt_val, dgt_val] at hr6
          have HR6 := Lib.hid hr6
          clear hr6
          have HZ : Hid ((if q then - Dg.val 10 (dgt ((y.natAbs : Int) - x.natAbs).toNat) else Dg.val 10 (dgt ((y.natAbs : Int) - x.natAbs).toNat)) = x + y) := by
            rw [dgt_val]
            have h1 := HLT.out
            rcases HSG.out with ⟨_, h2, h3, h4⟩ | ⟨_, h2, h3, h4⟩
            · rw [h3, if_neg (by simp)]; unfold Hid; omega
            · rw [h3, if_pos rfl]; unfold Hid; omega
          have HN6 : Hid (n6 ≤ 1000000000) := by
            have h1 := HR6.out.len
            have h2 := dgt_len_mono (show ((y.natAbs : Int) - x.natAbs).toNat ≤ y.natAbs by omega)
            have h3 := HR4.out.len
            have := HN4.out
            unfold Hid
            omega
          go_wp2_with fail
          refine (ref_textZ q _ _ _ _ (x + y) _ HR6.out (dgt_dig _) HZ.out (by have := HN6.out; omega)).mono ?_
          rintro e w7 ⟨hp7, rfl⟩
          go_wp2
          go_ret
          exact ⟨(HPP.out.trans hp6).trans hp7, rfl⟩
        · have hb : decide (cmpN x.natAbs y.natAbs < 0) = false := by unfold cmpN; rw [if_neg hlt]; split <;> rfl
          have HLT := Lib.hid hlt
          clear hlt
          go_wp2_with fail
          refine (ref_difference _ _ _ _ _ _ _ _ _ HR3.out HR4.out (dgt_dig _) (dgt_dig _) HN3.out (by have h1 := HR3.out.len; have h2 := HR4.out.len; rw [← h1, ← h2]; exact dgt_len_mono (by have := HLT.out; omega)) (by rw [dgt_val, dgt_val]; have := HLT.out; omega)).mono ?_
          rintro e w6 ⟨hp6, A6, n6, d6, rfl, hr6⟩
          rw [dgt_val, dgt_val] at hr6
          have HR6 := Lib.hid hr6
          clear hr6
          have HZ : Hid ((if p then - Dg.val 10 (dgt ((x.natAbs : Int) - y.natAbs).toNat) else Dg.val 10 (dgt ((x.natAbs : Int) - y.natAbs).toNat)) = x + y) := by
            rw [dgt_val]
            have h1 := HLT.out
            rcases HSG.out with ⟨h3, h2, _, h4⟩ | ⟨h3, h2, _, h4⟩
            · rw [h3, if_pos rfl]; unfold Hid; omega
            · rw [h3, if_neg (by simp)]; unfold Hid; omega
          have HN6 : Hid (n6 ≤ 1000000000) := by
            have h1 := HR6.out.len
            have h2 := dgt_len_mono (show ((x.natAbs : Int) - y.natAbs).toNat ≤ x.natAbs by omega)
            have h3 := HR3.out.len
            have := HN3.out
            unfold Hid
            omega
          go_wp2_with fail
          refine (ref_textZ p _ _ _ _ (x + y) _ HR6.out (dgt_dig _) HZ.out (by have := HN6.out; omega)).mono ?_
          rintro e w7 ⟨hp7, rfl⟩
          go_wp2
          go_ret
          exact ⟨(HPP.out.trans hp6).trans hp7, rfl⟩
  · have H1 : Hid (9 < dcount (dtx x)) := by unfold Hid; omega
    clear h1
    go_enter Tryz.func93, Tryz.ntmps93
    go_wp2_with fail
    refine (ref_short_no _ HXY.out.1 H1.out).mono ?_
    rintro e w1 ⟨hp1, rfl⟩
    by_cases h2 : dcount (dtx y) ≤ 9
    · have H2 := Lib.hid h2
      clear h2
      go_wp2_with fail
      refine (ref_short_yes _ HXY.out.2 H2.out).mono ?_
      rintro e w2 ⟨hp2, rfl⟩
      go_wp2_with fail
      refine (ref_digitsZ x _ HXY.out.1).mono ?_
      rintro e w3 ⟨hp3, A3, n3, d3, rfl, hr3⟩
      have HR3 := Lib.hid hr3
      clear hr3
      rw [HP.out]
      go_wp2_with fail
      refine (ref_digitsZ y _ HXY.out.2).mono ?_
      rintro e w4 ⟨hp4, A4, n4, d4, rfl, hr4⟩
      have HR4 := Lib.hid hr4
      have HR3 := Lib.hid (HR3.out.past hp4)
      have HPP : Hid (Past w w4) := ((hp1.trans hp2).trans hp3).trans hp4
      clear hr4 hp1 hp2 hp3 hp4
      rw [HQ.out]
      have HN3 : Hid (n3 ≤ 1000000000) := by have h1 := HR3.out.len; have h2 := dgt_length_le x; have := HXY.out; unfold Hid; omega
      have HN4 : Hid (n4 ≤ 1000000000) := by have h1 := HR4.out.len; have h2 := dgt_length_le y; have := HXY.out; unfold Hid; omega
      by_cases hpq : p = q
      · subst hpq
        have hbe : (p == p) = true := by simp
        go_wp2_with fail
        refine (ref_sum _ _ _ _ _ _ _ _ _ HR3.out HR4.out (dgt_dig _) (dgt_dig _) HN3.out HN4.out).mono ?_
        rintro e w5 ⟨os, ⟨hp5, A5, n5, d5, rfl, hr5⟩, hdo, hvo, hlo⟩
        have HR5 := Lib.hid hr5
        have HDO := Lib.hid hdo
        have HLO := Lib.hid hlo
        have HZ : Hid ((if p then - Dg.val 10 os else Dg.val 10 os) = x + y) := by
          rw [hvo, dgt_val, dgt_val]
          have h1 := HP.out
          have h2 := HQ.out
          cases p with
          | true => rw [if_pos rfl]; have := of_decide_eq_true h1; have := of_decide_eq_true h2; unfold Hid; omega
          | false => rw [if_neg (by simp)]; have := of_decide_eq_false h1; have := of_decide_eq_false h2; unfold Hid; omega
        clear hr5 hdo hvo hlo
        go_wp2_with fail
        refine (ref_textZ p _ _ _ _ (x + y) _ HR5.out HDO.out HZ.out (by have h1 := HR5.out.len; have := HLO.out; omega)).mono ?_
        rintro e w6 ⟨hp6, rfl⟩
        go_wp2
        go_ret
        exact ⟨(HPP.out.trans hp5).trans hp6, rfl⟩
      · have hbe : (p == q) = false := by simp [hpq]
        have HSG : Hid ((p = true ∧ x < 0 ∧ q = false ∧ 0 ≤ y) ∨ (p = false ∧ 0 ≤ x ∧ q = true ∧ y < 0)) := by
          have h1 := HP.out
          have h2 := HQ.out
          cases p <;> cases q
          · exact absurd rfl hpq
          · right; have := of_decide_eq_false h1; have := of_decide_eq_true h2; exact ⟨rfl, by omega, rfl, by omega⟩
          · left; have := of_decide_eq_true h1; have := of_decide_eq_false h2; exact ⟨rfl, by omega, rfl, by omega⟩
          · exact absurd rfl hpq
        clear hpq
        go_wp2_with fail
        refine (ref_size _ _ _ _ _ _ _ _ _ HR3.out HR4.out).mono ?_
        rintro e w5 ⟨hd5, rfl⟩
        rw [cmp10]
        have HR3 := Lib.hid (HR3.out.past hd5.past)
        have HR4 := Lib.hid (HR4.out.past hd5.past)
        have HPP := Lib.hid (HPP.out.trans hd5.past)
        clear hd5
        by_cases hlt : x.natAbs < y.natAbs
        · have hb : decide (cmpN x.natAbs y.natAbs < 0) = true := by unfold cmpN; rw [if_pos hlt]; rfl
          have HLT := Lib.hid hlt
          clear hlt
          go_wp2_with fail
          refine (ref_difference _ _ _ _ _ _ _ _ _ HR4.out HR3.out (dgt_dig _) (dgt_dig _) HN4.out (by have h1 := HR3.out.len; have h2 := HR4.out.len; rw [← h1, ← h2]; exact dgt_len_mono (by have := HLT.out; omega)) (by rw [dgt_val, dgt_val]; have := HLT.out; omega)).mono ?_
          rintro e w6 ⟨hp6, A6, n6, d6, rfl, hr6⟩
          rw [dgt_val, dgt_val] at hr6
          have HR6 := Lib.hid hr6
          clear hr6
          have HZ : Hid ((if q then - Dg.val 10 (dgt ((y.natAbs : Int) - x.natAbs).toNat) else Dg.val 10 (dgt ((y.natAbs : Int) - x.natAbs).toNat)) = x + y) := by
            rw [dgt_val]
            have h1 := HLT.out
            rcases HSG.out with ⟨_, h2, h3, h4⟩ | ⟨_, h2, h3, h4⟩
            · rw [h3, if_neg (by simp)]; unfold Hid; omega
            · rw [h3, if_pos rfl]; unfold Hid; omega
          have HN6 : Hid (n6 ≤ 1000000000) := by
            have h1 := HR6.out.len
            have h2 := dgt_len_mono (show ((y.natAbs : Int) - x.natAbs).toNat ≤ y.natAbs by omega)
            have h3 := HR4.out.len
            have := HN4.out
            unfold Hid
            omega
          go_wp2_with fail
          refine (ref_textZ q _ _ _ _ (x + y) _ HR6.out (dgt_dig _) HZ.out (by have := HN6.out; omega)).mono ?_
          rintro e w7 ⟨hp7, rfl⟩
          go_wp2
          go_ret
          exact ⟨(HPP.out.trans hp6).trans hp7, rfl⟩
        · have hb : decide (cmpN x.natAbs y.natAbs < 0) = false := by unfold cmpN; rw [if_neg hlt]; split <;> rfl
          have HLT := Lib.hid hlt
          clear hlt
          go_wp2_with fail
          refine (ref_difference _ _ _ _ _ _ _ _ _ HR3.out HR4.out (dgt_dig _) (dgt_dig _) HN3.out (by have h1 := HR3.out.len; have h2 := HR4.out.len; rw [← h1, ← h2]; exact dgt_len_mono (by have := HLT.out; omega)) (by rw [dgt_val, dgt_val]; have := HLT.out; omega)).mono ?_
          rintro e w6 ⟨hp6, A6, n6, d6, rfl, hr6⟩
          rw [dgt_val, dgt_val] at hr6
          have HR6 := Lib.hid hr6
          clear hr6
          have HZ : Hid ((if p then - Dg.val 10 (dgt ((x.natAbs : Int) - y.natAbs).toNat) else Dg.val 10 (dgt ((x.natAbs : Int) - y.natAbs).toNat)) = x + y) := by
            rw [dgt_val]
            have h1 := HLT.out
            rcases HSG.out with ⟨h3, h2, _, h4⟩ | ⟨h3, h2, _, h4⟩
            · rw [h3, if_pos rfl]; unfold Hid; omega
            · rw [h3, if_neg (by simp)]; unfold Hid; omega
          have HN6 : Hid (n6 ≤ 1000000000) := by
            have h1 := HR6.out.len
            have h2 := dgt_len_mono (show ((x.natAbs : Int) - y.natAbs).toNat ≤ x.natAbs by omega)
            have h3 := HR3.out.len
            have := HN3.out
            unfold Hid
            omega
          go_wp2_with fail
          refine (ref_textZ p _ _ _ _ (x + y) _ HR6.out (dgt_dig _) HZ.out (by have := HN6.out; omega)).mono ?_
          rintro e w7 ⟨hp7, rfl⟩
          go_wp2
          go_ret
          exact ⟨(HPP.out.trans hp6).trans hp7, rfl⟩
    · have H2 : Hid (9 < dcount (dtx y)) := by unfold Hid; omega
      clear h2
      go_wp2_with fail
      refine (ref_short_no _ HXY.out.2 H2.out).mono ?_
      rintro e w2 ⟨hp2, rfl⟩
      go_wp2_with fail
      refine (ref_digitsZ x _ HXY.out.1).mono ?_
      rintro e w3 ⟨hp3, A3, n3, d3, rfl, hr3⟩
      have HR3 := Lib.hid hr3
      clear hr3
      rw [HP.out]
      go_wp2_with fail
      refine (ref_digitsZ y _ HXY.out.2).mono ?_
      rintro e w4 ⟨hp4, A4, n4, d4, rfl, hr4⟩
      have HR4 := Lib.hid hr4
      have HR3 := Lib.hid (HR3.out.past hp4)
      have HPP : Hid (Past w w4) := ((hp1.trans hp2).trans hp3).trans hp4
      clear hr4 hp1 hp2 hp3 hp4
      rw [HQ.out]
      have HN3 : Hid (n3 ≤ 1000000000) := by have h1 := HR3.out.len; have h2 := dgt_length_le x; have := HXY.out; unfold Hid; omega
      have HN4 : Hid (n4 ≤ 1000000000) := by have h1 := HR4.out.len; have h2 := dgt_length_le y; have := HXY.out; unfold Hid; omega
      by_cases hpq : p = q
      · subst hpq
        have hbe : (p == p) = true := by simp
        go_wp2_with fail
        refine (ref_sum _ _ _ _ _ _ _ _ _ HR3.out HR4.out (dgt_dig _) (dgt_dig _) HN3.out HN4.out).mono ?_
        rintro e w5 ⟨os, ⟨hp5, A5, n5, d5, rfl, hr5⟩, hdo, hvo, hlo⟩
        have HR5 := Lib.hid hr5
        have HDO := Lib.hid hdo
        have HLO := Lib.hid hlo
        have HZ : Hid ((if p then - Dg.val 10 os else Dg.val 10 os) = x + y) := by
          rw [hvo, dgt_val, dgt_val]
          have h1 := HP.out
          have h2 := HQ.out
          cases p with
          | true => rw [if_pos rfl]; have := of_decide_eq_true h1; have := of_decide_eq_true h2; unfold Hid; omega
          | false => rw [if_neg (by simp)]; have := of_decide_eq_false h1; have := of_decide_eq_false h2; unfold Hid; omega
        clear hr5 hdo hvo hlo
        go_wp2_with fail
        refine (ref_textZ p _ _ _ _ (x + y) _ HR5.out HDO.out HZ.out (by have h1 := HR5.out.len; have := HLO.out; omega)).mono ?_
        rintro e w6 ⟨hp6, rfl⟩
        go_wp2
        go_ret
        exact ⟨(HPP.out.trans hp5).trans hp6, rfl⟩
      · have hbe : (p == q) = false := by simp [hpq]
        have HSG : Hid ((p = true ∧ x < 0 ∧ q = false ∧ 0 ≤ y) ∨ (p = false ∧ 0 ≤ x ∧ q = true ∧ y < 0)) := by
          have h1 := HP.out
          have h2 := HQ.out
          cases p <;> cases q
          · exact absurd rfl hpq
          · right; have := of_decide_eq_false h1; have := of_decide_eq_true h2; exact ⟨rfl, by omega, rfl, by omega⟩
          · left; have := of_decide_eq_true h1; have := of_decide_eq_false h2; exact ⟨rfl, by omega, rfl, by omega⟩
          · exact absurd rfl hpq
        clear hpq
        go_wp2_with fail
        refine (ref_size _ _ _ _ _ _ _ _ _ HR3.out HR4.out).mono ?_
        rintro e w5 ⟨hd5, rfl⟩
        rw [cmp10]
        have HR3 := Lib.hid (HR3.out.past hd5.past)
        have HR4 := Lib.hid (HR4.out.past hd5.past)
        have HPP := Lib.hid (HPP.out.trans hd5.past)
        clear hd5
        by_cases hlt : x.natAbs < y.natAbs
        · have hb : decide (cmpN x.natAbs y.natAbs < 0) = true := by unfold cmpN; rw [if_pos hlt]; rfl
          have HLT := Lib.hid hlt
          clear hlt
          go_wp2_with fail
          refine (ref_difference _ _ _ _ _ _ _ _ _ HR4.out HR3.out (dgt_dig _) (dgt_dig _) HN4.out (by have h1 := HR3.out.len; have h2 := HR4.out.len; rw [← h1, ← h2]; exact dgt_len_mono (by have := HLT.out; omega)) (by rw [dgt_val, dgt_val]; have := HLT.out; omega)).mono ?_
          rintro e w6 ⟨hp6, A6, n6, d6, rfl, hr6⟩
          rw [dgt_val, dgt_val] at hr6
          have HR6 := Lib.hid hr6
          clear hr6
          have HZ : Hid ((if q then - Dg.val 10 (dgt ((y.natAbs : Int) - x.natAbs).toNat) else Dg.val 10 (dgt ((y.natAbs : Int) - x.natAbs).toNat)) = x + y) := by
            rw [dgt_val]
            have h1 := HLT.out
            rcases HSG.out with ⟨_, h2, h3, h4⟩ | ⟨_, h2, h3, h4⟩
            · rw [h3, if_neg (by simp)]; unfold Hid; omega
            · rw [h3, if_pos rfl]; unfold Hid; omega
          have HN6 : Hid (n6 ≤ 1000000000) := by
            have h1 := HR6.out.len
            have h2 := dgt_len_mono (show ((y.natAbs : Int) - x.natAbs).toNat ≤ y.natAbs by omega)
            have h3 := HR4.out.len
            have := HN4.out
            unfold Hid
            omega
          go_wp2_with fail
          refine (ref_textZ q _ _ _ _ (x + y) _ HR6.out (dgt_dig _) HZ.out (by have := HN6.out; omega)).mono ?_
          rintro e w7 ⟨hp7, rfl⟩
          go_wp2
          go_ret
          exact ⟨(HPP.out.trans hp6).trans hp7, rfl⟩
        · have hb : decide (cmpN x.natAbs y.natAbs < 0) = false := by unfold cmpN; rw [if_neg hlt]; split <;> rfl
          have HLT := Lib.hid hlt
          clear hlt
          go_wp2_with fail
          refine (ref_difference _ _ _ _ _ _ _ _ _ HR3.out HR4.out (dgt_dig _) (dgt_dig _) HN3.out (by have h1 := HR3.out.len; have h2 := HR4.out.len; rw [← h1, ← h2]; exact dgt_len_mono (by have := HLT.out; omega)) (by rw [dgt_val, dgt_val]; have := HLT.out; omega)).mono ?_
          rintro e w6 ⟨hp6, A6, n6, d6, rfl, hr6⟩
          rw [dgt_val, dgt_val] at hr6
          have HR6 := Lib.hid hr6
          clear hr6
          have HZ : Hid ((if p then - Dg.val 10 (dgt ((x.natAbs : Int) - y.natAbs).toNat) else Dg.val 10 (dgt ((x.natAbs : Int) - y.natAbs).toNat)) = x + y) := by
            rw [dgt_val]
            have h1 := HLT.out
            rcases HSG.out with ⟨h3, h2, _, h4⟩ | ⟨h3, h2, _, h4⟩
            · rw [h3, if_pos rfl]; unfold Hid; omega
            · rw [h3, if_neg (by simp)]; unfold Hid; omega
          have HN6 : Hid (n6 ≤ 1000000000) := by
            have h1 := HR6.out.len
            have h2 := dgt_len_mono (show ((x.natAbs : Int) - y.natAbs).toNat ≤ x.natAbs by omega)
            have h3 := HR3.out.len
            have := HN3.out
            unfold Hid
            omega
          go_wp2_with fail
          refine (ref_textZ p _ _ _ _ (x + y) _ HR6.out (dgt_dig _) HZ.out (by have := HN6.out; omega)).mono ?_
          rintro e w7 ⟨hp7, rfl⟩
          go_wp2
          go_ret
          exact ⟨(HPP.out.trans hp6).trans hp7, rfl⟩

end Go.Proofs.YtdcjibjldfjllaaGreat

/- The reference's whole numbers: products. -/
namespace Go.Proofs.YtdcjibjldfjllaaGreat
open Go.RowKit

theorem mul_in {os Y : List Int} {i j : Nat} {V x : Int} (hij : i + j < os.length) (h : Dg.val 10 os = V + 10 ^ i * (x * Dg.val 10 (Y.take j))) :
    Dg.val 10 (os.set (i + j) (rd os (i + j) + x * rd Y j)) = V + 10 ^ i * (x * Dg.val 10 (Y.take (j + 1))) := by
  rw [Dg.val_set _ _ _ _ hij, Dg.val_take_succ', Int.mul_add x, Int.mul_add (10 ^ i), h]
  have e3 : (10 : Int) ^ i * (x * (10 ^ j * Y.getD j 0)) = 10 ^ (i + j) * (x * rd Y j) := by
    unfold rd
    rw [Int.pow_add, Int.mul_assoc, Int.mul_left_comm x]
  rw [e3]
  unfold rd
  have e4 : os.getD (i + j) 0 + x * Y.getD j 0 - os.getD (i + j) 0 = x * Y.getD j 0 := by omega
  rw [e4]
  omega
theorem carry_step {os : List Int} {i : Nat} (h : i + 1 < os.length) : Dg.val 10 ((os.set (i + 1) (rd os (i + 1) + rd os i / 10)).set i (rd os i % 10)) = Dg.val 10 os := by
  rw [Dg.val_set _ _ _ _ (by rw [List.length_set]; omega), Dg.val_set _ _ _ _ h, Dg.getD_set h, if_neg (by omega)]
  unfold rd
  have e1 : os.getD (i + 1) 0 + os.getD i 0 / 10 - os.getD (i + 1) 0 = os.getD i 0 / 10 := by omega
  rw [e1, Int.pow_succ, Int.mul_assoc, Int.add_assoc, ← Int.mul_add]
  have e2 : 10 * (os.getD i 0 / 10) + (os.getD i 0 % 10 - os.getD i 0) = 0 := by omega
  rw [e2, Int.mul_zero, Int.add_zero]
theorem mul_lt_pow {X Y P Q : Int} (hx0 : 0 ≤ X) (hx : X < P) (hy0 : 0 ≤ Y) (hy : Y < Q) : X * Y < P * Q := by
  have h1 : X * Y ≤ X * Q := Int.mul_le_mul_of_nonneg_left (Int.le_of_lt hy) hx0
  have h2 : X * Q < P * Q := Int.mul_lt_mul_of_pos_right hx (by omega)
  omega
theorem last_dig {zs : List Int} {k : Nat} (hl : zs.length = k + 1) (h : ∀ t, 0 ≤ rd zs t ∧ (t < k → rd zs t < 10)) (hv : Dg.val 10 zs < 10 ^ k) : Dg.Dig 10 zs := by
  have hdk : Dg.Dig 10 (zs.take k) := by
    intro x hx
    obtain ⟨j, hj⟩ := List.getElem?_of_mem hx
    have hjk : j < k := by
      have := (List.getElem?_eq_some_iff.1 hj).1
      rw [List.length_take] at this
      omega
    have h1 := h j
    have h2 : rd zs j = x := by
      rw [List.getElem?_take, if_pos hjk] at hj
      unfold rd
      rw [List.getD_eq_getElem?_getD, hj]
      rfl
    rw [← h2]
    exact ⟨h1.1, h1.2 hjk⟩
  have h0 := Dg.val_nonneg (b := 10) (by omega) hdk
  have hs : Dg.val 10 zs = Dg.val 10 (zs.take k) + 10 ^ k * rd zs k := by
    rw [← Dg.val_take_all 10 (l := zs) (i := k + 1) (by omega), Dg.val_take_succ']
    rfl
  have hk0 : rd zs k = 0 := by
    have h1 := (h k).1
    rcases Int.lt_or_le 0 (rd zs k) with h2 | h2
    · have h3 : (10 : Int) ^ k * 1 ≤ 10 ^ k * rd zs k := Int.mul_le_mul_of_nonneg_left (by omega) (Int.le_of_lt (Dg.pow_pos (by omega) _))
      omega
    · omega
  intro x hx
  obtain ⟨j, hj⟩ := List.getElem?_of_mem hx
  have hjl := (List.getElem?_eq_some_iff.1 hj).1
  have h2 : rd zs j = x := by
    unfold rd
    rw [List.getD_eq_getElem?_getD, hj]
    rfl
  rw [← h2]
  by_cases hjk : j < k
  · exact ⟨(h j).1, (h j).2 hjk⟩
  · have : j = k := by omega
    subst this
    rw [hk0]
    omega
theorem prod_bd2 {x y : Int} (h1 : -1000000000 < x) (h2 : x < 1000000000) (h3 : -1000000000 < y) (h4 : y < 1000000000) : -1000000000000000000 ≤ x * y ∧ x * y ≤ 1000000000000000000 := by
  have h : (x * y).natAbs ≤ 1000000000 * 1000000000 := by
    rw [Int.natAbs_mul]
    exact Nat.mul_le_mul (by omega) (by omega)
  omega
theorem prod9 {x y : Int} (hx0 : 0 ≤ x) (hx : x < 10) (hy0 : 0 ≤ y) (hy : y < 10) : x * y ≤ 81 := by
  have h1 : x * y ≤ 9 * y := Int.mul_le_mul_of_nonneg_right (by omega) hy0
  omega

set_option maxRecDepth 100000 in
set_option maxHeartbeats 2000000 in
theorem ref_minus (x y : Int) (w : World) (hx : tlen x ≤ 1000000000) (hy : tlen y ≤ 1000000000) (hy2 : tlen (-y) ≤ 1000000000) :
    Calls Tryz.prog 210 #[.string (tZ x), .string (tZ y)] w fun e w' => Past w w' ∧ e = .returned (.string (tZ (x - y))) := by
  have HXY := Lib.hid (And.intro hx (And.intro hy hy2))
  clear hx hy hy2
  go_enter Tryz.func210, Tryz.ntmps210
  go_wp2_with fail
  refine (ref_opposite y _ HXY.out.2.1).mono ?_
  rintro e w1 ⟨hp1, rfl⟩
  go_wp2_with fail
  refine (ref_plus x (-y) _ HXY.out.1 HXY.out.2.2).mono ?_
  rintro e w2 ⟨hp2, rfl⟩
  go_wp2
  go_ret
  exact ⟨hp1.trans hp2, by rw [Int.sub_eq_add_neg]; rfl⟩

set_option maxRecDepth 100000 in
set_option maxHeartbeats 8000000 in
theorem ref_times (x y : Int) (w : World) (hx : tlen x ≤ 100000000) (hy : tlen y ≤ 100000000) :
    Calls Tryz.prog 78 #[.string (tZ x), .string (tZ y)] w fun e w' => Past w w' ∧ e = .returned (.string (tZ (x * y))) := by
  obtain ⟨p, hp⟩ : ∃ p, decide (x < 0) = p := ⟨_, rfl⟩
  obtain ⟨q, hq⟩ : ∃ q, decide (y < 0) = q := ⟨_, rfl⟩
  have HP := Lib.hid hp
  have HQ := Lib.hid hq
  have HXY0 := Lib.hid (And.intro hx hy)
  have HXY : Hid (tlen x ≤ 1000000000 ∧ tlen y ≤ 1000000000) := by have := HXY0.out; unfold Hid; omega
  clear hp hq hx hy
  by_cases h1 : dcount (dtx x) ≤ 9
  · have H1 := Lib.hid h1
    have hb1 := short_bd h1
    obtain ⟨hx0, hx1⟩ := hb1
    clear h1
    by_cases h2 : dcount (dtx y) ≤ 9
    · have H2 := Lib.hid h2
      have hb2 := short_bd h2
      obtain ⟨hy0, hy1⟩ := hb2
      clear h2
      have hpp := prod_bd2 hx0 hx1 hy0 hy1
      obtain ⟨hq0, hq1⟩ := hpp
      go_enter Tryz.func78, Tryz.ntmps78
      go_wp2_with fail
      refine (ref_short_yes _ HXY.out.1 H1.out).mono ?_
      rintro e w1 ⟨hp1, rfl⟩
      go_wp2_with fail
      refine (ref_short_yes _ HXY.out.2 H2.out).mono ?_
      rintro e w2 ⟨hp2, rfl⟩
      go_wp2_with fail
      refine (ref_number (x * y) _ (by omega) (by omega)).mono ?_
      rintro e w3 ⟨hp3, rfl⟩
      go_wp2
      go_ret
      exact ⟨(hp1.trans hp2).trans hp3, rfl⟩
    · have H2 : Hid (9 < dcount (dtx y)) := by unfold Hid; omega
      clear h2 hx0 hx1
      go_enter Tryz.func78, Tryz.ntmps78
      go_wp2_with fail
      refine (ref_short_yes _ HXY.out.1 H1.out).mono ?_
      rintro e w1 ⟨hp1, rfl⟩
      go_wp2_with fail
      refine (ref_short_no _ HXY.out.2 H2.out).mono ?_
      rintro e w2 ⟨hp2, rfl⟩
      go_wp2_with fail
      refine (ref_digitsZ x _ HXY.out.1).mono ?_
      rintro e w3 ⟨hp3, A3, n, d3, rfl, hr3⟩
      have HR3 := Lib.hid hr3
      clear hr3
      rw [HP.out]
      go_wp2_with fail
      refine (ref_digitsZ y _ HXY.out.2).mono ?_
      rintro e w4 ⟨hp4, A4, m, d4, rfl, hr4⟩
      have HY := Lib.hid hr4
      have HX := Lib.hid (HR3.out.past hp4)
      have HPP : Hid (Past w w4) := ((hp1.trans hp2).trans hp3).trans hp4
      clear hr4 hp1 hp2 hp3 hp4 HR3
      rw [HQ.out]
      have hn : n ≤ 100000000 := by have h1 := HX.out.len; have h2 := dgt_length_le x; have := HXY0.out; omega
      have hm : m ≤ 100000000 := by have h1 := HY.out.len; have h2 := dgt_length_le y; have := HXY0.out; omega
      obtain ⟨xs, hxs⟩ : ∃ xs, dgt x.natAbs = xs := ⟨_, rfl⟩
      obtain ⟨ys, hys⟩ : ∃ ys, dgt y.natAbs = ys := ⟨_, rfl⟩
      rw [hxs] at HX
      rw [hys] at HY
      have HXS := Lib.hid hxs
      have HYS := Lib.hid hys
      have DX : Hid (Dg.Dig 10 xs) := by rw [← hxs]; exact dgt_dig _
      have DY : Hid (Dg.Dig 10 ys) := by rw [← hys]; exact dgt_dig _
      have HLX := Lib.hid HX.out.len
      have HLY := Lib.hid HY.out.len
      have hcx := HX.out.cap
      have hcy := HY.out.cap
      have hbx := HX.out.big
      have hby := HY.out.big
      clear hxs hys
      obtain ⟨ii, hi1, hi2, hi3, hi4⟩ := info_parts info_int
      have HI : Hid (Tryz.prog.info? 3 = some ii ∧ ii.zero = some (.int .i64 0) ∧ ii.size = 1 ∧ ii.bytes ≤ 16) := ⟨hi1, hi2, hi3, by omega⟩
      clear hi1 hi2 hi3 hi4
      go_wp2_with (first | (at_make; refine wpList_mkn (w0 := w4) (k := .i64) Tryz.underlying34 HI.out.1 HI.out.2.1 HI.out.2.2.1 HI.out.2.2.2 (Past.refl w4) rfl rfl .i64 .i64 (n + m + 1) _ _ rfl rfl (by omega) (by omega) (by omega) ?_; intro g w1 hown hp1 hg hpp; clear hg hpp hp1))
      obtain ⟨N, hN⟩ : ∃ N, n + m + 1 = N := ⟨_, rfl⟩
      have HNN := Lib.hid hN
      rw [hN] at hown ⊢
      have hNb : N ≤ 200000001 := by omega
      have hNN : n + m < N := by omega
      clear hN
      go_loopw [14] (fun iv wr => ∃ (i : Nat) (os : List Int), i ≤ n ∧ iv = .int .i64 i ∧ Hid (os.length = N) ∧ Hid (Dg.val 10 os = Dg.val 10 (xs.take i) * Dg.val 10 ys) ∧ Hid (∀ t, 0 ≤ rd os t ∧ rd os t ≤ 81 * i) ∧ Hid (Own w4 wr 3 .i64 (.slice (some ⟨g, 0, none⟩) N N) os)) (fun iv _ => n - (intOf iv).toNat)
      case atStart => exact ⟨0, List.replicate N 0, Nat.zero_le _, rfl, by simp [Hid], by simp [Hid, Dg.val_replicate_zero], fun t => by rw [rd_replicate]; omega, hown⟩
      case round =>
        clear hown
        obtain ⟨i, os, hi, rfl, HLO, HV, HBD, HO⟩ := hrel
        by_cases hin : i < n
        · obtain ⟨b1, o1, rfl, hc1⟩ := HX.out.at_ (by omega)
          have hc1i := hc1 i (by omega)
          clear hc1
          have HC1 := Lib.hid hc1i
          clear hc1i
          have hxd := rd_dig DX.out (by omega) i
          obtain ⟨hx0, hx1⟩ := hxd
          go_wp2
          go_loopw [15] (fun jv wr => ∃ (j : Nat) (os : List Int), j ≤ m ∧ jv = .int .i64 j ∧ Hid (os.length = N) ∧ Hid (Dg.val 10 os = Dg.val 10 (xs.take i) * Dg.val 10 ys + 10 ^ i * (rd xs i * Dg.val 10 (ys.take j))) ∧ Hid (∀ t, 0 ≤ rd os t ∧ rd os t ≤ 81 * (i + 1) ∧ (i + j ≤ t → rd os t ≤ 81 * i)) ∧ Hid (Own w4 wr 3 .i64 (.slice (some ⟨g, 0, none⟩) N N) os)) (fun jv _ => m - (intOf jv).toNat)
          case atStart => exact ⟨0, os, Nat.zero_le _, rfl, HLO, by simp [Hid, HV.out], fun t => by have := HBD.out t; omega, HO⟩
          case round =>
            clear HLO HV HBD HO
            obtain ⟨j, os, hj, rfl, HLO, HV, HBD, HO⟩ := hrel
            by_cases hjm : j < m
            · obtain ⟨b2, o2, rfl, hc2⟩ := HY.out.at_ (by omega)
              have e2 := HO.out.2.cell (hc2 j (by omega))
              have e1 := HO.out.2.cell HC1.out
              obtain ⟨e3, e4⟩ := HO.out.at_ (i + j) (by have := HLO.out; omega)
              have hyd := rd_dig DY.out (by omega) j
              obtain ⟨hy0, hy1⟩ := hyd
              have hp0 : 0 ≤ rd xs i * rd ys j := Int.mul_nonneg hx0 hy0
              have hp1 : rd xs i * rd ys j ≤ 81 := prod9 hx0 hx1 hy0 hy1
              have hcb := HBD.out (i + j)
              have hc0 := hcb.1
              have hc3 : rd os (i + j) ≤ 81 * i := hcb.2.2 (Nat.le_refl _)
              have hc4 : rd os (i + j) ≤ 100000000000 := by omega
              have HC3 := Lib.hid hc3
              clear hc2 hcb hc3
              have hij : i + j < N := by omega
              have es : (i : Int) + (j : Int) = ((i + j : Nat) : Int) := by omega
              have HES := Lib.hid es
              clear es
              go_wp2
              go_region
              all_goals go_wp2
              all_goals go_roundw
              case rel => exact ⟨j + 1, os.set (i + j) (rd os (i + j) + rd xs i * rd ys j), by omega, by go_num, by simp [Hid, HLO.out], mul_in (by have := HLO.out; omega) HV.out, fun t => by rw [rd_set (by have := HLO.out; omega)]; have h1 := HBD.out t; have h2 := HC3.out; split <;> omega, (HO.out.set (by have := HLO.out; omega) _).drew⟩
              case measure => simp [intOf]; omega
            · have hje : j = m := by omega
              subst hje
              go_wp2
              go_roundw
              case rel => exact ⟨i + 1, os, by omega, by go_num, HLO, mul_outer (by have h := HV.out; rw [Dg.val_take_all 10 (l := ys) (by have := HLY.out; omega)] at h; exact h) rfl, fun t => by have := HBD.out t; omega, HO⟩
              case measure => simp [intOf]; omega
        · have hie : i = n := by omega
          subst hie
          have HVV : Hid (Dg.val 10 os = Dg.val 10 xs * Dg.val 10 ys) := by have h := HV.out; rw [Dg.val_take_all 10 (by have := HLX.out; omega)] at h; exact h
          have HB2 : Hid (∀ t, 0 ≤ rd os t ∧ rd os t ≤ 10000000000) := fun t => by have := HBD.out t; omega
          clear HV HBD
          go_wp2
          go_loopw [16] (fun iv wr => ∃ (k : Nat) (zs : List Int), k + 1 ≤ N ∧ iv = .int .i64 k ∧ Hid (zs.length = N) ∧ Hid (Dg.val 10 zs = Dg.val 10 xs * Dg.val 10 ys) ∧ Hid (∀ t, 0 ≤ rd zs t ∧ (t < k → rd zs t < 10) ∧ rd zs t ≤ 20000000000 ∧ (k < t → rd zs t ≤ 10000000000)) ∧ Hid (Own w4 wr 3 .i64 (.slice (some ⟨g, 0, none⟩) N N) zs)) (fun iv _ => N - (intOf iv).toNat)
          case atStart => exact ⟨0, os, by omega, rfl, HLO, HVV, fun t => by have := HB2.out t; omega, HO⟩
          case round =>
            clear HLO HVV HB2 HO
            obtain ⟨k, zs, hk, rfl, HLO, HV, HBD, HO⟩ := hrel
            by_cases hkn : k + 1 < N
            · have hki : (k : Int) + 1 < N := by omega
              obtain ⟨e1, f1⟩ := HO.out.at_ k (by have := HLO.out; omega)
              obtain ⟨e2, f2⟩ := HO.out.at_ (k + 1) (by have := HLO.out; omega)
              have hb1 := HBD.out k
              have hb2 := HBD.out (k + 1)
              have h10 := hb1.1
              have h11 := hb1.2.2.1
              have h20 := hb2.1
              have h21 := hb2.2.2.2 (by omega)
              clear hb1 hb2
              go_wp2
              go_region
              all_goals go_wp2
              all_goals go_roundw
              case rel => exact ⟨k + 1, (zs.set (k + 1) (rd zs (k + 1) + rd zs k / 10)).set k (rd zs k % 10), by omega, by go_num, by simp [Hid, HLO.out], by have h := carry_step (by have := HLO.out; omega) (i := k) (os := zs); rw [h]; exact HV, fun t => by rw [rd_set (by rw [List.length_set]; have := HLO.out; omega), rd_set (by have := HLO.out; omega)]; have h1 := HBD.out t; split <;> (try split) <;> omega, ((HO.out.set (by have := HLO.out; omega) _).set (by rw [List.length_set]; have := HLO.out; omega) _).drew⟩
              case measure => simp [intOf]; omega
            · have HKE : Hid (k + 1 = N) := by unfold Hid; omega
              have hkf : ¬ (k : Int) + 1 < N := by omega
              clear hkn
              have HDZ : Hid (Dg.Dig 10 zs) := by
                have hx1 := Dg.val_lt (b := 10) (by omega) DX.out
                have hy1 := Dg.val_lt (b := 10) (by omega) DY.out
                have hx0 := Dg.val_nonneg (b := 10) (by omega) DX.out
                have hy0 := Dg.val_nonneg (b := 10) (by omega) DY.out
                rw [HLX.out] at hx1
                rw [HLY.out] at hy1
                refine last_dig (k := k) (by have := HLO.out; have := HKE.out; omega) (fun t => ⟨(HBD.out t).1, (HBD.out t).2.1⟩) ?_
                rw [HV.out, show k = i + m by have := HNN.out; have := HKE.out; omega, Int.pow_add]
                exact mul_lt_pow hx0 hx1 hy0 hy1
              have HNB : Hid (N ≤ 10000000000) := by unfold Hid; omega
              have HZ : Hid ((if (p != q) = true then - Dg.val 10 zs else Dg.val 10 zs) = x * y) := by
                rw [HV.out, ← HXS.out, ← HYS.out, dgt_val, dgt_val]
                exact (mul_sign HP.out.symm HQ.out.symm).symm
              obtain ⟨A9, c9, h9, hrr⟩ := HO.out.reads
              simp only [Value.slice.injEq] at h9
              obtain ⟨rfl, -, rfl⟩ := h9
              rw [HLO.out] at hrr
              have hkb : k ≤ 200000001 := by omega
              clear hNN hNb hk hi
              have HRR := Lib.hid hrr
              clear hrr
              go_wp2_with fail
              refine (ref_textZ (p != q) _ _ _ _ (x * y) _ HRR.out HDZ.out HZ.out HNB.out).mono ?_
              rintro e w7 ⟨hp7, rfl⟩
              go_wp2
              go_ret
              exact ⟨(HPP.out.trans HO.out.2).trans hp7, rfl⟩
  · have H1 : Hid (9 < dcount (dtx x)) := by unfold Hid; omega
    clear h1
    go_enter Tryz.func78, Tryz.ntmps78
    go_wp2_with fail
    refine (ref_short_no _ HXY.out.1 H1.out).mono ?_
    rintro e w1 ⟨hp1, rfl⟩
    by_cases h2 : dcount (dtx y) ≤ 9
    · have H2 := Lib.hid h2
      clear h2
      go_wp2_with fail
      refine (ref_short_yes _ HXY.out.2 H2.out).mono ?_
      rintro e w2 ⟨hp2, rfl⟩
      go_wp2_with fail
      refine (ref_digitsZ x _ HXY.out.1).mono ?_
      rintro e w3 ⟨hp3, A3, n, d3, rfl, hr3⟩
      have HR3 := Lib.hid hr3
      clear hr3
      rw [HP.out]
      go_wp2_with fail
      refine (ref_digitsZ y _ HXY.out.2).mono ?_
      rintro e w4 ⟨hp4, A4, m, d4, rfl, hr4⟩
      have HY := Lib.hid hr4
      have HX := Lib.hid (HR3.out.past hp4)
      have HPP : Hid (Past w w4) := ((hp1.trans hp2).trans hp3).trans hp4
      clear hr4 hp1 hp2 hp3 hp4 HR3
      rw [HQ.out]
      have hn : n ≤ 100000000 := by have h1 := HX.out.len; have h2 := dgt_length_le x; have := HXY0.out; omega
      have hm : m ≤ 100000000 := by have h1 := HY.out.len; have h2 := dgt_length_le y; have := HXY0.out; omega
      obtain ⟨xs, hxs⟩ : ∃ xs, dgt x.natAbs = xs := ⟨_, rfl⟩
      obtain ⟨ys, hys⟩ : ∃ ys, dgt y.natAbs = ys := ⟨_, rfl⟩
      rw [hxs] at HX
      rw [hys] at HY
      have HXS := Lib.hid hxs
      have HYS := Lib.hid hys
      have DX : Hid (Dg.Dig 10 xs) := by rw [← hxs]; exact dgt_dig _
      have DY : Hid (Dg.Dig 10 ys) := by rw [← hys]; exact dgt_dig _
      have HLX := Lib.hid HX.out.len
      have HLY := Lib.hid HY.out.len
      have hcx := HX.out.cap
      have hcy := HY.out.cap
      have hbx := HX.out.big
      have hby := HY.out.big
      clear hxs hys
      obtain ⟨ii, hi1, hi2, hi3, hi4⟩ := info_parts info_int
      have HI : Hid (Tryz.prog.info? 3 = some ii ∧ ii.zero = some (.int .i64 0) ∧ ii.size = 1 ∧ ii.bytes ≤ 16) := ⟨hi1, hi2, hi3, by omega⟩
      clear hi1 hi2 hi3 hi4
      go_wp2_with (first | (at_make; refine wpList_mkn (w0 := w4) (k := .i64) Tryz.underlying34 HI.out.1 HI.out.2.1 HI.out.2.2.1 HI.out.2.2.2 (Past.refl w4) rfl rfl .i64 .i64 (n + m + 1) _ _ rfl rfl (by omega) (by omega) (by omega) ?_; intro g w1 hown hp1 hg hpp; clear hg hpp hp1))
      obtain ⟨N, hN⟩ : ∃ N, n + m + 1 = N := ⟨_, rfl⟩
      have HNN := Lib.hid hN
      rw [hN] at hown ⊢
      have hNb : N ≤ 200000001 := by omega
      have hNN : n + m < N := by omega
      clear hN
      go_loopw [14] (fun iv wr => ∃ (i : Nat) (os : List Int), i ≤ n ∧ iv = .int .i64 i ∧ Hid (os.length = N) ∧ Hid (Dg.val 10 os = Dg.val 10 (xs.take i) * Dg.val 10 ys) ∧ Hid (∀ t, 0 ≤ rd os t ∧ rd os t ≤ 81 * i) ∧ Hid (Own w4 wr 3 .i64 (.slice (some ⟨g, 0, none⟩) N N) os)) (fun iv _ => n - (intOf iv).toNat)
      case atStart => exact ⟨0, List.replicate N 0, Nat.zero_le _, rfl, by simp [Hid], by simp [Hid, Dg.val_replicate_zero], fun t => by rw [rd_replicate]; omega, hown⟩
      case round =>
        clear hown
        obtain ⟨i, os, hi, rfl, HLO, HV, HBD, HO⟩ := hrel
        by_cases hin : i < n
        · obtain ⟨b1, o1, rfl, hc1⟩ := HX.out.at_ (by omega)
          have hc1i := hc1 i (by omega)
          clear hc1
          have HC1 := Lib.hid hc1i
          clear hc1i
          have hxd := rd_dig DX.out (by omega) i
          obtain ⟨hx0, hx1⟩ := hxd
          go_wp2
          go_loopw [15] (fun jv wr => ∃ (j : Nat) (os : List Int), j ≤ m ∧ jv = .int .i64 j ∧ Hid (os.length = N) ∧ Hid (Dg.val 10 os = Dg.val 10 (xs.take i) * Dg.val 10 ys + 10 ^ i * (rd xs i * Dg.val 10 (ys.take j))) ∧ Hid (∀ t, 0 ≤ rd os t ∧ rd os t ≤ 81 * (i + 1) ∧ (i + j ≤ t → rd os t ≤ 81 * i)) ∧ Hid (Own w4 wr 3 .i64 (.slice (some ⟨g, 0, none⟩) N N) os)) (fun jv _ => m - (intOf jv).toNat)
          case atStart => exact ⟨0, os, Nat.zero_le _, rfl, HLO, by simp [Hid, HV.out], fun t => by have := HBD.out t; omega, HO⟩
          case round =>
            clear HLO HV HBD HO
            obtain ⟨j, os, hj, rfl, HLO, HV, HBD, HO⟩ := hrel
            by_cases hjm : j < m
            · obtain ⟨b2, o2, rfl, hc2⟩ := HY.out.at_ (by omega)
              have e2 := HO.out.2.cell (hc2 j (by omega))
              have e1 := HO.out.2.cell HC1.out
              obtain ⟨e3, e4⟩ := HO.out.at_ (i + j) (by have := HLO.out; omega)
              have hyd := rd_dig DY.out (by omega) j
              obtain ⟨hy0, hy1⟩ := hyd
              have hp0 : 0 ≤ rd xs i * rd ys j := Int.mul_nonneg hx0 hy0
              have hp1 : rd xs i * rd ys j ≤ 81 := prod9 hx0 hx1 hy0 hy1
              have hcb := HBD.out (i + j)
              have hc0 := hcb.1
              have hc3 : rd os (i + j) ≤ 81 * i := hcb.2.2 (Nat.le_refl _)
              have hc4 : rd os (i + j) ≤ 100000000000 := by omega
              have HC3 := Lib.hid hc3
              clear hc2 hcb hc3
              have hij : i + j < N := by omega
              have es : (i : Int) + (j : Int) = ((i + j : Nat) : Int) := by omega
              have HES := Lib.hid es
              clear es
              go_wp2
              go_region
              all_goals go_wp2
              all_goals go_roundw
              case rel => exact ⟨j + 1, os.set (i + j) (rd os (i + j) + rd xs i * rd ys j), by omega, by go_num, by simp [Hid, HLO.out], mul_in (by have := HLO.out; omega) HV.out, fun t => by rw [rd_set (by have := HLO.out; omega)]; have h1 := HBD.out t; have h2 := HC3.out; split <;> omega, (HO.out.set (by have := HLO.out; omega) _).drew⟩
              case measure => simp [intOf]; omega
            · have hje : j = m := by omega
              subst hje
              go_wp2
              go_roundw
              case rel => exact ⟨i + 1, os, by omega, by go_num, HLO, mul_outer (by have h := HV.out; rw [Dg.val_take_all 10 (l := ys) (by have := HLY.out; omega)] at h; exact h) rfl, fun t => by have := HBD.out t; omega, HO⟩
              case measure => simp [intOf]; omega
        · have hie : i = n := by omega
          subst hie
          have HVV : Hid (Dg.val 10 os = Dg.val 10 xs * Dg.val 10 ys) := by have h := HV.out; rw [Dg.val_take_all 10 (by have := HLX.out; omega)] at h; exact h
          have HB2 : Hid (∀ t, 0 ≤ rd os t ∧ rd os t ≤ 10000000000) := fun t => by have := HBD.out t; omega
          clear HV HBD
          go_wp2
          go_loopw [16] (fun iv wr => ∃ (k : Nat) (zs : List Int), k + 1 ≤ N ∧ iv = .int .i64 k ∧ Hid (zs.length = N) ∧ Hid (Dg.val 10 zs = Dg.val 10 xs * Dg.val 10 ys) ∧ Hid (∀ t, 0 ≤ rd zs t ∧ (t < k → rd zs t < 10) ∧ rd zs t ≤ 20000000000 ∧ (k < t → rd zs t ≤ 10000000000)) ∧ Hid (Own w4 wr 3 .i64 (.slice (some ⟨g, 0, none⟩) N N) zs)) (fun iv _ => N - (intOf iv).toNat)
          case atStart => exact ⟨0, os, by omega, rfl, HLO, HVV, fun t => by have := HB2.out t; omega, HO⟩
          case round =>
            clear HLO HVV HB2 HO
            obtain ⟨k, zs, hk, rfl, HLO, HV, HBD, HO⟩ := hrel
            by_cases hkn : k + 1 < N
            · have hki : (k : Int) + 1 < N := by omega
              obtain ⟨e1, f1⟩ := HO.out.at_ k (by have := HLO.out; omega)
              obtain ⟨e2, f2⟩ := HO.out.at_ (k + 1) (by have := HLO.out; omega)
              have hb1 := HBD.out k
              have hb2 := HBD.out (k + 1)
              have h10 := hb1.1
              have h11 := hb1.2.2.1
              have h20 := hb2.1
              have h21 := hb2.2.2.2 (by omega)
              clear hb1 hb2
              go_wp2
              go_region
              all_goals go_wp2
              all_goals go_roundw
              case rel => exact ⟨k + 1, (zs.set (k + 1) (rd zs (k + 1) + rd zs k / 10)).set k (rd zs k % 10), by omega, by go_num, by simp [Hid, HLO.out], by have h := carry_step (by have := HLO.out; omega) (i := k) (os := zs); rw [h]; exact HV, fun t => by rw [rd_set (by rw [List.length_set]; have := HLO.out; omega), rd_set (by have := HLO.out; omega)]; have h1 := HBD.out t; split <;> (try split) <;> omega, ((HO.out.set (by have := HLO.out; omega) _).set (by rw [List.length_set]; have := HLO.out; omega) _).drew⟩
              case measure => simp [intOf]; omega
            · have HKE : Hid (k + 1 = N) := by unfold Hid; omega
              have hkf : ¬ (k : Int) + 1 < N := by omega
              clear hkn
              have HDZ : Hid (Dg.Dig 10 zs) := by
                have hx1 := Dg.val_lt (b := 10) (by omega) DX.out
                have hy1 := Dg.val_lt (b := 10) (by omega) DY.out
                have hx0 := Dg.val_nonneg (b := 10) (by omega) DX.out
                have hy0 := Dg.val_nonneg (b := 10) (by omega) DY.out
                rw [HLX.out] at hx1
                rw [HLY.out] at hy1
                refine last_dig (k := k) (by have := HLO.out; have := HKE.out; omega) (fun t => ⟨(HBD.out t).1, (HBD.out t).2.1⟩) ?_
                rw [HV.out, show k = i + m by have := HNN.out; have := HKE.out; omega, Int.pow_add]
                exact mul_lt_pow hx0 hx1 hy0 hy1
              have HNB : Hid (N ≤ 10000000000) := by unfold Hid; omega
              have HZ : Hid ((if (p != q) = true then - Dg.val 10 zs else Dg.val 10 zs) = x * y) := by
                rw [HV.out, ← HXS.out, ← HYS.out, dgt_val, dgt_val]
                exact (mul_sign HP.out.symm HQ.out.symm).symm
              obtain ⟨A9, c9, h9, hrr⟩ := HO.out.reads
              simp only [Value.slice.injEq] at h9
              obtain ⟨rfl, -, rfl⟩ := h9
              rw [HLO.out] at hrr
              have hkb : k ≤ 200000001 := by omega
              clear hNN hNb hk hi
              have HRR := Lib.hid hrr
              clear hrr
              go_wp2_with fail
              refine (ref_textZ (p != q) _ _ _ _ (x * y) _ HRR.out HDZ.out HZ.out HNB.out).mono ?_
              rintro e w7 ⟨hp7, rfl⟩
              go_wp2
              go_ret
              exact ⟨(HPP.out.trans HO.out.2).trans hp7, rfl⟩
    · have H2 : Hid (9 < dcount (dtx y)) := by unfold Hid; omega
      clear h2
      go_wp2_with fail
      refine (ref_short_no _ HXY.out.2 H2.out).mono ?_
      rintro e w2 ⟨hp2, rfl⟩
      go_wp2_with fail
      refine (ref_digitsZ x _ HXY.out.1).mono ?_
      rintro e w3 ⟨hp3, A3, n, d3, rfl, hr3⟩
      have HR3 := Lib.hid hr3
      clear hr3
      rw [HP.out]
      go_wp2_with fail
      refine (ref_digitsZ y _ HXY.out.2).mono ?_
      rintro e w4 ⟨hp4, A4, m, d4, rfl, hr4⟩
      have HY := Lib.hid hr4
      have HX := Lib.hid (HR3.out.past hp4)
      have HPP : Hid (Past w w4) := ((hp1.trans hp2).trans hp3).trans hp4
      clear hr4 hp1 hp2 hp3 hp4 HR3
      rw [HQ.out]
      have hn : n ≤ 100000000 := by have h1 := HX.out.len; have h2 := dgt_length_le x; have := HXY0.out; omega
      have hm : m ≤ 100000000 := by have h1 := HY.out.len; have h2 := dgt_length_le y; have := HXY0.out; omega
      obtain ⟨xs, hxs⟩ : ∃ xs, dgt x.natAbs = xs := ⟨_, rfl⟩
      obtain ⟨ys, hys⟩ : ∃ ys, dgt y.natAbs = ys := ⟨_, rfl⟩
      rw [hxs] at HX
      rw [hys] at HY
      have HXS := Lib.hid hxs
      have HYS := Lib.hid hys
      have DX : Hid (Dg.Dig 10 xs) := by rw [← hxs]; exact dgt_dig _
      have DY : Hid (Dg.Dig 10 ys) := by rw [← hys]; exact dgt_dig _
      have HLX := Lib.hid HX.out.len
      have HLY := Lib.hid HY.out.len
      have hcx := HX.out.cap
      have hcy := HY.out.cap
      have hbx := HX.out.big
      have hby := HY.out.big
      clear hxs hys
      obtain ⟨ii, hi1, hi2, hi3, hi4⟩ := info_parts info_int
      have HI : Hid (Tryz.prog.info? 3 = some ii ∧ ii.zero = some (.int .i64 0) ∧ ii.size = 1 ∧ ii.bytes ≤ 16) := ⟨hi1, hi2, hi3, by omega⟩
      clear hi1 hi2 hi3 hi4
      go_wp2_with (first | (at_make; refine wpList_mkn (w0 := w4) (k := .i64) Tryz.underlying34 HI.out.1 HI.out.2.1 HI.out.2.2.1 HI.out.2.2.2 (Past.refl w4) rfl rfl .i64 .i64 (n + m + 1) _ _ rfl rfl (by omega) (by omega) (by omega) ?_; intro g w1 hown hp1 hg hpp; clear hg hpp hp1))
      obtain ⟨N, hN⟩ : ∃ N, n + m + 1 = N := ⟨_, rfl⟩
      have HNN := Lib.hid hN
      rw [hN] at hown ⊢
      have hNb : N ≤ 200000001 := by omega
      have hNN : n + m < N := by omega
      clear hN
      go_loopw [14] (fun iv wr => ∃ (i : Nat) (os : List Int), i ≤ n ∧ iv = .int .i64 i ∧ Hid (os.length = N) ∧ Hid (Dg.val 10 os = Dg.val 10 (xs.take i) * Dg.val 10 ys) ∧ Hid (∀ t, 0 ≤ rd os t ∧ rd os t ≤ 81 * i) ∧ Hid (Own w4 wr 3 .i64 (.slice (some ⟨g, 0, none⟩) N N) os)) (fun iv _ => n - (intOf iv).toNat)
      case atStart => exact ⟨0, List.replicate N 0, Nat.zero_le _, rfl, by simp [Hid], by simp [Hid, Dg.val_replicate_zero], fun t => by rw [rd_replicate]; omega, hown⟩
      case round =>
        clear hown
        obtain ⟨i, os, hi, rfl, HLO, HV, HBD, HO⟩ := hrel
        by_cases hin : i < n
        · obtain ⟨b1, o1, rfl, hc1⟩ := HX.out.at_ (by omega)
          have hc1i := hc1 i (by omega)
          clear hc1
          have HC1 := Lib.hid hc1i
          clear hc1i
          have hxd := rd_dig DX.out (by omega) i
          obtain ⟨hx0, hx1⟩ := hxd
          go_wp2
          go_loopw [15] (fun jv wr => ∃ (j : Nat) (os : List Int), j ≤ m ∧ jv = .int .i64 j ∧ Hid (os.length = N) ∧ Hid (Dg.val 10 os = Dg.val 10 (xs.take i) * Dg.val 10 ys + 10 ^ i * (rd xs i * Dg.val 10 (ys.take j))) ∧ Hid (∀ t, 0 ≤ rd os t ∧ rd os t ≤ 81 * (i + 1) ∧ (i + j ≤ t → rd os t ≤ 81 * i)) ∧ Hid (Own w4 wr 3 .i64 (.slice (some ⟨g, 0, none⟩) N N) os)) (fun jv _ => m - (intOf jv).toNat)
          case atStart => exact ⟨0, os, Nat.zero_le _, rfl, HLO, by simp [Hid, HV.out], fun t => by have := HBD.out t; omega, HO⟩
          case round =>
            clear HLO HV HBD HO
            obtain ⟨j, os, hj, rfl, HLO, HV, HBD, HO⟩ := hrel
            by_cases hjm : j < m
            · obtain ⟨b2, o2, rfl, hc2⟩ := HY.out.at_ (by omega)
              have e2 := HO.out.2.cell (hc2 j (by omega))
              have e1 := HO.out.2.cell HC1.out
              obtain ⟨e3, e4⟩ := HO.out.at_ (i + j) (by have := HLO.out; omega)
              have hyd := rd_dig DY.out (by omega) j
              obtain ⟨hy0, hy1⟩ := hyd
              have hp0 : 0 ≤ rd xs i * rd ys j := Int.mul_nonneg hx0 hy0
              have hp1 : rd xs i * rd ys j ≤ 81 := prod9 hx0 hx1 hy0 hy1
              have hcb := HBD.out (i + j)
              have hc0 := hcb.1
              have hc3 : rd os (i + j) ≤ 81 * i := hcb.2.2 (Nat.le_refl _)
              have hc4 : rd os (i + j) ≤ 100000000000 := by omega
              have HC3 := Lib.hid hc3
              clear hc2 hcb hc3
              have hij : i + j < N := by omega
              have es : (i : Int) + (j : Int) = ((i + j : Nat) : Int) := by omega
              have HES := Lib.hid es
              clear es
              go_wp2
              go_region
              all_goals go_wp2
              all_goals go_roundw
              case rel => exact ⟨j + 1, os.set (i + j) (rd os (i + j) + rd xs i * rd ys j), by omega, by go_num, by simp [Hid, HLO.out], mul_in (by have := HLO.out; omega) HV.out, fun t => by rw [rd_set (by have := HLO.out; omega)]; have h1 := HBD.out t; have h2 := HC3.out; split <;> omega, (HO.out.set (by have := HLO.out; omega) _).drew⟩
              case measure => simp [intOf]; omega
            · have hje : j = m := by omega
              subst hje
              go_wp2
              go_roundw
              case rel => exact ⟨i + 1, os, by omega, by go_num, HLO, mul_outer (by have h := HV.out; rw [Dg.val_take_all 10 (l := ys) (by have := HLY.out; omega)] at h; exact h) rfl, fun t => by have := HBD.out t; omega, HO⟩
              case measure => simp [intOf]; omega
        · have hie : i = n := by omega
          subst hie
          have HVV : Hid (Dg.val 10 os = Dg.val 10 xs * Dg.val 10 ys) := by have h := HV.out; rw [Dg.val_take_all 10 (by have := HLX.out; omega)] at h; exact h
          have HB2 : Hid (∀ t, 0 ≤ rd os t ∧ rd os t ≤ 10000000000) := fun t => by have := HBD.out t; omega
          clear HV HBD
          go_wp2
          go_loopw [16] (fun iv wr => ∃ (k : Nat) (zs : List Int), k + 1 ≤ N ∧ iv = .int .i64 k ∧ Hid (zs.length = N) ∧ Hid (Dg.val 10 zs = Dg.val 10 xs * Dg.val 10 ys) ∧ Hid (∀ t, 0 ≤ rd zs t ∧ (t < k → rd zs t < 10) ∧ rd zs t ≤ 20000000000 ∧ (k < t → rd zs t ≤ 10000000000)) ∧ Hid (Own w4 wr 3 .i64 (.slice (some ⟨g, 0, none⟩) N N) zs)) (fun iv _ => N - (intOf iv).toNat)
          case atStart => exact ⟨0, os, by omega, rfl, HLO, HVV, fun t => by have := HB2.out t; omega, HO⟩
          case round =>
            clear HLO HVV HB2 HO
            obtain ⟨k, zs, hk, rfl, HLO, HV, HBD, HO⟩ := hrel
            by_cases hkn : k + 1 < N
            · have hki : (k : Int) + 1 < N := by omega
              obtain ⟨e1, f1⟩ := HO.out.at_ k (by have := HLO.out; omega)
              obtain ⟨e2, f2⟩ := HO.out.at_ (k + 1) (by have := HLO.out; omega)
              have hb1 := HBD.out k
              have hb2 := HBD.out (k + 1)
              have h10 := hb1.1
              have h11 := hb1.2.2.1
              have h20 := hb2.1
              have h21 := hb2.2.2.2 (by omega)
              clear hb1 hb2
              go_wp2
              go_region
              all_goals go_wp2
              all_goals go_roundw
              case rel => exact ⟨k + 1, (zs.set (k + 1) (rd zs (k + 1) + rd zs k / 10)).set k (rd zs k % 10), by omega, by go_num, by simp [Hid, HLO.out], by have h := carry_step (by have := HLO.out; omega) (i := k) (os := zs); rw [h]; exact HV, fun t => by rw [rd_set (by rw [List.length_set]; have := HLO.out; omega), rd_set (by have := HLO.out; omega)]; have h1 := HBD.out t; split <;> (try split) <;> omega, ((HO.out.set (by have := HLO.out; omega) _).set (by rw [List.length_set]; have := HLO.out; omega) _).drew⟩
              case measure => simp [intOf]; omega
            · have HKE : Hid (k + 1 = N) := by unfold Hid; omega
              have hkf : ¬ (k : Int) + 1 < N := by omega
              clear hkn
              have HDZ : Hid (Dg.Dig 10 zs) := by
                have hx1 := Dg.val_lt (b := 10) (by omega) DX.out
                have hy1 := Dg.val_lt (b := 10) (by omega) DY.out
                have hx0 := Dg.val_nonneg (b := 10) (by omega) DX.out
                have hy0 := Dg.val_nonneg (b := 10) (by omega) DY.out
                rw [HLX.out] at hx1
                rw [HLY.out] at hy1
                refine last_dig (k := k) (by have := HLO.out; have := HKE.out; omega) (fun t => ⟨(HBD.out t).1, (HBD.out t).2.1⟩) ?_
                rw [HV.out, show k = i + m by have := HNN.out; have := HKE.out; omega, Int.pow_add]
                exact mul_lt_pow hx0 hx1 hy0 hy1
              have HNB : Hid (N ≤ 10000000000) := by unfold Hid; omega
              have HZ : Hid ((if (p != q) = true then - Dg.val 10 zs else Dg.val 10 zs) = x * y) := by
                rw [HV.out, ← HXS.out, ← HYS.out, dgt_val, dgt_val]
                exact (mul_sign HP.out.symm HQ.out.symm).symm
              obtain ⟨A9, c9, h9, hrr⟩ := HO.out.reads
              simp only [Value.slice.injEq] at h9
              obtain ⟨rfl, -, rfl⟩ := h9
              rw [HLO.out] at hrr
              have hkb : k ≤ 200000001 := by omega
              clear hNN hNb hk hi
              have HRR := Lib.hid hrr
              clear hrr
              go_wp2_with fail
              refine (ref_textZ (p != q) _ _ _ _ (x * y) _ HRR.out HDZ.out HZ.out HNB.out).mono ?_
              rintro e w7 ⟨hp7, rfl⟩
              go_wp2
              go_ret
              exact ⟨(HPP.out.trans HO.out.2).trans hp7, rfl⟩

end Go.Proofs.YtdcjibjldfjllaaGreat

/- The reference's whole numbers: quotients of short ones. -/
namespace Go.Proofs.YtdcjibjldfjllaaGreat
open Go.RowKit

set_option maxRecDepth 100000 in
set_option maxHeartbeats 4000000 in
theorem ref_quotient_short (x y : Int) (w : World) (hx : tlen x ≤ 1000000000) (hy : tlen y ≤ 1000000000) (h1 : dcount (dtx x) ≤ 9) (h2 : dcount (dtx y) ≤ 9) (hy0 : 0 < y) (hxy : 0 ≤ x ∨ y ∣ x) :
    Calls Tryz.prog 151 #[.string (tZ x), .string (tZ y)] w fun e w' => Past w w' ∧ e = .returned (.tuple #[.string (tZ (x / y)), .string (tZ (x % y))]) := by
  have HXY := Lib.hid (And.intro hx hy)
  have H1 := Lib.hid h1
  have H2 := Lib.hid h2
  obtain ⟨hx2, hx3⟩ := short_bd h1
  obtain ⟨hy2, hy3⟩ := short_bd h2
  clear h1 h2 hx hy
  obtain ⟨q, hq⟩ : ∃ q, x / y = q := ⟨_, rfl⟩
  obtain ⟨r, hr⟩ : ∃ r, x % y = r := ⟨_, rfl⟩
  rw [hq, hr]
  have ht1 : Int.tdiv x y = q := by
    rcases hxy with h | h
    · rw [Int.tdiv_eq_ediv_of_nonneg h, hq]
    · rw [Int.tdiv_eq_ediv_of_dvd h, hq]
  have ht2 : Int.tmod x y = r := by
    rcases hxy with h | h
    · rw [Int.tmod_eq_emod_of_nonneg h, hr]
    · rw [Int.tmod_eq_zero_of_dvd h, ← hr, Int.emod_eq_zero_of_dvd h]
  have hr0 : 0 ≤ r := by rw [← hr]; exact Int.emod_nonneg _ (by omega)
  have hr1 : r < y := by rw [← hr]; exact Int.emod_lt_of_pos _ hy0
  have hrn : decide (r < 0) = false := by simp; omega
  have hyn : decide (y < 0) = false := by simp; omega
  have hyz : (y == 0) = false := by rw [beq_eq_false_iff_ne]; omega
  have hq0 : -1000000000 ≤ q ∧ q ≤ 1000000000 := by
    have he := Int.mul_ediv_add_emod x y
    rw [hq, hr] at he
    constructor
    · rcases Int.lt_or_le q (-1000000000) with h | h
      · have : y * q ≤ 1 * q := by
          have h3 := Int.mul_le_mul_of_nonpos_right (show (1 : Int) ≤ y by omega) (show q ≤ 0 by omega)
          omega
        omega
      · exact h
    · rcases Int.lt_or_le 1000000000 q with h | h
      · have : 1 * q ≤ y * q := Int.mul_le_mul_of_nonneg_right (by omega) (by omega)
        omega
      · exact h
  obtain ⟨hq1, hq2⟩ := hq0
  clear hxy hq hr
  by_cases hz : r = 0
  · have hb : (r != 0) = false := by simp [hz]
    clear hz
    go_enter Tryz.func151, Tryz.ntmps151
    go_wp2_with fail
    refine (ref_short_yes _ HXY.out.1 H1.out).mono ?_
    rintro e w1 ⟨hp1, rfl⟩
    go_wp2_with fail
    refine (ref_short_yes _ HXY.out.2 H2.out).mono ?_
    rintro e w2 ⟨hp2, rfl⟩
    go_wp2_with fail
    go_quiet (fail)
    go_wp2_with fail
    refine (ref_number q _ (by omega) (by omega)).mono ?_
    rintro e w3 ⟨hp3, rfl⟩
    go_wp2_with fail
    refine (ref_number r _ (by omega) (by omega)).mono ?_
    rintro e w4 ⟨hp4, rfl⟩
    go_wp2
    go_ret2
    exact ⟨(hp1.trans hp2).trans (Past.trans (((Past.refl w2).drewN _).trans hp3) hp4), rfl⟩
  · have hb : (r != 0) = true := by simp [hz]
    clear hz
    go_enter Tryz.func151, Tryz.ntmps151
    go_wp2_with fail
    refine (ref_short_yes _ HXY.out.1 H1.out).mono ?_
    rintro e w1 ⟨hp1, rfl⟩
    go_wp2_with fail
    refine (ref_short_yes _ HXY.out.2 H2.out).mono ?_
    rintro e w2 ⟨hp2, rfl⟩
    go_wp2_with fail
    go_quiet (fail)
    go_wp2_with fail
    refine (ref_number q _ (by omega) (by omega)).mono ?_
    rintro e w3 ⟨hp3, rfl⟩
    go_wp2_with fail
    refine (ref_number r _ (by omega) (by omega)).mono ?_
    rintro e w4 ⟨hp4, rfl⟩
    go_wp2
    go_ret2
    exact ⟨(hp1.trans hp2).trans (Past.trans (((Past.refl w2).drewN _).trans hp3) hp4), rfl⟩

end Go.Proofs.YtdcjibjldfjllaaGreat
