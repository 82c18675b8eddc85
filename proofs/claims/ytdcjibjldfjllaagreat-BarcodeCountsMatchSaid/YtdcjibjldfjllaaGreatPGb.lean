/- Helpers of the proof, joined: Num1 Num2 Num3 Num4. -/
import Derived.Test.YtdcjibjldfjllaaGreatPGa
set_option linter.unusedVariables false
set_option linter.unusedSimpArgs false
/- Digits of whole numbers: trim, size, signed, Of. -/
namespace Go.Proofs.YtdcjibjldfjllaaGreat
open Go.RowKit

/-- The digits of a natural number, to the base of num. -/
def dg (x : Nat) : List Int := Dg.toD 1000000000 x
/-- A slice that holds the digits of x. -/
def RD (w : World) (A : Option Addr) (n c : Nat) (x : Nat) : Prop := RInts w .u32 A n c (dg x)

theorem trim_take_succ {xs : List Int} {m : Nat} (hm : m < xs.length) (h : rd xs m = 0) : Dg.trim (xs.take (m + 1)) = Dg.trim (xs.take m) := by
  have e : xs.take (m + 1) = xs.take m ++ [0] := by
    rw [List.take_succ_eq_append_getElem hm]
    have h1 : xs.getD m 0 = xs[m] := Dg.getD_eq hm
    unfold rd at h
    rw [← h1, h]
  rw [e, Dg.trim_snoc_zero]
theorem trim_take_end {xs : List Int} {m : Nat} (hm : m < xs.length) (h : rd xs m ≠ 0) : Dg.trim (xs.take (m + 1)) = xs.take (m + 1) := by
  refine Dg.trim_of_can fun hn => ?_
  have e : xs.take (m + 1) = xs.take m ++ [xs[m]] := List.take_succ_eq_append_getElem hm
  have h1 : xs.getD m 0 = xs[m] := Dg.getD_eq hm
  simp only [e, List.getLast_concat]
  unfold rd at h
  rwa [← h1]

set_option maxHeartbeats 400000 in
theorem num_trim (A : Option Addr) (n c : Nat) (xs : List Int) (w : World) (hx : RInts w .u32 A n c xs) :
    Calls Tryz.prog 247 #[.slice A n c] w fun e w' => Drew w w' ∧ ∃ m, e = .returned (.slice A m c) ∧ RInts w .u32 A m c (Dg.trim xs) := by
  have HX := Lib.hid hx
  have hcap := hx.cap
  have hbig := hx.big
  have hlen := Lib.hid hx.len
  clear hx
  go_enter Tryz.func247, Tryz.ntmps247
  go_wp2
  go_loopw [0] (fun s w' => ∃ m : Nat, m ≤ n ∧ s = .slice A m c ∧ Hid (Dg.trim (xs.take m) = Dg.trim xs) ∧ Hid (Drew w w')) (fun s _ => match s with | .slice _ m _ => m | _ => 0)
  case atStart => exact ⟨n, Nat.le_refl _, rfl, by rw [List.take_of_length_le (by have := hlen.out; omega)]; rfl, Drew.refl w⟩
  case round =>
    obtain ⟨m, hm, rfl, HT, HD⟩ := hrel
    cases m with
    | zero =>
      have HT2 : Hid (Dg.trim xs = []) := HT.out.symm
      clear HT
      go_wp2
      go_ret
      exact ⟨HD.out, 0, rfl, by rw [HT2.out]; exact RInts.nil _ _ _ _ hbig⟩
    | succ m =>
      obtain ⟨b, off, rfl, hc⟩ := HX.out.at_ (by omega)
      have hcm := hc m (by omega)
      have HC := Lib.hid hc
      clear hc
      have h0 : (0 : Int) ≤ m := by omega
      by_cases hz : rd xs m = 0
      · have HZ := Lib.hid hz
        have hcm' : w.cell? ⟨b, off + m, none⟩ = some (.int .u32 0) := by rw [hcm, hz]
        clear hcm hz
        have hcr := HD.out.past.cell hcm'
        clear hcm'
        go_wp2
        go_roundw
        case rel => exact ⟨m, by omega, rfl, by rw [← HT.out, trim_take_succ (by have := hlen.out; omega) HZ.out]; exact rfl, HD⟩
        case measure => simp
      · have HZ := Lib.hid hz
        have hcr := HD.out.past.cell hcm
        have hzb : (rd xs m == 0) = false := beq_eq_false_iff_ne.2 hz
        clear hcm hz
        go_wp2
        go_ret
        exact ⟨HD.out, m + 1, rfl, by
          rw [← HT.out, trim_take_end (by have := hlen.out; omega) HZ.out]
          exact HX.out.take (m + 1) (by omega)⟩

theorem dig_val_toD {xs : List Int} (h : Dg.Dig 1000000000 xs) : Dg.trim xs = dg (Dg.val 1000000000 xs).toNat := Dg.trim_eq_toD (b := 1000000000) (by omega) h

set_option maxHeartbeats 400000 in
theorem num_signed (s : Bool) (A : Option Addr) (n c : Nat) (xs : List Int) (w : World) (hx : RInts w .u32 A n c xs) :
    Calls Tryz.prog 205 #[.bool s, .slice A n c] w fun e w' => Past w w' ∧ ∃ m, e = .returned (.agg #[.bool (s && !(Dg.trim xs).isEmpty), .slice A m c]) ∧ RInts w' .u32 A m c (Dg.trim xs) := by
  go_enter Tryz.func205, Tryz.ntmps205
  go_wp2_with (go_at_call 247; refine (num_trim _ _ _ _ _ (hx.past ((Past.refl _).alloc _))).mono ?_; rintro e w1 ⟨HD, m, rfl, hr⟩; obtain ⟨hc1, hf1⟩ := HD.past.rules; have hs1 := HD.past.size)
  · have e : (s && !(Dg.trim xs).isEmpty) = decide (0 < m) := by
      have h1 := hr.len
      have h2 : s = true := by assumption
      cases hq : Dg.trim xs <;> simp [hq, h2] at h1 ⊢ <;> omega
    rw [e]
    clear e
    exact bodyPost_ret (v := .agg #[.bool (decide (0 < m)), .slice A m c]) (by simp [results, Tryz.results205, go_sem, hc1]) rfl ⟨((((Past.refl w).alloc _).trans HD.past).setCell (by simp) _).setCell (by simp) _, m, rfl, ((hr.past HD.past).setCell (by simp [hc1, go_sem]) _).setCell (by simp [hc1, go_sem]) _⟩
  · have e : (s && !(Dg.trim xs).isEmpty) = false := by
      have h2 : ¬ s = true := by assumption
      simp [h2]
    rw [e]
    clear e
    exact bodyPost_ret (v := .agg #[.bool false, .slice A m c]) (by simp [results, Tryz.results205, go_sem, hc1]) rfl ⟨((((Past.refl w).alloc _).trans HD.past).setCell (by simp) _).setCell (by simp) _, m, rfl, ((hr.past HD.past).setCell (by simp [hc1, go_sem]) _).setCell (by simp [hc1, go_sem]) _⟩

/-- Comparing from the top. -/
def cmpTop (a b : List Int) : Nat → Int
  | 0 => 0
  | n + 1 => if rd a n = rd b n then cmpTop a b n else if rd a n < rd b n then -1 else 1
def cmpSize (a b : List Int) : Int := if a.length < b.length then -1 else if b.length < a.length then 1 else cmpTop a b a.length

set_option maxHeartbeats 400000 in
theorem num_size (A B : Option Addr) (n m c d : Nat) (xs ys : List Int) (w : World) (hx : RInts w .u32 A n c xs) (hy : RInts w .u32 B m d ys) :
    Calls Tryz.prog 207 #[.slice A n c, .slice B m d] w fun e w' => Drew w w' ∧ e = .returned (.int .i64 (cmpSize xs ys)) := by
  have hm1 := hx.cap
  have hm2 := hy.cap
  have hm3 := hx.big
  have hm4 := hy.big
  have HL1 := Lib.hid hx.len
  have HL2 := Lib.hid hy.len
  have HX := Lib.hid hx
  have HY := Lib.hid hy
  clear hx hy
  by_cases hnm : n = m
  · subst hnm
    go_enter Tryz.func207, Tryz.ntmps207
    go_wp2
    go_loopw [5] (fun i w' => ∃ k : Nat, k ≤ n ∧ i = .int .i64 ((k : Int) - 1) ∧ Hid (cmpTop xs ys n = cmpTop xs ys k) ∧ Hid (Drew w w')) (fun i _ => (intOf i + 1).toNat)
    case atStart => exact ⟨n, Nat.le_refl _, rfl, rfl, Drew.refl w⟩
    case round =>
      obtain ⟨k, hk, rfl, HC, HQ⟩ := hrel
      cases k with
      | zero =>
        go_wp2
        go_ret
        exact ⟨HQ.out, ret_int (by rw [cmpSize, HL1.out, HL2.out, if_neg (by omega), if_neg (by omega), HC.out]; rfl)⟩
      | succ k =>
        obtain ⟨b1, o1, rfl, hc1⟩ := HX.out.at_ (by omega)
        obtain ⟨b2, o2, rfl, hc2⟩ := HY.out.at_ (by omega)
        have e1 := HQ.out.past.cell (hc1 k (by omega))
        have e2 := HQ.out.past.cell (hc2 k (by omega))
        clear hc1 hc2
        have ek : ((k + 1 : Nat) : Int) - 1 = (k : Int) := by omega
        simp only [ek]
        clear ek
        have h0 : (0 : Int) ≤ k := by omega
        have h1 : (k : Int) < n := by omega
        by_cases hE : rd xs k = rd ys k
        · have HE := Lib.hid hE
          have hb : (rd xs k != rd ys k) = false := by simp [hE]
          clear hE
          go_wp2
          repeat (go_quiet (fail); try go_wp2)
          go_roundw
          case rel => exact ⟨k, by omega, rfl, by rw [HC.out, cmpTop, if_pos HE.out]; exact rfl, HQ.out.step _⟩
          case measure => simp [intOf]
        · have HE := Lib.hid hE
          have hb : (rd xs k != rd ys k) = true := by simp [hE]
          by_cases hL : rd xs k < rd ys k
          · have HL := Lib.hid hL
            clear hE
            go_wp2
            repeat (go_quiet (fail); try go_wp2)
            go_ret
            exact ⟨(HQ.out.step _).step _, ret_int (by rw [cmpSize, HL1.out, HL2.out, if_neg (by omega), if_neg (by omega), HC.out, cmpTop, if_neg HE.out, if_pos HL.out])⟩
          · have HL := Lib.hid hL
            clear hE
            go_wp2
            repeat (go_quiet (fail); try go_wp2)
            go_ret
            exact ⟨(HQ.out.step _).step _, ret_int (by rw [cmpSize, HL1.out, HL2.out, if_neg (by omega), if_neg (by omega), HC.out, cmpTop, if_neg HE.out, if_neg (Int.not_lt.2 HL.out)])⟩
  · by_cases hL : n < m
    · go_enter Tryz.func207, Tryz.ntmps207
      go_wp2
      go_ret
      exact ⟨Drew.refl w, ret_int (by rw [cmpSize, HL1.out, HL2.out, if_pos hL])⟩
    · have hL' : m < n := by omega
      go_enter Tryz.func207, Tryz.ntmps207
      go_wp2
      go_ret
      exact ⟨Drew.refl w, ret_int (by rw [cmpSize, HL1.out, HL2.out, if_neg hL, if_pos hL'])⟩

theorem cmpTop_eq {b : Int} (hb : 0 < b) {xs ys : List Int} (hx : Dg.Dig b xs) (hy : Dg.Dig b ys) (hl : xs.length = ys.length) : ∀ k, k ≤ xs.length → xs.drop k = ys.drop k →
    cmpTop xs ys k = cmpZ (Dg.val b xs) (Dg.val b ys)
  | 0, _, h => by
    have : xs = ys := by simpa using h
    subst this
    simp [cmpTop, cmpZ]
  | k + 1, hk, h => by
    have e1 := Dg.drop_cons_getD (l := xs) (i := k) (by omega)
    have e2 := Dg.drop_cons_getD (l := ys) (i := k) (by omega)
    unfold cmpTop rd
    by_cases hE : xs.getD k 0 = ys.getD k 0
    · rw [if_pos hE]
      exact cmpTop_eq hb hx hy hl k (by omega) (by rw [e1, e2, hE, h])
    · rw [if_neg hE]
      by_cases hL : xs.getD k 0 < ys.getD k 0
      · have := Dg.lt_of_top hb hx hy (by omega) (by omega) h hL
        rw [if_pos hL, cmpZ, if_pos this]
      · have := Dg.lt_of_top hb hy hx (by omega) (by omega) h.symm (by omega : ys.getD k 0 < xs.getD k 0)
        rw [if_neg hL, cmpZ, if_neg (by omega), if_pos this]

theorem cmpSize_eq {b : Nat} (hb : 2 ≤ b) (x y : Nat) : cmpSize (Dg.toD b x) (Dg.toD b y) = cmpN x y := by
  have h1 := Dg.toD_dig b hb x
  have h2 := Dg.toD_dig b hb y
  have v1 := Dg.val_toD b hb x
  have v2 := Dg.val_toD b hb y
  unfold cmpSize cmpN
  by_cases hL : (Dg.toD b x).length < (Dg.toD b y).length
  · have := Dg.val_lt_of_length (b := (b : Int)) (by omega) h1 h2 (Dg.toD_can b hb y) hL
    rw [if_pos hL, if_pos (by omega)]
  · rw [if_neg hL]
    by_cases hG : (Dg.toD b y).length < (Dg.toD b x).length
    · have := Dg.val_lt_of_length (b := (b : Int)) (by omega) h2 h1 (Dg.toD_can b hb x) hG
      rw [if_pos hG, if_neg (by omega), if_pos (by omega)]
    · rw [if_neg hG, cmpTop_eq (b := (b : Int)) (by omega) h1 h2 (by omega) _ (Nat.le_refl _) (by rw [List.drop_of_length_le (Nat.le_refl _), List.drop_of_length_le (by omega)])]
      unfold cmpZ
      rw [v1, v2]
      simp only [Int.ofNat_lt]
end Go.Proofs.YtdcjibjldfjllaaGreat

/- Adding and subtracting digits. -/
namespace Go.Proofs.YtdcjibjldfjllaaGreat
open Go.RowKit

theorem info_u32 : (Tryz.prog.info? 247).map (fun i => (i.zero, i.size, i.bytes)) = some (some (.int .u32 0), 1, 4) := by kernel_rfl
theorem el_u32 : ElT Tryz.prog 127 247 := by
  refine ⟨Tryz.underlying127, ?_⟩
  obtain ⟨i, h1, h2, h3, h4⟩ := info_parts info_u32
  exact ⟨i, _, h1, h2, h3, by omega, rfl⟩

theorem plus_step {b : Int} {X Y os : List Int} {i : Nat} {cr t : Int} (hl : os.length = i) (h : Dg.val b os + b ^ i * cr = Dg.val b (X.take i) + Dg.val b (Y.take i)) (ht : t = rd X i + cr + rd Y i) :
    Dg.val b (os ++ [t % b]) + b ^ (i + 1) * (t / b) = Dg.val b (X.take (i + 1)) + Dg.val b (Y.take (i + 1)) := by
  rw [Dg.val_snoc, hl, Dg.val_take_succ', Dg.val_take_succ', Int.pow_succ, Int.mul_assoc]
  have e : b ^ i * (t % b) + b ^ i * (b * (t / b)) = b ^ i * t := by
    rw [← Int.mul_add, Int.emod_add_mul_ediv]
  have e2 : b ^ i * t = b ^ i * rd X i + b ^ i * cr + b ^ i * rd Y i := by
    rw [ht, Int.mul_add, Int.mul_add]
  unfold rd at e2
  omega

theorem rd_dig {b : Int} {xs : List Int} (h : Dg.Dig b xs) (hb : 0 < b) (i : Nat) : 0 ≤ rd xs i ∧ rd xs i < b := h.getD hb i
theorem rd_out {xs : List Int} {i : Nat} (h : xs.length ≤ i) : rd xs i = 0 := Dg.getD_nil_of_le h

set_option maxRecDepth 100000 in
set_option maxHeartbeats 800000 in
theorem num_plus (A B : Option Addr) (n m c d : Nat) (xs ys : List Int) (w : World) (hx : RInts w .u32 A n c xs) (hy : RInts w .u32 B m d ys)
    (dx : Dg.Dig 1000000000 xs) (dy : Dg.Dig 1000000000 ys) (hn : n < 68719476736) (hm : m < 68719476736) :
    Calls Tryz.prog 206 #[.slice A n c, .slice B m d] w fun e w' => Past w w' ∧ ∃ C k c' zs, e = .returned (.slice C k c') ∧ RInts w' .u32 C k c' zs ∧ Dg.Dig 1000000000 zs ∧ Dg.val 1000000000 zs = Dg.val 1000000000 xs + Dg.val 1000000000 ys ∧ k = max n m + 1 := by
  have HLX := Lib.hid hx.len
  have HLY := Lib.hid hy.len
  have HX := Lib.hid hx
  have HY := Lib.hid hy
  have DX := Lib.hid dx
  have DY := Lib.hid dy
  clear hx hy dx dy
  by_cases hnm : n < m
  · go_enter Tryz.func206, Tryz.ntmps206
    go_wp2_with (first | (at_make; refine wpList_mk0 (k := .u32) el_u32 (Past.refl w) rfl rfl .i64 .i64 (m + 1) _ rfl rfl (by omega) (by omega) ?_; intro v0 w0 hown hp0))
    go_loopw [5, 6, 22] (fun v cr i wr => ∃ (k : Nat) (os : List Int) (q : Int), k ≤ m ∧ i = .int .i64 k ∧ cr = .int .u32 q ∧ 0 ≤ q ∧ q ≤ 1 ∧ Hid (os.length = k) ∧ Hid (Dg.val 1000000000 os + 1000000000 ^ k * q = Dg.val 1000000000 (ys.take k) + Dg.val 1000000000 (xs.take k)) ∧ Hid (Dg.Dig 1000000000 os) ∧ Hid (Own w wr 247 .u32 v os)) (fun _ _ i _ => m - (intOf i).toNat)
    case atStart => exact ⟨0, [], 0, Nat.zero_le _, rfl, rfl, by omega, by omega, rfl, by simp [Hid], Dg.Dig.nil _, hown⟩
    case round =>
      clear hown hp0
      obtain ⟨k, os, q, hk, rfl, rfl, hq0, hq1, HLo, HV, HD, HO⟩ := hrel
      by_cases hkn : k < m
      · obtain ⟨b1, o1, rfl, hc1⟩ := HY.out.at_ (by omega)
        have e1 := HO.out.2.cell (hc1 k (by omega))
        clear hc1
        have hd1 := rd_dig DY.out (by omega) k
        have hd1a := hd1.1
        have hd1b := hd1.2
        clear hd1
        by_cases hkm : k < n
        · obtain ⟨b2, o2, rfl, hc2⟩ := HX.out.at_ (by omega)
          have e2 := HO.out.2.cell (hc2 k (by omega))
          clear hc2
          have hd2 := rd_dig DX.out (by omega) k
          have hd2a := hd2.1
          have hd2b := hd2.2
          clear hd2
          go_wp2_with (first | (at_builtin; refine wpList_app el_u32 (HO.out.alloc _) rfl rfl rfl _ _ _ rfl (cell_new1 _ _ _) ?_ ?_; (have := HLo.out; omega); intro v1 w1 hown1 hp1))
          go_roundw
          case rel => exact ⟨k + 1, os ++ [(rd ys k + q + rd xs k) % 1000000000], (rd ys k + q + rd xs k) / 1000000000, by omega, by go_num, rfl, by omega, by omega, by simp [Hid, HLo.out], plus_step HLo.out HV.out rfl, HD.out.snoc (by omega) (by omega), hown1⟩
          case measure => simp [intOf]; omega
        · have HR : Hid (rd xs k = 0) := rd_out (by have := HLX.out; omega)
          go_wp2_with (first | (at_builtin; refine wpList_app el_u32 (HO.out.alloc _) rfl rfl rfl _ _ _ rfl (cell_new1 _ _ _) ?_ ?_; (have := HLo.out; omega); intro v1 w1 hown1 hp1))
          go_roundw
          case rel => exact ⟨k + 1, os ++ [(rd ys k + q) % 1000000000], (rd ys k + q) / 1000000000, by omega, by go_num, rfl, by omega, by omega, by simp [Hid, HLo.out], plus_step HLo.out HV.out (by rw [HR.out]; omega), HD.out.snoc (by omega) (by omega), hown1⟩
          case measure => simp [intOf]; omega
      · have hke : k = m := by omega
        have HK := Lib.hid hke
        clear hke
        go_wp2_with (first | (at_builtin; refine wpList_app el_u32 (HO.out.alloc _) rfl rfl rfl _ _ _ rfl (cell_new1 _ _ _) ?_ ?_; (have := HLo.out; omega); intro v1 w1 hown1 hp1))
        obtain ⟨C, c', rfl, hr⟩ := hown1.reads
        go_ret
        refine ⟨hp1, C, _, c', _, rfl, hr, HD.out.snoc (by omega) (by omega), ?_, by simp [HLo.out]; have := HK.out; omega⟩
        rw [Dg.val_snoc, HLo.out, HV.out, List.take_of_length_le (by have := HLY.out; have := HK.out; omega), List.take_of_length_le (by have := HLX.out; have := HK.out; omega)]
        omega
  · go_enter Tryz.func206, Tryz.ntmps206
    go_wp2_with (first | (at_make; refine wpList_mk0 (k := .u32) el_u32 (Past.refl w) rfl rfl .i64 .i64 (n + 1) _ rfl rfl (by omega) (by omega) ?_; intro v0 w0 hown hp0))
    go_loopw [5, 6, 22] (fun v cr i wr => ∃ (k : Nat) (os : List Int) (q : Int), k ≤ n ∧ i = .int .i64 k ∧ cr = .int .u32 q ∧ 0 ≤ q ∧ q ≤ 1 ∧ Hid (os.length = k) ∧ Hid (Dg.val 1000000000 os + 1000000000 ^ k * q = Dg.val 1000000000 (xs.take k) + Dg.val 1000000000 (ys.take k)) ∧ Hid (Dg.Dig 1000000000 os) ∧ Hid (Own w wr 247 .u32 v os)) (fun _ _ i _ => n - (intOf i).toNat)
    case atStart => exact ⟨0, [], 0, Nat.zero_le _, rfl, rfl, by omega, by omega, rfl, by simp [Hid], Dg.Dig.nil _, hown⟩
    case round =>
      clear hown hp0
      obtain ⟨k, os, q, hk, rfl, rfl, hq0, hq1, HLo, HV, HD, HO⟩ := hrel
      by_cases hkn : k < n
      · obtain ⟨b1, o1, rfl, hc1⟩ := HX.out.at_ (by omega)
        have e1 := HO.out.2.cell (hc1 k (by omega))
        clear hc1
        have hd1 := rd_dig DX.out (by omega) k
        have hd1a := hd1.1
        have hd1b := hd1.2
        clear hd1
        by_cases hkm : k < m
        · obtain ⟨b2, o2, rfl, hc2⟩ := HY.out.at_ (by omega)
          have e2 := HO.out.2.cell (hc2 k (by omega))
          clear hc2
          have hd2 := rd_dig DY.out (by omega) k
          have hd2a := hd2.1
          have hd2b := hd2.2
          clear hd2
          go_wp2_with (first | (at_builtin; refine wpList_app el_u32 (HO.out.alloc _) rfl rfl rfl _ _ _ rfl (cell_new1 _ _ _) ?_ ?_; (have := HLo.out; omega); intro v1 w1 hown1 hp1))
          go_roundw
          case rel => exact ⟨k + 1, os ++ [(rd xs k + q + rd ys k) % 1000000000], (rd xs k + q + rd ys k) / 1000000000, by omega, by go_num, rfl, by omega, by omega, by simp [Hid, HLo.out], plus_step HLo.out HV.out rfl, HD.out.snoc (by omega) (by omega), hown1⟩
          case measure => simp [intOf]; omega
        · have HR : Hid (rd ys k = 0) := rd_out (by have := HLY.out; omega)
          go_wp2_with (first | (at_builtin; refine wpList_app el_u32 (HO.out.alloc _) rfl rfl rfl _ _ _ rfl (cell_new1 _ _ _) ?_ ?_; (have := HLo.out; omega); intro v1 w1 hown1 hp1))
          go_roundw
          case rel => exact ⟨k + 1, os ++ [(rd xs k + q) % 1000000000], (rd xs k + q) / 1000000000, by omega, by go_num, rfl, by omega, by omega, by simp [Hid, HLo.out], plus_step HLo.out HV.out (by rw [HR.out]; omega), HD.out.snoc (by omega) (by omega), hown1⟩
          case measure => simp [intOf]; omega
      · have hke : k = n := by omega
        have HK := Lib.hid hke
        clear hke
        go_wp2_with (first | (at_builtin; refine wpList_app el_u32 (HO.out.alloc _) rfl rfl rfl _ _ _ rfl (cell_new1 _ _ _) ?_ ?_; (have := HLo.out; omega); intro v1 w1 hown1 hp1))
        obtain ⟨C, c', rfl, hr⟩ := hown1.reads
        go_ret
        refine ⟨hp1, C, _, c', _, rfl, hr, HD.out.snoc (by omega) (by omega), ?_, by simp [HLo.out]; have := HK.out; omega⟩
        rw [Dg.val_snoc, HLo.out, HV.out, List.take_of_length_le (by have := HLX.out; have := HK.out; omega), List.take_of_length_le (by have := HLY.out; have := HK.out; omega)]
end Go.Proofs.YtdcjibjldfjllaaGreat

/- Subtracting digits. -/
namespace Go.Proofs.YtdcjibjldfjllaaGreat
open Go.RowKit

theorem minus_step {b : Int} {X Y os : List Int} {i : Nat} {cr bo t o : Int} (hl : os.length = i) (h : Dg.val b os + Dg.val b (Y.take i) = Dg.val b (X.take i) + b ^ i * cr) (ht : t = cr + rd Y i) (ho : o = rd X i + b * bo - t) :
    Dg.val b (os ++ [o]) + Dg.val b (Y.take (i + 1)) = Dg.val b (X.take (i + 1)) + b ^ (i + 1) * bo := by
  rw [Dg.val_snoc, hl, Dg.val_take_succ', Dg.val_take_succ', Int.pow_succ, Int.mul_assoc]
  have e2 : b ^ i * o = b ^ i * rd X i + b ^ i * (b * bo) - (b ^ i * cr + b ^ i * rd Y i) := by
    rw [ho, ht, Int.mul_sub, Int.mul_add, Int.mul_add]
  unfold rd at e2
  omega

set_option maxRecDepth 100000 in
set_option maxHeartbeats 800000 in
theorem num_minus (A B : Option Addr) (n m c d : Nat) (xs ys : List Int) (w : World) (hx : RInts w .u32 A n c xs) (hy : RInts w .u32 B m d ys)
    (dx : Dg.Dig 1000000000 xs) (dy : Dg.Dig 1000000000 ys) (hn : n < 68719476736) (hm : m ≤ n) (hv : Dg.val 1000000000 ys ≤ Dg.val 1000000000 xs) :
    Calls Tryz.prog 208 #[.slice A n c, .slice B m d] w fun e w' => Past w w' ∧ ∃ C k c' zs, e = .returned (.slice C k c') ∧ RInts w' .u32 C k c' zs ∧ Dg.Dig 1000000000 zs ∧ Dg.val 1000000000 zs = Dg.val 1000000000 xs - Dg.val 1000000000 ys ∧ k = n := by
  have HLX := Lib.hid hx.len
  have HLY := Lib.hid hy.len
  have HX := Lib.hid hx
  have HY := Lib.hid hy
  have DX := Lib.hid dx
  have DY := Lib.hid dy
  have HVV := Lib.hid hv
  clear hx hy dx dy hv
  go_enter Tryz.func208, Tryz.ntmps208
  go_wp2_with (first | (at_make; refine wpList_mk0 (k := .u32) el_u32 (Past.refl w) rfl rfl .i64 .i64 n _ rfl rfl (by omega) (by omega) ?_; intro v0 w0 hown hp0))
  go_loopw [5, 6, 15] (fun v cr i wr => ∃ (k : Nat) (os : List Int) (q : Int), k ≤ n ∧ i = .int .i64 k ∧ cr = .int .u32 q ∧ 0 ≤ q ∧ q ≤ 1 ∧ Hid (os.length = k) ∧ Hid (Dg.val 1000000000 os + Dg.val 1000000000 (ys.take k) = Dg.val 1000000000 (xs.take k) + 1000000000 ^ k * q) ∧ Hid (Dg.Dig 1000000000 os) ∧ Hid (Own w wr 247 .u32 v os)) (fun _ _ i _ => n - (intOf i).toNat)
  case atStart => exact ⟨0, [], 0, Nat.zero_le _, rfl, rfl, by omega, by omega, rfl, by simp [Hid], Dg.Dig.nil _, hown⟩
  case round =>
    clear hown hp0
    obtain ⟨k, os, q, hk, rfl, rfl, hq0, hq1, HLo, HV, HD, HO⟩ := hrel
    by_cases hkn : k < n
    · obtain ⟨b1, o1, rfl, hc1⟩ := HX.out.at_ (by omega)
      have e1 := HO.out.2.cell (hc1 k (by omega))
      clear hc1
      have hd1 := rd_dig DX.out (by omega) k
      have hd1a := hd1.1
      have hd1b := hd1.2
      clear hd1
      by_cases hkm : k < m
      · obtain ⟨b2, o2, rfl, hc2⟩ := HY.out.at_ (by omega)
        have e2 := HO.out.2.cell (hc2 k (by omega))
        clear hc2
        have hd2 := rd_dig DY.out (by omega) k
        have hd2a := hd2.1
        have hd2b := hd2.2
        clear hd2
        by_cases hlt : rd xs k < q + rd ys k
        · go_wp2_with (first | (at_builtin; refine wpList_app el_u32 (HO.out.alloc _) rfl rfl rfl _ _ _ rfl (cell_new1 _ _ _) ?_ ?_; (have := HLo.out; omega); intro v1 w1 hown1 hp1))
          go_roundw
          case rel => exact ⟨k + 1, os ++ [rd xs k + 1000000000 - (q + rd ys k)], 1, by omega, by go_num, rfl, by omega, by omega, by simp [Hid, HLo.out], minus_step (bo := 1) HLo.out HV.out rfl (by omega), HD.out.snoc (by omega) (by omega), hown1⟩
          case measure => simp [intOf]; omega
        · go_wp2_with (first | (at_builtin; refine wpList_app el_u32 (HO.out.alloc _) rfl rfl rfl _ _ _ rfl (cell_new1 _ _ _) ?_ ?_; (have := HLo.out; omega); intro v1 w1 hown1 hp1))
          go_roundw
          case rel => exact ⟨k + 1, os ++ [rd xs k - (q + rd ys k)], 0, by omega, by go_num, rfl, by omega, by omega, by simp [Hid, HLo.out], minus_step (bo := 0) HLo.out HV.out rfl (by omega), HD.out.snoc (by omega) (by omega), hown1⟩
          case measure => simp [intOf]; omega
      · have HR : Hid (rd ys k = 0) := rd_out (by have := HLY.out; omega)
        by_cases hlt : rd xs k < q
        · go_wp2_with (first | (at_builtin; refine wpList_app el_u32 (HO.out.alloc _) rfl rfl rfl _ _ _ rfl (cell_new1 _ _ _) ?_ ?_; (have := HLo.out; omega); intro v1 w1 hown1 hp1))
          go_roundw
          case rel => exact ⟨k + 1, os ++ [rd xs k + 1000000000 - (q)], 1, by omega, by go_num, rfl, by omega, by omega, by simp [Hid, HLo.out], minus_step (bo := 1) HLo.out HV.out (by rw [HR.out, Int.add_zero]) (by omega), HD.out.snoc (by omega) (by omega), hown1⟩
          case measure => simp [intOf]; omega
        · go_wp2_with (first | (at_builtin; refine wpList_app el_u32 (HO.out.alloc _) rfl rfl rfl _ _ _ rfl (cell_new1 _ _ _) ?_ ?_; (have := HLo.out; omega); intro v1 w1 hown1 hp1))
          go_roundw
          case rel => exact ⟨k + 1, os ++ [rd xs k - (q)], 0, by omega, by go_num, rfl, by omega, by omega, by simp [Hid, HLo.out], minus_step (bo := 0) HLo.out HV.out (by rw [HR.out, Int.add_zero]) (by omega), HD.out.snoc (by omega) (by omega), hown1⟩
          case measure => simp [intOf]; omega
    · have hke : k = n := by omega
      have HK := Lib.hid hke
      clear hke
      go_wp2
      obtain ⟨C, c', rfl, hr⟩ := HO.out.reads
      go_ret
      have h1 := HLX.out
      have h2 := HLY.out
      have h3 := HK.out
      have h4 := HVV.out
      have h5 := HV.out
      rw [List.take_of_length_le (by omega), List.take_of_length_le (by omega)] at h5
      have h6 := Dg.val_lt (b := 1000000000) (by omega) HD.out
      rw [HLo.out] at h6
      have hq : q = 0 := by
        rcases (show q = 0 ∨ q = 1 by omega) with h | h
        · exact h
        · subst h
          omega
      subst hq
      exact ⟨HO.out.2, C, _, c', _, rfl, hr, HD.out, by omega, by rw [HLo.out]; omega⟩

end Go.Proofs.YtdcjibjldfjllaaGreat

/- Whole numbers: sign, comparison, sum. -/
namespace Go.Proofs.YtdcjibjldfjllaaGreat
open Go.RowKit

/-- A whole number in memory: its sign and its digits. -/
def RW (w : World) (s : Bool) (A : Option Addr) (n c : Nat) (z : Int) : Prop := s = decide (z < 0) ∧ RInts w .u32 A n c (dg z.natAbs)

theorem RW.past {w w1 : World} {s : Bool} {A : Option Addr} {n c : Nat} {z : Int} (h : RW w s A n c z) (hp : Past w w1) : RW w1 s A n c z := ⟨h.1, h.2.past hp⟩
theorem RW.setCell {w : World} {s : Bool} {A : Option Addr} {n c : Nat} {z : Int} (h : RW w s A n c z) {a : Addr} (hne : ∀ x, w.cell? a ≠ some (.int .u32 x)) (v : Value) : RW (w.setCell a v) s A n c z := ⟨h.1, h.2.setCell hne v⟩
/-- How many digits. -/
def len (z : Int) : Nat := (dg z.natAbs).length
theorem RW.len {w : World} {s : Bool} {A : Option Addr} {n c : Nat} {z : Int} (h : RW w s A n c z) : len z = n := h.2.len

/-- A call that answers a whole number. -/
def AnsW (z : Int) (w : World) (e : Ending) (w' : World) : Prop := Past w w' ∧ ∃ s A n c, e = .returned (.agg #[.bool s, .slice A n c]) ∧ RW w' s A n c z

theorem AnsW.store {z : Int} {w wa w1 : World} {b : Nat} {s : Bool} {A : Option Addr} {n c : Nat} (h : RW w1 s A n c z) (hp0 : Past w wa) (hp : Past wa w1) (hb : w.heap.size ≤ b)
    (h0 : ∀ x, w1.cell? ⟨b, 0, none⟩ ≠ some (.int .u32 x)) (h1 : ∀ x, w1.cell? ⟨b, 1, none⟩ ≠ some (.int .u32 x)) (v0 v1 : Value) :
    AnsW z w (.returned (.agg #[.bool s, .slice A n c])) ((w1.setCell ⟨b, 0, none⟩ v0).setCell ⟨b, 1, none⟩ v1) := by
  refine ⟨((hp0.trans hp).setCell hb _).setCell hb _, s, A, n, c, rfl, (h.setCell h0 _).setCell (fun x => ?_) _⟩
  rw [World.cell?_setCell_other _ _ _ _ (by simp)]
  exact h1 x

theorem RW.store2 {z : Int} {w1 : World} {b : Nat} {s : Bool} {A : Option Addr} {n c : Nat} (h : RW w1 s A n c z)
    (h0 : ∀ x, w1.cell? ⟨b, 0, none⟩ ≠ some (.int .u32 x)) (h1 : ∀ x, w1.cell? ⟨b, 1, none⟩ ≠ some (.int .u32 x)) (v0 v1 : Value) :
    RW ((w1.setCell ⟨b, 0, none⟩ v0).setCell ⟨b, 1, none⟩ v1) s A n c z := by
  refine (h.setCell h0 _).setCell (fun x => ?_) _
  rw [World.cell?_setCell_other _ _ _ _ (by simp)]
  exact h1 x

theorem dg_dig (x : Nat) : Dg.Dig 1000000000 (dg x) := Dg.toD_dig 1000000000 (by omega) x
theorem dg_val (x : Nat) : Dg.val 1000000000 (dg x) = x := Dg.val_toD 1000000000 (by omega) x
theorem dg_nil (x : Nat) : dg x = [] ↔ x = 0 := Dg.toD_eq_nil (by omega)
theorem dg_pos {x : Nat} : 0 < (dg x).length ↔ 0 < x := by
  rw [List.length_pos_iff, Ne, dg_nil]; omega

theorem num_signedW (s : Bool) (A : Option Addr) (n c : Nat) (xs : List Int) (z : Int) (w : World) (hx : RInts w .u32 A n c xs) (hd : Dg.Dig 1000000000 xs) (hz : z = if s then - Dg.val 1000000000 xs else Dg.val 1000000000 xs) :
    Calls Tryz.prog 205 #[.bool s, .slice A n c] w (AnsW z w) := by
  refine (num_signed s A n c xs w hx).mono ?_
  rintro e w' ⟨hp, m, rfl, hr⟩
  have h0 := Dg.val_nonneg (b := 1000000000) (by omega) hd
  have e1 : z.natAbs = (Dg.val 1000000000 xs).toNat := by
    subst hz
    cases s <;> simp <;> omega
  have e2 := dig_val_toD hd
  refine ⟨hp, _, A, m, c, rfl, ?_, ?_⟩
  · rw [e2]
    have h1 : (dg (Dg.val 1000000000 xs).toNat).isEmpty = decide ((Dg.val 1000000000 xs).toNat = 0) := by
      rw [Bool.eq_iff_iff]; simp [dg_nil]
    rw [h1, hz]
    cases s
    · simp; exact h0
    · have e3 : (Dg.val 1000000000 xs ≤ 0) ↔ ¬ (0 < Dg.val 1000000000 xs) := by omega
      simp only [if_true, Bool.true_and]
      rw [Bool.eq_iff_iff]
      simp only [Bool.not_eq_true', decide_eq_false_iff_not, decide_eq_true_eq]
      omega
  · rw [e1, ← e2]; exact hr

set_option maxRecDepth 100000 in
set_option maxHeartbeats 400000 in
theorem whole_sign (s : Bool) (A : Option Addr) (n c : Nat) (z : Int) (w : World) (hx : RW w s A n c z) :
    Calls Tryz.prog 201 #[.agg #[.bool s, .slice A n c]] w fun e w' => Past w w' ∧ e = .returned (.int .i64 (cmpZ z 0)) := by
  obtain ⟨hs, hr⟩ := hx
  have hl := hr.len
  have hp := @dg_pos z.natAbs
  have hb := hr.big
  have hcp := hr.cap
  by_cases h0 : z = 0
  · have hn : n = 0 := by rw [← hl]; subst h0; simp [dg_nil]
    subst hn
    clear hs hr hl hp
    go_enter Tryz.func201, Tryz.ntmps201
    go_wp2
    go_ret
    exact ⟨(Past.refl _).alloc _, ret_int (by subst h0; rfl)⟩
  · have hn : ((n : Int) == 0) = false := by
      rw [beq_eq_false_iff_ne]; omega
    have HS : Hid (s = decide (z < 0)) := hs
    clear hs hr hl hp
    cases s
    · have h1 : ¬ z < 0 := by have := HS.out; simp at this; omega
      go_enter Tryz.func201, Tryz.ntmps201
      go_wp2
      go_ret
      exact ⟨(Past.refl _).alloc _, ret_int (by unfold cmpZ; rw [if_neg (by omega), if_pos (by omega)])⟩
    · have h1 : z < 0 := by have := HS.out; simp at this; omega
      go_enter Tryz.func201, Tryz.ntmps201
      go_wp2
      go_ret
      exact ⟨(Past.refl _).alloc _, ret_int (by unfold cmpZ; rw [if_pos (by omega)])⟩

set_option maxRecDepth 100000 in
set_option maxHeartbeats 400000 in
theorem whole_neg (s : Bool) (A : Option Addr) (n c : Nat) (z : Int) (w : World) (hx : RW w s A n c z) :
    Calls Tryz.prog 203 #[.agg #[.bool s, .slice A n c]] w (AnsW (-z) w) := by
  have HS := Lib.hid hx.1
  have HR := Lib.hid hx.2
  clear hx
  go_enter Tryz.func203, Tryz.ntmps203
  go_wp2_with fail
  refine (num_signedW _ _ _ _ _ (-z) _ (HR.out.past (by exact ((Past.refl _).alloc _).alloc _)) (dg_dig _) ?_).mono ?_
  · rw [dg_val, HS.out]
    by_cases h : z < 0 <;> simp [h] <;> omega
  rintro e w1 ⟨hp, s', A', n', c', rfl, hr'⟩
  obtain ⟨hc1, hf1⟩ := hp.rules
  have hs1 := hp.size
  go_wp2
  exact bodyPost_ret (v := .agg #[.bool s', .slice A' n' c']) (by simp [results, Tryz.results203, go_sem, hc1]) rfl (AnsW.store hr' (((Past.refl w).alloc _).alloc _) hp (by simp) (by simp [hc1, go_sem]) (by simp [hc1, go_sem]) _ _)

/-- The signs and sizes, decided. -/
theorem cmpSize_dg (x y : Nat) : cmpSize (dg x) (dg y) = cmpN x y := cmpSize_eq (b := 1000000000) (by omega) x y
theorem dg_le {x y : Nat} (h : x ≤ y) : (dg x).length ≤ (dg y).length := by
  rcases Nat.lt_or_ge (dg y).length (dg x).length with h1 | h1
  · have := Dg.val_lt_of_length (b := 1000000000) (by omega) (dg_dig y) (dg_dig x) (Dg.toD_can 1000000000 (by omega) x) h1
    rw [dg_val, dg_val] at this
    omega
  · exact h1

set_option maxRecDepth 100000 in
set_option maxHeartbeats 800000 in
theorem whole_add (s t : Bool) (A B : Option Addr) (n c m d : Nat) (x y : Int) (w : World) (hx : RW w s A n c x) (hy : RW w t B m d y) (hn : n < 68719476736) (hm : m < 68719476736) :
    Calls Tryz.prog 147 #[.agg #[.bool s, .slice A n c], .agg #[.bool t, .slice B m d]] w (AnsW (x + y) w) := by
  have HS := Lib.hid hx.1
  have HR := Lib.hid hx.2
  have HT := Lib.hid hy.1
  have HQ := Lib.hid hy.2
  clear hx hy
  by_cases hst : s = t
  · subst hst
    go_enter Tryz.func147, Tryz.ntmps147
    go_wp2_with fail
    go_region_held3 (fun w' => w'.cell? ⟨w.heap.size, 0, none⟩ = some (.bool s) ∧ w'.cell? ⟨w.heap.size, 1, none⟩ = some (.slice A n c) ∧ w'.cell? ⟨w.heap.size + 1, 0, none⟩ = some (.bool s) ∧ w'.cell? ⟨w.heap.size + 1, 1, none⟩ = some (.slice B m d)) (first | (refine keep4 hp2 ?_; assumption) | (refine keep4 hp1 ?_; assumption) | (refine keepst4 ?_ ?_ ?_ ?_ (by assumption) <;> (dsimp only; omega)) | go_keep)
      (first
        | (go_at_call 206; refine (num_plus _ _ _ _ _ _ _ _ _ (HR.out.past (by repeat (first | exact Past.refl _ | apply Past.alloc | apply Past.drew | apply Past.drewN))) (HQ.out.past (by repeat (first | exact Past.refl _ | apply Past.alloc | apply Past.drew | apply Past.drewN))) (dg_dig _) (dg_dig _) (by omega) (by omega)).mono ?_; rintro e w1 ⟨hp1, C, k, c', zs, rfl, hr1, hd1, hv1, hk1⟩; obtain ⟨q0, q1⟩ := hp1.free (a := ⟨w.heap.size + 1 + 1, 0, none⟩) (v := .bool false) (by simp [go_sem]) (by simp [go_sem]); obtain ⟨q2, q3⟩ := hp1.free (a := ⟨w.heap.size + 1 + 1, 1, none⟩) (v := .slice none 0 0) (by simp [go_sem]) (by simp [go_sem]); have HV1 := Lib.hid hv1; clear hv1 hk1)
        | (go_at_call 205; refine (num_signedW _ _ _ _ _ (x + y) _ hr1 hd1 (by rw [HV1.out, dg_val, dg_val]; have := HS.out; have := HT.out; cases s <;> simp at * <;> omega)).mono ?_; rintro e w2 ⟨hp2, s', A', n', c', rfl, hr2⟩; obtain ⟨r0, r1⟩ := hp2.free q0 q1; obtain ⟨r2, r3⟩ := hp2.free q2 q3))
    go_wp2
    exact bodyPost_ret (v := .agg #[.bool s', .slice A' n' c']) (by simp [results, Tryz.results147, go_sem, r0, r2]) rfl (AnsW.store hr2 (Past.trans (by repeat (first | exact Past.refl _ | apply Past.alloc | apply Past.drew | apply Past.drewN)) hp1) hp2 (by omega) (by simp [r0]) (by simp [r2]) _ _)
  · have hst' : (s == t) = false := by simpa using hst
    have HN := Lib.hid hst
    clear hst
    by_cases hL : x.natAbs < y.natAbs
    · have hb : cmpSize (dg x.natAbs) (dg y.natAbs) < 0 := by rw [cmpSize_dg, cmpN, if_pos hL]; omega
      have hle := dg_le (Nat.le_of_lt hL)
      rw [HR.out.len, HQ.out.len] at hle
      go_enter Tryz.func147, Tryz.ntmps147
      go_wp2_with (go_at_call 207; refine (num_size _ _ _ _ _ _ _ _ _ (HR.out.past (by repeat (first | exact Past.refl _ | apply Past.alloc | apply Past.drew | apply Past.drewN))) (HQ.out.past (by repeat (first | exact Past.refl _ | apply Past.alloc | apply Past.drew | apply Past.drewN)))).mono ?_; rintro e w' ⟨⟨q, rfl⟩, rfl⟩)
      go_region_held3 (fun w' => w'.cell? ⟨w.heap.size, 0, none⟩ = some (.bool s) ∧ w'.cell? ⟨w.heap.size, 1, none⟩ = some (.slice A n c) ∧ w'.cell? ⟨w.heap.size + 1, 0, none⟩ = some (.bool t) ∧ w'.cell? ⟨w.heap.size + 1, 1, none⟩ = some (.slice B m d)) (first | (refine keep4 hp2 ?_; assumption) | (refine keep4 hp1 ?_; assumption) | (refine keepst4 ?_ ?_ ?_ ?_ (by assumption) <;> (dsimp only; omega)) | go_keep)
        (first
          | (go_at_call 208; refine (num_minus _ _ _ _ _ _ _ _ _ (HQ.out.past (by repeat (first | exact Past.refl _ | apply Past.alloc | apply Past.drew | apply Past.drewN))) (HR.out.past (by repeat (first | exact Past.refl _ | apply Past.alloc | apply Past.drew | apply Past.drewN))) (dg_dig _) (dg_dig _) (by omega) hle (by rw [dg_val, dg_val]; omega)).mono ?_; rintro e w1 ⟨hp1, C, k, c', zs, rfl, hr1, hd1, hv1, hk1⟩; obtain ⟨q0, q1⟩ := hp1.free (a := ⟨w.heap.size + 1 + 1, 0, none⟩) (v := .bool false) (by simp [go_sem]) (by simp [go_sem]); obtain ⟨q2, q3⟩ := hp1.free (a := ⟨w.heap.size + 1 + 1, 1, none⟩) (v := .slice none 0 0) (by simp [go_sem]) (by simp [go_sem]); have HV1 := Lib.hid hv1; clear hv1 hk1)
          | (go_at_call 205; refine (num_signedW _ _ _ _ _ (x + y) _ hr1 hd1 (by rw [HV1.out, dg_val, dg_val]; have h1 := HS.out; have h2 := HT.out; have h3 := HN.out; subst h1 h2; by_cases hy0 : y < 0 <;> simp [hy0] at h3 ⊢ <;> omega)).mono ?_; rintro e w2 ⟨hp2, s', A', n', c', rfl, hr2⟩; obtain ⟨r0, r1⟩ := hp2.free q0 q1; obtain ⟨r2, r3⟩ := hp2.free q2 q3))
      go_wp2
      exact bodyPost_ret (v := .agg #[.bool s', .slice A' n' c']) (by simp [results, Tryz.results147, go_sem, r0, r2]) rfl (AnsW.store hr2 (Past.trans (by repeat (first | exact Past.refl _ | apply Past.alloc | apply Past.drew | apply Past.drewN)) hp1) hp2 (by omega) (by simp [r0]) (by simp [r2]) _ _)
    · have hb : ¬ cmpSize (dg x.natAbs) (dg y.natAbs) < 0 := by
        rw [cmpSize_dg, cmpN, if_neg hL]; split <;> omega
      have hle := dg_le (Nat.le_of_not_lt hL)
      rw [HR.out.len, HQ.out.len] at hle
      go_enter Tryz.func147, Tryz.ntmps147
      go_wp2_with (go_at_call 207; refine (num_size _ _ _ _ _ _ _ _ _ (HR.out.past (by repeat (first | exact Past.refl _ | apply Past.alloc | apply Past.drew | apply Past.drewN))) (HQ.out.past (by repeat (first | exact Past.refl _ | apply Past.alloc | apply Past.drew | apply Past.drewN)))).mono ?_; rintro e w' ⟨⟨q, rfl⟩, rfl⟩)
      go_region_held3 (fun w' => w'.cell? ⟨w.heap.size, 0, none⟩ = some (.bool s) ∧ w'.cell? ⟨w.heap.size, 1, none⟩ = some (.slice A n c) ∧ w'.cell? ⟨w.heap.size + 1, 0, none⟩ = some (.bool t) ∧ w'.cell? ⟨w.heap.size + 1, 1, none⟩ = some (.slice B m d)) (first | (refine keep4 hp2 ?_; assumption) | (refine keep4 hp1 ?_; assumption) | (refine keepst4 ?_ ?_ ?_ ?_ (by assumption) <;> (dsimp only; omega)) | go_keep)
        (first
          | (go_at_call 208; refine (num_minus _ _ _ _ _ _ _ _ _ (HR.out.past (by repeat (first | exact Past.refl _ | apply Past.alloc | apply Past.drew | apply Past.drewN))) (HQ.out.past (by repeat (first | exact Past.refl _ | apply Past.alloc | apply Past.drew | apply Past.drewN))) (dg_dig _) (dg_dig _) (by omega) hle (by rw [dg_val, dg_val]; omega)).mono ?_; rintro e w1 ⟨hp1, C, k, c', zs, rfl, hr1, hd1, hv1, hk1⟩; obtain ⟨q0, q1⟩ := hp1.free (a := ⟨w.heap.size + 1 + 1, 0, none⟩) (v := .bool false) (by simp [go_sem]) (by simp [go_sem]); obtain ⟨q2, q3⟩ := hp1.free (a := ⟨w.heap.size + 1 + 1, 1, none⟩) (v := .slice none 0 0) (by simp [go_sem]) (by simp [go_sem]); have HV1 := Lib.hid hv1; clear hv1 hk1)
          | (go_at_call 205; refine (num_signedW _ _ _ _ _ (x + y) _ hr1 hd1 (by rw [HV1.out, dg_val, dg_val]; have h1 := HS.out; have h2 := HT.out; have h3 := HN.out; subst h1 h2; by_cases hx0 : x < 0 <;> simp [hx0] at h3 ⊢ <;> omega)).mono ?_; rintro e w2 ⟨hp2, s', A', n', c', rfl, hr2⟩; obtain ⟨r0, r1⟩ := hp2.free q0 q1; obtain ⟨r2, r3⟩ := hp2.free q2 q3))
      go_wp2
      exact bodyPost_ret (v := .agg #[.bool s', .slice A' n' c']) (by simp [results, Tryz.results147, go_sem, r0, r2]) rfl (AnsW.store hr2 (Past.trans (by repeat (first | exact Past.refl _ | apply Past.alloc | apply Past.drew | apply Past.drewN)) hp1) hp2 (by omega) (by simp [r0]) (by simp [r2]) _ _)

end Go.Proofs.YtdcjibjldfjllaaGreat
