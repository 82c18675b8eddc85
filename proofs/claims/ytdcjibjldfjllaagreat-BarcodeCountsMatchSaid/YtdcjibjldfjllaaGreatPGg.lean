/- Reading a whole number. -/
import Derived.Test.YtdcjibjldfjllaaGreatPGf
import Derived.Test.YtdcjibjldfjllaaGreatPGa
import Derived.Lib.ConvBytes
set_option linter.unusedVariables false
set_option linter.unusedSimpArgs false
namespace Go.Proofs.YtdcjibjldfjllaaGreat
open Go.RowKit

/-! ### decimal texts that are read -/
def isDg (x : Int) : Bool := decide (48 ≤ x) && decide (x ≤ 57)
/-- The text behind a sign. -/
def bodyL (l : List Int) : List Int := if l.head? = some 45 then l.tail else l
def signL (l : List Int) : Bool := decide (l.head? = some 45)
/-- Whether a text is an integer. -/
def okI (l : List Int) : Bool := !(bodyL l).isEmpty && (bodyL l).all isDg && !(decide ((bodyL l).head? = some 48) && (decide (1 < (bodyL l).length) || signL l))
/-- Its digits, from the lowest one on, and its value. -/
def digL (b : List Int) : List Int := (b.map (· - 48)).reverse
def decV (b : List Int) : Int := Dg.val 10 (digL b)
def intV (l : List Int) : Int := if signL l then - decV (bodyL l) else decV (bodyL l)

theorem digL_length (b : List Int) : (digL b).length = b.length := by simp [digL]
theorem digL_dig {b : List Int} (h : b.all isDg = true) : Dg.Dig 10 (digL b) := by
  intro x hx
  unfold digL at hx
  rw [List.mem_reverse] at hx
  obtain ⟨y, hy, rfl⟩ := List.mem_map.1 hx
  have := List.all_eq_true.1 h y hy
  unfold isDg at this
  simp at this
  omega
theorem digL_snoc (b : List Int) (x : Int) : digL (b ++ [x]) = (x - 48) :: digL b := by simp [digL]

/-- A call that answers a whole number and whether there is one. -/
def AnsI (l : List Int) (w : World) (e : Ending) (w' : World) : Prop :=
  Past w w' ∧ ∃ s A n c, e = .returned (.tuple #[.agg #[.bool s, .slice A n c], .bool (okI l)]) ∧ RW w' s A n c (if okI l then intV l else 0)

/-! ### the bytes of a text as a slice -/
theorem bytes_past (w : World) (e : TypeId) (s : ByteArray) : Past w (Lib.bytesWorld w e s) := by
  refine ⟨?_, ?_, ?_, ?_, ?_⟩
  · unfold Lib.bytesWorld World.freeze; split <;> rfl
  · unfold Lib.bytesWorld World.freeze; split <;> rfl
  · unfold Lib.bytesWorld World.freeze; split <;> rfl
  · rw [Lib.bytesWorld_size]; omega
  · intro k hk
    exact Lib.bytesWorld_at_old w e s k hk
theorem bytes_reads (w : World) (e : TypeId) (s : ByteArray) (c : Nat) (h1 : s.size ≤ c) (h2 : c ≤ 9223372036854775807) : RInts (Lib.bytesWorld w e s) .u8 (some ⟨w.heap.size, 0, none⟩) s.size c (byt s) :=
  ⟨byt_length s, h1, h2, fun _ => ⟨_, _, rfl, fun j hj => by
    rw [Nat.zero_add, Lib.bytesWorld_cell w e s j hj]
    unfold rd byt
    have hl : j < s.data.toList.length := by rw [← Lib.size_eq]; exact hj
    rw [Dg.getD_eq (by simpa using hl), List.getElem_map]
    simp [List.getD_eq_getElem?_getD, List.getElem?_eq_getElem hl]⟩⟩

theorem byt_of_toList (s : ByteArray) : byt s = s.toList.map fun x => (x.toNat : Int) := by
  unfold byt
  rw [Lib.toList_data]

theorem byt_head (s : ByteArray) (h : 0 < s.size) : (byt s).head? = some ((s[0].toNat : Nat) : Int) := by
  unfold byt
  have hl : 0 < s.data.toList.length := by rw [← Lib.size_eq]; exact h
  rw [List.head?_map, List.head?_eq_getElem?, List.getElem?_eq_getElem hl]
  rfl

theorem digL_append (b c : List Int) : digL (b ++ c) = digL c ++ digL b := by simp [digL]
theorem decV_append (b c : List Int) : decV (b ++ c) = decV c + 10 ^ c.length * decV b := by
  unfold decV
  rw [digL_append, Dg.val_append, digL_length]
theorem decV_snoc (b : List Int) (x : Int) : decV (b ++ [x]) = (x - 48) + 10 * decV b := by
  unfold decV
  rw [digL_snoc, Dg.val_cons]
theorem decV_bd {b : List Int} (h : b.all isDg = true) : 0 ≤ decV b ∧ decV b < 10 ^ b.length := by
  refine ⟨Dg.val_nonneg (by omega) (digL_dig h), ?_⟩
  have := Dg.val_lt (b := 10) (by omega) (digL_dig h)
  rwa [digL_length] at this
theorem drop_split (b : List Int) (lo e : Nat) (h : lo ≤ e) : b.drop lo = (b.take e).drop lo ++ b.drop e := by
  rw [List.drop_take]
  have := List.take_append_drop (e - lo) (b.drop lo)
  rw [List.drop_drop, Nat.add_sub_cancel' h] at this
  exact this.symm
theorem max_ints (ats : Array TypeId) (ty : TypeId) (k k' : IntKind) (x y z : Int) (h : (if x < y then y else x) = z) : Builtin.max_ ats ty #[.int k x, .int k' y] = pure (.int k z) := by
  subst h
  simp only [Builtin.max_, List.foldlM_cons, List.foldlM_nil, Builtin.max2, gt_iff_lt]
  rfl

theorem conv_bytes {P : Program} (w : World) (src dst e : TypeId) (s : ByteArray) (hs : P.underlying src = some .string) (hd : P.underlying dst = some (.slice e)) (he : P.underlying e = some (.int .u8)) (hsz : s.size ≤ 9223372036854775807) :
    ∃ m cap wx, (convert src dst (.string s)).run P w = .ok (.slice (some ⟨w.heap.size, 0, none⟩) m cap) wx ∧ Past w wx ∧ RInts wx .u8 (some ⟨w.heap.size, 0, none⟩) m cap (byt s) :=
  ⟨s.size, _, _, Lib.run_convert_string_bytes (P := P) w src dst e s hs hd he, bytes_past w e s, bytes_reads w e s _ (grownCap_ge w s.size 0 e) (by have := grownCap_le_maxLen w s.size 0 e (by unfold maxLen; omega); unfold maxLen at this; omega)⟩

theorem chunk_step {b os : List Int} {k e lo : Nat} (hl : os.length = k) (he : e + 9 * k = b.length) (hlo : e - 9 = lo) (hv : Dg.val 1000000000 os = decV (b.drop (b.length - 9 * k))) : Dg.val 1000000000 (os ++ [decV ((b.take e).drop lo)]) = decV (b.drop (b.length - 9 * (k + 1))) := by
  have e1 : b.length - 9 * k = e := by omega
  have e2 : b.length - 9 * (k + 1) = lo := by omega
  rw [e1] at hv
  rw [e2, drop_split b lo e (by omega), decV_append, Dg.val_snoc, hv, hl, List.length_drop]
  have e3 : b.length - e = 9 * k := by omega
  rw [e3, ← pow_nine]
theorem chunk_all {b : List Int} {k e lo : Nat} (he : e + 9 * k = b.length) (hlo : e - 9 = lo) (hv : (b.drop (b.length - 9 * k)).all isDg = true) (hc : ((b.take e).drop lo).all isDg = true) : (b.drop (b.length - 9 * (k + 1))).all isDg = true := by
  have e1 : b.length - 9 * k = e := by omega
  have e2 : b.length - 9 * (k + 1) = lo := by omega
  rw [e1] at hv
  rw [e2, drop_split b lo e (by omega), List.all_append, hv, hc]
  rfl
theorem take_succ_rd {l : List Int} {j : Nat} (h : j < l.length) : l.take (j + 1) = l.take j ++ [rd l j] := by
  rw [List.take_succ_eq_append_getElem h]
  unfold rd
  rw [Dg.getD_eq h]
theorem not_all {l : List Int} {j : Nat} (h : j < l.length) (hn : isDg (rd l j) = false) : l.all isDg = false := by
  rw [List.all_eq_false]
  refine ⟨l[j], List.getElem_mem h, ?_⟩
  unfold rd at hn
  rw [Dg.getD_eq h] at hn
  simp [hn]

theorem AnsI.no {l : List Int} {w w' : World} (hp : Past w w') (h : okI l = false) : AnsI l w (.returned (.tuple #[.agg #[.bool false, .slice none 0 0], .bool false])) w' :=
  ⟨hp, false, none, 0, 0, by rw [h], by rw [h, if_neg (by simp)]; exact ⟨by simp, by rw [show dg (0 : Int).natAbs = [] from (dg_nil 0).2 rfl]; exact RInts.nil _ _ _ 0 (by omega)⟩⟩

theorem AnsI.yes {l : List Int} {w w' : World} {v : Value} (h : okI l = true) (ha : AnsW (intV l) w (.returned v) w') : AnsI l w (.returned (.tuple #[v, .bool (okI l)])) w' := by
  obtain ⟨hp, s, A, n, c, he, hr⟩ := ha
  injection he with he
  subst he
  exact ⟨hp, s, A, n, c, rfl, by rw [if_pos h]; exact hr⟩

theorem cut_body (s : ByteArray) : ∃ s1, byt s1 = bodyL (byt s) ∧ (if (byt s).head? = some (((45 : UInt8).toNat : Nat) : Int) then Value.tuple #[.string (txt (byt s).tail), .bool true] else .tuple #[.string s, .bool false]) = .tuple #[.string s1, .bool (signL (byt s))] := by
  have e : (((45 : UInt8).toNat : Nat) : Int) = 45 := rfl
  rw [e]
  unfold bodyL signL
  by_cases h : (byt s).head? = some 45
  · refine ⟨txt (byt s).tail, ?_, ?_⟩
    · rw [if_pos h, byt_txt]
      intro x hx
      exact byt_byt s x (List.mem_of_mem_tail hx)
    · rw [if_pos h]; simp [h]
  · refine ⟨s, ?_, ?_⟩
    · rw [if_neg h]
    · rw [if_neg h]; simp [h]

set_option maxRecDepth 100000 in
set_option maxHeartbeats 8000000 in
theorem num_read (s : ByteArray) (w : World) (hs : s.size ≤ 100000000) :
    Calls Tryz.prog 200 #[.string s] w (AnsI (byt s) w) := by
  obtain ⟨s1, hb1, hcut⟩ := cut_body s
  have HS := Lib.hid hs
  have HB1 := Lib.hid hb1
  have HCUT := Lib.hid hcut
  clear hs hb1 hcut
  obtain ⟨wb, hwb⟩ : ∃ wb, (w.alloc (.cells #[.bool false, .slice none 0 0] 129)) = wb := ⟨_, rfl⟩
  have HPB : Hid (Past w wb) := by rw [← hwb]; exact (Past.refl _).alloc _
  have b0 : wb.cell? ⟨w.heap.size, 0, none⟩ = some (.bool false) ∧ wb.frozen? ⟨w.heap.size, 0, none⟩ = false := by rw [← hwb]; simp [go_sem]
  have b1 : wb.cell? ⟨w.heap.size, 1, none⟩ = some (.slice none 0 0) ∧ wb.frozen? ⟨w.heap.size, 1, none⟩ = false := by rw [← hwb]; simp [go_sem]
  have HB := Lib.hid (And.intro b0 b1)
  clear b0 b1
  have HWB := Lib.hid hwb
  clear hwb
  obtain ⟨neg, hneg⟩ : ∃ neg, signL (byt s) = neg := ⟨_, rfl⟩
  rw [hneg] at HCUT
  have HNEG := Lib.hid hneg
  clear hneg
  have hsz : s1.size ≤ 100000000 := by
    rw [← byt_length, HB1.out]
    have h1 := HS.out
    rw [← byt_length] at h1
    unfold bodyL
    split
    · rw [List.length_tail]; omega
    · exact h1
  have HSZ := Lib.hid hsz
  clear hsz
  by_cases hA : s1.toList = []
  · have HNO : Hid (okI (byt s) = false) := by
      unfold okI
      rw [← HB1.out, byt_of_toList, hA]
      rfl
    go_enter Tryz.func200, Tryz.ntmps200
    go_wp2_with fail
    rw [HWB.out]
    refine (str_cutPrefix s 45 _).mono ?_
    rintro e w' ⟨⟨q, rfl⟩, rfl⟩
    rw [HCUT.out]
    obtain ⟨k0, f0⟩ := ((Past.refl wb).drewN q).free HB.out.1.1 HB.out.1.2
    obtain ⟨k1, f1⟩ := ((Past.refl wb).drewN q).free HB.out.2.1 HB.out.2.2
    go_wp2
    refine bodyPost_ret (v := .tuple #[.agg #[.bool false, .slice none 0 0], .bool false]) ?_ rfl (AnsI.no ?_ HNO.out)
    · simp [results, Tryz.results200, go_sem, k0, k1]
    · repeat (first | exact HPB.out | (refine Past.setCell ?_ (by dsimp only; omega) _) | apply Past.drewN | apply Past.drew)
  · have hA2 : s1.toList.isEmpty = false := by rw [List.isEmpty_eq_false_iff]; exact hA
    have hA3 : 0 < s1.size := by
      rw [Lib.size_eq, ← Lib.toList_data]
      exact List.length_pos_iff.2 hA
    have HHD : Hid ((byt s1).head? = some ((s1[0].toNat : Nat) : Int)) := byt_head s1 hA3
    have HNE : Hid (byt s1 ≠ []) := by
      unfold Hid
      rw [byt_of_toList]
      simpa using hA
    by_cases h48 : ((s1[0].toNat : Nat) : Int) = 48
    · by_cases hone : 1 < (s1.size : Int)
      · have HNO : Hid (okI (byt s) = false) := by
          unfold okI
          rw [← HB1.out, HHD.out, h48, byt_length]
          have : decide (1 < s1.size) = true := by simp; omega
          simp [this, Hid]
        go_enter Tryz.func200, Tryz.ntmps200
        go_wp2_with fail
        rw [HWB.out]
        refine (str_cutPrefix s 45 _).mono ?_
        rintro e w' ⟨⟨q, rfl⟩, rfl⟩
        rw [HCUT.out]
        obtain ⟨k0, f0⟩ := ((Past.refl wb).drewN q).free HB.out.1.1 HB.out.1.2
        obtain ⟨k1, f1⟩ := ((Past.refl wb).drewN q).free HB.out.2.1 HB.out.2.2
        go_wp2
        refine bodyPost_ret (v := .tuple #[.agg #[.bool false, .slice none 0 0], .bool false]) ?_ rfl (AnsI.no ?_ HNO.out)
        · simp [results, Tryz.results200, go_sem, k0, k1]
        · repeat (first | exact HPB.out | (refine Past.setCell ?_ (by dsimp only; omega) _) | apply Past.drewN | apply Past.drew)
      · have hone2 : ¬ 1 < (s1.size : Int) := hone
        cases neg with
        | true =>
          have HNO : Hid (okI (byt s) = false) := by
            unfold okI
            rw [← HB1.out, HHD.out, h48, HNEG.out]
            simp [Hid]
          go_enter Tryz.func200, Tryz.ntmps200
          go_wp2_with fail
          rw [HWB.out]
          refine (str_cutPrefix s 45 _).mono ?_
          rintro e w' ⟨⟨q, rfl⟩, rfl⟩
          rw [HCUT.out]
          obtain ⟨k0, f0⟩ := ((Past.refl wb).drewN q).free HB.out.1.1 HB.out.1.2
          obtain ⟨k1, f1⟩ := ((Past.refl wb).drewN q).free HB.out.2.1 HB.out.2.2
          go_wp2
          refine bodyPost_ret (v := .tuple #[.agg #[.bool false, .slice none 0 0], .bool false]) ?_ rfl (AnsI.no ?_ HNO.out)
          · simp [results, Tryz.results200, go_sem, k0, k1]
          · repeat (first | exact HPB.out | (refine Past.setCell ?_ (by dsimp only; omega) _) | apply Past.drewN | apply Past.drew)
        | false =>
          have HOK : Hid ((decide ((byt s1).head? = some 48) && (decide (1 < (byt s1).length) || signL (byt s))) = false) := by
            rw [byt_length, HNEG.out]
            have : decide (1 < s1.size) = false := by simp; omega
            rw [this]
            simp [Hid]
          have hbone : decide (1 < (s1.size : Int)) = false := by simp; omega
          go_enter Tryz.func200, Tryz.ntmps200
          go_wp2_with fail
          rw [HWB.out]
          refine (str_cutPrefix s 45 _).mono ?_
          rintro e w' ⟨⟨q, rfl⟩, rfl⟩
          rw [HCUT.out]
          obtain ⟨k0, f0⟩ := ((Past.refl wb).drewN q).free HB.out.1.1 HB.out.1.2
          obtain ⟨k1, f1⟩ := ((Past.refl wb).drewN q).free HB.out.2.1 HB.out.2.2
          go_wp2
          have HPX : Hid (Past wb (wb.drewN q)) := (Past.refl wb).drewN q
          clear k0 f0 k1 f1
          go_loopw [6, 7, 8, 10] (fun dv ev _ _ wr => ∃ (k : Nat) (os : List Int), ev = .int .i64 ((s1.size : Int) - 9 * k) ∧ 9 * k < s1.size + 9 ∧ Hid (os.length = k) ∧ Hid (Dg.Dig 1000000000 os) ∧ Hid (Dg.val 1000000000 os = decV ((byt s1).drop (s1.size - 9 * k))) ∧ Hid (((byt s1).drop (s1.size - 9 * k)).all isDg = true) ∧ Hid (Own wb wr 247 .u32 dv os)) (fun _ ev _ _ _ => (intOf ev + 9).toNat)
          case atStart => exact ⟨0, [], by simp, by omega, rfl, Dg.Dig.nil _, by rw [List.drop_of_length_le (by rw [byt_length]; omega)]; rfl, by rw [List.drop_of_length_le (by rw [byt_length]; omega)]; rfl, Own.nil HPX.out _ _⟩
          case round =>
            obtain ⟨k, os, rfl, hk, HLO, HDO, HV, HAL, HO⟩ := hrel
            by_cases hpos : 9 * k < s1.size
            · obtain ⟨e, he⟩ : ∃ e, e + 9 * k = s1.size := ⟨s1.size - 9 * k, by omega⟩
              have ee : (s1.size : Int) - 9 * k = (e : Int) := by omega
              rw [ee]
              have HE := Lib.hid he
              have he0 : (0 : Int) < e := by omega
              have hbe : decide (0 < e) = true := decide_eq_true (by omega)
              have hes : (e : Int) ≤ s1.size := by omega
              have heb : e ≤ 100000000 := by have := HSZ.out; omega
              clear ee he
              obtain ⟨lo, hlo⟩ : ∃ lo : Nat, e - 9 = lo := ⟨_, rfl⟩
              have hmx := fun ats ty => max_ints ats ty .i64 .i64 0 ((e : Int) - 9) (lo : Int) (by split <;> omega)
              have HLOE := Lib.hid hlo
              have hl0 : (0 : Int) ≤ lo := by omega
              have hle : (lo : Int) ≤ e := by omega
              have hle' : lo ≤ e := by omega
              clear hlo
              have hcs : (s1.extract lo e).size ≤ 100000000 := by simp; omega
              obtain ⟨m, cap, wx, hcv, hpx, hrx⟩ := conv_bytes (P := Tryz.prog) wr 9 103 5 (s1.extract lo e) Tryz.underlying9 Tryz.underlying103 Tryz.underlying5 (by omega)
              rw [byt_extract] at hrx
              obtain ⟨C, hC⟩ : ∃ C, ((byt s1).take e).drop lo = C := ⟨_, rfl⟩
              rw [hC] at hrx
              have HC := Lib.hid hC
              have HRX := Lib.hid hrx
              have HPX2 := Lib.hid hpx
              have hm9 : m ≤ 9 := by
                rw [← hrx.len, ← hC, List.length_drop, List.length_take]
                have := HLOE.out
                omega
              have hcapb := hrx.big
              clear hrx hpx hcs hC
              go_wp2
              clear hcv hmx
              go_loopw [8, 10, 46] (fun xv _ jv w' => ∃ (j : Nat) (x : Int), j ≤ m ∧ jv = .int .i64 j ∧ xv = .int .u32 x ∧ 0 ≤ x ∧ x < 1000000000 ∧ Hid (x = decV (C.take j)) ∧ Hid ((C.take j).all isDg = true) ∧ Hid (Past wx w')) (fun _ _ jv _ => m - (intOf jv).toNat)
              case atStart => exact ⟨0, 0, Nat.zero_le _, rfl, rfl, by omega, by omega, rfl, rfl, Past.refl wx⟩
              case round =>
                obtain ⟨j, x, hj, rfl, rfl, hx0, hx1, HXV, HXA, HPW⟩ := hrel
                by_cases hjm : j < m
                · obtain ⟨bb, oo, hbo, hc1⟩ := HRX.out.at_ (by omega)
                  simp only [Option.some.injEq, Addr.mk.injEq, and_true] at hbo
                  obtain ⟨rfl, rfl⟩ := hbo
                  have e1 := HPW.out.cell (hc1 j hjm)
                  rw [Nat.zero_add] at e1
                  clear hc1
                  by_cases hdg : isDg (rd C j) = true
                  · have hdg2 := hdg
                    unfold isDg at hdg2
                    simp only [Bool.and_eq_true, decide_eq_true_eq] at hdg2
                    obtain ⟨hd1, hd2⟩ := hdg2
                    have HDG := Lib.hid hdg
                    clear hdg
                    have hx8 : x < 100000000 := by
                      have h1 := (decV_bd HXA.out).2
                      rw [← HXV.out, List.length_take] at h1
                      have h2 : (10 : Int) ^ (min j C.length) ≤ 10 ^ 8 := Dg.pow_mono (by omega) (by omega)
                      omega
                    go_wp2
                    go_roundw
                    case rel => exact ⟨j + 1, 10 * x + (rd C j - 48), by omega, by go_num, rfl, by omega, by omega, by rw [take_succ_rd (by have := HRX.out.len; omega), decV_snoc, ← HXV.out]; show _ = _; omega, by rw [take_succ_rd (by have := HRX.out.len; omega), List.all_append, HXA.out]; simp [HDG.out, Hid], HPW⟩
                    case measure => simp [intOf]; omega
                  · have HNO : Hid (okI (byt s) = false) := by
                      have h1 : C.all isDg = false := not_all (l := C) (j := j) (by have := HRX.out.len; omega) (by simpa using hdg)
                      have h2 : (byt s1).all isDg = false := by
                        have h3 := h1
                        rw [← HC.out, List.all_eq_false] at h3
                        obtain ⟨y, hy, hn⟩ := h3
                        rw [List.all_eq_false]
                        exact ⟨y, List.mem_of_mem_take (List.mem_of_mem_drop hy), hn⟩
                      unfold okI
                      rw [← HB1.out, h2]
                      simp [Hid]
                    have hq := ((HO.out.2.trans HPX2.out).trans HPW.out)
                    obtain ⟨k0, f0⟩ := hq.free HB.out.1.1 HB.out.1.2
                    obtain ⟨k1, f1⟩ := hq.free HB.out.2.1 HB.out.2.2
                    have HQ := Lib.hid hq
                    clear hq
                    by_cases hlow : rd C j < 48
                    · clear hdg
                      go_wp2
                      refine bodyPost_ret (v := .tuple #[.agg #[.bool false, .slice none 0 0], .bool false]) ?_ rfl (AnsI.no ?_ HNO.out)
                      · simp [results, Tryz.results200, go_sem, k0, k1]
                      · repeat (first | exact HPB.out.trans HQ.out | (refine Past.setCell ?_ (by dsimp only; omega) _) | apply Past.drewN | apply Past.drew)
                    · have hhigh : 57 < rd C j := by
                        simp [isDg] at hdg
                        omega
                      clear hdg
                      go_wp2
                      refine bodyPost_ret (v := .tuple #[.agg #[.bool false, .slice none 0 0], .bool false]) ?_ rfl (AnsI.no ?_ HNO.out)
                      · simp [results, Tryz.results200, go_sem, k0, k1]
                      · repeat (first | exact HPB.out.trans HQ.out | (refine Past.setCell ?_ (by dsimp only; omega) _) | apply Past.drewN | apply Past.drew)
                · have hjm2 : j = m := by omega
                  subst hjm2
                  have HX9 : Hid (x = decV C) := by rw [HXV.out, List.take_of_length_le (by have := HRX.out.len; omega)]; exact rfl
                  have HA9 : Hid (C.all isDg = true) := by have h := HXA.out; rw [List.take_of_length_le (by have := HRX.out.len; omega)] at h; exact h
                  have HO2 := Lib.hid (HO.out.past (HPX2.out.trans HPW.out))
                  go_wp2_with (first | (at_builtin; refine wpList_app el_u32 (HO2.out.alloc _) rfl rfl rfl _ _ _ rfl (cell_new1 _ _ _) (by have := HLO.out; have := HSZ.out; omega) ?_; intro v1 w1 hown1 hp1))
                  go_roundw
                  case rel => exact ⟨k + 1, os ++ [x], by rw [show (s1.size : Int) - 9 * ((k + 1 : Nat) : Int) = (e : Int) - 9 by have := HE.out; omega], by have := HE.out; omega, by simp [Hid, HLO.out], HDO.out.snoc hx0 hx1, by have h := chunk_step HLO.out (by rw [byt_length]; exact HE.out) HLOE.out (by rw [byt_length]; exact HV.out); rw [HC.out, ← HX9.out, byt_length] at h; exact h, by have h := chunk_all (by rw [byt_length]; exact HE.out) HLOE.out (by rw [byt_length]; exact HAL.out) (by rw [HC.out]; exact HA9.out); rw [byt_length] at h; exact h, hown1⟩
                  case measure => simp [intOf]; omega
            · have hend : ¬ (0 : Int) < (s1.size : Int) - 9 * k := by omega
              have HDR : Hid ((byt s1).drop (s1.size - 9 * k) = byt s1) := by rw [show s1.size - 9 * k = 0 by omega]; rfl
              clear hpos
              have HRO := Lib.hid HO.out.reads
              obtain ⟨A', c', hvv, hro⟩ := HRO.out
              subst hvv
              have HRR := Lib.hid hro
              clear hro
              obtain ⟨k0, f0⟩ := HO.out.2.free HB.out.1.1 HB.out.1.2
              obtain ⟨k1, f1⟩ := HO.out.2.free HB.out.2.1 HB.out.2.2
              go_wp2_with fail
              refine (num_signedW _ _ _ _ _ (intV (byt s)) _ HRR.out HDO.out ?_).mono ?_
              · unfold intV
                rw [HV.out, HDR.out, HNEG.out, ← HB1.out]
              rintro e w2 ⟨hp2, s2, A2, n2, c2, rfl, hr2⟩
              obtain ⟨r0, g0⟩ := hp2.free k0 f0
              obtain ⟨r1, g1⟩ := hp2.free k1 f1
              have HYES : Hid (okI (byt s) = true) := by
                have h1 := HAL.out
                rw [HDR.out] at h1
                unfold okI
                rw [← HB1.out, HOK.out, h1]
                have h2 := HNE.out
                simp [h2, Hid]
              go_wp2
              rw [show Value.bool true = Value.bool (okI (byt s)) by rw [HYES.out]] 
              refine bodyPost_ret (v := .tuple #[.agg #[.bool s2, .slice A2 n2 c2], .bool (okI (byt s))]) ?_ rfl (AnsI.yes HYES.out (AnsW.store hr2 (HPB.out.trans HO.out.2) hp2 (by omega) (by simp [r0]) (by simp [r1]) _ _))
              simp [results, Tryz.results200, go_sem, r0, r1, HYES.out]
    · have HOK : Hid ((decide ((byt s1).head? = some 48) && (decide (1 < (byt s1).length) || signL (byt s))) = false) := by
        rw [HHD.out]
        have h3 : ¬ (some ((s1[0].toNat : Nat) : Int) = some 48) := fun e => h48 (by injection e)
        rw [decide_eq_false h3]
        exact Bool.false_and _
      have hb48 : (((s1[0].toNat : Nat) : Int) == 48) = false := by simpa using h48
      go_enter Tryz.func200, Tryz.ntmps200
      go_wp2_with fail
      rw [HWB.out]
      refine (str_cutPrefix s 45 _).mono ?_
      rintro e w' ⟨⟨q, rfl⟩, rfl⟩
      rw [HCUT.out]
      obtain ⟨k0, f0⟩ := ((Past.refl wb).drewN q).free HB.out.1.1 HB.out.1.2
      obtain ⟨k1, f1⟩ := ((Past.refl wb).drewN q).free HB.out.2.1 HB.out.2.2
      go_wp2
      have HPX : Hid (Past wb (wb.drewN q)) := (Past.refl wb).drewN q
      clear k0 f0 k1 f1
      go_loopw [6, 7, 8, 10] (fun dv ev _ _ wr => ∃ (k : Nat) (os : List Int), ev = .int .i64 ((s1.size : Int) - 9 * k) ∧ 9 * k < s1.size + 9 ∧ Hid (os.length = k) ∧ Hid (Dg.Dig 1000000000 os) ∧ Hid (Dg.val 1000000000 os = decV ((byt s1).drop (s1.size - 9 * k))) ∧ Hid (((byt s1).drop (s1.size - 9 * k)).all isDg = true) ∧ Hid (Own wb wr 247 .u32 dv os)) (fun _ ev _ _ _ => (intOf ev + 9).toNat)
      case atStart => exact ⟨0, [], by simp, by omega, rfl, Dg.Dig.nil _, by rw [List.drop_of_length_le (by rw [byt_length]; omega)]; rfl, by rw [List.drop_of_length_le (by rw [byt_length]; omega)]; rfl, Own.nil HPX.out _ _⟩
      case round =>
        obtain ⟨k, os, rfl, hk, HLO, HDO, HV, HAL, HO⟩ := hrel
        by_cases hpos : 9 * k < s1.size
        · obtain ⟨e, he⟩ : ∃ e, e + 9 * k = s1.size := ⟨s1.size - 9 * k, by omega⟩
          have ee : (s1.size : Int) - 9 * k = (e : Int) := by omega
          rw [ee]
          have HE := Lib.hid he
          have he0 : (0 : Int) < e := by omega
          have hbe : decide (0 < e) = true := decide_eq_true (by omega)
          have hes : (e : Int) ≤ s1.size := by omega
          have heb : e ≤ 100000000 := by have := HSZ.out; omega
          clear ee he
          obtain ⟨lo, hlo⟩ : ∃ lo : Nat, e - 9 = lo := ⟨_, rfl⟩
          have hmx := fun ats ty => max_ints ats ty .i64 .i64 0 ((e : Int) - 9) (lo : Int) (by split <;> omega)
          have HLOE := Lib.hid hlo
          have hl0 : (0 : Int) ≤ lo := by omega
          have hle : (lo : Int) ≤ e := by omega
          have hle' : lo ≤ e := by omega
          clear hlo
          have hcs : (s1.extract lo e).size ≤ 100000000 := by simp; omega
          obtain ⟨m, cap, wx, hcv, hpx, hrx⟩ := conv_bytes (P := Tryz.prog) wr 9 103 5 (s1.extract lo e) Tryz.underlying9 Tryz.underlying103 Tryz.underlying5 (by omega)
          rw [byt_extract] at hrx
          obtain ⟨C, hC⟩ : ∃ C, ((byt s1).take e).drop lo = C := ⟨_, rfl⟩
          rw [hC] at hrx
          have HC := Lib.hid hC
          have HRX := Lib.hid hrx
          have HPX2 := Lib.hid hpx
          have hm9 : m ≤ 9 := by
            rw [← hrx.len, ← hC, List.length_drop, List.length_take]
            have := HLOE.out
            omega
          have hcapb := hrx.big
          clear hrx hpx hcs hC
          go_wp2
          clear hcv hmx
          go_loopw [8, 10, 46] (fun xv _ jv w' => ∃ (j : Nat) (x : Int), j ≤ m ∧ jv = .int .i64 j ∧ xv = .int .u32 x ∧ 0 ≤ x ∧ x < 1000000000 ∧ Hid (x = decV (C.take j)) ∧ Hid ((C.take j).all isDg = true) ∧ Hid (Past wx w')) (fun _ _ jv _ => m - (intOf jv).toNat)
          case atStart => exact ⟨0, 0, Nat.zero_le _, rfl, rfl, by omega, by omega, rfl, rfl, Past.refl wx⟩
          case round =>
            obtain ⟨j, x, hj, rfl, rfl, hx0, hx1, HXV, HXA, HPW⟩ := hrel
            by_cases hjm : j < m
            · obtain ⟨bb, oo, hbo, hc1⟩ := HRX.out.at_ (by omega)
              simp only [Option.some.injEq, Addr.mk.injEq, and_true] at hbo
              obtain ⟨rfl, rfl⟩ := hbo
              have e1 := HPW.out.cell (hc1 j hjm)
              rw [Nat.zero_add] at e1
              clear hc1
              by_cases hdg : isDg (rd C j) = true
              · have hdg2 := hdg
                unfold isDg at hdg2
                simp only [Bool.and_eq_true, decide_eq_true_eq] at hdg2
                obtain ⟨hd1, hd2⟩ := hdg2
                have HDG := Lib.hid hdg
                clear hdg
                have hx8 : x < 100000000 := by
                  have h1 := (decV_bd HXA.out).2
                  rw [← HXV.out, List.length_take] at h1
                  have h2 : (10 : Int) ^ (min j C.length) ≤ 10 ^ 8 := Dg.pow_mono (by omega) (by omega)
                  omega
                go_wp2
                go_roundw
                case rel => exact ⟨j + 1, 10 * x + (rd C j - 48), by omega, by go_num, rfl, by omega, by omega, by rw [take_succ_rd (by have := HRX.out.len; omega), decV_snoc, ← HXV.out]; show _ = _; omega, by rw [take_succ_rd (by have := HRX.out.len; omega), List.all_append, HXA.out]; simp [HDG.out, Hid], HPW⟩
                case measure => simp [intOf]; omega
              · have HNO : Hid (okI (byt s) = false) := by
                  have h1 : C.all isDg = false := not_all (l := C) (j := j) (by have := HRX.out.len; omega) (by simpa using hdg)
                  have h2 : (byt s1).all isDg = false := by
                    have h3 := h1
                    rw [← HC.out, List.all_eq_false] at h3
                    obtain ⟨y, hy, hn⟩ := h3
                    rw [List.all_eq_false]
                    exact ⟨y, List.mem_of_mem_take (List.mem_of_mem_drop hy), hn⟩
                  unfold okI
                  rw [← HB1.out, h2]
                  simp [Hid]
                have hq := ((HO.out.2.trans HPX2.out).trans HPW.out)
                obtain ⟨k0, f0⟩ := hq.free HB.out.1.1 HB.out.1.2
                obtain ⟨k1, f1⟩ := hq.free HB.out.2.1 HB.out.2.2
                have HQ := Lib.hid hq
                clear hq
                by_cases hlow : rd C j < 48
                · clear hdg
                  go_wp2
                  refine bodyPost_ret (v := .tuple #[.agg #[.bool false, .slice none 0 0], .bool false]) ?_ rfl (AnsI.no ?_ HNO.out)
                  · simp [results, Tryz.results200, go_sem, k0, k1]
                  · repeat (first | exact HPB.out.trans HQ.out | (refine Past.setCell ?_ (by dsimp only; omega) _) | apply Past.drewN | apply Past.drew)
                · have hhigh : 57 < rd C j := by
                    simp [isDg] at hdg
                    omega
                  clear hdg
                  go_wp2
                  refine bodyPost_ret (v := .tuple #[.agg #[.bool false, .slice none 0 0], .bool false]) ?_ rfl (AnsI.no ?_ HNO.out)
                  · simp [results, Tryz.results200, go_sem, k0, k1]
                  · repeat (first | exact HPB.out.trans HQ.out | (refine Past.setCell ?_ (by dsimp only; omega) _) | apply Past.drewN | apply Past.drew)
            · have hjm2 : j = m := by omega
              subst hjm2
              have HX9 : Hid (x = decV C) := by rw [HXV.out, List.take_of_length_le (by have := HRX.out.len; omega)]; exact rfl
              have HA9 : Hid (C.all isDg = true) := by have h := HXA.out; rw [List.take_of_length_le (by have := HRX.out.len; omega)] at h; exact h
              have HO2 := Lib.hid (HO.out.past (HPX2.out.trans HPW.out))
              go_wp2_with (first | (at_builtin; refine wpList_app el_u32 (HO2.out.alloc _) rfl rfl rfl _ _ _ rfl (cell_new1 _ _ _) (by have := HLO.out; have := HSZ.out; omega) ?_; intro v1 w1 hown1 hp1))
              go_roundw
              case rel => exact ⟨k + 1, os ++ [x], by rw [show (s1.size : Int) - 9 * ((k + 1 : Nat) : Int) = (e : Int) - 9 by have := HE.out; omega], by have := HE.out; omega, by simp [Hid, HLO.out], HDO.out.snoc hx0 hx1, by have h := chunk_step HLO.out (by rw [byt_length]; exact HE.out) HLOE.out (by rw [byt_length]; exact HV.out); rw [HC.out, ← HX9.out, byt_length] at h; exact h, by have h := chunk_all (by rw [byt_length]; exact HE.out) HLOE.out (by rw [byt_length]; exact HAL.out) (by rw [HC.out]; exact HA9.out); rw [byt_length] at h; exact h, hown1⟩
              case measure => simp [intOf]; omega
        · have hend : ¬ (0 : Int) < (s1.size : Int) - 9 * k := by omega
          have HDR : Hid ((byt s1).drop (s1.size - 9 * k) = byt s1) := by rw [show s1.size - 9 * k = 0 by omega]; rfl
          clear hpos
          have HRO := Lib.hid HO.out.reads
          obtain ⟨A', c', hvv, hro⟩ := HRO.out
          subst hvv
          have HRR := Lib.hid hro
          clear hro
          obtain ⟨k0, f0⟩ := HO.out.2.free HB.out.1.1 HB.out.1.2
          obtain ⟨k1, f1⟩ := HO.out.2.free HB.out.2.1 HB.out.2.2
          go_wp2_with fail
          refine (num_signedW _ _ _ _ _ (intV (byt s)) _ HRR.out HDO.out ?_).mono ?_
          · unfold intV
            rw [HV.out, HDR.out, HNEG.out, ← HB1.out]
          rintro e w2 ⟨hp2, s2, A2, n2, c2, rfl, hr2⟩
          obtain ⟨r0, g0⟩ := hp2.free k0 f0
          obtain ⟨r1, g1⟩ := hp2.free k1 f1
          have HYES : Hid (okI (byt s) = true) := by
            have h1 := HAL.out
            rw [HDR.out] at h1
            unfold okI
            rw [← HB1.out, HOK.out, h1]
            have h2 := HNE.out
            simp [h2, Hid]
          go_wp2
          rw [show Value.bool true = Value.bool (okI (byt s)) by rw [HYES.out]] 
          refine bodyPost_ret (v := .tuple #[.agg #[.bool s2, .slice A2 n2 c2], .bool (okI (byt s))]) ?_ rfl (AnsI.yes HYES.out (AnsW.store hr2 (HPB.out.trans HO.out.2) hp2 (by omega) (by simp [r0]) (by simp [r1]) _ _))
          simp [results, Tryz.results200, go_sem, r0, r1, HYES.out]

end Go.Proofs.YtdcjibjldfjllaaGreat
