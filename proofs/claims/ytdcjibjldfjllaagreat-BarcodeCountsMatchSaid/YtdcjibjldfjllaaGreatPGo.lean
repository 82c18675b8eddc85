/- Helpers of the proof, joined: Bar10 Bar11 Bar12. -/
import Derived.Test.YtdcjibjldfjllaaGreatPGn
import Derived.Test.YtdcjibjldfjllaaGreatPGa
set_option linter.unusedVariables false
set_option linter.unusedSimpArgs false
/- barcode.Format. -/
namespace Go.Proofs.YtdcjibjldfjllaaGreat
open Go.RowKit

/-- The bytes of a bar's line, and of all lines. -/
def barBytes (b : Bar) : List UInt8 := [UInt8.ofNat (48 + b.d).toNat] ++ ([32] ++ b.x.data.toList ++ [32] ++ b.y.data.toList ++ [10])
def txtB (bs : List Bar) : ByteArray := ⟨(bs.flatMap barBytes).toArray⟩
/-- What barcode.Format answers. -/
def formatB (bs : List Bar) : ByteArray × Int := if checkB bs ≠ 0 then (⟨#[]⟩, checkB bs) else if 65536 < (bs.flatMap barBytes).length then (⟨#[]⟩, 3) else (txtB bs, 0)

theorem chkFrom_valid : ∀ {bs : List Bar} {p : Option Bar}, chkFrom p bs = 0 → ∀ b ∈ bs, validB b = true ∧ sameEnds b = false
  | [], _, _, _, h => by cases h
  | b :: bs, p, h, a, ha => by
    rw [chkFrom] at h
    split at h
    · cases h
    · rename_i hn
      split at h
      · cases h
      · rcases List.mem_cons.1 ha with rfl | ha
        · constructor
          · cases hv : validB a with
            | true => rfl
            | false => exact absurd (Or.inl hv) hn
          · cases hv : sameEnds a with
            | false => rfl
            | true => exact absurd (Or.inr hv) hn
        · exact chkFrom_valid h a ha
theorem checkB_ok {bs : List Bar} (h : checkB bs = 0) : bs.length ≤ 2048 ∧ chkFrom none bs = 0 := by
  unfold checkB at h
  split at h
  · cases h
  · exact ⟨by omega, h⟩
theorem validB_dim {b : Bar} (h : validB b = true) : 0 ≤ b.d ∧ b.d ≤ 4 := by
  unfold validB at h
  simp only [Bool.and_eq_true, decide_eq_true_eq] at h
  exact ⟨h.1.1.1.1, h.1.1.1.2⟩
theorem ownF_past {w0 w : World} {B : Nat} {e : TypeId} {v : Value} {n : Nat} {xs : List Value} (hp : Past w0 w) (h : w0.ownsRowF B e 1 v n xs) : w.ownsRowF B e 1 v n xs :=
  ⟨h.1, h.2.imp id fun ⟨g, cap, cur, fz, h1, h2, h3, rest⟩ => ⟨g, cap, cur, fz, h1, h2, (hp.block g (Array.getElem?_eq_some_iff.1 h3).1).trans h3, rest⟩⟩
theorem isB_past {T e : TypeId} {B b : Nat} {bs : List Value} {w w1 : World} (h : Lib.IsBuilderF T e B b bs w) (hp : Past w w1) : Lib.IsBuilderF T e B b bs w1 := by
  have one : ∀ {p : Value}, Lib.BuilderAtF T e B b p bs w → Lib.BuilderAtF T e B b p bs w1 := fun hb => by
    have hl := hb.lt
    obtain ⟨h1, v, h2, h3, h4⟩ := hb
    exact ⟨h1, v, (hp.block b hl).trans h2, ownF_past hp h3, h4⟩
  rcases h with h | h
  · exact .inl (one h)
  · exact .inr (one h)
theorem isB_new (w0 w : World) (T e : TypeId) (hp : Past w0 w) : Lib.IsBuilderF T e w0.heap.size w.heap.size [] (w.alloc (.cells #[.pointer none, .slice none 0 0] T)) :=
  Lib.IsBuilderF.of (.inl ⟨hp.size, _, by show (w.heap.push _)[w.heap.size]? = _; simp, World.ownsRow_nil _ _ _ _, by simp [Value.ownBlock]⟩)
theorem kept_bar {w w' : World} {b g : Nat} {arr : Array Value} (h : Lib.OthersKept 5 (some b) w w') (hg : w.heap[g]? = some (.cells arr 94 (0, 0))) (hn : g ≠ b) : w'.heap[g]? = some (.cells arr 94 (0, 0)) :=
  h g _ hg (by intro e; injection e with e; exact hn e) (by intro c fz e; injection e with _ e _; exact absurd e (by decide))
theorem isB_lt {T e : TypeId} {B b : Nat} {bs : List Value} {w : World} (h : Lib.IsBuilderF T e B b bs w) : b < w.heap.size := by
  rcases h with h | h
  · exact h.lt
  · exact h.lt
theorem barBytes_len (b : Bar) : (barBytes b).length = b.x.size + b.y.size + 4 := by
  unfold barBytes
  simp only [List.length_append, List.length_cons, List.length_nil, Array.length_toList]
  show _ = b.x.data.size + b.y.data.size + 4
  omega
theorem cells_snoc (l : List UInt8) (d : Int) (h0 : 0 ≤ d) (h1 : d ≤ 4) : Lib.byteCells l ++ [.int .u8 (48 + d)] = Lib.byteCells (l ++ [UInt8.ofNat (48 + d).toNat]) := by
  unfold Lib.byteCells
  rw [List.map_append]
  simp only [List.map_cons, List.map_nil]
  congr 3
  simp only [UInt8.toNat_ofNat']
  omega
theorem cells_app (l : List UInt8) (s : ByteArray) : Lib.byteCells l ++ Lib.strCells s = Lib.byteCells (l ++ s.data.toList) := by
  unfold Lib.byteCells Lib.strCells
  rw [List.map_append]
theorem flat_take {bs : List Bar} {i : Nat} {b : Bar} (h : i < bs.length) (hb : bs[i] = b) : (bs.take (i + 1)).flatMap barBytes = (bs.take i).flatMap barBytes ++ barBytes b := by
  rw [List.take_succ_eq_append_getElem h, hb, List.flatMap_append]; simp
theorem len_bd {k i : Nat} (h : k ≤ i * 200000004) (hi : i ≤ 2048) : k ≤ 409600008192 := by omega
theorem byteCells_length (l : List UInt8) : (Lib.byteCells l).length = l.length := by simp [Lib.byteCells]

set_option maxRecDepth 100000 in
set_option maxHeartbeats 4000000 in
theorem bar_format (A : Option Addr) (n c : Nat) (bs : List Bar) (w : World) (hx : Rows w rBar A n c bs) (hf : ∀ b ∈ bs, b.fit) :
    Calls Tryz.prog 18 #[.slice A n c] w fun e w' => Past w w' ∧ e = .returned (.tuple #[.string (formatB bs).1, .int .i64 (formatB bs).2]) := by
  have HX := Lib.hid hx
  have HL := Lib.hid hx.len
  have HF := Lib.hid hf
  clear hx hf
  obtain ⟨ec, hec⟩ : ∃ x, checkB bs = x := ⟨_, rfl⟩
  have HEC := Lib.hid hec
  clear hec
  by_cases h0 : ec = 0
  · subst h0
    have HOK := Lib.hid (checkB_ok HEC.out)
    have hn : n ≤ 2048 := by have := HOK.out.1; have := HL.out; omega
    go_enter Tryz.func18, Tryz.ntmps18
    go_wp2_with fail
    refine (bar_check A n c bs _ HX.out HF.out).mono ?_
    rintro e w1 ⟨hp1, rfl⟩
    rw [HEC.out]
    have HP1 := Lib.hid hp1
    clear hp1
    have HNB : Hid (Lib.IsBuilderF 105 5 w.heap.size w1.heap.size (Lib.byteCells []) (w1.alloc (.cells #[.pointer none, .slice none 0 0] 105))) := isB_new w w1 _ _ HP1.out
    go_wp2_with fail
    go_loopg [15] n (fun gg iv wr => ∃ (i : Nat) (l : List UInt8), iv = .int .i64 i ∧ i ≤ n ∧ Hid (gg = n - i) ∧ Hid (l = (bs.take i).flatMap barBytes) ∧ Hid (l.length ≤ i * 200000004) ∧ Hid (Lib.IsBuilderF 105 5 w.heap.size w1.heap.size (Lib.byteCells l) wr) ∧ Hid (Past w wr))
    case atStart => exact ⟨0, [], rfl, Nat.zero_le _, rfl, by simp [Hid], by simp [Hid], HNB, HP1.out.alloc _⟩
    case round =>
      clear HNB
      obtain ⟨i, l, rfl, hi, HG, HLE, HLL, HB, HP⟩ := hrel
      by_cases hin : i < n
      · have hil : i < bs.length := by have := HL.out; omega
        obtain ⟨b1, o1, rfl, hc1⟩ := HX.out.bar (by omega)
        have hbi := (hc1 i hil).past HP.out
        obtain ⟨b, hbe⟩ : ∃ b, bs[i] = b := ⟨_, rfl⟩
        rw [hbe] at hbi
        have HFIT : Hid b.fit := by rw [← hbe]; exact HF.out _ (List.getElem_mem hil)
        have hdim := validB_dim (chkFrom_valid HOK.out.2 b (by rw [← hbe]; exact List.getElem_mem hil)).1
        have HFT := Lib.hid (flat_take hil hbe)
        clear hc1 hbe
        obtain ⟨x0, x1, x2⟩ := b
        have d0 : 0 ≤ x0 := hdim.1
        have d1 : x0 ≤ 4 := hdim.2
        have HS1 : Hid (x1.size ≤ 100000000) := HFIT.out.1
        have HS2 : Hid (x2.size ≤ 100000000) := HFIT.out.2
        have e0 : wr.cell? ⟨b1, o1 + i * 3, none⟩ = some (.int .i64 x0) := hbi.1
        have e1 : wr.cell? ⟨b1, o1 + i * 3 + 1, none⟩ = some (.string x1) := hbi.2.1
        have e2 : wr.cell? ⟨b1, o1 + i * 3 + 2, none⟩ = some (.string x2) := hbi.2.2
        have F1 : Hid ((wr.alloc (.cells #[.int .i64 x0, .string x1, .string x2] 94)).cell? ⟨wr.heap.size, 1, none⟩ = some (.string x1)) := by simp [go_sem, Hid]
        have F2 : Hid ((wr.alloc (.cells #[.int .i64 x0, .string x1, .string x2] 94)).cell? ⟨wr.heap.size, 2, none⟩ = some (.string x2)) := by simp [go_sem, Hid]
        have HNX : Hid (w.heap.size ≤ wr.heap.size) := HP.out.size
        have HGN : Hid (wr.heap.size ≠ w1.heap.size) := by have := isB_lt HB.out; unfold Hid; omega
        clear hbi hdim
        have HLI := Lib.hid (len_bd HLL.out (show i ≤ 2048 by omega))
        go_wp2_with fail
        refine (b_writeByte w.heap.size w1.heap.size (Lib.byteCells l) (48 + x0) _ (isB_past HB.out ((Past.refl _).alloc _)) (by rw [byteCells_length]; have := HLI.out; omega) (by have := HNX.out; simp [go_sem]; omega)).mono ?_
        rintro e w2 ⟨rfl, hb2, hbl2, hok2⟩
        rw [cells_snoc l x0 d0 d1] at hb2
        have HP2 : Hid (Past w w2) := Below.trans (HP.out.alloc _) hbl2
        have HB2 := Lib.hid hb2
        have hk2 := kept_bar hok2 (g := wr.heap.size) (arr := #[.int .i64 x0, .string x1, .string x2]) (by show (wr.heap.push _)[wr.heap.size]? = _; simp) HGN.out
        have k1 : w2.cell? ⟨wr.heap.size, 1, none⟩ = some (.string x1) := by rw [Lib.cell_of_heap hk2]; rfl
        have k2 : w2.cell? ⟨wr.heap.size, 2, none⟩ = some (.string x2) := by rw [Lib.cell_of_heap hk2]; rfl
        clear hb2 hbl2 hok2 hk2
        have s1 := HS1.out
        have s2 := HS2.out
        go_wp2_with fail
        refine (b_writeString w.heap.size w1.heap.size _ _ _ HB2.out ?_ HP2.out.size).mono ?_
        · rw [byteCells_length]
          have := HLI.out
          have := HS1.out
          have := HS2.out
          have q1 : (⟨#[32]⟩ : ByteArray).size = 1 := rfl
          have q2 : (⟨#[10]⟩ : ByteArray).size = 1 := rfl
          simp only [ByteArray.size_append, List.length_append, List.length_cons, List.length_nil, q1, q2]
          omega
        rintro e w3 ⟨rfl, hb3, hbl3, -⟩
        rw [cells_app] at hb3
        have HP3 : Hid (Past w w3) := Below.trans HP2.out hbl3
        have HB3 := Lib.hid hb3
        clear hb3 hbl3 k1 k2
        go_wp2
        go_roundg (n - (i + 1))
        case measure => have := HG.out; omega
        case rel => exact ⟨i + 1, l ++ barBytes ⟨x0, x1, x2⟩, by go_num, by omega, rfl, by show _ = _; rw [HFT.out, HLE.out], by have h1 := HLL.out; have h2 := HS1.out; have h3 := HS2.out; show _ ≤ _; rw [List.length_append, barBytes_len]; show _ + (x1.size + x2.size + 4) ≤ _; omega, by have h1 := HB3.out; have e : l ++ barBytes ⟨x0, x1, x2⟩ = l ++ [UInt8.ofNat (48 + x0).toNat] ++ ((⟨#[32]⟩ : ByteArray) ++ x1 ++ ⟨#[32]⟩ ++ x2 ++ ⟨#[10]⟩).data.toList := (by simp [barBytes]); rw [e]; exact h1, HP3.out⟩
      · have HLF : Hid (l = bs.flatMap barBytes) := by
          show _ = _
          rw [HLE.out, List.take_of_length_le (by have := HL.out; omega)]
        by_cases hbig : 65536 < l.length
        · have hb : (65536 : Int) < (l.length : Int) := by omega
          have HR : Hid (formatB bs = (⟨#[]⟩, 3)) := by unfold formatB; rw [HEC.out, ← HLF.out]; simp [hbig, Hid]
          go_wp2_with fail
          refine (b_len w.heap.size w1.heap.size (Lib.byteCells l) _ HB.out).mono ?_
          rintro e w2 ⟨rfl, rfl⟩
          rw [byteCells_length]
          go_wp2
          go_ret2
          exact ⟨HP.out, by rw [HR.out]; rfl⟩
        · have hb : ¬ (65536 : Int) < (l.length : Int) := by omega
          have HR : Hid (formatB bs = (⟨l.toArray⟩, 0)) := by unfold formatB txtB; rw [HEC.out, ← HLF.out]; simp [hbig, Hid]
          go_wp2_with fail
          refine (b_len w.heap.size w1.heap.size (Lib.byteCells l) _ HB.out).mono ?_
          rintro e w2 ⟨rfl, rfl⟩
          rw [byteCells_length]
          go_wp2_with fail
          refine (b_string w.heap.size w1.heap.size l _ HB.out HP.out.size).mono ?_
          rintro e w3 ⟨rfl, hbl3⟩
          have HP3 : Hid (Past w w3) := Below.trans HP.out hbl3
          clear hbl3
          go_wp2
          go_ret2
          exact ⟨HP3.out, by rw [HR.out]; rfl⟩
  · have HR : Hid (formatB bs = (⟨#[]⟩, ec)) := by unfold formatB; rw [HEC.out]; simp [h0, Hid]
    have hb : (ec != 0) = true := by simp [h0]
    go_enter Tryz.func18, Tryz.ntmps18
    go_wp2_with fail
    refine (bar_check A n c bs _ HX.out HF.out).mono ?_
    rintro e w1 ⟨hp1, rfl⟩
    rw [HEC.out]
    go_wp2
    go_ret2
    exact ⟨hp1, by rw [HR.out]; rfl⟩

end Go.Proofs.YtdcjibjldfjllaaGreat

/- barcode.Parse: the closure that reads a field. -/
namespace Go.Proofs.YtdcjibjldfjllaaGreat
open Go.RowKit

/-- What stands ahead of the next space or line feed. -/
def wordL (l : List UInt8) : List UInt8 := l.takeWhile fun b => b != 32 && b != 10
def wordS (s : ByteArray) (p : Nat) : ByteArray := ⟨(wordL (s.data.toList.drop p)).toArray⟩
theorem contains_sep (b : UInt8) : ([32, 10] : List UInt8).contains b = !(b != 32 && b != 10) := by
  simp only [List.contains_cons, List.contains_nil, Bool.or_false, bne, Bool.not_and, Bool.not_not]
theorem indexAny_word : ∀ l : List UInt8, Lib.indexAny l [32, 10] = if (wordL l).length < l.length then ((wordL l).length : Int) else -1
  | [] => rfl
  | b :: l => by
    rw [Lib.indexAny, indexAny_word l, contains_sep]
    unfold wordL
    rw [List.takeWhile_cons]
    cases hb : (b != 32 && b != 10) with
    | false => simp
    | true =>
      simp only [Bool.not_true, Bool.false_eq_true, if_false, if_true, List.length_cons]
      generalize (List.takeWhile (fun b => b != 32 && b != 10) l).length = k
      by_cases h : k < l.length
      · have h' : k + 1 < l.length + 1 := by omega
        rw [if_pos h, if_pos h', if_neg (by rw [beq_iff_eq]; omega)]
        push_cast
        rfl
      · have h' : ¬ k + 1 < l.length + 1 := by omega
        rw [if_neg h, if_neg h']
        rfl
theorem ba_ext {s t : ByteArray} (h : s.data.toList = t.data.toList) : s = t := by
  cases s; cases t
  simp only at h
  rw [Array.toList_inj.1 h]
theorem ext_drop (s : ByteArray) (p : Nat) : (s.extract p s.size).data.toList = s.data.toList.drop p := by
  rw [ByteArray.data_extract, Array.toList_extract, List.extract_eq_take_drop, List.take_of_length_le]
  rw [List.length_drop, Array.length_toList]
  exact Nat.le_refl _
theorem ext_take (s : ByteArray) (k : Nat) : (s.extract 0 k).data.toList = s.data.toList.take k := by
  rw [ByteArray.data_extract, Array.toList_extract, List.extract_eq_take_drop, List.drop_zero, Nat.sub_zero]
theorem ext_word (s : ByteArray) (p : Nat) : (s.extract p s.size).extract 0 (wordL (s.data.toList.drop p)).length = wordS s p := by
  apply ba_ext
  rw [ext_take, ext_drop]
  unfold wordS wordL
  exact (List.prefix_iff_eq_take.1 (List.takeWhile_prefix _)).symm
theorem ext_all (s : ByteArray) (p : Nat) (h : ¬ (wordL (s.data.toList.drop p)).length < (s.data.toList.drop p).length) : s.extract p s.size = wordS s p := by
  apply ba_ext
  rw [ext_drop]
  unfold wordS wordL at *
  have hp := List.takeWhile_prefix (fun b : UInt8 => b != 32 && b != 10) (l := s.data.toList.drop p)
  exact (hp.eq_of_length (by have := hp.length_le; omega)).symm

/-- A variable of type int in a block of its own. -/
def AtCell (w : World) (g p : Nat) : Prop := w.heap[g]? = some (.cells #[.int .i64 p] 3 (0, 0))
theorem AtCell.cell {w : World} {g p : Nat} (h : AtCell w g p) : w.cell? ⟨g, 0, none⟩ = some (.int .i64 p) := by rw [Lib.cell_of_heap h]; rfl
theorem AtCell.frozen {w : World} {g p : Nat} (h : AtCell w g p) : w.frozen? ⟨g, 0, none⟩ = false := Lib.frozen_of_heap h 0
theorem AtCell.past {w w1 : World} {g p : Nat} (h : AtCell w g p) (hp : Past w w1) : AtCell w1 g p := (hp.block g (Array.getElem?_eq_some_iff.1 h).1).trans h
theorem AtCell.set {w : World} {g p : Nat} (h : AtCell w g p) (q : Nat) : AtCell (w.setCell ⟨g, 0, none⟩ (.int .i64 q)) g q := by
  unfold AtCell at *
  rw [heap_setCell_same w g 0 _ _ _ h]
  rfl

set_option maxRecDepth 100000 in
set_option maxHeartbeats 4000000 in
theorem parse_field (s : ByteArray) (ga gs p : Nat) (c : Int) (w : World) (hat : AtCell w ga p) (hs : w.cell? ⟨gs, 0, none⟩ = some (.string s)) (hne : ga ≠ gs) (hp : p < s.size)
    (hc : (((s[p]'hp).toNat : Nat) : Int) = c) (hsz : s.size ≤ 4000000000) (has : ∀ (j : Nat) b, s.data.toList[j]? = some b → b.toNat < 128) :
    Calls Tryz.prog 70 #[.int .u8 c, .pointer (some ⟨ga, 0, none⟩), .pointer (some ⟨gs, 0, none⟩)] w fun e w' => w.grownBy w' (some ga) ∧ AtCell w' ga (p + 1) ∧ e = .returned (.tuple #[.string (wordS s (p + 1)), .bool true]) := by
  have HAS := Lib.hid has
  have HAT := Lib.hid hat
  have ha := hat.cell
  have hfa := hat.frozen
  clear hat
  have hnb : ((((s[p]'hp).toNat : Nat) : Int) != c) = false := by simp [hc]
  have hpz : (p : Int) < (s.size : Int) := by omega
  have hpe : decide (p = s.size) = false := decide_eq_false (by omega)
  have hpe2 : ((p : Int) == (s.size : Int)) = false := by simp; omega
  clear has
  go_enter Tryz.func70, Tryz.ntmps70
  go_wp2_with fail
  have HP : Hid (Past (w.setCell ⟨ga, 0, none⟩ (.int .i64 ((p : Int) + 1))) (w.setCell ⟨ga, 0, none⟩ (.int .i64 ((p : Int) + 1)))) := Past.refl _
  have hasz : (s.extract (p + 1) s.size).size < 4294967281 := by
    show (s.extract (p + 1) s.size).data.size < 4294967281
    rw [← Array.length_toList, ext_drop, List.length_drop, Array.length_toList]
    show s.size - (p + 1) < 4294967281
    omega
  refine (s_indexAny _ _ _ hasz (by decide) ?_ ?_).mono ?_
  · intro j b hj
    rw [ext_drop, List.getElem?_drop] at hj
    exact HAS.out _ b hj
  · intro j b hj
    match j, hj with
    | 0, hj => simp at hj; subst hj; decide
    | 1, hj => simp at hj; subst hj; decide
  rintro e w2 ⟨rfl, hp2⟩
  rw [show (⟨#[32, 10]⟩ : ByteArray).data.toList = [32, 10] from rfl, ext_drop, indexAny_word]
  have HG : Hid (w.grownBy w2 (some ga) ∧ AtCell w2 ga (p + 1)) := by
    refine ⟨⟨hp2.os, hp2.tape, hp2.output, by have := hp2.size; simpa [World.setCell] using this, fun k hk hne => ?_⟩, (HAT.out.set (p + 1)).past hp2⟩
    rw [hp2.block k (by simpa [World.setCell] using hk)]
    exact Below.heap_setCell _ _ _ _ (by simpa using hne)
  clear hp2
  by_cases hk : (wordL (s.data.toList.drop (p + 1))).length < (s.data.toList.drop (p + 1)).length
  · rw [if_pos hk]
    have HW := Lib.hid (ext_word s (p + 1))
    have hk2 : (wordL (s.data.toList.drop (p + 1))).length ≤ (s.extract (p + 1) s.size).size := by
      show _ ≤ (s.extract (p + 1) s.size).data.size
      rw [← Array.length_toList, ext_drop]
      omega
    clear hk
    generalize (wordL (s.data.toList.drop (p + 1))).length = k at HW hk2 ⊢
    generalize s.extract (p + 1) s.size = r at HW hk2 hasz ⊢
    have hk3 : (k : Int) ≤ (r.size : Int) := by omega
    go_wp2
    go_ret2
    exact ⟨HG.out.1, HG.out.2, by rw [← HW.out]; rfl⟩
  · rw [if_neg hk]
    have HW := Lib.hid (ext_all s (p + 1) hk)
    clear hk
    go_wp2
    go_ret2
    exact ⟨HG.out.1, HG.out.2, by rw [← HW.out]; rfl⟩

end Go.Proofs.YtdcjibjldfjllaaGreat

/- barcode.Parse of the text of a barcode. -/
namespace Go.Proofs.YtdcjibjldfjllaaGreat
open Go.RowKit

/-- A text without spaces and line feeds, of ASCII bytes. -/
def clean (x : ByteArray) : Prop := ∀ b ∈ x.data.toList, (b != 32 && b != 10) = true ∧ b.toNat < 128
theorem byte_at {s : ByteArray} {l1 l2 : List UInt8} {c : UInt8} {k : Nat} (h : s.data.toList = l1 ++ c :: l2) (hk : l1.length = k) : ∃ hh : k < s.size, s[k]'hh = c := by
  have hlen : k < s.size := by
    show k < s.data.size
    rw [← Array.length_toList, h, List.length_append, List.length_cons]
    omega
  refine ⟨hlen, ?_⟩
  have e : s.data.toList[k]? = some c := by
    rw [h, List.getElem?_append_right (by omega), hk, Nat.sub_self]; rfl
  have e2 : s.data[k]? = some c := by rw [← Array.getElem?_toList]; exact e
  exact (Array.getElem?_eq_some_iff.1 e2).2
theorem word_at {s x : ByteArray} {l1 l2 : List UInt8} {c : UInt8} {k : Nat} (h : s.data.toList = l1 ++ (x.data.toList ++ c :: l2)) (hk : l1.length = k) (hx : clean x) (hc : (c != 32 && c != 10) = false) : wordS s k = x := by
  apply ba_ext
  show (wordL (s.data.toList.drop k)).toArray.toList = x.data.toList
  rw [h, ← hk, List.drop_left]
  unfold wordL
  rw [List.takeWhile_append_of_pos (fun a ha => (hx a ha).1), List.takeWhile_cons_of_neg (by rw [hc]; simp)]
  simp

/-- A text in a block of its own. -/
def StrAt (w : World) (g : Nat) (s : ByteArray) : Prop := w.heap[g]? = some (.cells #[.string s] 9 (0, 0))
theorem StrAt.cell {w : World} {g : Nat} {s : ByteArray} (h : StrAt w g s) : w.cell? ⟨g, 0, none⟩ = some (.string s) := by rw [Lib.cell_of_heap h]; rfl
/-- Ahead of a line: the place, the text, the bars so far. -/
def PT (w0 w : World) (ga gs p : Nat) (s : ByteArray) (v : Value) (l : List Bar) : Prop :=
  AtCell w ga p ∧ StrAt w gs s ∧ OwnS w0 w rBar 94 v l ∧ w0.heap.size ≤ ga ∧ ga ≠ gs
/-- A parser's state. -/
def PS (w0 w : World) (ga gs gb p : Nat) (s : ByteArray) (b : Bar) (v : Value) (l : List Bar) : Prop :=
  AtCell w ga p ∧ StrAt w gs s ∧ w.heap[gb]? = some (.cells #[.int .i64 b.d, .string b.x, .string b.y] 94 (0, 0)) ∧ OwnS w0 w rBar 94 v l ∧ w0.heap.size ≤ ga ∧ ga ≠ gs ∧ ga ≠ gb
theorem PS.own {w0 w : World} {ga gs gb p : Nat} {s : ByteArray} {b : Bar} {v : Value} {l : List Bar} (h : PS w0 w ga gs gb p s b v l) : v.ownBlock ≠ some ga := by
  intro hv
  rcases h.2.2.2.1.1.2 with ⟨rfl, -⟩ | ⟨g, cap, cur, rfl, -, hh, -⟩
  · cases hv
  · injection hv with hv
    dsimp only at hv
    subst hv
    have h1 := h.1
    unfold AtCell at h1
    rw [hh] at h1
    injection h1 with h1
    injection h1 with _ h2 _
    exact absurd h2 (by decide)
theorem PS.grown {w0 w w' : World} {ga gs gb p q : Nat} {s : ByteArray} {b : Bar} {v : Value} {l : List Bar} (h : PS w0 w ga gs gb p s b v l) (hg : w.grownBy w' (some ga)) (ha : AtCell w' ga q) : PS w0 w' ga gs gb q s b v l := by
  have hown := h.own
  obtain ⟨h1, h2, h3, h4, h5, h6, h7⟩ := h
  refine ⟨ha, ?_, ?_, h4.grown hg h5 hown, h5, h6, h7⟩
  · exact (hg.block gs (Array.getElem?_eq_some_iff.1 h2).1 (by intro e; injection e with e; exact h6 e.symm)).trans h2
  · rw [hg.block gb (Array.getElem?_eq_some_iff.1 h3).1 (by intro e; injection e with e; exact h7 e.symm)]
    exact h3
theorem grown_at {w : World} {ga p : Nat} (h : AtCell w ga p) (q : Nat) : w.grownBy (w.setCell ⟨ga, 0, none⟩ (.int .i64 q)) (some ga) :=
  grown_set (Past.refl w) ga 0 _
theorem PS.set {w0 w : World} {ga gs gb p : Nat} {s : ByteArray} {b : Bar} {v : Value} {l : List Bar} (h : PS w0 w ga gs gb p s b v l) (q : Nat) : PS w0 (w.setCell ⟨ga, 0, none⟩ (.int .i64 q)) ga gs gb q s b v l :=
  h.grown (grown_at h.1 q) (h.1.set q)
theorem PS.past {w0 w w' : World} {ga gs gb p : Nat} {s : ByteArray} {b : Bar} {v : Value} {l : List Bar} (h : PS w0 w ga gs gb p s b v l) (hp : Past w w') : PS w0 w' ga gs gb p s b v l :=
  ⟨h.1.past hp, (hp.block gs (Array.getElem?_eq_some_iff.1 h.2.1).1).trans h.2.1, (hp.block gb (Array.getElem?_eq_some_iff.1 h.2.2.1).1).trans h.2.2.1, h.2.2.2.1.past hp, h.2.2.2.2⟩

theorem heap_new (w : World) (o : Obj) : (w.alloc o).heap[w.heap.size]? = some o := by
  show (w.heap.push o)[w.heap.size]? = _
  simp
theorem atCell_new2 (w : World) (o : Obj) (p : Nat) : AtCell ((w.alloc o).alloc (.cells #[.int .i64 p] 3)) (w.heap.size + 1) p := by
  have e : (w.alloc o).heap.size = w.heap.size + 1 := by show (w.heap.push o).size = _; simp
  unfold AtCell
  rw [← e]
  exact heap_new _ _
theorem PT.box {w0 w : World} {ga gs p : Nat} {s : ByteArray} {v : Value} {l : List Bar} (h : PT w0 w ga gs p s v l) (d : Int) (x y : ByteArray) :
    PS w0 (w.alloc (.cells #[.int .i64 d, .string x, .string y] 94)) ga gs w.heap.size p s ⟨d, x, y⟩ v l := by
  obtain ⟨h1, h2, h3, h4, h5⟩ := h
  have hlt : ga < w.heap.size := (Array.getElem?_eq_some_iff.1 h1).1
  exact ⟨h1.past ((Past.refl _).alloc _), (Below.heap_alloc _ _ _ (Array.getElem?_eq_some_iff.1 h2).1).trans h2, heap_new _ _, h3.alloc _, h4, h5, by omega⟩
/-- 'append(out, y)'; what else has turned. -/
theorem wpList_appG {P : Program} {w : World} {ops : Array Oper} {rest : List Oper} {o : Oper} {a : Act} {Q : Exit → Act → World → Prop} {w0 : World} {α : Type} {R : Rep α} {xs : List α} {e : TypeId} {s x : Operand} {t : TypeId} (he : ElS P R t e) {v : Value}
    (hown : OwnS w0 w R e v xs) (hgd : o.guard = none)
    (ho : o.op = .call { callee := .builtin .append, args := #[s, x], argTypes := #[t, t] })
    (hs : a.eval s = v) (ad : Addr) (c : Nat) (y : α) (hx : a.eval x = .slice (some ad) 1 c) (hc : ∀ i u, (R.enc y)[i]? = some u → w.cell? (ad.add i) = some u) (hlen : xs.length < 1000000000000)
    (h : ∀ v' w', OwnS w0 w' R e v' (xs ++ [y]) → w.grownBy w' v.ownBlock → wpList P ops Q rest (a.put o.dst v') w') : wpList P ops Q (o :: rest) a w := by
  obtain ⟨i, z, hi, hz, hsize, hby, hzs⟩ := he.i
  have hb : (xs.length + 1) * i.bytes ≤ 140737488355328 :=
    Nat.le_trans (Nat.mul_le_mul_left _ hby) (by omega)
  refine wpList_append_own (P := P) w hgd s x t ho w0.heap.size e i z R.sz i.bytes he.t hi hz hsize rfl hzs R.pos v xs.length _ hs hown.1 ad 1 c (R.enc y) hx (by rw [R.len, Nat.one_mul]) hc (R.one y) (by unfold maxLen; omega) hb hown.2.size ?_
  intro v' w' h1 h2 _
  have hp : Past w0 w' := hown.2.grown h2 (fun k hk => (hown.1.lt k hk).1)
  refine h v' w' ⟨?_, hp⟩ h2
  have e1 : (xs ++ [y]).length = xs.length + 1 := by simp
  have e2 : (xs ++ [y]).flatMap R.enc = xs.flatMap R.enc ++ R.enc y := by simp
  rw [e1, e2]
  exact h1
theorem PT.own {w0 w : World} {ga gs p : Nat} {s : ByteArray} {v : Value} {l : List Bar} (h : PT w0 w ga gs p s v l) : v.ownBlock ≠ some ga := by
  obtain ⟨h1, h2, h3, h4, h5⟩ := h
  intro hv
  rcases h3.1.2 with ⟨rfl, -⟩ | ⟨g, cap, cur, rfl, -, hh, -⟩
  · cases hv
  · injection hv with hv
    dsimp only at hv
    subst hv
    unfold AtCell at h1
    rw [hh] at h1
    injection h1 with h1
    injection h1 with _ h2 _
    exact absurd h2 (by decide)
theorem PT.ownS {w0 w : World} {ga gs p : Nat} {s : ByteArray} {v : Value} {l : List Bar} (h : PT w0 w ga gs p s v l) : v.ownBlock ≠ some gs := by
  obtain ⟨h1, h2, h3, h4, h5⟩ := h
  intro hv
  rcases h3.1.2 with ⟨rfl, -⟩ | ⟨g, cap, cur, rfl, -, hh, -⟩
  · cases hv
  · injection hv with hv
    dsimp only at hv
    subst hv
    unfold StrAt at h2
    rw [hh] at h2
    injection h2 with h1
    injection h1 with _ h2 _
    exact absurd h2 (by decide)
theorem PS.fill {w0 w : World} {ga gs gb p : Nat} {s : ByteArray} {b : Bar} {v : Value} {l : List Bar} (h : PS w0 w ga gs gb p s b v l) (hv : v.ownBlock ≠ some gb) (hgs : gs ≠ gb) (hb : w0.heap.size ≤ gb) (x y : ByteArray) :
    PT w0 ((w.setCell ⟨gb, 1, none⟩ (.string x)).setCell ⟨gb, 2, none⟩ (.string y)) ga gs p s v l := by
  obtain ⟨h1, h2, h3, h4, h5, h6, h7⟩ := h
  have g1 := grown_set (Past.refl w) gb 1 (.string x)
  have g2 := grown_set (Past.refl (w.setCell ⟨gb, 1, none⟩ (.string x))) gb 2 (.string y)
  exact ⟨((Below.heap_setCell _ _ _ _ h7).trans (Below.heap_setCell _ _ _ _ h7)).trans h1, ((Below.heap_setCell _ _ _ _ hgs).trans (Below.heap_setCell _ _ _ _ hgs)).trans h2, (h4.grown g1 hb hv).grown g2 hb hv, h5, h6⟩
theorem PT.app {w0 w w' : World} {ga gs p : Nat} {s : ByteArray} {v v' : Value} {l l' : List Bar} {o : Obj} (h : PT w0 w ga gs p s v l) (hg : (w.alloc o).grownBy w' v.ownBlock) (hown : OwnS w0 w' rBar 94 v' l') : PT w0 w' ga gs p s v' l' := by
  have k1 := h.own
  have k2 := h.ownS
  obtain ⟨h1, h2, h3, h4, h5⟩ := h
  have sz : ∀ k, k < w.heap.size → k < (w.alloc o).heap.size := fun k hk => by show k < (w.heap.push o).size; simp; omega
  have e1 := (Array.getElem?_eq_some_iff.1 h1).1
  have e2 := (Array.getElem?_eq_some_iff.1 h2).1
  exact ⟨((hg.block ga (sz _ e1) (fun e => k1 e.symm)).trans (Below.heap_alloc _ _ _ e1)).trans h1, ((hg.block gs (sz _ e2) (fun e => k2 e.symm)).trans (Below.heap_alloc _ _ _ e2)).trans h2, hown, h4, h5⟩
theorem validB_x {b : Bar} (h : validB b = true) : okV (byt b.x) = true := by
  unfold validB at h
  simp only [Bool.and_eq_true, decide_eq_true_eq] at h
  exact h.1.1.2
theorem validB_y {b : Bar} (h : validB b = true) : okE (byt b.y) = true := by
  unfold validB at h
  simp only [Bool.and_eq_true, decide_eq_true_eq] at h
  exact h.1.2
theorem ascii_text {bs : List Bar} {l : List UInt8} (h : l = bs.flatMap barBytes) (hck : chkFrom none bs = 0) (hcl : ∀ b ∈ bs, clean b.x ∧ clean b.y) : ∀ c ∈ l, c.toNat < 128 := by
  intro c hc
  rw [h, List.mem_flatMap] at hc
  obtain ⟨b, hb, hc⟩ := hc
  have hd := validB_dim (chkFrom_valid hck b hb).1
  unfold barBytes at hc
  simp only [List.mem_append, List.mem_cons, List.not_mem_nil, or_false] at hc
  rcases hc with rfl | (((rfl | hc) | rfl) | hc) | rfl
  · simp only [UInt8.toNat_ofNat']; omega
  · decide
  · exact ((hcl b hb).1 c hc).2
  · decide
  · exact ((hcl b hb).2 c hc).2
  · decide

set_option maxRecDepth 100000 in
set_option maxHeartbeats 4000000 in
theorem bar_parse (bs : List Bar) (w : World) (hf : ∀ b ∈ bs, b.fit) (hok : checkB bs = 0) (hcl : ∀ b ∈ bs, clean b.x ∧ clean b.y) (hsz : (bs.flatMap barBytes).length ≤ 65536) :
    Calls Tryz.prog 19 #[.string (txtB bs)] w fun e w' => Past w w' ∧ ∃ v, e = .returned (.tuple #[v, .int .i64 0, .int .i64 0]) ∧ OwnS w w' rBar 94 v bs := by
  have HF := Lib.hid hf
  have HOK := Lib.hid hok
  have HCL := Lib.hid hcl
  have HCK := Lib.hid (checkB_ok hok)
  obtain ⟨s, hs⟩ : ∃ s, txtB bs = s := ⟨_, rfl⟩
  have HS : Hid (s.data.toList = bs.flatMap barBytes) := by show _ = _; rw [← hs]; rfl
  have hss : s.size ≤ 65536 := by
    show s.data.size ≤ 65536
    rw [← Array.length_toList, HS.out]; exact hsz
  have HSL : Hid (s.size = (bs.flatMap barBytes).length) := by
    show s.data.size = _
    rw [← Array.length_toList, HS.out]
  rw [hs]
  clear hf hok hcl hs hsz
  have hmf : ∀ (fn : Fn) (first cap : Array Value) (w : World), (Instr.makeFunc fn first cap).run Tryz.prog w = .ok (.func fn first cap) w := fun _ _ _ _ => rfl
  have hb0 : ¬ (65536 : Int) < (s.size : Int) := by omega
  go_enter Tryz.func19, Tryz.ntmps19
  go_wp2_with fail
  have HPT : Hid (PT w ((w.alloc (.cells #[.string s] 9)).alloc (.cells #[.int .i64 0] 3)) (w.heap.size + 1) w.heap.size 0 s (.slice none 0 0) []) :=
    ⟨atCell_new2 w _ _, (Below.heap_alloc _ _ _ (by show w.heap.size < (w.heap.push _).size; simp)).trans (heap_new w _), OwnS.nil (((Past.refl _).alloc _).alloc _) _ _, by omega, by omega⟩
  go_loopg [2] bs.length (fun gg ov wr => ∃ (i p : Nat) (vo : Value), vo = ov ∧ i ≤ bs.length ∧ Hid (gg = bs.length - i) ∧ p ≤ s.size ∧ Hid (p = ((bs.take i).flatMap barBytes).length) ∧ Hid (PT w wr (w.heap.size + 1) w.heap.size p s vo (bs.take i)))
  case atStart => exact ⟨0, 0, _, rfl, Nat.zero_le _, rfl, Nat.zero_le _, by simp [Hid], HPT⟩
  case round =>
    clear HPT
    obtain ⟨wo, hwo⟩ : ∃ x, x = wr := ⟨_, rfl⟩
    subst hwo
    obtain ⟨i, p, vo, hvo, hi, HG, hps, HPL, HPT⟩ := hrel
    subst hvo
    have a1 := HPT.out.1.cell
    have a2 := HPT.out.1.frozen
    have a3 := HPT.out.2.1.cell
    by_cases hin : i < bs.length
    · obtain ⟨b, hbe⟩ : ∃ b, bs[i] = b := ⟨_, rfl⟩
      have hmem : b ∈ bs := by rw [← hbe]; exact List.getElem_mem hin
      have hval := (chkFrom_valid HCK.out.2 b hmem).1
      have hdim := validB_dim hval
      have hcl := HCL.out b hmem
      have hfit := HF.out b hmem
      have HFT := Lib.hid (flat_take hin hbe)
      have HTK : Hid (bs.take (i + 1) = bs.take i ++ [b]) := by show _ = _; rw [List.take_succ_eq_append_getElem hin, hbe]
      have hsplit : s.data.toList = (bs.take i).flatMap barBytes ++ (barBytes b ++ (bs.drop (i + 1)).flatMap barBytes) := by
        rw [HS.out, ← List.flatMap_cons, ← hbe, ← List.drop_eq_getElem_cons hin, ← List.flatMap_append, List.take_append_drop]
      obtain ⟨pre, hpre⟩ : ∃ x, (bs.take i).flatMap barBytes = x := ⟨_, rfl⟩
      obtain ⟨post, hpost⟩ : ∃ x, (bs.drop (i + 1)).flatMap barBytes = x := ⟨_, rfl⟩
      have hpl : pre.length = p := by rw [← hpre]; exact HPL.out.symm
      rw [hpre, hpost] at hsplit
      obtain ⟨d, x, y⟩ := b
      have hs1 : s.data.toList = pre ++ UInt8.ofNat (48 + d).toNat :: (32 :: (x.data.toList ++ (32 :: (y.data.toList ++ (10 :: post))))) := by rw [hsplit]; simp [barBytes]
      have hs2 : s.data.toList = (pre ++ [UInt8.ofNat (48 + d).toNat]) ++ 32 :: (x.data.toList ++ (32 :: (y.data.toList ++ (10 :: post)))) := by rw [hs1]; simp
      have hs3 : s.data.toList = (pre ++ [UInt8.ofNat (48 + d).toNat, 32]) ++ (x.data.toList ++ 32 :: (y.data.toList ++ (10 :: post))) := by rw [hs1]; simp
      have hs4 : s.data.toList = (pre ++ [UInt8.ofNat (48 + d).toNat, 32] ++ x.data.toList) ++ 32 :: (y.data.toList ++ (10 :: post)) := by rw [hs1]; simp
      have hs5 : s.data.toList = (pre ++ [UInt8.ofNat (48 + d).toNat, 32] ++ x.data.toList ++ [32]) ++ (y.data.toList ++ 10 :: post) := by rw [hs1]; simp
      have hs6 : s.data.toList = (pre ++ [UInt8.ofNat (48 + d).toNat, 32] ++ x.data.toList ++ [32] ++ y.data.toList) ++ 10 :: post := by rw [hs1]; simp
      have lx : x.data.toList.length = x.size := by rw [Array.length_toList]; rfl
      have ly : y.data.toList.length = y.size := by rw [Array.length_toList]; rfl
      obtain ⟨q1, c1⟩ := byte_at (k := p) hs1 hpl
      obtain ⟨q2, c2⟩ := byte_at (k := p + 1) hs2 (by simp [hpl])
      obtain ⟨q3, c3⟩ := byte_at (k := p + 2 + x.size) hs4 (by simp only [List.length_append, List.length_cons, List.length_nil, hpl, lx])
      obtain ⟨q4, c4⟩ := byte_at (k := p + 2 + x.size + 1 + y.size) hs6 (by simp only [List.length_append, List.length_cons, List.length_nil, hpl, lx, ly])
      have HW1 := Lib.hid (word_at (k := p + 2) hs3 (by simp [hpl]) hcl.1 rfl)
      have HW2 := Lib.hid (word_at (k := p + 2 + x.size + 1) hs5 (by simp only [List.length_append, List.length_cons, List.length_nil, hpl, lx]) hcl.2 rfl)
      have HASC : Hid (∀ (j : Nat) b, s.data.toList[j]? = some b → b.toNat < 128) := fun j c hj => ascii_text HS.out HCK.out.2 HCL.out c (List.mem_of_getElem? hj)
      have hd0 : 0 ≤ d := hdim.1
      have hd1 : d ≤ 4 := hdim.2
      have r1 : (((s[p]'q1).toNat : Nat) : Int) = 48 + d := by rw [c1]; simp only [UInt8.toNat_ofNat']; omega
      have r2 : (((s[p + 1]'q2).toNat : Nat) : Int) = 32 := by rw [c2]; rfl
      have r3 : (((s[p + 2 + x.size]'q3).toNat : Nat) : Int) = 32 := by rw [c3]; rfl
      have r4 : (((s[p + 2 + x.size + 1 + y.size]'q4).toNat : Nat) : Int) = 10 := by rw [c4]; rfl
      have hvx : okV (byt x) = true := validB_x hval
      have hvy : okE (byt y) = true := validB_y hval
      have HFX : Hid (x.size ≤ 100000000) := hfit.1
      have HFY : Hid (y.size ≤ 100000000) := hfit.2
      have HSP := Lib.hid hs6
      have HPR := Lib.hid hpre
      have HPLN := Lib.hid hpl
      clear hs1 hs2 hs3 hs4 hs5 hs6 hsplit hpl hpre hpost c1 c2 c3 c4 hval hdim hcl hfit hmem hbe lx ly
      have HR2 := Lib.hid r2
      have HR3 := Lib.hid r3
      have HR4 := Lib.hid r4
      clear r2 r3 r4
      have hpz : (p : Int) < (s.size : Int) := by omega
      have HNE : Hid (w.heap.size + 1 ≠ w.heap.size) := by unfold Hid; omega
      have PB := HPT.out.box (48 + d - 48) ⟨#[]⟩ ⟨#[]⟩
      have b1 := PB.1.cell
      have b2 := PB.1.frozen
      have b3 := PB.2.1.cell
      have PB1 := Lib.hid (PB.set (p + 1))
      clear PB
      have HV : Hid (vo.ownBlock ≠ some wo.heap.size) := by
        intro hv
        have := (HPT.out.2.2.1.1.lt _ hv).2
        omega
      go_wp2_with fail
      clear b1 b2 b3
      refine (parse_field s (w.heap.size + 1) w.heap.size (p + 1) 32 _ PB1.out.1 PB1.out.2.1.cell HNE.out q2 HR2.out (by omega) HASC.out).mono ?_
      rintro e w2 ⟨hg2, hat2, rfl⟩
      have P2 : Hid (PS w w2 (w.heap.size + 1) w.heap.size wo.heap.size (p + 2) s ⟨48 + d - 48, ⟨#[]⟩, ⟨#[]⟩⟩ vo (bs.take i)) := PB1.out.grown hg2 hat2
      rw [show wordS s (p + 1 + 1) = x from HW1.out]
      clear hg2 hat2
      go_wp2_with fail
      refine (ratio_valid x _ HFX.out).mono ?_
      rintro e w3 ⟨hp3, rfl⟩
      rw [hvx]
      have P3 := Lib.hid (P2.out.past hp3)
      have b1 := P3.out.1.cell
      have b2 := P3.out.1.frozen
      have b3 := P3.out.2.1.cell
      clear hp3
      have sx := HFX.out
      have P4 := Lib.hid (P3.out.set (p + 2 + x.size))
      go_wp2_with fail
      clear b1 b2 b3
      refine (parse_field s (w.heap.size + 1) w.heap.size (p + 2 + x.size) 32 _ P4.out.1 P4.out.2.1.cell HNE.out q3 HR3.out (by omega) HASC.out).mono ?_
      rintro e w5 ⟨hg5, hat5, rfl⟩
      have P5 : Hid (PS w w5 (w.heap.size + 1) w.heap.size wo.heap.size (p + 2 + x.size + 1) s ⟨48 + d - 48, ⟨#[]⟩, ⟨#[]⟩⟩ vo (bs.take i)) := P4.out.grown hg5 hat5
      rw [HW2.out]
      clear hg5 hat5
      go_wp2_with fail
      refine (ratio_end y _ HFY.out).mono ?_
      rintro e w6 ⟨hp6, rfl⟩
      rw [hvy]
      have P6 := Lib.hid (P5.out.past hp6)
      have b1 := P6.out.1.cell
      have b2 := P6.out.1.frozen
      have b3 := P6.out.2.1.cell
      clear hp6
      have sy := HFY.out
      have P7 := Lib.hid (P6.out.set (p + 2 + x.size + 1 + y.size))
      go_wp2_with fail
      clear b1 b2 b3
      refine (parse_field s (w.heap.size + 1) w.heap.size (p + 2 + x.size + 1 + y.size) 10 _ P7.out.1 P7.out.2.1.cell HNE.out q4 HR4.out (by omega) HASC.out).mono ?_
      rintro e w8 ⟨hg8, hat8, rfl⟩
      have P8 : Hid (PS w w8 (w.heap.size + 1) w.heap.size wo.heap.size (p + 2 + x.size + 1 + y.size + 1) s ⟨48 + d - 48, ⟨#[]⟩, ⟨#[]⟩⟩ vo (bs.take i)) := P7.out.grown hg8 hat8
      clear hg8 hat8
      have g0 : w8.cell? ⟨wo.heap.size, 0, none⟩ = some (.int .i64 (48 + d - 48)) := by rw [Lib.cell_of_heap P8.out.2.2.1]; rfl
      have g1 : w8.cell? ⟨wo.heap.size, 1, none⟩ = some (.string ⟨#[]⟩) := by rw [Lib.cell_of_heap P8.out.2.2.1]; rfl
      have g2 : w8.cell? ⟨wo.heap.size, 2, none⟩ = some (.string ⟨#[]⟩) := by rw [Lib.cell_of_heap P8.out.2.2.1]; rfl
      have g3 : w8.frozen? ⟨wo.heap.size, 1, none⟩ = false := Lib.frozen_of_heap P8.out.2.2.1 1
      have g4 : w8.frozen? ⟨wo.heap.size, 2, none⟩ = false := Lib.frozen_of_heap P8.out.2.2.1 2
      have P9 : Hid (PT w ((w8.setCell ⟨wo.heap.size, 1, none⟩ (.string x)).setCell ⟨wo.heap.size, 2, none⟩ (.string y)) (w.heap.size + 1) w.heap.size (p + 2 + x.size + 1 + y.size + 1) s vo (bs.take i)) :=
        P8.out.fill HV.out (by have h1 := (Array.getElem?_eq_some_iff.1 HPT.out.2.1).1; omega) HPT.out.2.2.1.2.size _ _
      go_wp2_with (first | (at_builtin; refine wpList_appG el_bar (OwnS.alloc P9.out.2.2.1 _) rfl rfl rfl ⟨_, 0, none⟩ _ ⟨d, x, y⟩ rfl (cell_newS rBar _ _ _ _ _ (by simp [go_sem]) (by show [Value.int .i64 (48 + d - 48), Value.string x, Value.string y] = [Value.int .i64 d, Value.string x, Value.string y]; rw [show 48 + d - 48 = d by omega])) ?_ ?_; (have := HCK.out.1; rw [List.length_take]; omega); intro v9 w9 hown9 hgr9))
      have P10 : Hid (PT w w9 (w.heap.size + 1) w.heap.size (p + 2 + x.size + 1 + y.size + 1) s v9 (bs.take (i + 1))) := by
        rw [HTK.out]
        exact P9.out.app hgr9 hown9
      clear hgr9 hown9 g0 g1 g2 g3 g4
      have HPE : Hid (p + 2 + x.size + 1 + y.size + 1 = ((bs.take (i + 1)).flatMap barBytes).length) := by
        have h1 := HFT.out
        rw [HPR.out] at h1
        show _ = _
        rw [h1, List.length_append, HPLN.out, barBytes_len]
        show _ = p + (x.size + y.size + 4)
        omega
      go_roundg (bs.length - (i + 1))
      case measure => have := HG.out; omega
      case rel => exact ⟨i + 1, _, _, rfl, by omega, rfl, by omega, HPE.out, P10.out⟩
    · have HPE : Hid (p = s.size) := by
        show _ = _
        rw [HPL.out, HSL.out, List.take_of_length_le (by omega)]
      have HOW : Hid (OwnS w wo rBar 94 vo bs) := by
        have h1 := HPT.out.2.2.1
        rw [List.take_of_length_le (by omega)] at h1
        exact h1
      have hpe := HPE.out
      subst hpe
      obtain ⟨A, c, rfl, hrows⟩ := HOW.out.reads
      have HRO := Lib.hid hrows
      clear hrows
      go_wp2_with fail
      refine (bar_check A bs.length c bs _ HRO.out HF.out).mono ?_
      rintro e w2 ⟨hp2, rfl⟩
      rw [HOK.out]
      have k1 := hp2.cell a1
      have k2 := (hp2.free a1 a2).2
      have HP2 := Lib.hid hp2
      clear hp2
      go_wp2_with fail
      have HOF : Hid (OwnS w (w2.setCell ⟨w.heap.size + 1, 0, none⟩ (.int .i64 0)) rBar 94 (.slice A bs.length c) bs) :=
        (HOW.out.past HP2.out).grown (grown_set (Past.refl w2) _ _ _) (by omega) HPT.out.own
      exact bodyPost_ret (v := .tuple #[.slice A bs.length c, .int .i64 0, .int .i64 0]) (by simp [results, Tryz.results19, go_sem, k1]) rfl ⟨HOF.out.2, _, rfl, HOF.out⟩

end Go.Proofs.YtdcjibjldfjllaaGreat
