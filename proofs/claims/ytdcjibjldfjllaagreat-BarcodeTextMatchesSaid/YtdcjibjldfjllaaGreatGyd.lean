/- Helpers of the proof, joined: Ix1 Ix2. -/
import Derived.Test.YtdcjibjldfjllaaGreatGa
import Derived.Laws.RangeAny
import Derived.Lib.IndexAny
import Derived.Laws.Runes
import Derived.Lib.OthersKept
set_option linter.unusedVariables false
set_option linter.unusedSimpArgs false
/- Runes of a text: the bytes that a rune beyond ASCII takes are all beyond ASCII. -/
namespace Go.Proofs.YtdcjibjldfjllaaGreat
open Go.RowKit

theorem dec_skip (s : ByteArray) (pos : Nat) (h : pos < s.size) (ha : 128 ≤ (s[pos]'h).toNat) : pos + (Utf8.decode s pos).2 ≤ s.size ∧ ∀ j, 0 < j → j < (Utf8.decode s pos).2 → 128 ≤ (s.get! (pos + j)).toNat := by
  have hn : ¬ (s[pos]'h).toNat < 128 := by omega
  have one : ∀ j, 0 < j → j < 1 → 128 ≤ (s.get! (pos + j)).toNat := fun j h1 h2 => by omega
  have two : 128 ≤ (s.get! (pos + 1)).toNat → ∀ j, 0 < j → j < 2 → 128 ≤ (s.get! (pos + j)).toNat := fun g j h1 h2 => by
    have : j = 1 := by omega
    subst this; exact g
  have three : 128 ≤ (s.get! (pos + 1)).toNat → 128 ≤ (s.get! (pos + 2)).toNat → ∀ j, 0 < j → j < 3 → 128 ≤ (s.get! (pos + j)).toNat := fun g g2 j h1 h2 => by
    have : j = 1 ∨ j = 2 := by omega
    rcases this with rfl | rfl <;> assumption
  have four : 128 ≤ (s.get! (pos + 1)).toNat → 128 ≤ (s.get! (pos + 2)).toNat → 128 ≤ (s.get! (pos + 3)).toNat → ∀ j, 0 < j → j < 4 → 128 ≤ (s.get! (pos + j)).toNat := fun g g2 g3 j h1 h2 => by
    have : j = 1 ∨ j = 2 ∨ j = 3 := by omega
    rcases this with rfl | rfl | rfl <;> assumption
  simp only [Utf8.decode, get_at s pos h, hn, if_false]
  split
  · rename_i h1
    simp only [Bool.and_eq_true, decide_eq_true_eq, beq_iff_eq] at h1
    split
    · exact ⟨by omega, two (by omega)⟩
    · exact ⟨by omega, one⟩
  · split
    · rename_i h1
      simp only [Bool.and_eq_true, decide_eq_true_eq, beq_iff_eq] at h1
      split
      · exact ⟨by omega, three (by omega) (by omega)⟩
      · exact ⟨by omega, one⟩
    · split
      · rename_i h1
        simp only [Bool.and_eq_true, decide_eq_true_eq, beq_iff_eq] at h1
        split
        · exact ⟨by omega, four (by omega) (by omega) (by omega)⟩
        · exact ⟨by omega, one⟩
      · exact ⟨by omega, one⟩

/-- Bytes beyond ASCII are not among ASCII ones. -/
theorem noAny_skip {l : List UInt8} {i k : Nat} (h : Lib.NoAny l [32, 10] i) (hs : ∀ j b, i ≤ j → j < k → l[j]? = some b → 128 ≤ b.toNat) : Lib.NoAny l [32, 10] k := by
  intro j b hj hb
  by_cases hji : j < i
  · exact h j b hji hb
  · have := hs j b (by omega) hj hb
    simp only [List.contains_cons, List.contains_nil, Bool.or_false, Bool.or_eq_false_iff, beq_eq_false_iff_ne]
    constructor <;> (rintro rfl; revert this; decide)

/-- The text of a rune beyond ASCII: its length, its last byte. -/
theorem enc_high (r : Int) (h : 128 ≤ r) : 2 ≤ (Utf8.encode r).size ∧ (Utf8.encode r).size ≤ 4 ∧ ∀ (hh : 1 < (Utf8.encode r).size), 128 ≤ ((Utf8.encode r)[1]'hh).toNat := by
  unfold Utf8.encode
  dsimp only
  have hc : ¬ (if Utf8.valid r = true then r.toNat else Utf8.runeError) < 128 := by
    split
    · omega
    · unfold Utf8.runeError; omega
  generalize (if Utf8.valid r = true then r.toNat else Utf8.runeError) = c at hc ⊢
  rw [if_neg hc]
  have e : ∀ n : Nat, 128 ≤ (UInt8.ofNat (128 + n % 64)).toNat := fun n => by simp only [UInt8.toNat_ofNat']; omega
  split
  · exact ⟨Nat.le_refl 2, (show (2 : Nat) ≤ 4 by omega), fun _ => e _⟩
  · split
    · exact ⟨(show (2 : Nat) ≤ 3 by omega), (show (3 : Nat) ≤ 4 by omega), fun _ => e _⟩
    · exact ⟨(show (2 : Nat) ≤ 4 by omega), Nat.le_refl 4, fun _ => e _⟩

end Go.Proofs.YtdcjibjldfjllaaGreat

/- strings.IndexAny for a space and a line feed, over any bytes. -/
namespace Go.Proofs.YtdcjibjldfjllaaGreat
open Go.RowKit Go.Shelf Go.Lib

theorem rune_valid (r : Int) (w : World) : Calls Tryz.prog 193 #[.int .i32 r] w fun e w' => w' = w ∧ (e = .returned (.bool true) ∨ e = .returned (.bool false)) := by
  by_cases h1 : 0 ≤ r <;> by_cases h2 : r < 55296 <;> by_cases h3 : 57343 < r <;> by_cases h4 : r ≤ 1114111 <;> (
    go_enter Tryz.func193, Tryz.ntmps193
    go_wp2
    go_ret
    first | exact ⟨rfl, .inl rfl⟩ | exact ⟨rfl, .inr rfl⟩)

theorem iter_past {w0 w : World} (h : Past w0 w) (s : ByteArray) (p : Nat) : Past w0 (w.iter s p) := h.alloc _

theorem s_indexByte (s : ByteArray) (c : Int) (w : World) (h : s.size = 0) : Calls Tryz.prog 192 #[.string s, .int .u8 c] w fun e w' => e = .returned (.int .i64 (-1)) ∧ w' = w := by
  refine (Any.strings_IndexByte (ρ := renI) { lays153 with } s c w).mono ?_
  rintro e w' ⟨rfl, hw⟩
  refine ⟨?_, hw⟩
  have : s.data.toList = [] := List.eq_nil_of_length_eq_zero (by rw [Array.length_toList]; exact h)
  rw [this]
  rfl

set_option maxRecDepth 100000 in
set_option maxHeartbeats 4000000 in
theorem idx_high (r : Int) (w : World) (h : 128 ≤ r) : Calls Tryz.prog 124 #[.string ⟨#[32, 10]⟩, .int .i32 r] w fun e w' => Past w w' ∧ e = .returned (.int .i64 (-1)) := by
  have hsz : (⟨#[32, 10]⟩ : ByteArray).size = 2 := rfl
  by_cases he : r = 65533
  · subst he
    go_enter Tryz.func124, Tryz.ntmps124
    go_wp2_with fail
    go_loopg [5, 6] 2 (fun g _ _ wx => ∃ i : Nat, i + g = 2 ∧ wx = w.iter ⟨#[32, 10]⟩ i)
    case atStart => exact ⟨0, by omega, rfl⟩
    case round =>
      obtain ⟨i, hig, rfl⟩ := hrel
      match gk, hig with
      | 0, hig =>
        obtain rfl : i = 2 := by omega
        have hnx := run_next_end (P := Tryz.prog) w ⟨#[32, 10]⟩ 2
        go_wp2
        go_ret
        exact ⟨iter_past (Past.refl _) _ _, rfl⟩
      | 1, hig =>
        obtain rfl : i = 1 := by omega
        have hnx := fun ty => run_next_ascii (P := Tryz.prog) w ⟨#[32, 10]⟩ 1 ty (by decide) (by decide)
        go_wp2
        go_roundg 0
        case measure => omega
        case rel => exact ⟨2, rfl, rfl⟩
      | 2, hig =>
        obtain rfl : i = 0 := by omega
        have hnx := fun ty => run_next_ascii (P := Tryz.prog) w ⟨#[32, 10]⟩ 0 ty (by decide) (by decide)
        go_wp2
        go_roundg 1
        case measure => omega
        case rel => exact ⟨1, rfl, rfl⟩
      | k + 3, hig => omega
  · obtain ⟨l1, l2, l3⟩ := enc_high r h
    have hcv : ∀ w : World, (convert 21 9 (.int .i32 r)).run Tryz.prog w = .ok (.string (Utf8.encode r)) w := fun w => by
      have := run_convert_int_string (P := Tryz.prog) w 21 9 .i32 r (by kernel_rfl) (by kernel_rfl)
      exact this
    generalize Utf8.encode r = rs at l1 l2 l3 hcv
    go_enter Tryz.func124, Tryz.ntmps124
    go_wp2_with fail
    refine (rune_valid r _).mono ?_
    rintro e w1 ⟨rfl, rfl | rfl⟩
    · by_cases hs : rs.size = 2
      · have hl : 1 < rs.size := by omega
        have l4 := l3 hl
        have hlz : (1 : Int) < (rs.size : Int) := by omega
        have hsz2 : (rs.size : Int) = 2 := by omega
        have hix : ((rs[1]'hl).toNat : Int) ≠ 10 := by omega
        go_wp2_with fail
        go_step3
        go_wp2_with fail
        go_loopg [9] 1 (fun g v9 wx => g = 1 ∧ v9 = .int .i64 1 ∧ wx = w1)
        case atStart => exact ⟨rfl, rfl, rfl⟩
        case round =>
          obtain ⟨rfl, rfl, rfl⟩ := hrel
          have hix2 : (((((⟨#[32, 10]⟩ : ByteArray)[1]'(by decide)).toNat : Nat) : Int) != ((rs[1]'hl).toNat : Int)) = true := by simp; show ¬ (10 : Int) = _; omega
          go_wp2_with fail
          go_step3
          go_wp2_with fail
          go_quiet (fail)
          go_wp2_with fail
          go_region_with (first | (go_at_call 192; refine (s_indexByte _ _ _ (by decide)).mono ?_; rintro e w' ⟨rfl, rfl⟩))
          all_goals go_wp2_with fail
          all_goals (
            repeat (first | rw [Exit.noGoto_ret] | simp only [Exit.inBlock, Exit.then])
            go_ret
            exact ⟨(Past.refl _).drewN _, rfl⟩)
      · have hs1 : (2 : Int) < (rs.size : Int) := by omega
        have hs2 : (rs.size : Int) ≤ 4 := by omega
        go_wp2_with fail
        go_step3
        go_wp2_with fail
        go_loopg [9] 1 (fun g v9 wx => g = 1 ∧ v9 = .int .i64 ((rs.size : Int) - 1) ∧ wx = w1)
        case atStart => exact ⟨rfl, rfl, rfl⟩
        case round =>
          obtain ⟨rfl, rfl, rfl⟩ := hrel
          go_wp2_with fail
          try rw [Exit.noGoto_ret]
          go_ret
          exact ⟨Past.refl _, rfl⟩
    · go_wp2
      go_ret
      exact ⟨Past.refl _, rfl⟩

set_option maxRecDepth 100000 in
set_option maxHeartbeats 4000000 in
theorem s_indexShort (s : ByteArray) (w : World) (h8 : s.size ≤ 8) :
    Calls Tryz.prog 71 #[.string s, .string ⟨#[32, 10]⟩] w fun e w' => Past w w' ∧ e = .returned (.int .i64 (Lib.indexAny s.data.toList [32, 10])) := by
  have h8z : decide ((8 : Int) < (s.size : Int)) = false := decide_eq_false (by omega)
  go_enter Tryz.func71, Tryz.ntmps71
  go_wp2_with (first | (go_at_call 125; refine (Any.strings_shouldUseASCIISet (ρ := renI) { lays153 with } _ _).mono ?_; rintro e w' ⟨rfl, hw⟩; rw [hw, h8z]))
  go_loopg [9, 10] s.size (fun g _ _ wx => ∃ i : Nat, i + g = s.size ∧ Hid (wx.heap[w.heap.size]? = some (.stringIter s i) ∧ Past w wx) ∧ Hid (Lib.NoAny s.data.toList [32, 10] i))
  case atStart => exact ⟨0, by omega, ⟨World.iter_heap _ _ _, iter_past (Past.refl _) _ _⟩, Lib.NoAny.zero _ _⟩
  case round =>
    obtain ⟨i, hig, HW, HN⟩ := hrel
    by_cases hi : i < s.size
    · have hxl : s.data.toList[i]? = some (s[i]'hi) := Lib.data_getElem? s i hi
      by_cases hlow : (s[i]'hi).toNat < 128
      · have hnx := fun ty => run_next_ascii_at (P := Tryz.prog) wr w.heap.size s i ty HW.out.1 hi hlow
        have HW2 : Hid ((wr.iterAt w.heap.size s (i + 1)).heap[w.heap.size]? = some (.stringIter s (i + 1)) ∧ Past w (wr.iterAt w.heap.size s (i + 1))) := ⟨iterAt_heap _ _ _ _ _ HW.out.1, below_iterAt HW.out.2 (Nat.le_refl _) _ _⟩
        obtain ⟨x, hx⟩ : ∃ x : UInt8, s[i]'hi = x := ⟨_, rfl⟩
        rw [hx] at hnx hxl hlow
        have HX := Lib.hid hxl
        clear hx hxl
        have hcon := Lib.contains_iff_indexByte [32, 10] x
        have hback : ((x.toNat : Int)).toNat.toUInt8 = x := by simp
        have C : Hid (∀ w, Calls Tryz.prog 124 #[.string ⟨#[32, 10]⟩, .int .i32 x.toNat] w fun e w' => e = .returned (.int .i64 (Lib.indexByte [32, 10] x)) ∧ w' = w) := fun w => by
          refine (Any.strings_IndexRune_ascii (ρ := renI) { lays153 with } ⟨#[32, 10]⟩ x.toNat w (by omega) (by omega)).mono ?_
          rintro e w' ⟨rfl, hw⟩
          exact ⟨by rw [hback], hw⟩
        cases hin : ([32, 10] : List UInt8).contains x
        · rw [hin] at hcon
          have hlt : ¬ ((0 : Int) ≤ Lib.indexByte [32, 10] x) := of_decide_eq_false hcon.symm
          clear hcon hback
          go_wp2_with (first | (go_at_call 124; refine (C.out _).mono ?_; rintro e w' ⟨rfl, hw⟩; rw [hw]))
          go_roundg (s.size - (i + 1))
          case measure => omega
          case rel => exact ⟨i + 1, by omega, HW2.out, HN.out.succ HX.out hin⟩
        · rw [hin] at hcon
          have hge : (0 : Int) ≤ Lib.indexByte [32, 10] x := of_decide_eq_true hcon.symm
          clear hcon hback
          go_wp2_with (first | (go_at_call 124; refine (C.out _).mono ?_; rintro e w' ⟨rfl, hw⟩; rw [hw]))
          go_ret
          exact ⟨HW2.out.2, by rw [Lib.indexAny_hit HN.out HX.out hin]; rfl⟩
      · have hhi : 128 ≤ (s[i]'hi).toNat := by omega
        have hnx := fun ty => run_next_any_at (P := Tryz.prog) wr w.heap.size s i ty HW.out.1 hi
        obtain ⟨d1, d2⟩ := decode_high s i hi hhi
        obtain ⟨d3, d4⟩ := dec_skip s i hi hhi
        have HS : Hid (Lib.NoAny s.data.toList [32, 10] (i + (Utf8.decode s i).2)) := noAny_skip HN.out (fun j b h1 h2 h3 => by
          by_cases hji : j = i
          · subst hji
            rw [hxl] at h3
            injection h3 with h3
            rw [← h3]; exact hhi
          · have hj : j < s.size := by
              have := (List.getElem?_eq_some_iff.1 h3).1
              rw [Array.length_toList] at this
              exact this
            have e1 := d4 (j - i) (by omega) (by omega)
            rw [show i + (j - i) = j by omega] at e1
            have e2 := get_at s j hj
            rw [Nat.add_zero] at e2
            rw [e2] at e1
            have e3 : s.data.toList[j]? = some (s[j]'hj) := Lib.data_getElem? s j hj
            rw [e3] at h3
            injection h3 with h3
            rw [← h3]; exact e1)
        obtain ⟨r, hr⟩ : ∃ r, (Utf8.decode s i).1 = r := ⟨_, rfl⟩
        obtain ⟨k, hk⟩ : ∃ r, (Utf8.decode s i).2 = r := ⟨_, rfl⟩
        rw [hr] at hnx d1
        rw [hk] at hnx d2 d3 HS
        clear d4 hr hk hxl hhi hlow
        have C := Lib.hid (fun w => idx_high (r : Int) w (by omega))
        have HW2 : Hid ((wr.iterAt w.heap.size s (i + k)).heap[w.heap.size]? = some (.stringIter s (i + k)) ∧ Past w (wr.iterAt w.heap.size s (i + k))) := ⟨iterAt_heap _ _ _ _ _ HW.out.1, below_iterAt HW.out.2 (Nat.le_refl _) _ _⟩
        go_wp2_with fail
        refine (C.out _).mono ?_
        rintro e w2 ⟨hp2, rfl⟩
        have HW3 : Hid (w2.heap[w.heap.size]? = some (.stringIter s (i + k)) ∧ Past w w2) := ⟨(hp2.block _ (Array.getElem?_eq_some_iff.1 HW2.out.1).1).trans HW2.out.1, HW2.out.2.trans hp2⟩
        clear hp2
        go_wp2_with fail
        go_roundg (s.size - (i + k))
        case measure => omega
        case rel => exact ⟨i + k, by omega, HW3.out, HS.out⟩
    · obtain rfl : i = s.size := by omega
      have hnx := fun ty => run_next_end_at (P := Tryz.prog) wr w.heap.size s s.size ty HW.out.1 (Nat.lt_irrefl _)
      go_wp2
      go_ret
      exact ⟨HW.out.2, by rw [Lib.indexAny_none (by rw [← Lib.size_eq]; exact HN.out)]; rfl⟩

theorem s_indexAnyB (s : ByteArray) (w : World) (h : s.size < 4294967281) :
    Calls Tryz.prog 71 #[.string s, .string ⟨#[32, 10]⟩] w fun e w' => Past w w' ∧ e = .returned (.int .i64 (Lib.indexAny s.data.toList [32, 10])) := by
  by_cases h8 : s.size ≤ 8
  · exact s_indexShort s w h8
  · refine (Any.strings_IndexAny_long (ρ := renI) lays153 ia_zero ia_size s ⟨#[32, 10]⟩ w ?_ ?_ ?_ ?_ ?_).mono ?_
    all_goals first | decide | omega | skip
    · intro j b hj
      match j, hj with
      | 0, hj => simp at hj; subst hj; decide
      | 1, hj => simp at hj; subst hj; decide
    · rintro e w' ⟨rfl, rfl⟩
      exact ⟨((Past.refl w).alloc _).alloc _, rfl⟩

end Go.Proofs.YtdcjibjldfjllaaGreat
