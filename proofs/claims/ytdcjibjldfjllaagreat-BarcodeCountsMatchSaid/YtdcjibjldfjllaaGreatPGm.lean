/- Helpers of the proof, joined: Bar1 Bar2 Bar3 Bar4 Bar5 Bar6. -/
import Derived.Test.YtdcjibjldfjllaaGreatPGk
import Derived.Test.YtdcjibjldfjllaaGreatPGa
set_option linter.unusedVariables false
set_option linter.unusedSimpArgs false
/- Bars; cmp.Or, cmp.Compare; barcode.valid and compare. -/
namespace Go.Proofs.YtdcjibjldfjllaaGreat
open Go.RowKit

/-- A bar: its dimension and the texts of its ends. -/
structure Bar where
  d : Int
  x : ByteArray
  y : ByteArray
def Bar.val (b : Bar) : Value := .agg #[.int .i64 b.d, .string b.x, .string b.y]
def rBar : Rep Bar := ⟨fun b => [.int .i64 b.d, .string b.x, .string b.y], 3, fun _ => rfl, by intro x u hu; simp at hu; rcases hu with rfl | rfl | rfl <;> rfl, by decide⟩
def Bar.fit (b : Bar) : Prop := b.x.size ≤ 100000000 ∧ b.y.size ≤ 100000000
/-- Whether a bar is valid. -/
def validB (b : Bar) : Bool := decide (0 ≤ b.d) && decide (b.d ≤ 4) && okV (byt b.x) && okE (byt b.y) && decide (cmpT (byt b.x) (byt b.y) ≤ 0)
def orI (a b : Int) : Int := if a = 0 then b else a
/-- What barcode.compare answers. -/
def cmpB (a b : Bar) : Int := orI (cmpZ a.d b.d) (orI (cmpT (byt a.x) (byt b.x)) (cmpT (byt a.y) (byt b.y)))

theorem isNaN_int (x : Int) (w : World) : Calls Tryz.prog 198 #[.int .i64 x] w fun e w' => w' = w ∧ e = .returned (.bool false) := by
  go_enter Tryz.func198, Tryz.ntmps198
  go_wp2
  go_ret
  exact ⟨rfl, by simp⟩

theorem cmp_Compare (x y : Int) (w : World) : Calls Tryz.prog 140 #[.int .i64 x, .int .i64 y] w fun e w' => Past w w' ∧ e = .returned (.int .i64 (cmpZ x y)) := by
  by_cases h1 : x < y
  · have HR : Hid (cmpZ x y = -1) := by unfold cmpZ; rw [if_pos h1]; exact rfl
    go_enter Tryz.func140, Tryz.ntmps140
    go_wp2_with (first | (go_at_call 198; refine (isNaN_int _ _).mono ?_; rintro e w1 ⟨rfl, rfl⟩))
    go_ret
    exact ⟨Past.refl _, by rw [HR.out]; rfl⟩
  · by_cases h2 : y < x
    · have HR : Hid (cmpZ x y = 1) := by unfold cmpZ; rw [if_neg h1, if_pos h2]; exact rfl
      go_enter Tryz.func140, Tryz.ntmps140
      go_wp2_with (first | (go_at_call 198; refine (isNaN_int _ _).mono ?_; rintro e w1 ⟨rfl, rfl⟩))
      go_ret
      exact ⟨Past.refl _, by rw [HR.out]; rfl⟩
    · have HR : Hid (cmpZ x y = 0) := by unfold cmpZ; rw [if_neg h1, if_neg h2]; exact rfl
      go_enter Tryz.func140, Tryz.ntmps140
      go_wp2_with (first | (go_at_call 198; refine (isNaN_int _ _).mono ?_; rintro e w1 ⟨rfl, rfl⟩))
      go_ret
      exact ⟨Past.refl _, by rw [HR.out]; rfl⟩

/-- The first number that is not zero. -/
def orL : List Int → Int
  | [] => 0
  | x :: xs => orI x (orL xs)
theorem orL_drop {xs : List Int} {i : Nat} (h : i < xs.length) : orL (xs.drop i) = orI (rd xs i) (orL (xs.drop (i + 1))) := by
  rw [Dg.drop_cons_getD h]; rfl

set_option maxRecDepth 100000 in
set_option maxHeartbeats 2000000 in
theorem cmp_Or (A : Option Addr) (n c : Nat) (xs : List Int) (w : World) (hx : RInts w .i64 A n c xs) (hn : n ≤ 1000000000) :
    Calls Tryz.prog 139 #[.slice A n c] w fun e w' => Past w w' ∧ e = .returned (.int .i64 (orL xs)) := by
  have HX := Lib.hid hx
  have HL := Lib.hid hx.len
  clear hx
  go_enter Tryz.func139, Tryz.ntmps139
  go_wp2_with fail
  go_loopw [8] (fun iv w' => ∃ i : Nat, i ≤ n ∧ iv = .int .i64 i ∧ Hid (orL (xs.drop i) = orL xs) ∧ Hid (Past w w')) (fun iv _ => n - (intOf iv).toNat)
  case atStart => exact ⟨0, Nat.zero_le _, rfl, rfl, Past.refl _⟩
  case round =>
    obtain ⟨i, hi, rfl, HO, HP⟩ := hrel
    by_cases hin : i < n
    · obtain ⟨b1, o1, rfl, hc1⟩ := HX.out.at_ (by omega)
      have e1 := HP.out.cell (hc1 i (by omega))
      clear hc1
      obtain ⟨v, hv⟩ : ∃ v, rd xs i = v := ⟨_, rfl⟩
      rw [hv] at e1
      have HVV := Lib.hid hv
      clear hv
      by_cases h0 : v = 0
      · have HN : Hid (orL (xs.drop (i + 1)) = orL xs) := by
          show _ = _
          rw [← HO.out, orL_drop (i := i) (by have := HL.out; omega), HVV.out, h0]; rfl
        have hb : (v != 0) = false := by simp [h0]
        subst h0
        go_wp2
        go_roundw
        case rel => exact ⟨i + 1, by omega, by go_num, HN.out, HP.out⟩
        case measure => simp [intOf]; omega
      · have HN : Hid (orL xs = v) := by
          show _ = _
          rw [← HO.out, orL_drop (i := i) (by have := HL.out; omega), HVV.out]
          unfold orI
          rw [if_neg h0]
        have hb : (v != 0) = true := by simp [h0]
        go_wp2
        go_ret
        exact ⟨HP.out, by rw [HN.out]; rfl⟩
    · have HN : Hid (orL xs = 0) := by
        show _ = _
        rw [← HO.out, List.drop_of_length_le (by have := HL.out; omega)]; rfl
      go_wp2
      go_ret
      exact ⟨HP.out, by rw [HN.out]; rfl⟩

theorem cell_box (w : World) (arr : Array Value) (t : TypeId) (i : Nat) : (w.alloc (.cells arr t)).cell? ⟨w.heap.size, i, none⟩ = arr[i]? := by
  rw [World.cell?_alloc_at _ _ _ _ rfl]

set_option maxRecDepth 100000 in
set_option maxHeartbeats 2000000 in
theorem bar_valid (b : Bar) (w : World) (hf : b.fit) :
    Calls Tryz.prog 85 #[b.val] w fun e w' => Past w w' ∧ e = .returned (.bool (validB b)) := by
  have HF := Lib.hid hf
  clear hf
  obtain ⟨d, x, y⟩ := b
  show Calls _ _ #[.agg #[.int .i64 d, .string x, .string y]] w _
  have HB1 : Hid ((w.alloc (.cells #[.int .i64 d, .string x, .string y] 94)).cell? ⟨w.heap.size, 1, none⟩ = some (.string x)) := by unfold Hid; simp [go_sem]
  have HB2 : Hid ((w.alloc (.cells #[.int .i64 d, .string x, .string y] 94)).cell? ⟨w.heap.size, 2, none⟩ = some (.string y)) := by unfold Hid; simp [go_sem]
  by_cases h1 : 0 ≤ d
  · have t1 : decide (0 ≤ d) = true := decide_eq_true h1
    by_cases h2 : d ≤ 4
    · have t2 : decide (d ≤ 4) = true := decide_eq_true h2
      obtain ⟨v3, h3⟩ : ∃ v, okV (byt x) = v := ⟨_, rfl⟩
      cases v3 with
      | false =>
        have HR : Hid (validB ⟨d, x, y⟩ = false) := by unfold validB; simp [h3, Hid]
        have H3 := Lib.hid h3
        go_enter Tryz.func85, Tryz.ntmps85
        go_wp2_with (first | (go_at_call 72; refine (ratio_valid x _ HF.out.1).mono ?_; rintro e w1 ⟨hp1, rfl⟩; have k1 := hp1.cell HB1.out; have k2 := hp1.cell HB2.out))
        go_ret
        exact ⟨((Past.refl _).alloc _).trans hp1, by rw [HR.out]; rfl⟩
      | true =>
        obtain ⟨v4, h4⟩ : ∃ v, okE (byt y) = v := ⟨_, rfl⟩
        cases v4 with
        | false =>
          have HR : Hid (validB ⟨d, x, y⟩ = false) := by unfold validB; simp [h4, Hid]
          go_enter Tryz.func85, Tryz.ntmps85
          go_wp2_with (first | (go_at_call 72; refine (ratio_valid x _ HF.out.1).mono ?_; rintro e w1 ⟨hp1, rfl⟩; have k1 := hp1.cell HB1.out; have k2 := hp1.cell HB2.out) | (go_at_call 73; refine (ratio_end y _ HF.out.2).mono ?_; rintro e w2 ⟨hp2, rfl⟩; have m1 := hp2.cell k1; have m2 := hp2.cell k2))
          go_ret
          exact ⟨(((Past.refl _).alloc _).trans hp1).trans hp2, by rw [HR.out]; rfl⟩
        | true =>
          obtain ⟨v5, h5⟩ : ∃ v, decide (cmpT (byt x) (byt y) ≤ 0) = v := ⟨_, rfl⟩
          have HR : Hid (validB ⟨d, x, y⟩ = v5) := by
            unfold validB
            show (decide (0 ≤ d) && decide (d ≤ 4) && okV (byt x) && okE (byt y) && decide (cmpT (byt x) (byt y) ≤ 0)) = v5
            rw [t1, t2, h3, h4, h5]; rfl
          go_enter Tryz.func85, Tryz.ntmps85
          go_wp2_with (first | (go_at_call 72; refine (ratio_valid x _ HF.out.1).mono ?_; rintro e w1 ⟨hp1, rfl⟩; have k1 := hp1.cell HB1.out; have k2 := hp1.cell HB2.out) | (go_at_call 73; refine (ratio_end y _ HF.out.2).mono ?_; rintro e w2 ⟨hp2, rfl⟩; have m1 := hp2.cell k1; have m2 := hp2.cell k2) | (go_at_call 79; refine (ratio_Cmp x y _ HF.out.1 HF.out.2).mono ?_; rintro e w3 ⟨hp3, rfl⟩))
          go_ret
          exact ⟨((((Past.refl _).alloc _).trans hp1).trans hp2).trans hp3, by rw [HR.out]; rfl⟩
    · have t2 : decide (d ≤ 4) = false := decide_eq_false h2
      have HR : Hid (validB ⟨d, x, y⟩ = false) := by unfold validB; simp [t2, Hid]
      go_enter Tryz.func85, Tryz.ntmps85
      go_wp2_with fail
      go_ret
      exact ⟨(Past.refl _).alloc _, by rw [HR.out]; rfl⟩
  · have t1 : decide (0 ≤ d) = false := decide_eq_false h1
    have HR : Hid (validB ⟨d, x, y⟩ = false) := by unfold validB; simp [t1, Hid]
    go_enter Tryz.func85, Tryz.ntmps85
    go_wp2_with fail
    go_ret
    exact ⟨(Past.refl _).alloc _, by rw [HR.out]; rfl⟩

end Go.Proofs.YtdcjibjldfjllaaGreat

/- barcode.compare. -/
namespace Go.Proofs.YtdcjibjldfjllaaGreat
open Go.RowKit

theorem keep6 {w w1 : World} {a0 a1 a2 a3 a4 a5 : Addr} {v0 v1 v2 v3 v4 v5 : Value} (hp : Past w w1) (h : w.cell? a0 = some v0 ∧ w.cell? a1 = some v1 ∧ w.cell? a2 = some v2 ∧ w.cell? a3 = some v3 ∧ w.cell? a4 = some v4 ∧ w.cell? a5 = some v5) :
    w1.cell? a0 = some v0 ∧ w1.cell? a1 = some v1 ∧ w1.cell? a2 = some v2 ∧ w1.cell? a3 = some v3 ∧ w1.cell? a4 = some v4 ∧ w1.cell? a5 = some v5 :=
  ⟨hp.cell h.1, hp.cell h.2.1, hp.cell h.2.2.1, hp.cell h.2.2.2.1, hp.cell h.2.2.2.2.1, hp.cell h.2.2.2.2.2⟩

theorem RInts.three (w : World) (k : IntKind) (x y z : Int) (t : TypeId) : RInts (w.alloc (.cells #[.int k x, .int k y, .int k z] t)) k (some ⟨w.heap.size, 0, none⟩) 3 3 [x, y, z] :=
  ⟨rfl, Nat.le_refl _, by omega, fun _ => ⟨_, _, rfl, fun j hj => by
    rw [World.cell?_alloc_at _ _ _ _ rfl]
    match j, hj with
    | 0, _ => rfl
    | 1, _ => rfl
    | 2, _ => rfl⟩⟩
theorem cmpB_eq (a b : Bar) : cmpB a b = orL [cmpZ a.d b.d, cmpT (byt a.x) (byt b.x), cmpT (byt a.y) (byt b.y)] := by
  unfold cmpB orL orL orL orL orI
  split
  · split
    · split <;> simp [*]
    · rfl
  · rfl

set_option maxRecDepth 100000 in
set_option maxHeartbeats 4000000 in
theorem bar_compare (a b : Bar) (w : World) (ha : a.fit) (hb : b.fit) :
    Calls Tryz.prog 86 #[a.val, b.val] w fun e w' => Past w w' ∧ e = .returned (.int .i64 (cmpB a b)) := by
  have HA := Lib.hid ha
  have HB := Lib.hid hb
  have HEQ := Lib.hid (cmpB_eq a b)
  clear ha hb
  obtain ⟨d, x, y⟩ := a
  obtain ⟨d', x', y'⟩ := b
  have HX1 : Hid (x.size ≤ 100000000) := HA.out.1
  have HX2 : Hid (y.size ≤ 100000000) := HA.out.2
  have HY1 : Hid (x'.size ≤ 100000000) := HB.out.1
  have HY2 : Hid (y'.size ≤ 100000000) := HB.out.2
  show Calls _ _ #[.agg #[.int .i64 d, .string x, .string y], .agg #[.int .i64 d', .string x', .string y']] w _
  obtain ⟨wb, hwb⟩ : ∃ wb, ((w.alloc (.cells #[.int .i64 d, .string x, .string y] 94)).alloc (.cells #[.int .i64 d', .string x', .string y'] 94)) = wb := ⟨_, rfl⟩
  have HPB : Hid (Past w wb) := by rw [← hwb]; exact ((Past.refl _).alloc _).alloc _
  have H6 : Hid (wb.cell? ⟨w.heap.size, 0, none⟩ = some (.int .i64 d) ∧ wb.cell? ⟨w.heap.size, 1, none⟩ = some (.string x) ∧ wb.cell? ⟨w.heap.size, 2, none⟩ = some (.string y) ∧ wb.cell? ⟨w.heap.size + 1, 0, none⟩ = some (.int .i64 d') ∧ wb.cell? ⟨w.heap.size + 1, 1, none⟩ = some (.string x') ∧ wb.cell? ⟨w.heap.size + 1, 2, none⟩ = some (.string y')) := by
    unfold Hid
    rw [← hwb]
    simp [go_sem]
  have HWB := Lib.hid hwb
  have PD : Hid (Past wb wb.drew) := (Past.refl wb).drew
  clear hwb
  go_enter Tryz.func86, Tryz.ntmps86
  go_wp2_with fail
  rw [HWB.out]
  go_region_held3 (fun w' => w'.cell? ⟨w.heap.size, 0, none⟩ = some (.int .i64 d) ∧ w'.cell? ⟨w.heap.size, 1, none⟩ = some (.string x) ∧ w'.cell? ⟨w.heap.size, 2, none⟩ = some (.string y) ∧ w'.cell? ⟨w.heap.size + 1, 0, none⟩ = some (.int .i64 d') ∧ w'.cell? ⟨w.heap.size + 1, 1, none⟩ = some (.string x') ∧ w'.cell? ⟨w.heap.size + 1, 2, none⟩ = some (.string y')) (first | (refine keep6 hp4 ?_; assumption) | (refine keep6 ((Past.refl _).alloc _) ?_; assumption) | (refine keep6 hp3 ?_; assumption) | (refine keep6 hp2 ?_; assumption) | (refine keep6 hp1 ?_; assumption) | (refine keep6 PD ?_; exact H6.out))
    (first
      | (go_at_call 139; ((with_reducible refine (cmp_Or _ 3 3 [cmpZ d d', cmpT (byt x) (byt x'), cmpT (byt y) (byt y')] _ ?_ ?_).mono ?_)); (exact RInts.three w3 _ _ _ _ _); (decide); rintro e w4 ⟨hp4, rfl⟩)
      | (go_at_call 79; ((with_reducible refine (ratio_Cmp y y' _ HX2.out HY2.out).mono ?_)); rintro e w3 ⟨hp3, rfl⟩)
      | (go_at_call 79; ((with_reducible refine (ratio_Cmp x x' _ HX1.out HY1.out).mono ?_)); rintro e w2 ⟨hp2, rfl⟩)
      | (go_at_call 140; ((with_reducible refine (cmp_Compare d d' _).mono ?_)); rintro e w1 ⟨hp1, rfl⟩))
  go_wp2
  go_ret
  exact ⟨(((((HPB.out.trans PD.out).trans hp1).trans hp2).trans hp3).alloc _).trans hp4, by rw [HEQ.out]; rfl⟩

end Go.Proofs.YtdcjibjldfjllaaGreat

/- barcode.Check. -/
namespace Go.Proofs.YtdcjibjldfjllaaGreat
open Go.RowKit

def before (p : Option Bar) (b : Bar) : Bool := match p with
  | some a => decide (cmpB b a < 0)
  | none => false
def sameEnds (b : Bar) : Bool := (b.x.toList == b.y.toList)
/-- The first error of bars behind a bar. -/
def chkFrom : Option Bar → List Bar → Int
  | _, [] => 0
  | p, b :: bs => if validB b = false ∨ sameEnds b = true then 1 else if before p b = true then 6 else chkFrom (some b) bs
/-- What barcode.Check answers. -/
def checkB (l : List Bar) : Int := if 2048 < l.length then 3 else chkFrom none l
def prev (l : List Bar) (i : Nat) : Option Bar := if i = 0 then none else l[i - 1]?

theorem chk_step {l : List Bar} {i : Nat} {b : Bar} (h : i < l.length) (hb : l[i] = b) : chkFrom (prev l i) (l.drop i) = if validB b = false ∨ sameEnds b = true then 1 else if before (prev l i) b = true then 6 else chkFrom (prev l (i + 1)) (l.drop (i + 1)) := by
  rw [List.drop_eq_getElem_cons h, hb, chkFrom]
  have e : prev l (i + 1) = some b := by unfold prev; rw [if_neg (by omega), Nat.add_sub_cancel, List.getElem?_eq_getElem h, hb]
  rw [e]

theorem bar_compare' (d d' : Int) (x y x' y' : ByteArray) (w : World) (ha : Bar.fit ⟨d, x, y⟩) (hb : Bar.fit ⟨d', x', y'⟩) :
    Calls Tryz.prog 86 #[.agg #[.int .i64 d, .string x, .string y], .agg #[.int .i64 d', .string x', .string y']] w fun e w' => Past w w' ∧ e = .returned (.int .i64 (cmpB ⟨d, x, y⟩ ⟨d', x', y'⟩)) :=
  bar_compare ⟨d, x, y⟩ ⟨d', x', y'⟩ w ha hb
/-- The three cells of a bar. -/
def BarAt (w : World) (g o : Nat) (b : Bar) : Prop := w.cell? ⟨g, o, none⟩ = some (.int .i64 b.d) ∧ w.cell? ⟨g, o + 1, none⟩ = some (.string b.x) ∧ w.cell? ⟨g, o + 2, none⟩ = some (.string b.y)
theorem BarAt.past {w w1 : World} {g o : Nat} {b : Bar} (h : BarAt w g o b) (hp : Past w w1) : BarAt w1 g o b := ⟨hp.cell h.1, hp.cell h.2.1, hp.cell h.2.2⟩
theorem Rows.bar {w : World} {A : Option Addr} {n c : Nat} {bs : List Bar} (h : Rows w rBar A n c bs) (hn : 0 < n) :
    ∃ b off, A = some ⟨b, off, none⟩ ∧ ∀ j (h : j < bs.length), BarAt w b (off + j * 3) bs[j] := by
  obtain ⟨b, off, e, hc⟩ := h.at_ hn
  refine ⟨b, off, e, fun j hj => ⟨?_, ?_, ?_⟩⟩
  · have := hc j hj 0 _ rfl
    rwa [Nat.add_zero] at this
  · exact hc j hj 1 _ rfl
  · exact hc j hj 2 _ rfl

set_option maxRecDepth 100000 in
set_option maxHeartbeats 4000000 in
theorem bar_check (A : Option Addr) (n c : Nat) (bs : List Bar) (w : World) (hx : Rows w rBar A n c bs) (hf : ∀ b ∈ bs, b.fit) :
    Calls Tryz.prog 26 #[.slice A n c] w fun e w' => Past w w' ∧ e = .returned (.int .i64 (checkB bs)) := by
  have HX := Lib.hid hx
  have HL := Lib.hid hx.len
  have HF := Lib.hid hf
  clear hx hf
  by_cases hbig : 2048 < n
  · have hb : (2048 : Int) < (n : Int) := by omega
    have HR : Hid (checkB bs = 3) := by unfold checkB; rw [HL.out, if_pos hbig]; exact rfl
    go_enter Tryz.func26, Tryz.ntmps26
    go_wp2
    go_ret
    exact ⟨Past.refl _, by rw [HR.out]; rfl⟩
  · have HR : Hid (checkB bs = chkFrom none bs) := by unfold checkB; rw [HL.out, if_neg hbig]; exact rfl
    have hb : ¬ (2048 : Int) < (n : Int) := by omega
    go_enter Tryz.func26, Tryz.ntmps26
    go_wp2_with fail
    go_loopw [10] (fun iv w' => ∃ i : Nat, i ≤ n ∧ iv = .int .i64 i ∧ Hid (chkFrom (prev bs i) (bs.drop i) = chkFrom none bs) ∧ Hid (Past w w')) (fun iv _ => n - (intOf iv).toNat)
    case atStart => exact ⟨0, Nat.zero_le _, rfl, rfl, Past.refl _⟩
    case round =>
      obtain ⟨i, hi, rfl, HO, HP⟩ := hrel
      by_cases hin : i < n
      · have hil : i < bs.length := by have := HL.out; omega
        obtain ⟨b1, o1, rfl, hc1⟩ := HX.out.bar (by omega)
        have hbi := (hc1 i hil).past HP.out
        obtain ⟨b, hbe⟩ : ∃ b, bs[i] = b := ⟨_, rfl⟩
        rw [hbe] at hbi
        have hfit : b.fit := by rw [← hbe]; exact HF.out _ (List.getElem_mem hil)
        have hst := chk_step hil hbe
        have HST := Lib.hid hst
        have HFIT := Lib.hid hfit
        have HC1 := Lib.hid hc1
        have HBE := Lib.hid hbe
        obtain ⟨d, x, y⟩ := b
        have e0 : wr.cell? ⟨b1, o1 + i * 3, none⟩ = some (.int .i64 d) := hbi.1
        have e1 : wr.cell? ⟨b1, o1 + i * 3 + 1, none⟩ = some (.string x) := hbi.2.1
        have e2 : wr.cell? ⟨b1, o1 + i * 3 + 2, none⟩ = some (.string y) := hbi.2.2
        clear hst hfit hc1 hbe hbi
        have f0 : (wr.alloc (.cells #[.int .i64 d, .string x, .string y] 94)).cell? ⟨wr.heap.size, 0, none⟩ = some (.int .i64 d) := by simp [go_sem]
        have f1 : (wr.alloc (.cells #[.int .i64 d, .string x, .string y] 94)).cell? ⟨wr.heap.size, 1, none⟩ = some (.string x) := by simp [go_sem]
        have f2 : (wr.alloc (.cells #[.int .i64 d, .string x, .string y] 94)).cell? ⟨wr.heap.size, 2, none⟩ = some (.string y) := by simp [go_sem]
        have F0 := Lib.hid f0
        have F1 := Lib.hid f1
        have F2 := Lib.hid f2
        clear f0 f1 f2
        obtain ⟨v, hv⟩ : ∃ v, validB ⟨d, x, y⟩ = v := ⟨_, rfl⟩
        cases v with
        | false =>
          have HN : Hid (chkFrom none bs = 1) := by
            show _ = _
            rw [← HO.out, HST.out, if_pos (.inl hv)]
          go_wp2_with (first | (go_at_call 85; refine (bar_valid ⟨d, x, y⟩ _ HFIT.out).mono ?_; rintro e w1 ⟨hp1, rfl⟩))
          go_ret
          exact ⟨(HP.out.alloc _).trans hp1, by rw [HR.out, HN.out]; rfl⟩
        | true =>
          obtain ⟨sm, hsm⟩ : ∃ v, (x.toList == y.toList) = v := ⟨_, rfl⟩
          cases sm with
          | true =>
            have HN : Hid (chkFrom none bs = 1) := by
              show _ = _
              rw [← HO.out, HST.out, if_pos (.inr hsm)]
            go_wp2_with (first | (go_at_call 85; refine (bar_valid ⟨d, x, y⟩ _ HFIT.out).mono ?_; rintro e w1 ⟨hp1, rfl⟩; have k0 := hp1.cell F0.out; have k1 := hp1.cell F1.out; have k2 := hp1.cell F2.out))
            go_ret
            exact ⟨(HP.out.alloc _).trans hp1, by rw [HR.out, HN.out]; rfl⟩
          | false =>
            have HNN : Hid (chkFrom none bs = if before (prev bs i) ⟨d, x, y⟩ = true then 6 else chkFrom (prev bs (i + 1)) (bs.drop (i + 1))) := by
              show _ = _
              rw [← HO.out, HST.out, if_neg (by rintro (h | h); exact absurd (hv.symm.trans h) (by simp); exact absurd (hsm.symm.trans h) (by simp))]
            by_cases hi0 : i = 0
            · subst hi0
              have HN2 : Hid (chkFrom (prev bs 1) (bs.drop 1) = chkFrom none bs) := by
                show _ = _
                rw [HNN.out]; rfl
              simp only [Nat.zero_mul, Nat.add_zero] at e0 e1 e2
              go_wp2_with (first | (go_at_call 85; refine (bar_valid ⟨d, x, y⟩ _ HFIT.out).mono ?_; rintro e w1 ⟨hp1, rfl⟩; have k0 := hp1.cell F0.out; have k1 := hp1.cell F1.out; have k2 := hp1.cell F2.out))
              go_quiet (fail)
              go_wp2
              go_roundw
              case rel => exact ⟨1, by omega, by go_num, HN2.out, ((HP.out.alloc _).trans hp1).drewN _⟩
              case measure => simp [intOf]; omega
            · obtain ⟨j, rfl⟩ : ∃ j, i = j + 1 := ⟨i - 1, by omega⟩
              have hpl : j < bs.length := by omega
              obtain ⟨p, hpe⟩ : ∃ b, bs[j] = b := ⟨_, rfl⟩
              have hbp := (HC1.out j hpl).past HP.out
              rw [hpe] at hbp
              have hfp : p.fit := by rw [← hpe]; exact HF.out _ (List.getElem_mem hpl)
              have hpv : prev bs (j + 1) = some p := by unfold prev; rw [if_neg hi0, Nat.add_sub_cancel, List.getElem?_eq_getElem hpl, hpe]
              have HPV := Lib.hid hpv
              have HFP := Lib.hid hfp
              clear hpv hfp hpe hi0
              obtain ⟨d', x', y'⟩ := p
              have g0 : wr.cell? ⟨b1, o1 + j * 3, none⟩ = some (.int .i64 d') := hbp.1
              have g1 : wr.cell? ⟨b1, o1 + j * 3 + 1, none⟩ = some (.string x') := hbp.2.1
              have g2 : wr.cell? ⟨b1, o1 + j * 3 + 2, none⟩ = some (.string y') := hbp.2.2
              clear hbp
              have G0 := Lib.hid (((Past.refl wr).alloc (.cells #[.int .i64 d, .string x, .string y] 94)).cell g0)
              have G1 := Lib.hid (((Past.refl wr).alloc (.cells #[.int .i64 d, .string x, .string y] 94)).cell g1)
              have G2 := Lib.hid (((Past.refl wr).alloc (.cells #[.int .i64 d, .string x, .string y] 94)).cell g2)
              clear g0 g1 g2
              have z1 : (j : Int) < (n : Int) := by omega
              have z2 : IntKind.i64.wrap (j : Int) = (j : Int) := by rw [IntKind.wrap_i64]; omega
              have z3 : (j : Int) + 1 < (n : Int) := by omega
              go_wp2_with (first | (go_at_call 85; refine (bar_valid ⟨d, x, y⟩ _ HFIT.out).mono ?_; rintro e w1 ⟨hp1, rfl⟩; have k0 := hp1.cell F0.out; have k1 := hp1.cell F1.out; have k2 := hp1.cell F2.out))
              have H6 : Hid (w1.cell? ⟨wr.heap.size, 0, none⟩ = some (.int .i64 d) ∧ w1.cell? ⟨wr.heap.size, 1, none⟩ = some (.string x) ∧ w1.cell? ⟨wr.heap.size, 2, none⟩ = some (.string y) ∧ w1.cell? ⟨b1, o1 + j * 3, none⟩ = some (.int .i64 d') ∧ w1.cell? ⟨b1, o1 + j * 3 + 1, none⟩ = some (.string x') ∧ w1.cell? ⟨b1, o1 + j * 3 + 2, none⟩ = some (.string y')) := ⟨k0, k1, k2, hp1.cell G0.out, hp1.cell G1.out, hp1.cell G2.out⟩
              have PD : Hid (Past w1 w1.drew) := (Past.refl w1).drew
              go_region_held3 (fun w' => w'.cell? ⟨wr.heap.size, 0, none⟩ = some (.int .i64 d) ∧ w'.cell? ⟨wr.heap.size, 1, none⟩ = some (.string x) ∧ w'.cell? ⟨wr.heap.size, 2, none⟩ = some (.string y) ∧ w'.cell? ⟨b1, o1 + j * 3, none⟩ = some (.int .i64 d') ∧ w'.cell? ⟨b1, o1 + j * 3 + 1, none⟩ = some (.string x') ∧ w'.cell? ⟨b1, o1 + j * 3 + 2, none⟩ = some (.string y')) (first | (refine keep6 hp2 ?_; assumption) | (refine keep6 PD ?_; exact H6.out))
                (first
                  | (go_at_call 86; ((with_reducible refine (bar_compare' d d' x y x' y' _ HFIT.out HFP.out).mono ?_)); rintro e w2 ⟨hp2, rfl⟩))
              obtain ⟨cv, hcv⟩ : ∃ c, cmpB ⟨d, x, y⟩ ⟨d', x', y'⟩ = c := ⟨_, rfl⟩
              rw [hcv]
              have HCV := Lib.hid hcv
              clear hcv
              by_cases hlt : cv < 0
              · have HN : Hid (chkFrom none bs = 6) := by
                  show _ = _
                  rw [HNN.out, HPV.out, if_pos (show before (some ⟨d', x', y'⟩) ⟨d, x, y⟩ = true from decide_eq_true (by rw [HCV.out]; exact hlt))]
                go_wp2
                go_ret
                exact ⟨(((HP.out.alloc _).trans hp1).trans PD.out).trans hp2, by rw [HR.out, HN.out]; rfl⟩
              · have HN : Hid (chkFrom (prev bs (j + 1 + 1)) (bs.drop (j + 1 + 1)) = chkFrom none bs) := by
                  show _ = _
                  rw [HNN.out, HPV.out, if_neg (show ¬ before (some ⟨d', x', y'⟩) ⟨d, x, y⟩ = true from fun h => hlt (by have h2 := of_decide_eq_true h; rw [HCV.out] at h2; exact h2))]
                go_wp2
                go_roundw
                case rel => exact ⟨j + 1 + 1, by omega, by go_num, HN.out, (((HP.out.alloc _).trans hp1).trans PD.out).trans hp2⟩
                case measure => simp [intOf]; omega
      · have HN : Hid (chkFrom none bs = 0) := by
          show _ = _
          rw [← HO.out, List.drop_of_length_le (by have := HL.out; omega)]
          cases prev bs i <;> rfl
        go_wp2
        go_ret
        exact ⟨HP.out, by rw [HR.out, HN.out]; rfl⟩

end Go.Proofs.YtdcjibjldfjllaaGreat

/- slices.SortStableFunc on bars: the insertion sort. -/
namespace Go.Proofs.YtdcjibjldfjllaaGreat
open Go.RowKit

/-- A bar's cells behind a bar that is stored. -/
def setBar (w : World) (g o : Nat) (b : Bar) : World := ((w.setCell ⟨g, o, none⟩ (.int .i64 b.d)).setCell ⟨g, o + 1, none⟩ (.string b.x)).setCell ⟨g, o + 2, none⟩ (.string b.y)
theorem flat_setBar (y : Bar) : ∀ (xs : List Bar) (j : Nat), j < xs.length →
    ((((xs.flatMap rBar.enc).set (j * 3) (.int .i64 y.d)).set (j * 3 + 1) (.string y.x)).set (j * 3 + 2) (.string y.y)) = (xs.set j y).flatMap rBar.enc
  | x :: xs, 0, _ => rfl
  | x :: xs, j + 1, h => by
    have ih := flat_setBar y xs j (by simpa using h)
    have e : ∀ k : Nat, (j + 1) * 3 + k = (j * 3 + k) + 3 := by intro k; omega
    have e0 : (j + 1) * 3 = (j * 3) + 3 := by omega
    rw [e 1, e 2, e0]
    show Value.int .i64 x.d :: Value.string x.x :: Value.string x.y :: ((((xs.flatMap rBar.enc).set (j * 3) (.int .i64 y.d)).set (j * 3 + 1) (.string y.x)).set (j * 3 + 2) (.string y.y)) = _
    rw [ih]
    rfl
theorem OwnS.len {w0 w : World} {g n c : Nat} {e : TypeId} {xs : List Bar} (h : OwnS w0 w rBar e (.slice (some ⟨g, 0, none⟩) n c) xs) : n = xs.length := by
  rcases h.1.2 with ⟨h0, _⟩ | ⟨g', cap', cur, h0, _⟩
  · cases h0
  · injection h0
theorem OwnS.setBar {w0 w : World} {g n c : Nat} {e : TypeId} {xs : List Bar} (h : OwnS w0 w rBar e (.slice (some ⟨g, 0, none⟩) n c) xs) {j : Nat} (hj : j < xs.length) (y : Bar) :
    OwnS w0 (setBar w g (j * 3) y) rBar e (.slice (some ⟨g, 0, none⟩) n c) (xs.set j y) := by
  have hn := h.len
  subst hn
  have hb : w0.heap.size ≤ g := (h.1.lt g rfl).1
  refine ⟨?_, ((h.2.setCell hb _).setCell hb _).setCell hb _⟩
  have h1 := (h.1.stored (j * 3) (.int .i64 y.d)).1
  have h2 := (h1.stored (j * 3 + 1) (.string y.x)).1
  have h3 := (h2.stored (j * 3 + 2) (.string y.y)).1
  rw [flat_setBar y xs j hj] at h3
  rw [List.length_set]
  exact h3
theorem OwnS.barAt {w0 w : World} {g n c : Nat} {e : TypeId} {xs : List Bar} (h : OwnS w0 w rBar e (.slice (some ⟨g, 0, none⟩) n c) xs) {j : Nat} {y : Bar} (hy : xs[j]? = some y) :
    BarAt w g (j * 3) y ∧ ∀ k, w.frozen? ⟨g, k, none⟩ = false := by
  obtain ⟨hj, rfl⟩ := List.getElem?_eq_some_iff.1 hy
  obtain ⟨g', c', hgc, _, _, _, _, hc, hf⟩ := h.form (by omega)
  simp only [Value.slice.injEq, Option.some.injEq, Addr.mk.injEq, and_true, true_and] at hgc
  obtain ⟨rfl, _, _⟩ := hgc
  have k0 := hc j hj 0 _ rfl
  have k1 := hc j hj 1 _ rfl
  have k2 := hc j hj 2 _ rfl
  rw [Nat.zero_add] at k0 k1 k2
  exact ⟨⟨k0, k1, k2⟩, hf⟩

def ltB (a b : Bar) : Bool := decide (cmpB a b < 0)

theorem isort_short {α : Type} (lt : α → α → Bool) {l : List α} (h : l.length ≤ 1) : isort lt l = l := by
  match l, h with
  | [], _ => rfl
  | [x], _ => rfl
theorem isort_take_succ {α : Type} (lt : α → α → Bool) {l : List α} {i : Nat} {x : α} (h : i < l.length) (hx : l[i] = x) : isort lt (l.take (i + 1)) = insR lt x (isort lt (l.take i)) := by
  rw [List.take_succ_eq_append_getElem h, hx, isort_snoc]

set_option maxRecDepth 100000 in
set_option maxHeartbeats 4000000 in
theorem sort_ins (g n c : Nat) (bs : List Bar) (w0 w : World) (hown : OwnS w0 w rBar 94 (.slice (some ⟨g, 0, none⟩) n c) bs) (hf : ∀ b ∈ bs, b.fit) (hn : n ≤ 1000000000) :
    Calls Tryz.prog 240 #[.slice (some ⟨g, 0, none⟩) n c, .int .i64 0, .int .i64 n, .func (.func 86) #[] #[]] w fun e w' =>
      e = .returned (.tuple #[]) ∧ OwnS w0 w' rBar 94 (.slice (some ⟨g, 0, none⟩) n c) (isort ltB bs) := by
  have HO := Lib.hid hown
  have HL := Lib.hid hown.len
  have HF := Lib.hid hf
  clear hown hf
  go_enter Tryz.func240, Tryz.ntmps240
  go_wp2_with fail
  go_loopg [8] n (fun gg iv wr => ∃ i : Nat, iv = .int .i64 i ∧ 1 ≤ i ∧ i ≤ n + 1 ∧ Hid (gg = n + 1 - i) ∧ Hid (OwnS w0 wr rBar 94 (.slice (some ⟨g, 0, none⟩) n c) (isort ltB (bs.take i) ++ bs.drop i)))
  case atStart => exact ⟨1, rfl, by omega, by omega, by unfold Hid; omega, by rw [isort_short _ (by simp; omega), List.take_append_drop]; exact HO.out⟩
  case round =>
    clear HO
    obtain ⟨i, rfl, hi1, hi2, HG, HO⟩ := hrel
    by_cases hin : i < n
    · have hil : i < bs.length := by have := HL.out; omega
      obtain ⟨x, hxe⟩ : ∃ b, bs[i] = b := ⟨_, rfl⟩
      obtain ⟨P, hP⟩ : ∃ P, isort ltB (bs.take i) = P := ⟨_, rfl⟩
      have hPl : P.length = i := by rw [← hP, isort_length, List.length_take]; omega
      have hfx : x.fit := by rw [← hxe]; exact HF.out _ (List.getElem_mem hil)
      have hfP : ∀ b ∈ P, b.fit := fun b hb => HF.out b (List.mem_of_mem_take ((isort_perm _ _).mem_iff.1 (by rw [hP]; exact hb)))
      have HE : Hid (isort ltB (bs.take (i + 1)) = insR ltB x P) := by
        show _ = _
        rw [isort_take_succ ltB hil hxe, hP]
      have HS : Hid (OwnS w0 wr rBar 94 (.slice (some ⟨g, 0, none⟩) n c) (onWay P x i (bs.drop (i + 1)))) := by
        have h1 := HO.out
        rw [hP, List.drop_eq_getElem_cons hil, hxe, ← onWay_start, hPl] at h1
        exact h1
      have HFX := Lib.hid hfx
      have HFP := Lib.hid hfP
      have HPL := Lib.hid hPl
      clear hfx hfP hPl hP hxe HO
      obtain ⟨d, x1, x2⟩ := x
      go_wp2_with fail
      go_loopg [9] i (fun gj jv wx => ∃ j : Nat, jv = .int .i64 j ∧ j ≤ i ∧ Hid (gj = j) ∧ Hid (slot ltB ⟨d, x1, x2⟩ P j = slot ltB ⟨d, x1, x2⟩ P i) ∧ Hid (OwnS w0 wx rBar 94 (.slice (some ⟨g, 0, none⟩) n c) (onWay P ⟨d, x1, x2⟩ j (bs.drop (i + 1)))))
      case atStart => exact ⟨i, rfl, Nat.le_refl _, rfl, rfl, HS⟩
      case round =>
        clear HS
        obtain ⟨j, rfl, hji, HGJ, HSL, HS⟩ := hrel
        by_cases hj0 : j = 0
        · subst hj0
          have HN : Hid (onWay P ⟨d, x1, x2⟩ 0 (bs.drop (i + 1)) = isort ltB (bs.take (i + 1)) ++ bs.drop (i + 1)) := by
            show _ = _
            rw [HE.out]
            exact onWay_end _ _ _ _ _ (by rw [HPL.out]; exact HSL.out) rfl
          go_wp2
          go_quiet (fail)
          go_wp2
          go_roundg (n - i)
          case measure => have := HG.out; omega
          case rel => exact ⟨i + 1, by go_num, by omega, by omega, by unfold Hid; omega, by rw [← HN.out]; exact ⟨HS.out.1, HS.out.2.drewN _⟩⟩
        · obtain ⟨k, rfl⟩ : ∃ k, j = k + 1 := ⟨j - 1, by omega⟩
          have hkP : k < P.length := by have := HPL.out; omega
          obtain ⟨p, hpe⟩ : ∃ b, P[k] = b := ⟨_, rfl⟩
          have hfp : p.fit := by rw [← hpe]; exact HFP.out _ (List.getElem_mem hkP)
          have hbx := HS.out.barAt (onWay_at (rest := bs.drop (i + 1)) (show k + 1 ≤ P.length by omega))
          have hbp := HS.out.barAt (j := k) (y := p) (by rw [onWay_before hkP, hpe])
          have HFR := Lib.hid hbp.2
          have hst : slot ltB ⟨d, x1, x2⟩ P (k + 1) = if ltB ⟨d, x1, x2⟩ p = true then slot ltB ⟨d, x1, x2⟩ P k else k + 1 := by
            rw [slot, List.getElem?_eq_getElem hkP, hpe]
          have HST := Lib.hid hst
          have HFQ := Lib.hid hfp
          have HPE := Lib.hid hpe
          clear hst hfp hpe
          obtain ⟨d', x1', x2'⟩ := p
          have e0 : wr.cell? ⟨g, (k + 1) * 3, none⟩ = some (.int .i64 d) := hbx.1.1
          have e1 : wr.cell? ⟨g, (k + 1) * 3 + 1, none⟩ = some (.string x1) := hbx.1.2.1
          have e2 : wr.cell? ⟨g, (k + 1) * 3 + 2, none⟩ = some (.string x2) := hbx.1.2.2
          have g0 : wr.cell? ⟨g, k * 3, none⟩ = some (.int .i64 d') := hbp.1.1
          have g1 : wr.cell? ⟨g, k * 3 + 1, none⟩ = some (.string x1') := hbp.1.2.1
          have g2 : wr.cell? ⟨g, k * 3 + 2, none⟩ = some (.string x2') := hbp.1.2.2
          clear hbx hbp
          have H6 : Hid (wr.cell? ⟨g, (k + 1) * 3, none⟩ = some (.int .i64 d) ∧ wr.cell? ⟨g, (k + 1) * 3 + 1, none⟩ = some (.string x1) ∧ wr.cell? ⟨g, (k + 1) * 3 + 2, none⟩ = some (.string x2) ∧ wr.cell? ⟨g, k * 3, none⟩ = some (.int .i64 d') ∧ wr.cell? ⟨g, k * 3 + 1, none⟩ = some (.string x1') ∧ wr.cell? ⟨g, k * 3 + 2, none⟩ = some (.string x2')) := ⟨e0, e1, e2, g0, g1, g2⟩
          clear e0 e1 e2 g0 g1 g2
          have z1 : (k : Int) < (n : Int) := by omega
          have z2 : IntKind.i64.wrap (k : Int) = (k : Int) := by rw [IntKind.wrap_i64]; omega
          have z3 : (k : Int) + 1 < (n : Int) := by omega
          have z4 : (0 : Int) ≤ (k : Int) + 1 := by omega
          have z5 : ((k : Int) + 1).toNat = k + 1 := by omega
          have PD : Hid (Past wr wr.drew) := (Past.refl wr).drew
          go_wp2_with fail
          go_region_held3 (fun w' => w'.cell? ⟨g, (k + 1) * 3, none⟩ = some (.int .i64 d) ∧ w'.cell? ⟨g, (k + 1) * 3 + 1, none⟩ = some (.string x1) ∧ w'.cell? ⟨g, (k + 1) * 3 + 2, none⟩ = some (.string x2) ∧ w'.cell? ⟨g, k * 3, none⟩ = some (.int .i64 d') ∧ w'.cell? ⟨g, k * 3 + 1, none⟩ = some (.string x1') ∧ w'.cell? ⟨g, k * 3 + 2, none⟩ = some (.string x2')) (first | (refine keep6 hp2 ?_; assumption) | (refine keep6 PD ?_; exact H6.out))
            (first
              | (go_at_call 86; ((with_reducible refine (bar_compare' d d' x1 x2 x1' x2' _ HFX.out HFQ.out).mono ?_)); rintro e w2 ⟨hp2, rfl⟩))
          have HPP := Lib.hid (PD.out.trans hp2)
          have h6 := keep6 HPP.out H6.out
          have q0 := h6.1
          have q1 := h6.2.1
          have q2 := h6.2.2.1
          have q3 := h6.2.2.2.1
          have q4 := h6.2.2.2.2.1
          have q5 := h6.2.2.2.2.2
          clear h6
          obtain ⟨cv, hcv⟩ : ∃ c, cmpB ⟨d, x1, x2⟩ ⟨d', x1', x2'⟩ = c := ⟨_, rfl⟩
          rw [hcv]
          have HCV := Lib.hid hcv
          clear hcv
          by_cases hlt : cv < 0
          · have HLT : Hid (ltB ⟨d, x1, x2⟩ ⟨d', x1', x2'⟩ = true) := decide_eq_true (by rw [HCV.out]; exact hlt)
            have HS2 : Hid (OwnS w0 w2 rBar 94 (.slice (some ⟨g, 0, none⟩) n c) (onWay P ⟨d, x1, x2⟩ (k + 1) (bs.drop (i + 1)))) := HS.out.past HPP.out
            have hfr := (HS2.out.barAt (onWay_at (rest := bs.drop (i + 1)) (show k + 1 ≤ P.length by omega))).2
            have f0 := hfr ((k + 1) * 3)
            have f1 := hfr ((k + 1) * 3 + 1)
            have f2 := hfr ((k + 1) * 3 + 2)
            have f3 := hfr (k * 3)
            have f4 := hfr (k * 3 + 1)
            have f5 := hfr (k * 3 + 2)
            clear hfr
            go_wp2_with fail
            go_region
            all_goals go_wp2_with fail
            have HFIN : Hid (OwnS w0 (setBar (setBar w2 g ((k + 1) * 3) ⟨d', x1', x2'⟩) g (k * 3) ⟨d, x1, x2⟩) rBar 94 (.slice (some ⟨g, 0, none⟩) n c) (onWay P ⟨d, x1, x2⟩ k (bs.drop (i + 1)))) := by
              have hl := onWay_length P (⟨d, x1, x2⟩ : Bar) (k + 1) (bs.drop (i + 1)) (by omega)
              have h1 := (HS2.out.setBar (j := k + 1) (by omega) ⟨d', x1', x2'⟩).setBar (j := k) (by rw [List.length_set]; omega) ⟨d, x1, x2⟩
              rw [← HPE.out, onWay_step hkP, HPE.out] at h1
              exact h1
            go_roundg k
            case measure => have := HGJ.out; omega
            case rel => exact ⟨k, rfl, by omega, rfl, by show _ = _; rw [← HSL.out, HST.out, HLT.out]; rfl, HFIN.out.past (Past.refl _).drew⟩
          · have HLT : Hid (ltB ⟨d, x1, x2⟩ ⟨d', x1', x2'⟩ = false) := decide_eq_false (by rw [HCV.out]; exact hlt)
            have HN : Hid (onWay P ⟨d, x1, x2⟩ (k + 1) (bs.drop (i + 1)) = isort ltB (bs.take (i + 1)) ++ bs.drop (i + 1)) := by
              show _ = _
              rw [HE.out]
              exact onWay_end _ _ _ _ _ (by rw [HPL.out]; exact HSL.out) (by rw [HST.out, HLT.out]; rfl)
            go_wp2
            go_roundg (n - i)
            case measure => have := HG.out; omega
            case rel => exact ⟨i + 1, by go_num, by omega, by omega, by unfold Hid; omega, by rw [← HN.out]; exact HS.out.past HPP.out⟩
    · have HN : Hid (isort ltB (bs.take i) ++ bs.drop i = isort ltB bs) := by
        show _ = _
        have := HL.out
        rw [List.take_of_length_le (by omega), List.drop_of_length_le (by omega), List.append_nil]
      go_wp2
      go_end0
      exact ⟨rfl, by rw [← HN.out]; exact HO.out⟩

end Go.Proofs.YtdcjibjldfjllaaGreat

/- slices.SortStableFunc on fewer than twenty bars. -/
namespace Go.Proofs.YtdcjibjldfjllaaGreat
open Go.RowKit

theorem sort_ins0 (w : World) :
    Calls Tryz.prog 240 #[.slice none 0 0, .int .i64 0, .int .i64 0, .func (.func 86) #[] #[]] w fun e w' => e = .returned (.tuple #[]) ∧ w' = w := by
  go_enter Tryz.func240, Tryz.ntmps240
  go_wp2_with fail
  go_loopg [8] 1 (fun gg iv wr => iv = .int .i64 1 ∧ wr = w)
  case atStart => exact ⟨rfl, by first | rfl | trivial⟩
  case round =>
    obtain ⟨rfl, rfl⟩ := hrel
    go_wp2
    go_end0
    exact ⟨rfl, rfl⟩

set_option maxRecDepth 100000 in
set_option maxHeartbeats 4000000 in
theorem sort_stable (v : Value) (bs : List Bar) (w0 w : World) (hown : OwnS w0 w rBar 94 v bs) (hf : ∀ b ∈ bs, b.fit) (hn : bs.length < 20) :
    Calls Tryz.prog 136 #[v, .func (.func 86) #[] #[]] w fun e w' => e = .returned (.tuple #[]) ∧ OwnS w0 w' rBar 94 v (isort ltB bs) := by
  have HO := Lib.hid hown
  have HF := Lib.hid hf
  have key : ∀ (A : Option Addr) (n c : Nat), v = .slice A n c → bs.length = n →
      (∀ w1, w1 = w → Calls Tryz.prog 240 #[.slice A n c, .int .i64 0, .int .i64 n, .func (.func 86) #[] #[]] w1 fun e w' => e = .returned (.tuple #[]) ∧ OwnS w0 w' rBar 94 v (isort ltB bs)) →
      Calls Tryz.prog 136 #[v, .func (.func 86) #[] #[]] w fun e w' => e = .returned (.tuple #[]) ∧ OwnS w0 w' rBar 94 v (isort ltB bs) := by
    intro A n c hv hl hins
    subst hv
    have HI := Lib.hid hins
    clear hins
    have hn2 : n < 20 := by omega
    have hst : Calls Tryz.prog 197 #[.slice A n c, .int .i64 n, .func (.func 86) #[] #[]] w fun e w' => e = .returned (.tuple #[]) ∧ OwnS w0 w' rBar 94 (.slice A n c) (isort ltB bs) := by
      clear hl hn hown hf
      have q1 : (n : Int) < 20 := by omega
      have q2 : ¬ (20 : Int) ≤ (n : Int) := by omega
      have q3 : ¬ (20 : Int) < (n : Int) := by omega
      go_enter Tryz.func197, Tryz.ntmps197
      go_wp2_with fail
      go_loopg [7, 8] 1 (fun gg av bv wr => av = .int .i64 0 ∧ bv = .int .i64 20 ∧ wr = w)
      case atStart => exact ⟨rfl, rfl, by first | rfl | trivial⟩
      case round =>
        obtain ⟨rfl, rfl, rfl⟩ := hrel
        go_wp2_with fail
        refine (HI.out _ rfl).mono ?_
        rintro e w1 ⟨rfl, hown1⟩
        have HO1 := Lib.hid hown1
        clear hown1
        go_wp2_with fail
        go_loopg [6, 7, 8, 9] 1 (fun gg sv av bv mv wr => sv = .int .i64 20 ∧ wr = w1)
        case atStart => exact ⟨rfl, by first | rfl | trivial⟩
        case round =>
          obtain ⟨rfl, rfl⟩ := hrel
          go_wp2
          go_end0
          exact ⟨rfl, HO1.out⟩
    have HST := Lib.hid hst
    clear hst hl hn hown hf
    go_enter Tryz.func136, Tryz.ntmps136
    go_wp2_with fail
    refine HST.out.mono ?_
    rintro e w1 ⟨rfl, hown1⟩
    have HO1 := Lib.hid hown1
    clear hown1
    go_wp2
    go_end0
    exact ⟨rfl, HO1.out⟩
  by_cases h0 : bs.length = 0
  · have hb : bs = [] := List.eq_nil_of_length_eq_zero h0
    subst hb
    rcases hown.1.2 with ⟨rfl, -⟩ | ⟨g, cap, cur, rfl, hb, hh, h1, h2, h3, h4⟩
    · refine key none 0 0 rfl rfl ?_
      rintro w1 rfl
      refine (sort_ins0 w1).mono ?_
      rintro e w2 ⟨rfl, rfl⟩
      exact ⟨rfl, HO.out⟩
    · refine key (some ⟨g, 0, none⟩) 0 cap rfl rfl ?_
      rintro w1 rfl
      exact sort_ins g 0 cap [] w0 w1 HO.out HF.out (by omega)
  · obtain ⟨g, c, rfl, -, -, -, -, -, -⟩ := hown.form (by omega)
    refine key (some ⟨g, 0, none⟩) bs.length c rfl rfl ?_
    rintro w1 rfl
    exact sort_ins g bs.length c bs w0 w1 HO.out HF.out (by omega)

end Go.Proofs.YtdcjibjldfjllaaGreat

/- barcode.changed. -/
namespace Go.Proofs.YtdcjibjldfjllaaGreat
open Go.RowKit

theorem info_bar : (Tryz.prog.info? 94).map (fun i => (i.zero, i.size, i.bytes)) = some (some (.agg #[.int .i64 0, .string ⟨#[]⟩, .string ⟨#[]⟩]), 3, 40) := by kernel_rfl
theorem el_bar : ElS Tryz.prog rBar 22 94 := by
  refine ⟨by kernel_rfl, ?_⟩
  have h := info_bar
  cases hi : Tryz.prog.info? 94 with
  | none => rw [hi] at h; cases h
  | some i =>
    rw [hi] at h
    simp only [Option.map_some, Option.some.injEq, Prod.mk.injEq] at h
    exact ⟨i, _, rfl, h.1, h.2.1, by omega, rfl⟩

/-- What a change makes of a bar: the bar, whether it is kept, the error. -/
abbrev Chg := Bar → Bar × Bool × Int
/-- A function value that changes the bar behind a pointer. -/
def ChgOk (w0 : World) (f : Value) (φ : Chg) : Prop :=
  ∃ (k : Nat) (caps : Array Value), f = .func (.func k) #[] caps ∧ (∀ args w, (callFunc k args).run Tryz.prog w = .ok (.enter k args) w) ∧
    ∀ (w : World) (g : Nat) (b : Bar), Past w0 w → w0.heap.size ≤ g → BarAt w g 0 b → (∀ j, w.frozen? ⟨g, j, none⟩ = false) → b.fit →
      Calls Tryz.prog k (#[.pointer (some ⟨g, 0, none⟩)] ++ caps) w fun e w' => w.grownBy w' (some g) ∧ BarAt w' g 0 (φ b).1 ∧ (∀ j, w'.frozen? ⟨g, j, none⟩ = false) ∧ (φ b).1.fit ∧ e = .returned (.tuple #[.bool (φ b).2.1, .int .i64 (φ b).2.2])
def runChg : List Chg → Chg
  | [], b => (b, true, 0)
  | φ :: φs, b => if (φ b).2.2 ≠ 0 then ((φ b).1, false, (φ b).2.2) else if (φ b).2.1 = false then ((φ b).1, false, 0) else runChg φs (φ b).1
/-- What barcode.changed answers. -/
def chgAll (φs : List Chg) : List Bar → List Bar → List Bar × Int
  | out, [] => (isort ltB out, 0)
  | out, b :: bs => if (runChg φs b).2.2 ≠ 0 then ([], (runChg φs b).2.2) else if (runChg φs b).2.1 = false then chgAll φs out bs else
      if cmpT (byt (runChg φs b).1.x) (byt (runChg φs b).1.y) < 0 then chgAll φs (out ++ [(runChg φs b).1]) bs else chgAll φs out bs

theorem runChg_drop {φs : List Chg} {k : Nat} {b : Bar} {φ : Chg} (h : k < φs.length) (hφ : φs[k] = φ) : runChg (φs.drop k) b = if (φ b).2.2 ≠ 0 then ((φ b).1, false, (φ b).2.2) else if (φ b).2.1 = false then ((φ b).1, false, 0) else runChg (φs.drop (k + 1)) (φ b).1 := by
  rw [List.drop_eq_getElem_cons h, hφ, runChg]
theorem OwnS.grown {w0 w w' : World} {e : TypeId} {v : Value} {xs : List Bar} {g : Nat} (h : OwnS w0 w rBar e v xs) (hg : w.grownBy w' (some g)) (hb : w0.heap.size ≤ g) (hv : v.ownBlock ≠ some g) : OwnS w0 w' rBar e v xs :=
  ⟨h.1.kept hg (.inr hv), h.2.grown hg (by rintro k hk; injection hk with hk; omega)⟩

set_option maxRecDepth 100000 in
set_option maxHeartbeats 4000000 in
theorem bar_changed (A B : Option Addr) (n c m d : Nat) (bs : List Bar) (fs : List Value) (φs : List Chg) (w : World) (hx : Rows w rBar A n c bs) (hf : ∀ b ∈ bs, b.fit) (hn : n < 20)
    (hm : fs.length = m) (hφ : φs.length = m) (hm2 : m ≤ 1000) (hB : 0 < m → ∃ b o, B = some ⟨b, o, none⟩ ∧ ∀ j (h : j < fs.length), w.cell? ⟨b, o + j, none⟩ = some fs[j])
    (hok : ∀ j (h : j < fs.length) (h' : j < φs.length), ChgOk w fs[j] φs[j]) :
    Calls Tryz.prog 80 #[.slice A n c, .slice B m d] w fun e w' => Past w w' ∧ ∃ v, e = .returned (.tuple #[v, .int .i64 (chgAll φs [] bs).2]) ∧ OwnS w w' rBar 94 v (chgAll φs [] bs).1 ∧ ∀ b ∈ (chgAll φs [] bs).1, b.fit := by
  have HX := Lib.hid hx
  have HL := Lib.hid hx.len
  have HF := Lib.hid hf
  have HM := Lib.hid hm
  have HPHI := Lib.hid hφ
  have HB := Lib.hid hB
  have HOK := Lib.hid hok
  have HEL := Lib.hid el_bar
  clear hx hf hm hφ hB hok
  go_enter Tryz.func80, Tryz.ntmps80
  go_wp2_with fail
  go_step3
  go_wp2_with fail
  go_step3
  go_wp2_with fail
  go_loopg [6, 15] n (fun gg ov iv wr => ∃ (i : Nat) (out : List Bar) (vo : Value), vo = ov ∧ iv = .int .i64 i ∧ i ≤ n ∧ Hid (gg = n - i) ∧ Hid (out.length ≤ i) ∧ Hid (∀ b ∈ out, b.fit) ∧ Hid (chgAll φs out (bs.drop i) = chgAll φs [] bs) ∧ Hid (OwnS w wr rBar 94 vo out))
  case atStart => exact ⟨0, [], _, rfl, rfl, Nat.zero_le _, rfl, Nat.le_refl _, (by intro b hb; cases hb), rfl, OwnS.nil (Past.refl _) _ _⟩
  case round =>
    obtain ⟨wo, hwo⟩ : ∃ x, x = wr := ⟨_, rfl⟩
    subst hwo
    obtain ⟨i, out, vo, hvo, rfl, hi, HG, HOL, HOF, HR, HO⟩ := hrel
    subst hvo
    by_cases hin : i < n
    · have hil : i < bs.length := by have := HL.out; omega
      obtain ⟨b1, o1, rfl, hc1⟩ := HX.out.bar (by omega)
      have hbi := (hc1 i hil).past HO.out.2
      obtain ⟨b, hbe⟩ : ∃ b, bs[i] = b := ⟨_, rfl⟩
      rw [hbe] at hbi
      have HFIT : Hid b.fit := by rw [← hbe]; exact HF.out _ (List.getElem_mem hil)
      have HDR : Hid (bs.drop i = b :: bs.drop (i + 1)) := by rw [← hbe]; exact List.drop_eq_getElem_cons hil
      clear hc1 hbe
      have HBK : Hid (∃ b0, b0 = b) := ⟨b, rfl⟩
      obtain ⟨x0, x1, x2⟩ := b
      have e0 : wo.cell? ⟨b1, o1 + i * 3, none⟩ = some (.int .i64 x0) := hbi.1
      have e1 : wo.cell? ⟨b1, o1 + i * 3 + 1, none⟩ = some (.string x1) := hbi.2.1
      have e2 : wo.cell? ⟨b1, o1 + i * 3 + 2, none⟩ = some (.string x2) := hbi.2.2
      clear hbi
      have HBA : Hid (BarAt (wo.alloc (.cells #[.int .i64 x0, .string x1, .string x2] 94)) wo.heap.size 0 ⟨x0, x1, x2⟩ ∧ (∀ j, (wo.alloc (.cells #[.int .i64 x0, .string x1, .string x2] 94)).frozen? ⟨wo.heap.size, j, none⟩ = false) ∧ Bar.fit ⟨x0, x1, x2⟩) :=
        ⟨⟨by simp [go_sem], by simp [go_sem], by simp [go_sem]⟩, fun j => by simp [go_sem], HFIT.out⟩
      have HSZ : Hid (w.heap.size ≤ wo.heap.size) := HO.out.2.size
      have HNB : Hid (vo.ownBlock ≠ some wo.heap.size) := by
        intro h
        have := (HO.out.1.lt _ h).2
        omega
      have HOA : Hid (OwnS w (wo.alloc (.cells #[.int .i64 x0, .string x1, .string x2] 94)) rBar 94 vo out) := HO.out.alloc _
      go_wp2_with fail
      go_loopg [21] m (fun gg kv wx => ∃ (k : Nat) (b : Bar), kv = .int .i64 k ∧ k ≤ m ∧ Hid (gg = m - k) ∧ Hid (runChg (φs.drop k) b = runChg φs ⟨x0, x1, x2⟩) ∧ Hid (BarAt wx wo.heap.size 0 b ∧ (∀ j, wx.frozen? ⟨wo.heap.size, j, none⟩ = false) ∧ b.fit) ∧ Hid (OwnS w wx rBar 94 vo out))
      case atStart => exact ⟨0, ⟨x0, x1, x2⟩, rfl, Nat.zero_le _, rfl, rfl, HBA, HOA⟩
      case round =>
        clear HBA HOA e0 e1 e2
        obtain ⟨k, b, rfl, hk, HG2, HRC, HBA, HOA⟩ := hrel
        by_cases hkm : k < m
        · have hkf : k < fs.length := by have := HM.out; omega
          have hkp : k < φs.length := by have := HPHI.out; omega
          obtain ⟨bb, ob, rfl, hcb⟩ := HB.out (by omega)
          have ef := HOA.out.2.cell (hcb k hkf)
          obtain ⟨φ, hφe⟩ : ∃ φ, φs[k] = φ := ⟨_, rfl⟩
          have hok := HOK.out k hkf hkp
          rw [hφe] at hok
          obtain ⟨kf, caps, hfe, hent, hcall⟩ := hok
          rw [hfe] at ef
          have HRD : Hid (runChg φs ⟨x0, x1, x2⟩ = if (φ b).2.2 ≠ 0 then ((φ b).1, false, (φ b).2.2) else if (φ b).2.1 = false then ((φ b).1, false, 0) else runChg (φs.drop (k + 1)) (φ b).1) := by
            show _ = _
            rw [← HRC.out, runChg_drop hkp hφe]
          have HCALL := Lib.hid hcall
          clear hcb hfe hcall hφe
          obtain ⟨b', hb'⟩ : ∃ x, (φ b).1 = x := ⟨_, rfl⟩
          obtain ⟨kp, hkp'⟩ : ∃ x, (φ b).2.1 = x := ⟨_, rfl⟩
          obtain ⟨er, her⟩ : ∃ x, (φ b).2.2 = x := ⟨_, rfl⟩
          have HRD2 : Hid (runChg φs ⟨x0, x1, x2⟩ = if er ≠ 0 then (b', false, er) else if kp = false then (b', false, 0) else runChg (φs.drop (k + 1)) b') := by
            show _ = _
            rw [HRD.out, hb', hkp', her]
          have HEQ := Lib.hid (And.intro hb' (And.intro hkp' her))
          clear hb' hkp' her
          go_wp2_with fail
          refine (HCALL.out _ wo.heap.size b HOA.out.2 HSZ.out HBA.out.1 HBA.out.2.1 HBA.out.2.2).mono ?_
          rintro e w2 ⟨hg2, hb2, hfz2, hfit2, rfl⟩
          rw [HEQ.out.1] at hb2 hfit2
          rw [HEQ.out.2.1, HEQ.out.2.2]
          have HO2 : Hid (OwnS w w2 rBar 94 vo out) := HOA.out.grown hg2 HSZ.out HNB.out
          have HBA2 : Hid (BarAt w2 wo.heap.size 0 b' ∧ (∀ j, w2.frozen? ⟨wo.heap.size, j, none⟩ = false) ∧ b'.fit) := ⟨hb2, hfz2, hfit2⟩
          clear hg2 hb2 hfz2 hfit2 ef
          by_cases her : er = 0
          · subst her
            cases kp with
            | true =>
              have HRE : Hid (runChg (φs.drop (k + 1)) b' = runChg φs ⟨x0, x1, x2⟩) := by
                show _ = _
                rw [HRD2.out]; rfl
              go_wp2_with fail
              go_roundg (m - (k + 1))
              case measure => have := HG2.out; omega
              case rel => exact ⟨k + 1, b', by go_num, by omega, rfl, HRE.out, HBA2.out, HO2.out⟩
            | false =>
              have HRE : Hid (chgAll φs out (bs.drop (i + 1)) = chgAll φs [] bs) := by
                have h1 : runChg φs ⟨x0, x1, x2⟩ = (b', false, 0) := by rw [HRD2.out]; rfl
                show _ = _
                rw [← HR.out, HDR.out, chgAll, h1]; rfl
              go_wp2_with fail
              go_roundg (n - (i + 1))
              case measure => have := HG.out; omega
              case rel => exact ⟨i + 1, out, _, rfl, by go_num, by omega, rfl, by have := HOL.out; show _ ≤ _; omega, HOF.out, HRE.out, HO2.out⟩
          · have HRE : Hid (chgAll φs [] bs = ([], er)) := by
              have h1 : runChg φs ⟨x0, x1, x2⟩ = (b', false, er) := by rw [HRD2.out, if_pos her]
              show _ = _
              rw [← HR.out, HDR.out, chgAll, h1]
              simp [her]
            have hb : (er != 0) = true := by simp [her]
            go_wp2_with fail
            try rw [Exit.noGoto_ret]
            go_ret2
            exact ⟨HO2.out.2, _, by rw [HRE.out]; rfl, by rw [HRE.out]; exact OwnS.nil HO2.out.2 _ _, by rw [HRE.out]; intro b hb; cases hb⟩
        · have HRE : Hid (runChg φs ⟨x0, x1, x2⟩ = (b, true, 0)) := by
            show _ = _
            rw [← HRC.out, List.drop_of_length_le (by have := HPHI.out; omega)]; rfl
          have HBF : Hid b.fit := HBA.out.2.2
          obtain ⟨y0, y1, y2⟩ := b
          have f1 : wr.cell? ⟨wo.heap.size, 0, none⟩ = some (.int .i64 y0) := HBA.out.1.1
          have f2 : wr.cell? ⟨wo.heap.size, 1, none⟩ = some (.string y1) := HBA.out.1.2.1
          have f3 : wr.cell? ⟨wo.heap.size, 2, none⟩ = some (.string y2) := HBA.out.1.2.2
          obtain ⟨cv, hcv⟩ : ∃ c, cmpT (byt y1) (byt y2) = c := ⟨_, rfl⟩
          have HCV := Lib.hid hcv
          clear hcv
          go_wp2_with fail
          refine (ratio_Cmp y1 y2 _ HBF.out.1 HBF.out.2).mono ?_
          rintro e w2 ⟨hp2, rfl⟩
          rw [HCV.out]
          have k1 := hp2.cell f1
          have k2 := hp2.cell f2
          have k3 := hp2.cell f3
          have HO2 : Hid (OwnS w w2 rBar 94 vo out) := HOA.out.past hp2
          clear f1 f2 f3
          by_cases hlt : cv < 0
          · have HRR : Hid (chgAll φs (out ++ [⟨y0, y1, y2⟩]) (bs.drop (i + 1)) = chgAll φs [] bs) := by
              show _ = _
              rw [← HR.out, HDR.out]
              conv => rhs; rw [chgAll, HRE.out]
              simp [HCV.out, hlt]
            go_wp2_with (first | (at_builtin; refine wpList_appS HEL.out (HO2.out.alloc _) rfl rfl rfl ⟨_, 0, none⟩ _ ⟨y0, y1, y2⟩ rfl (cell_newS rBar _ _ _ _ _ (by simp [go_sem]) rfl) ?_ ?_; (have := HOL.out; omega); intro v3 w3 hown3 hp3))
            go_roundg (n - (i + 1))
            case measure => have := HG.out; omega
            case rel => exact ⟨i + 1, _, _, rfl, by go_num, by omega, rfl, by have := HOL.out; show _ ≤ _; simp; omega, fun b hb => by rcases List.mem_append.1 hb with h | h; exact HOF.out b h; rw [List.mem_singleton] at h; rw [h]; exact HBF.out, HRR.out, hown3⟩
          · have HRR : Hid (chgAll φs out (bs.drop (i + 1)) = chgAll φs [] bs) := by
              show _ = _
              rw [← HR.out, HDR.out]
              conv => rhs; rw [chgAll, HRE.out]
              simp [HCV.out, hlt]
            go_wp2_with fail
            go_roundg (n - (i + 1))
            case measure => have := HG.out; omega
            case rel => exact ⟨i + 1, out, _, rfl, by go_num, by omega, rfl, by have := HOL.out; show _ ≤ _; omega, HOF.out, HRR.out, HO2.out⟩
    · have HN : Hid (chgAll φs [] bs = (isort ltB out, 0)) := by
        show _ = _
        rw [← HR.out, List.drop_of_length_le (by have := HL.out; omega)]; rfl
      go_wp2_with fail
      refine (sort_stable _ out w _ HO.out HOF.out (by have := HOL.out; omega)).mono ?_
      rintro e w1 ⟨rfl, hown1⟩
      have HO1 := Lib.hid hown1
      clear hown1
      go_wp2
      try rw [Exit.noGoto_ret]
      go_ret2
      exact ⟨HO1.out.2, _, by rw [HN.out]; rfl, by rw [HN.out]; exact HO1.out, by rw [HN.out]; exact fun b hb => HOF.out b ((isort_perm _ _).mem_iff.1 hb)⟩

end Go.Proofs.YtdcjibjldfjllaaGreat
