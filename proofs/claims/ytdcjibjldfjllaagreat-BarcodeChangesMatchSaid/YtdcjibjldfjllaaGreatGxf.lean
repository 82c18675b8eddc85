/- Helpers of the proof, joined: Each Each2 Each3. -/
import Derived.Test.YtdcjibjldfjllaaGreatGr
import Derived.Test.YtdcjibjldfjllaaGreatGxe
import Derived.Test.YtdcjibjldfjllaaGreatGxa
set_option linter.unusedVariables false
set_option linter.unusedSimpArgs false
/- barcode.each over Ratio.Add. -/
namespace Go.Proofs.YtdcjibjldfjllaaGreat
open Go.RowKit

theorem grown_past {w wa wb : World} {g : Nat} (h : w.grownBy wa (some g)) (hp : Past wa wb) : w.grownBy wb (some g) :=
  ⟨hp.os.trans h.os, hp.tape.trans h.tape, hp.output.trans h.output, Nat.le_trans h.size hp.size, fun k hk hne => (hp.block k (Nat.lt_of_lt_of_le hk h.size)).trans (h.block k hk hne)⟩

def eachT (F : Rat → Rat) (x : ByteArray) : ByteArray := if isInf (byt x) = true then x else tQ (F (valR (byt x)))
def eachOk (F : Rat → Rat) (x : ByteArray) : Bool := isInf (byt x) || !longQ (F (valR (byt x)))

theorem q_new (w : World) : QAt (w.alloc (.cells #[.bool false, .slice none 0 0, .bool false, .slice none 0 0] 131)) w.heap.size false none 0 0 false none 0 0 := by
  unfold QAt
  simp [go_sem]
theorem keep2_set4 {w : World} {z B : Nat} {u0 u1 u2 u3 : Value} {a0 a1 : Addr} {v0 v1 : Value} (h : w.cell? a0 = some v0 ∧ w.cell? a1 = some v1) (h0 : a0.block < B) (h1 : a1.block < B) (hz : B ≤ z) :
    ((((w.setCell ⟨z, 0, none⟩ u0).setCell ⟨z, 1, none⟩ u1).setCell ⟨z, 2, none⟩ u2).setCell ⟨z, 3, none⟩ u3).cell? a0 = some v0 ∧ ((((w.setCell ⟨z, 0, none⟩ u0).setCell ⟨z, 1, none⟩ u1).setCell ⟨z, 2, none⟩ u2).setCell ⟨z, 3, none⟩ u3).cell? a1 = some v1 :=
  ⟨set4_cell (by omega) h.1, set4_cell (by omega) h.2⟩
theorem RQ.setStr {w : World} {s : Bool} {A : Option Addr} {n c : Nat} {t : Bool} {B : Option Addr} {m d : Nat} {q : Rat} (h : RQ w s A n c t B m d q) {a : Addr} {u : ByteArray} (hc : w.cell? a = some (.string u)) (v : Value) : RQ (w.setCell a v) s A n c t B m d q := by
  have hne : ∀ x, w.cell? a ≠ some (.int .u32 x) := fun x hx => by rw [hc] at hx; cases hx
  exact ⟨h.1.setCell hne v, h.2.elim (fun k => .inl (k.setCell hne v)) (fun k => .inr ⟨k.1, k.2.setCell hne v⟩)⟩
/-- A rational number in a box of the call's own. -/
def BoxQ (w0 w : World) (z : Nat) (s : Bool) (A : Option Addr) (n c : Nat) (t : Bool) (B : Option Addr) (m d : Nat) (q : Rat) : Prop := QAt w z s A n c t B m d ∧ RQ w s A n c t B m d q ∧ Past w0 w ∧ w0.heap.size ≤ z
theorem new_rat {w w2 : World} {s : Bool} {A : Option Addr} {n c : Nat} {t : Bool} {B : Option Addr} {m d : Nat} {q : Rat} (hp : Past w w2) (hr : RQ w2 s A n c t B m d q) :
    BoxQ w (w2.alloc (.cells #[.bool s, .slice A n c, .bool t, .slice B m d] 131)) w2.heap.size s A n c t B m d q :=
  ⟨by unfold QAt; simp [go_sem], hr.past ((Past.refl _).alloc _), hp.alloc _, hp.size⟩
theorem put_rat {w w2 : World} {z : Nat} {s : Bool} {A : Option Addr} {n c : Nat} {t : Bool} {B : Option Addr} {m d : Nat} {s' : Bool} {A' : Option Addr} {n' c' : Nat} {t' : Bool} {B' : Option Addr} {m' d' : Nat} {q : Rat} (hz : QAt w2 z s A n c t B m d) (hr : RQ w2 s' A' n' c' t' B' m' d' q) (hp : Past w w2) (hb : w.heap.size ≤ z) :
    BoxQ w ((((w2.setCell ⟨z, 0, none⟩ (.bool s')).setCell ⟨z, 1, none⟩ (.slice A' n' c')).setCell ⟨z, 2, none⟩ (.bool t')).setCell ⟨z, 3, none⟩ (.slice B' m' d')) z s' A' n' c' t' B' m' d' q :=
  have h := tot_keep hz (Past.refl w2) hr hp hb
  ⟨h.1, h.2.1, h.2.2, hb⟩

set_option maxRecDepth 100000 in
set_option maxHeartbeats 4000000 in
theorem each1_add (w0 w : World) (gf g o : Nat) (s : Bool) (A : Option Addr) (n c : Nat) (t : Bool) (B : Option Addr) (m d : Nat) (r : Rat) (x : ByteArray)
    (hcell : w0.cell? ⟨gf, 0, none⟩ = some (.func (.func 91) #[.agg #[.bool s, .slice A n c, .bool t, .slice B m d]] #[])) (hr : RQ w0 s A n c t B m d r) (hlr : lenQ r < 8589934592)
    (hp : Past w0 w) (hg : w0.heap.size ≤ g) (hx : w.cell? ⟨g, o, none⟩ = some (.string x)) (hfz : w.frozen? ⟨g, o, none⟩ = false) (hsz : x.size ≤ 100000000) (hl : isInf (byt x) = false → lenQ (r + valR (byt x)) < 8589934592) :
    Calls Tryz.prog 142 #[.pointer (some ⟨g, o, none⟩), .pointer (some ⟨gf, 0, none⟩)] w fun e w' => w.grownBy w' (some g) ∧ (∀ j, w'.frozen? ⟨g, j, none⟩ = w.frozen? ⟨g, j, none⟩) ∧ w'.cell? ⟨g, o, none⟩ = some (.string (eachT (fun q => r + q) x)) ∧ (∀ j, j ≠ o → w'.cell? ⟨g, j, none⟩ = w.cell? ⟨g, j, none⟩) ∧ e = .returned (.bool (eachOk (fun q => r + q) x)) := by
  have HC := Lib.hid (hp.cell hcell)
  have HR := Lib.hid (hr.past hp)
  have HLR := Lib.hid hlr
  have HX := Lib.hid (And.intro hx hfz)
  have HSZ := Lib.hid hsz
  have HL := Lib.hid hl
  have HIE := Lib.hid (inf_eq x)
  obtain ⟨iv, hiv⟩ : ∃ z, isInf (byt x) = z := ⟨_, rfl⟩
  have hq1 : (x.toList == [105, 110, 102]) = iv := by rw [HIE.out, hiv]
  have HIV := Lib.hid hiv
  have e1 : w.cell? ⟨gf, 0, none⟩ = some (.func (.func 91) #[.agg #[.bool s, .slice A n c, .bool t, .slice B m d]] #[]) := HC.out
  clear hcell hr hlr hp hsz hl hiv
  go_enter Tryz.func142, Tryz.ntmps142
  cases iv with
  | true =>
    have hT : eachT (fun q => r + q) x = x := by unfold eachT; rw [if_pos HIV.out]
    have hO : eachOk (fun q => r + q) x = true := by unfold eachOk; rw [HIV.out]; rfl
    rw [hT, hO]
    have HX2 := Lib.hid HX.out.1
    go_wp2
    go_ret
    exact ⟨⟨rfl, rfl, rfl, Nat.le_refl _, fun _ _ _ => rfl⟩, fun _ => rfl, HX2.out, fun _ _ => rfl, rfl⟩
  | false =>
    have HLF : Hid (lenQ (r + valR (byt x)) < 8589934592) := HL.out HIV.out
    have HLX : Hid (lenQ (valR (byt x)) < 8589934592) := by have h1 := lenQ_valR (byt x); rw [byt_length] at h1; have := HSZ.out; unfold Hid; omega
    obtain ⟨y, hy⟩ : ∃ y, r + valR (byt x) = y := ⟨_, rfl⟩
    have hT : eachT (fun q => r + q) x = tQ y := by unfold eachT; rw [if_neg (by rw [HIV.out]; simp), ← hy]
    have hO : eachOk (fun q => r + q) x = !longQ y := by unfold eachOk; rw [HIV.out, ← hy]; rfl
    rw [hT, hO]
    rw [hy] at HLF
    have HY := Lib.hid hy
    clear hy hT hO
    have HB := Lib.hid (World.block_lt_of_cell? w _ HX.out.1)
    have PD : Hid (Past w w.drew) := (Past.refl w).drew
    have HC2 : Hid (w.cell? ⟨gf, 0, none⟩ = some (.func (.func 91) #[.agg #[.bool s, .slice A n c, .bool t, .slice B m d]] #[]) ∧ w.cell? ⟨g, o, none⟩ = some (.string x)) := ⟨HC.out, HX.out.1⟩
    have HBB : Hid (gf < w.heap.size ∧ g < w.heap.size) := ⟨World.block_lt_of_cell? w _ HC.out, HB.out⟩
    go_upto_region 3 with fail
    go_cut [4] (fun pv wx => ∃ (z : Nat) (s2 : Bool) (A2 : Option Addr) (n2 c2 : Nat) (t2 : Bool) (B2 : Option Addr) (m2 d2 : Nat), pv = .pointer (some ⟨z, 0, none⟩) ∧ Hid (BoxQ w wx z s2 A2 n2 c2 t2 B2 m2 d2 y))
    case first =>
      go_region_held3 (fun w' => w'.cell? ⟨gf, 0, none⟩ = some (.func (.func 91) #[.agg #[.bool s, .slice A n c, .bool t, .slice B m d]] #[]) ∧ w'.cell? ⟨g, o, none⟩ = some (.string x)) (first | (with_reducible exact keep2 ((Past.refl _).alloc _) HS2.out) | (with_reducible exact HS2.out) | (with_reducible exact keep2 ((Past.refl _).alloc _) HS1.out) | (with_reducible exact HS1.out) | (with_reducible exact keep2 (Past.drew ((Past.refl w).alloc _)) HC2.out) | (with_reducible exact keep2 ((Past.refl _).alloc _) HC2.out) | (with_reducible exact keep2_set4 HS2.out HBB.out.1 HBB.out.2 (Nat.le_refl _)) | (with_reducible exact keep2_set4 HS2.out HBB.out.1 HBB.out.2 PW1.out.size) | (refine keep2 PD.out ?_; exact HC2.out))
        (first
          | (go_at_call 91; (first | (with_reducible refine (ratio_add s t A B n c m d s1 t1 A1 B1 n1 c1 m1 d1 r (valR (byt x)) _ (HR.out.past PW1.out) HR1.out ⟨HLR.out, HLX.out⟩).mono ?_) | (with_reducible refine (ratio_add s t A B n c m d s1 t1 A1 B1 n1 c1 m1 d1 r (valR (byt x)) _ (HR.out.past (PW1.out.alloc _)) (HR1.out.past ((Past.refl _).alloc _)) ⟨HLR.out, HLX.out⟩).mono ?_)); rintro e w2 ⟨hp2, s2, A2, n2, c2, t2, B2, m2, d2, rfl, hr2⟩; (first | (with_reducible have PW2 := Lib.hid (PW1.out.trans hp2)) | (with_reducible have PW2 := Lib.hid ((PW1.out.alloc _).trans hp2))); (first | (with_reducible have HS2 := Lib.hid (keep2 hp2 HS1.out)) | (with_reducible have HS2 := Lib.hid (keep2 hp2 (keep2 ((Past.refl _).alloc _) HS1.out)))); (first | ((with_reducible have QB2 := Lib.hid (QB1.out.past hp2)); obtain ⟨⟨z20, y20⟩, ⟨z21, y21⟩, ⟨z22, y22⟩, ⟨z23, y23⟩⟩ := QB2.out) | ((with_reducible have QB3 := Lib.hid ((q_new w1).past hp2)); obtain ⟨⟨z20, y20⟩, ⟨z21, y21⟩, ⟨z22, y22⟩, ⟨z23, y23⟩⟩ := QB3.out) | skip); have HR2 := Lib.hid hr2; clear hp2 hr2)
          | (go_at_call 89; ((with_reducible refine (bar_number x _ HSZ.out).mono ?_)); rintro e w1 ⟨hp1, s1, A1, n1, c1, t1, B1, m1, d1, rfl, hr1⟩; have HR1 := Lib.hid hr1; (first | (with_reducible have PW1 := Lib.hid (PD.out.trans hp1)) | (with_reducible have PW1 := Lib.hid (Past.trans (Past.drew ((Past.refl w).alloc _)) hp1))); (first | (with_reducible have HS1 := Lib.hid (keep2 hp1 (keep2 PD.out HC2.out))) | (with_reducible have HS1 := Lib.hid (keep2 hp1 (keep2 (Past.drew ((Past.refl w).alloc _)) HC2.out)))); (first | ((with_reducible have QB1 := Lib.hid (((q_new w).past (Past.refl _).drew).past hp1)); obtain ⟨⟨z10, y10⟩, ⟨z11, y11⟩, ⟨z12, y12⟩, ⟨z13, y13⟩⟩ := QB1.out) | skip); clear hp1 hr1))
      · go_wp2_with fail
        go_meet
        case rel => exact ⟨_, _, _, _, _, _, _, _, _, rfl, by rw [← HY.out]; exact new_rat PW2.out HR2.out⟩
      · go_wp2_with fail
        go_meet
        case rel => exact ⟨_, _, _, _, _, _, _, _, _, rfl, by rw [← HY.out]; exact put_rat QB3.out HR2.out PW2.out PW1.out.size⟩
      · go_wp2_with fail
        go_meet
        case rel => exact ⟨_, _, _, _, _, _, _, _, _, rfl, by rw [← HY.out]; exact put_rat QB2.out HR2.out PW2.out (Nat.le_refl _)⟩
    case rest =>
      obtain ⟨z, s2, A2, n2, c2, t2, B2, m2, d2, rfl, HBX⟩ := hcut
      have HPC := Lib.hid HBX.out.2.2.1
      have hne : g ≠ z := by have := HBB.out.2; have := HBX.out.2.2.2; omega
      have hne' : z ≠ g := fun h => hne h.symm
      obtain ⟨⟨z0, y0⟩, ⟨z1, y1⟩, ⟨z2, y2⟩, ⟨z3, y3⟩⟩ := HBX.out.1
      obtain ⟨ex, fx⟩ := HPC.out.free HX.out.1 HX.out.2
      clear e1 hq1
      go_wp2_with fail
      refine (ratio_text s2 t2 A2 B2 n2 c2 m2 d2 y _ HBX.out.2.1 HLF.out).mono ?_
      rintro e w3 ⟨hp3, rfl⟩
      have HP3 := Lib.hid hp3
      obtain ⟨a0, -⟩ := hp3.free z0 y0
      obtain ⟨a1, -⟩ := hp3.free z1 y1
      obtain ⟨a2, -⟩ := hp3.free z2 y2
      obtain ⟨a3, -⟩ := hp3.free z3 y3
      obtain ⟨ax, afx⟩ := hp3.free ex fx
      have HAX := Lib.hid ax
      have HR3 : Hid (RQ (w3.setCell ⟨g, o, none⟩ (.string (txt (rtx y)))) s2 A2 n2 c2 t2 B2 m2 d2 y) := (HBX.out.2.1.past hp3).setStr HAX.out _
      clear hp3 z0 z1 z2 z3 y0 y1 y2 y3 ex fx
      go_wp2_with fail
      refine (ratio_long s2 t2 A2 B2 n2 c2 m2 d2 y _ HR3.out HLF.out).mono ?_
      rintro e w4 ⟨hp4, rfl⟩
      have HP4 := Lib.hid hp4
      clear hp4 a0 a1 a2 a3 ax afx
      go_wp2
      go_ret
      have hgw := HBB.out.2
      have q3 : Past w w3 := HPC.out.trans HP3.out
      have hg3 : g < w3.heap.size := Nat.lt_of_lt_of_le hgw q3.size
      have hgs : g < (w3.setCell ⟨g, o, none⟩ (.string (txt (rtx y)))).heap.size := by rw [World.size_setCell]; exact hg3
      refine ⟨grown_past (grown_set q3 g o _) HP4.out, fun j => ?_, ?_, fun j hj => ?_, rfl⟩
      · rw [(Past.rules HP4.out).2 g j hgs, World.frozen?_setCell, (Past.rules q3).2 g j hgw]
      · refine HP4.out.cell (v := .string (txt (rtx y))) ?_
        exact World.cell?_setCell_same _ _ _ HAX.out
      · rw [(Past.rules HP4.out).1 g j hgs, World.cell?_setCell_other _ _ _ _ (by intro e; injection e with _ e; exact hj e.symm), (Past.rules q3).1 g j hgw]

end Go.Proofs.YtdcjibjldfjllaaGreat

/- barcode.each over Ratio.Mul. -/
namespace Go.Proofs.YtdcjibjldfjllaaGreat
open Go.RowKit

set_option maxRecDepth 100000 in
set_option maxHeartbeats 4000000 in
theorem each1_mul (w0 w : World) (gf g o : Nat) (s : Bool) (A : Option Addr) (n c : Nat) (t : Bool) (B : Option Addr) (m d : Nat) (r : Rat) (x : ByteArray)
    (hcell : w0.cell? ⟨gf, 0, none⟩ = some (.func (.func 95) #[.agg #[.bool s, .slice A n c, .bool t, .slice B m d]] #[])) (hr : RQ w0 s A n c t B m d r) (hlr : lenQ r < 8589934592)
    (hp : Past w0 w) (hg : w0.heap.size ≤ g) (hx : w.cell? ⟨g, o, none⟩ = some (.string x)) (hfz : w.frozen? ⟨g, o, none⟩ = false) (hsz : x.size ≤ 100000000) (hl : isInf (byt x) = false → lenQ (r * valR (byt x)) < 8589934592) :
    Calls Tryz.prog 142 #[.pointer (some ⟨g, o, none⟩), .pointer (some ⟨gf, 0, none⟩)] w fun e w' => w.grownBy w' (some g) ∧ (∀ j, w'.frozen? ⟨g, j, none⟩ = w.frozen? ⟨g, j, none⟩) ∧ w'.cell? ⟨g, o, none⟩ = some (.string (eachT (fun q => r * q) x)) ∧ (∀ j, j ≠ o → w'.cell? ⟨g, j, none⟩ = w.cell? ⟨g, j, none⟩) ∧ e = .returned (.bool (eachOk (fun q => r * q) x)) := by
  have HC := Lib.hid (hp.cell hcell)
  have HR := Lib.hid (hr.past hp)
  have HLR := Lib.hid hlr
  have HX := Lib.hid (And.intro hx hfz)
  have HSZ := Lib.hid hsz
  have HL := Lib.hid hl
  have HIE := Lib.hid (inf_eq x)
  obtain ⟨iv, hiv⟩ : ∃ z, isInf (byt x) = z := ⟨_, rfl⟩
  have hq1 : (x.toList == [105, 110, 102]) = iv := by rw [HIE.out, hiv]
  have HIV := Lib.hid hiv
  have e1 : w.cell? ⟨gf, 0, none⟩ = some (.func (.func 95) #[.agg #[.bool s, .slice A n c, .bool t, .slice B m d]] #[]) := HC.out
  clear hcell hr hlr hp hsz hl hiv
  go_enter Tryz.func142, Tryz.ntmps142
  cases iv with
  | true =>
    have hT : eachT (fun q => r * q) x = x := by unfold eachT; rw [if_pos HIV.out]
    have hO : eachOk (fun q => r * q) x = true := by unfold eachOk; rw [HIV.out]; rfl
    rw [hT, hO]
    have HX2 := Lib.hid HX.out.1
    go_wp2
    go_ret
    exact ⟨⟨rfl, rfl, rfl, Nat.le_refl _, fun _ _ _ => rfl⟩, fun _ => rfl, HX2.out, fun _ _ => rfl, rfl⟩
  | false =>
    have HLF : Hid (lenQ (r * valR (byt x)) < 8589934592) := HL.out HIV.out
    have HLX : Hid (lenQ (valR (byt x)) < 8589934592) := by have h1 := lenQ_valR (byt x); rw [byt_length] at h1; have := HSZ.out; unfold Hid; omega
    obtain ⟨y, hy⟩ : ∃ y, r * valR (byt x) = y := ⟨_, rfl⟩
    have hT : eachT (fun q => r * q) x = tQ y := by unfold eachT; rw [if_neg (by rw [HIV.out]; simp), ← hy]
    have hO : eachOk (fun q => r * q) x = !longQ y := by unfold eachOk; rw [HIV.out, ← hy]; rfl
    rw [hT, hO]
    rw [hy] at HLF
    have HY := Lib.hid hy
    clear hy hT hO
    have HB := Lib.hid (World.block_lt_of_cell? w _ HX.out.1)
    have PD : Hid (Past w w.drew) := (Past.refl w).drew
    have HC2 : Hid (w.cell? ⟨gf, 0, none⟩ = some (.func (.func 95) #[.agg #[.bool s, .slice A n c, .bool t, .slice B m d]] #[]) ∧ w.cell? ⟨g, o, none⟩ = some (.string x)) := ⟨HC.out, HX.out.1⟩
    have HBB : Hid (gf < w.heap.size ∧ g < w.heap.size) := ⟨World.block_lt_of_cell? w _ HC.out, HB.out⟩
    go_upto_region 3 with fail
    go_cut [4] (fun pv wx => ∃ (z : Nat) (s2 : Bool) (A2 : Option Addr) (n2 c2 : Nat) (t2 : Bool) (B2 : Option Addr) (m2 d2 : Nat), pv = .pointer (some ⟨z, 0, none⟩) ∧ Hid (BoxQ w wx z s2 A2 n2 c2 t2 B2 m2 d2 y))
    case first =>
      go_region_held3 (fun w' => w'.cell? ⟨gf, 0, none⟩ = some (.func (.func 95) #[.agg #[.bool s, .slice A n c, .bool t, .slice B m d]] #[]) ∧ w'.cell? ⟨g, o, none⟩ = some (.string x)) (first | (with_reducible exact keep2 ((Past.refl _).alloc _) HS2.out) | (with_reducible exact HS2.out) | (with_reducible exact keep2 ((Past.refl _).alloc _) HS1.out) | (with_reducible exact HS1.out) | (with_reducible exact keep2 (Past.drew ((Past.refl w).alloc _)) HC2.out) | (with_reducible exact keep2 ((Past.refl _).alloc _) HC2.out) | (with_reducible exact keep2_set4 HS2.out HBB.out.1 HBB.out.2 (Nat.le_refl _)) | (with_reducible exact keep2_set4 HS2.out HBB.out.1 HBB.out.2 PW1.out.size) | (refine keep2 PD.out ?_; exact HC2.out))
        (first
          | (go_at_call 95; (first | (with_reducible refine (ratio_mul s t A B n c m d s1 t1 A1 B1 n1 c1 m1 d1 r (valR (byt x)) _ (HR.out.past PW1.out) HR1.out ⟨HLR.out, HLX.out⟩).mono ?_) | (with_reducible refine (ratio_mul s t A B n c m d s1 t1 A1 B1 n1 c1 m1 d1 r (valR (byt x)) _ (HR.out.past (PW1.out.alloc _)) (HR1.out.past ((Past.refl _).alloc _)) ⟨HLR.out, HLX.out⟩).mono ?_)); rintro e w2 ⟨hp2, s2, A2, n2, c2, t2, B2, m2, d2, rfl, hr2⟩; (first | (with_reducible have PW2 := Lib.hid (PW1.out.trans hp2)) | (with_reducible have PW2 := Lib.hid ((PW1.out.alloc _).trans hp2))); (first | (with_reducible have HS2 := Lib.hid (keep2 hp2 HS1.out)) | (with_reducible have HS2 := Lib.hid (keep2 hp2 (keep2 ((Past.refl _).alloc _) HS1.out)))); (first | ((with_reducible have QB2 := Lib.hid (QB1.out.past hp2)); obtain ⟨⟨z20, y20⟩, ⟨z21, y21⟩, ⟨z22, y22⟩, ⟨z23, y23⟩⟩ := QB2.out) | ((with_reducible have QB3 := Lib.hid ((q_new w1).past hp2)); obtain ⟨⟨z20, y20⟩, ⟨z21, y21⟩, ⟨z22, y22⟩, ⟨z23, y23⟩⟩ := QB3.out) | skip); have HR2 := Lib.hid hr2; clear hp2 hr2)
          | (go_at_call 89; ((with_reducible refine (bar_number x _ HSZ.out).mono ?_)); rintro e w1 ⟨hp1, s1, A1, n1, c1, t1, B1, m1, d1, rfl, hr1⟩; have HR1 := Lib.hid hr1; (first | (with_reducible have PW1 := Lib.hid (PD.out.trans hp1)) | (with_reducible have PW1 := Lib.hid (Past.trans (Past.drew ((Past.refl w).alloc _)) hp1))); (first | (with_reducible have HS1 := Lib.hid (keep2 hp1 (keep2 PD.out HC2.out))) | (with_reducible have HS1 := Lib.hid (keep2 hp1 (keep2 (Past.drew ((Past.refl w).alloc _)) HC2.out)))); (first | ((with_reducible have QB1 := Lib.hid (((q_new w).past (Past.refl _).drew).past hp1)); obtain ⟨⟨z10, y10⟩, ⟨z11, y11⟩, ⟨z12, y12⟩, ⟨z13, y13⟩⟩ := QB1.out) | skip); clear hp1 hr1))
      · go_wp2_with fail
        go_meet
        case rel => exact ⟨_, _, _, _, _, _, _, _, _, rfl, by rw [← HY.out]; exact new_rat PW2.out HR2.out⟩
      · go_wp2_with fail
        go_meet
        case rel => exact ⟨_, _, _, _, _, _, _, _, _, rfl, by rw [← HY.out]; exact put_rat QB3.out HR2.out PW2.out PW1.out.size⟩
      · go_wp2_with fail
        go_meet
        case rel => exact ⟨_, _, _, _, _, _, _, _, _, rfl, by rw [← HY.out]; exact put_rat QB2.out HR2.out PW2.out (Nat.le_refl _)⟩
    case rest =>
      obtain ⟨z, s2, A2, n2, c2, t2, B2, m2, d2, rfl, HBX⟩ := hcut
      have HPC := Lib.hid HBX.out.2.2.1
      have hne : g ≠ z := by have := HBB.out.2; have := HBX.out.2.2.2; omega
      have hne' : z ≠ g := fun h => hne h.symm
      obtain ⟨⟨z0, y0⟩, ⟨z1, y1⟩, ⟨z2, y2⟩, ⟨z3, y3⟩⟩ := HBX.out.1
      obtain ⟨ex, fx⟩ := HPC.out.free HX.out.1 HX.out.2
      clear e1 hq1
      go_wp2_with fail
      refine (ratio_text s2 t2 A2 B2 n2 c2 m2 d2 y _ HBX.out.2.1 HLF.out).mono ?_
      rintro e w3 ⟨hp3, rfl⟩
      have HP3 := Lib.hid hp3
      obtain ⟨a0, -⟩ := hp3.free z0 y0
      obtain ⟨a1, -⟩ := hp3.free z1 y1
      obtain ⟨a2, -⟩ := hp3.free z2 y2
      obtain ⟨a3, -⟩ := hp3.free z3 y3
      obtain ⟨ax, afx⟩ := hp3.free ex fx
      have HAX := Lib.hid ax
      have HR3 : Hid (RQ (w3.setCell ⟨g, o, none⟩ (.string (txt (rtx y)))) s2 A2 n2 c2 t2 B2 m2 d2 y) := (HBX.out.2.1.past hp3).setStr HAX.out _
      clear hp3 z0 z1 z2 z3 y0 y1 y2 y3 ex fx
      go_wp2_with fail
      refine (ratio_long s2 t2 A2 B2 n2 c2 m2 d2 y _ HR3.out HLF.out).mono ?_
      rintro e w4 ⟨hp4, rfl⟩
      have HP4 := Lib.hid hp4
      clear hp4 a0 a1 a2 a3 ax afx
      go_wp2
      go_ret
      have hgw := HBB.out.2
      have q3 : Past w w3 := HPC.out.trans HP3.out
      have hg3 : g < w3.heap.size := Nat.lt_of_lt_of_le hgw q3.size
      have hgs : g < (w3.setCell ⟨g, o, none⟩ (.string (txt (rtx y)))).heap.size := by rw [World.size_setCell]; exact hg3
      refine ⟨grown_past (grown_set q3 g o _) HP4.out, fun j => ?_, ?_, fun j hj => ?_, rfl⟩
      · rw [(Past.rules HP4.out).2 g j hgs, World.frozen?_setCell, (Past.rules q3).2 g j hgw]
      · refine HP4.out.cell (v := .string (txt (rtx y))) ?_
        exact World.cell?_setCell_same _ _ _ HAX.out
      · rw [(Past.rules HP4.out).1 g j hgs, World.cell?_setCell_other _ _ _ _ (by intro e; injection e with _ e; exact hj e.symm), (Past.rules q3).1 g j hgw]

end Go.Proofs.YtdcjibjldfjllaaGreat

/- barcode.each: the change of a bar. -/
namespace Go.Proofs.YtdcjibjldfjllaaGreat
open Go.RowKit

/-- A change of one end, over a function. -/
def OneOk (w0 : World) (gf : Nat) (F : Rat → Rat) : Prop := ∀ (w : World) (g o : Nat) (x : ByteArray), Past w0 w → w0.heap.size ≤ g → w.cell? ⟨g, o, none⟩ = some (.string x) → w.frozen? ⟨g, o, none⟩ = false → x.size ≤ 100000000 → (isInf (byt x) = false → lenQ (F (valR (byt x))) < 8589934592) →
    Calls Tryz.prog 142 #[.pointer (some ⟨g, o, none⟩), .pointer (some ⟨gf, 0, none⟩)] w fun e w' => w.grownBy w' (some g) ∧ (∀ j, w'.frozen? ⟨g, j, none⟩ = w.frozen? ⟨g, j, none⟩) ∧ w'.cell? ⟨g, o, none⟩ = some (.string (eachT F x)) ∧ (∀ j, j ≠ o → w'.cell? ⟨g, j, none⟩ = w.cell? ⟨g, j, none⟩) ∧ e = .returned (.bool (eachOk F x))

/-- What each's change does to a bar. -/
def eachChg (F : Rat → Rat) : Chg := fun b => (⟨b.d, eachT F b.x, eachT F b.y⟩, eachOk F b.x && eachOk F b.y, if eachOk F b.x && eachOk F b.y then 0 else 3)
def eachPre (F : Rat → Rat) (b : Bar) : Prop := okBar b ∧ (isInf (byt b.x) = false → lenQ (F (valR (byt b.x))) < 8589934592) ∧ (isInf (byt b.y) = false → lenQ (F (valR (byt b.y))) < 8589934592)

theorem longQ_dl {q : Rat} (h : longQ q = false) : tlQ q ≤ 1001 := by
  unfold longQ at h
  simp only [Bool.or_eq_false_iff, decide_eq_false_iff_not] at h
  have h1 := tlQ_le q
  have h2 : dlQ q ≤ 1000 := by
    have a : dlen10 q.num = dlen q.num := rfl
    have b : dlen10 (q.den : Int) = dlen (q.den : Int) := rfl
    unfold dlQ; rw [a, b]; omega
  omega

theorem past_grow {w0 w w1 : World} {g : Nat} (hp : Past w0 w) (hg : w.grownBy w1 (some g)) (h : w0.heap.size ≤ g) : Past w0 w1 :=
  hp.grown hg (fun k hk => by injection hk with hk; omega)

set_option maxRecDepth 100000 in
set_option maxHeartbeats 8000000 in
theorem each2_chg (w0 : World) (gf go : Nat) (F : Rat → Rat) (hone : w0.cell? ⟨go, 0, none⟩ = some (.func (.func 142) #[] #[.pointer (some ⟨gf, 0, none⟩)])) (hok : OneOk w0 gf F) (G' : Bar → Prop) (hG : ∀ b, eachPre F b → (eachChg F b).2.1 = true → G' (eachChg F b).1) :
    ChgOk2 w0 (.func (.func 143) #[] #[.pointer (some ⟨go, 0, none⟩)]) (eachChg F) (eachPre F) G' := by
  refine ⟨_, _, rfl, fun args w => by simp [go_sem], fun w g b hp hg hb hf hpre => ?_⟩
  have HG := Lib.hid (hG b hpre)
  obtain ⟨b0, b1, b2⟩ := b
  have e1 : w.cell? ⟨g, 1, none⟩ = some (.string b1) := hb.2.1
  have e2 : w.cell? ⟨g, 2, none⟩ = some (.string b2) := hb.2.2
  have E0 : Hid (w.cell? ⟨g, 0, none⟩ = some (.int .i64 b0)) := hb.1
  have E1 := Lib.hid e1
  have E2 := Lib.hid e2
  have HF := Lib.hid hf
  have P1 : Hid (b1.size ≤ 100000000) := hpre.1.1.1
  have P2 : Hid (b2.size ≤ 100000000) := hpre.1.1.2
  have L1 : Hid (isInf (byt b1) = false → lenQ (F (valR (byt b1))) < 8589934592) := hpre.2.1
  have L2 : Hid (isInf (byt b2) = false → lenQ (F (valR (byt b2))) < 8589934592) := hpre.2.2
  have HOK : Hid (∀ (w : World) (g o : Nat) (x : ByteArray), Past w0 w → w0.heap.size ≤ g → w.cell? ⟨g, o, none⟩ = some (.string x) → w.frozen? ⟨g, o, none⟩ = false → x.size ≤ 100000000 → (isInf (byt x) = false → lenQ (F (valR (byt x))) < 8589934592) → Calls Tryz.prog 142 #[.pointer (some ⟨g, o, none⟩), .pointer (some ⟨gf, 0, none⟩)] w fun e w' => w.grownBy w' (some g) ∧ (∀ j, w'.frozen? ⟨g, j, none⟩ = w.frozen? ⟨g, j, none⟩) ∧ w'.cell? ⟨g, o, none⟩ = some (.string (eachT F x)) ∧ (∀ j, j ≠ o → w'.cell? ⟨g, j, none⟩ = w.cell? ⟨g, j, none⟩) ∧ e = .returned (.bool (eachOk F x))) := hok
  have HONE := Lib.hid hone
  have HGG := Lib.hid hg
  have ef := hp.cell hone
  have PW0 : Hid (Past w0 w.drew) := hp.drew
  have E1d : Hid (w.drew.cell? ⟨g, 1, none⟩ = some (.string b1)) := e1
  have E2d : Hid (w.drew.cell? ⟨g, 2, none⟩ = some (.string b2)) := e2
  have HFd : Hid (∀ j, w.drew.frozen? ⟨g, j, none⟩ = false) := hf
  obtain ⟨o1, ho1⟩ : ∃ x, eachOk F b1 = x := ⟨_, rfl⟩
  obtain ⟨o2, ho2⟩ : ∃ x, eachOk F b2 = x := ⟨_, rfl⟩
  have hchg : eachChg F ⟨b0, b1, b2⟩ = (⟨b0, eachT F b1, eachT F b2⟩, o1 && o2, if (o1 && o2) = true then 0 else 3) := by unfold eachChg; dsimp only; rw [ho1, ho2]
  rw [hchg] at HG ⊢
  have HO1 := Lib.hid ho1
  have HO2 := Lib.hid ho2
  clear hok hone hpre hf hb hp ho1 ho2 hchg hG
  show Calls _ _ #[.pointer (some ⟨g, 0, none⟩), .pointer (some ⟨go, 0, none⟩)] w _
  dsimp only at HG ⊢
  have fin : ∀ w1 w2 : World, w.drew.grownBy w1 (some g) → w1.grownBy w2 (some g) → (∀ j, w1.frozen? ⟨g, j, none⟩ = w.frozen? ⟨g, j, none⟩) → (∀ j, w2.frozen? ⟨g, j, none⟩ = w1.frozen? ⟨g, j, none⟩) → w1.cell? ⟨g, 1, none⟩ = some (.string (eachT F b1)) → (∀ j, j ≠ 1 → w1.cell? ⟨g, j, none⟩ = w.cell? ⟨g, j, none⟩) → w2.cell? ⟨g, 2, none⟩ = some (.string (eachT F b2)) → (∀ j, j ≠ 2 → w2.cell? ⟨g, j, none⟩ = w1.cell? ⟨g, j, none⟩) →
      w.grownBy w2 (some g) ∧ BarAt w2 g 0 ⟨b0, eachT F b1, eachT F b2⟩ ∧ ∀ j, w2.frozen? ⟨g, j, none⟩ = false := fun w1 w2 h1 h2 h3 h4 h5 h6 h7 h8 =>
    ⟨⟨h2.os.trans h1.os, h2.tape.trans h1.tape, h2.output.trans h1.output, Nat.le_trans h1.size h2.size, fun k hk hne => (h2.block k (Nat.lt_of_lt_of_le hk h1.size) hne).trans (h1.block k hk hne)⟩,
      ⟨by exact (h8 0 (by omega)).trans ((h6 0 (by omega)).trans E0.out), by exact (h8 1 (by omega)).trans h5, by exact h7⟩, fun j => (h4 j).trans ((h3 j).trans (HF.out j))⟩
  have FIN := Lib.hid fin
  clear fin
  cases o1 <;> cases o2 <;> (
    go_enter Tryz.func143, Tryz.ntmps143
    go_wp2_with fail
    go_region_held3 (fun w' => w'.cell? ⟨go, 0, none⟩ = some (.func (.func 142) #[] #[.pointer (some ⟨gf, 0, none⟩)])) (first | (with_reducible exact PW2.out.cell HONE.out) | (with_reducible exact PW1.out.cell HONE.out) | (refine PW0.out.cell ?_; exact HONE.out))
      (first
        | (go_at_call 142; ((with_reducible refine (HOK.out _ g 2 b2 PW1.out HGG.out ((HC1.out 2 (by omega)).trans E2d.out) ((HF1.out 2).trans (HFd.out 2)) P2.out L2.out).mono ?_)); rintro e w2 ⟨hg2, hf2, hc2, hx2, rfl⟩; have PW2 := Lib.hid (past_grow PW1.out hg2 HGG.out); have HG2 := Lib.hid hg2; have HF2 := Lib.hid hf2; have HX2 := Lib.hid hc2; have HC2 := Lib.hid hx2; clear hg2 hf2 hc2 hx2)
        | (go_at_call 142; ((with_reducible refine (HOK.out _ g 1 b1 PW0.out HGG.out E1d.out (HFd.out 1) P1.out L1.out).mono ?_)); rintro e w1 ⟨hg1, hf1, hc1, hx1, rfl⟩; have PW1 := Lib.hid (past_grow PW0.out hg1 HGG.out); have HG1 := Lib.hid hg1; have HF1 := Lib.hid hf1; have HX1 := Lib.hid hc1; have HC1 := Lib.hid hx1; clear hg1 hf1 hc1 hx1))
    rw [HO1.out, HO2.out]
    go_wp2
    go_ret2
    have h := FIN.out w1 w2 HG1.out HG2.out HF1.out HF2.out HX1.out HC1.out HX2.out HC2.out
    first | exact ⟨h.1, h.2.1, h.2.2, HG.out rfl, rfl⟩ | exact ⟨h.1, h.2.1, h.2.2, rfl⟩ | exact ⟨h.1, h.2.1, h.2.2, HG.out, rfl⟩)

end Go.Proofs.YtdcjibjldfjllaaGreat
