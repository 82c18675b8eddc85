/- Helpers of the proof, joined: Aw1 Aw2 Aw3. -/
import Derived.Test.YtdcjibjldfjllaaGreatPGr
import Derived.Test.YtdcjibjldfjllaaGreatPGp
set_option linter.unusedVariables false
set_option linter.unusedSimpArgs false
/- The chapter's example: what the functions answer there. -/
namespace Go.Proofs.YtdcjibjldfjllaaGreat
open Go.RowKit

def exB : List Bar := [⟨0, ⟨#[48]⟩, ⟨#[49]⟩⟩, ⟨0, ⟨#[48]⟩, ⟨#[105, 110, 102]⟩⟩, ⟨0, ⟨#[49, 47, 50]⟩, ⟨#[49]⟩⟩, ⟨1, ⟨#[50]⟩, ⟨#[51]⟩⟩]
def exC : List Bar := [⟨0, ⟨#[49, 47, 50]⟩, ⟨#[49]⟩⟩, ⟨0, ⟨#[49, 47, 50]⟩, ⟨#[49]⟩⟩, ⟨0, ⟨#[49, 47, 50]⟩, ⟨#[53, 47, 50]⟩⟩, ⟨1, ⟨#[50]⟩, ⟨#[53, 47, 50]⟩⟩]
def exD : List Bar := [⟨1, ⟨#[50]⟩, ⟨#[51]⟩⟩]
def Bar.trip (b : Bar) : Int × ByteArray × ByteArray := (b.d, b.x, b.y)
theorem trip_inj {a b : List Bar} (h : a.map Bar.trip = b.map Bar.trip) : a = b := by
  refine (List.map_inj_right ?_).1 h
  rintro ⟨d, x, y⟩ ⟨d', x', y'⟩ e
  simp only [Bar.trip, Prod.mk.injEq] at e
  obtain ⟨rfl, rfl, rfl⟩ := e
  rfl
theorem ex_check : checkB exB = 0 := by decide +kernel
theorem ex_check1 : checkB exD = 0 := by decide +kernel
theorem ex_betti : rankB exB 0 ⟨#[49, 47, 50]⟩ ⟨#[49, 47, 50]⟩ = (3, 0) := by decide +kernel
theorem ex_rank : rankB exB 0 ⟨#[48]⟩ ⟨#[51, 47, 52]⟩ = (2, 0) := by decide +kernel
theorem ex_total : totalB exB 0 = (⟨#[51, 47, 50]⟩, 0) := by decide +kernel
theorem ex_clip2 : (clipB exB ⟨#[49, 47, 50]⟩ ⟨#[53, 47, 50]⟩).2 = 0 := by decide +kernel
theorem ex_clip1 : (clipB exB ⟨#[49, 47, 50]⟩ ⟨#[53, 47, 50]⟩).1.map Bar.trip = exC.map Bar.trip := by decide +kernel
theorem ex_format : formatB exD = (⟨#[49, 32, 50, 32, 51, 10]⟩, 0) := by decide +kernel
theorem ex_txt : txtB exD = ⟨#[49, 32, 50, 32, 51, 10]⟩ := by decide +kernel
theorem ex_len : ((dimB exB 0).1.length) = 3 := by decide +kernel

theorem ex_fit : ∀ b ∈ exB, b.fit := by
  intro b hb
  simp only [exB, List.mem_cons, List.not_mem_nil, or_false] at hb
  rcases hb with rfl | rfl | rfl | rfl <;> exact ⟨by decide, by decide⟩
theorem ex_fitD : ∀ b ∈ exD, b.fit := by
  intro b hb
  simp only [exD, List.mem_cons, List.not_mem_nil, or_false] at hb
  subst hb
  exact ⟨by decide, by decide⟩
theorem ex_cleanD : ∀ b ∈ exD, clean b.x ∧ clean b.y := by
  intro b hb
  simp only [exD, List.mem_cons, List.not_mem_nil, or_false] at hb
  subst hb
  have h1 : ∀ b ∈ (⟨#[50]⟩ : ByteArray).data.toList, (b != 32 && b != 10) = true ∧ b.toNat < 128 := by decide
  have h2 : ∀ b ∈ (⟨#[51]⟩ : ByteArray).data.toList, (b != 32 && b != 10) = true ∧ b.toNat < 128 := by decide
  exact ⟨h1, h2⟩
theorem ex_sum : ∀ i, i ≤ (dimB exB 0).1.length → lenQ (sumB ((dimB exB 0).1.take i)) < 8589934592 := by
  have h : ∀ i : Fin 4, lenQ (sumB ((dimB exB 0).1.take i.val)) < 8589934592 := by decide +kernel
  intro i hi
  rw [ex_len] at hi
  exact h ⟨i, by omega⟩
def ownAt (i : Nat) : Bar := (dimB exB 0).1.getD i ⟨0, ⟨#[]⟩, ⟨#[]⟩⟩
theorem ex_sum2 : ∀ i (h : i < (dimB exB 0).1.length), lenQ (sumB ((dimB exB 0).1.take i) + valR (byt ((dimB exB 0).1[i]).y)) < 8589934592 := by
  have h : ∀ i : Fin 3, lenQ (sumB ((dimB exB 0).1.take i.val) + valR (byt (ownAt i.val).y)) < 8589934592 := by decide +kernel
  intro i hi
  have h1 := hi
  rw [ex_len] at h1
  have h2 := h ⟨i, h1⟩
  have e : ownAt i = (dimB exB 0).1[i] := by unfold ownAt; rw [List.getD_eq_getElem?_getD, List.getElem?_eq_getElem hi]; rfl
  rw [← e]
  exact h2

end Go.Proofs.YtdcjibjldfjllaaGreat

/- toruslaw20.example, awake. -/
namespace Go.Proofs.YtdcjibjldfjllaaGreat
open Go.RowKit

def arrB : Array Value := #[.int .i64 0, .string ⟨#[48]⟩, .string ⟨#[49]⟩, .int .i64 0, .string ⟨#[48]⟩, .string ⟨#[105, 110, 102]⟩, .int .i64 0, .string ⟨#[49, 47, 50]⟩, .string ⟨#[49]⟩, .int .i64 1, .string ⟨#[50]⟩, .string ⟨#[51]⟩]
theorem rows_of_block {w : World} {g o n c : Nat} {arr : Array Value} {bs : List Bar} (hg : w.heap[g]? = some (.cells arr 94 (0, 0))) (hn : bs.length = n) (hc : n ≤ c) (hc2 : c ≤ 9223372036854775807) (ha : ∀ j (h : j < bs.length) i u, (rBar.enc bs[j])[i]? = some u → arr[o + j * 3 + i]? = some u) :
    Rows w rBar (some ⟨g, o, none⟩) n c bs :=
  ⟨hn, hc, hc2, fun _ => ⟨g, o, rfl, fun j hj i u hu => by rw [Lib.cell_of_heap hg]; exact ha j hj i u hu⟩⟩

theorem law_example (w : World) : Calls Tryz.prog 60 #[] w fun e w' => Past w w' ∧ e = .returned (.slice (some ⟨w.heap.size, 0, none⟩) 4 4) ∧ w'.heap[w.heap.size]? = some (.cells arrB 94 (0, 0)) := by
  go_enter Tryz.func60, Tryz.ntmps60
  go_wp2
  go_ret
  exact ⟨(Past.refl _).alloc _, rfl, heap_new _ _⟩

end Go.Proofs.YtdcjibjldfjllaaGreat

/- toruslaw20.awake. -/
namespace Go.Proofs.YtdcjibjldfjllaaGreat
open Go.RowKit

def arrC : Array Value := #[.int .i64 0, .string ⟨#[49, 47, 50]⟩, .string ⟨#[49]⟩, .int .i64 0, .string ⟨#[49, 47, 50]⟩, .string ⟨#[49]⟩, .int .i64 0, .string ⟨#[49, 47, 50]⟩, .string ⟨#[53, 47, 50]⟩, .int .i64 1, .string ⟨#[50]⟩, .string ⟨#[53, 47, 50]⟩]
theorem rowsB {w : World} {g : Nat} (h : w.heap[g]? = some (.cells arrB 94 (0, 0))) : Rows w rBar (some ⟨g, 0, none⟩) 4 4 exB := by
  refine rows_of_block h rfl (Nat.le_refl _) (by omega) ?_
  intro j hj i u hu
  match j, hj with
  | 0, _ => match i, hu with
    | 0, hu => exact hu
    | 1, hu => exact hu
    | 2, hu => exact hu
  | 1, _ => match i, hu with
    | 0, hu => exact hu
    | 1, hu => exact hu
    | 2, hu => exact hu
  | 2, _ => match i, hu with
    | 0, hu => exact hu
    | 1, hu => exact hu
    | 2, hu => exact hu
  | 3, _ => match i, hu with
    | 0, hu => exact hu
    | 1, hu => exact hu
    | 2, hu => exact hu
theorem rowsD {w : World} {g : Nat} (h : w.heap[g]? = some (.cells arrB 94 (0, 0))) : Rows w rBar (some ⟨g, 9, none⟩) 1 1 exD := by
  refine rows_of_block h rfl (Nat.le_refl _) (by omega) ?_
  intro j hj i u hu
  match j, hj with
  | 0, _ => match i, hu with
    | 0, hu => exact hu
    | 1, hu => exact hu
    | 2, hu => exact hu
theorem rowsC {w : World} {g : Nat} (h : w.heap[g]? = some (.cells arrC 94 (0, 0))) : Rows w rBar (some ⟨g, 0, none⟩) 4 4 exC := by
  refine rows_of_block h rfl (Nat.le_refl _) (by omega) ?_
  intro j hj i u hu
  match j, hj with
  | 0, _ => match i, hu with
    | 0, hu => exact hu
    | 1, hu => exact hu
    | 2, hu => exact hu
  | 1, _ => match i, hu with
    | 0, hu => exact hu
    | 1, hu => exact hu
    | 2, hu => exact hu
  | 2, _ => match i, hu with
    | 0, hu => exact hu
    | 1, hu => exact hu
    | 2, hu => exact hu
  | 3, _ => match i, hu with
    | 0, hu => exact hu
    | 1, hu => exact hu
    | 2, hu => exact hu

set_option maxRecDepth 100000 in
set_option maxHeartbeats 4000000 in
theorem law_awake (w : World) : Calls Tryz.prog 15 #[] w fun e w' => Past w w' ∧ e = .returned (.bool true) := by
  have eb : rankB exB 0 ⟨#[49, 47, 50]⟩ ⟨#[49, 47, 50]⟩ = (3, 0) := ex_betti
  have ec : (clipB exB ⟨#[49, 47, 50]⟩ ⟨#[53, 47, 50]⟩).1 = exC := trip_inj ex_clip1
  have HEC := Lib.hid ec
  have HEB := Lib.hid eb
  clear eb ec
  go_enter Tryz.func15, Tryz.ntmps15
  go_wp2_with fail
  refine (law_example _).mono ?_
  rintro e w1 ⟨hp1, rfl, hg1⟩
  have HP1 := Lib.hid hp1
  have HG1 := Lib.hid hg1
  clear hp1 hg1
  go_wp2_with fail
  refine (bar_betti _ 4 4 exB 0 ⟨#[49, 47, 50]⟩ _ (rowsB HG1.out) ex_fit (by decide) (by decide)).mono ?_
  rintro e w2 ⟨hp2, rfl⟩
  rw [HEB.out]
  have HP2 := Lib.hid hp2
  clear hp2
  go_wp2_with fail
  refine (bar_rank _ 4 4 exB 0 ⟨#[48]⟩ ⟨#[51, 47, 52]⟩ _ ((rowsB HG1.out).past HP2.out) ex_fit (by decide) (by decide) (by decide)).mono ?_
  rintro e w3 ⟨hp3, rfl⟩
  rw [ex_rank]
  have HP3 : Hid (Past w1 w3) := HP2.out.trans hp3
  clear hp3
  go_wp2_with fail
  refine (bar_total _ 4 4 exB 0 _ ((rowsB HG1.out).past HP3.out) ex_fit (by decide) ex_sum ex_sum2).mono ?_
  rintro e w4 ⟨hp4, rfl⟩
  rw [ex_total]
  have HP4 : Hid (Past w1 w4) := HP3.out.trans hp4
  clear hp4
  go_wp2_with fail
  refine (bar_clip _ 4 4 exB ⟨#[49, 47, 50]⟩ ⟨#[53, 47, 50]⟩ _ ((rowsB HG1.out).past HP4.out) ex_fit (by decide) (by decide) (by decide)).mono ?_
  rintro e w5 ⟨hp5, v5, rfl, ho5, -⟩
  rw [ex_clip2]
  rw [HEC.out] at ho5
  obtain ⟨A5, c5, rfl, hr5⟩ := ho5.reads
  have HR5 : Hid (Rows w5 rBar A5 4 c5 exC) := hr5
  have HP5 : Hid (Past w1 w5) := HP4.out.trans hp5
  have HL5 : Hid (exC.length = 4) := rfl
  rw [HL5.out]
  clear hp5 ho5 hr5
  go_wp2_with fail
  refine (bar_format _ 1 1 exD _ ((rowsD HG1.out).past HP5.out) ex_fitD).mono ?_
  rintro e w6 ⟨hp6, rfl⟩
  rw [ex_format]
  have HP6 : Hid (Past w1 w6) := HP5.out.trans hp6
  have HR6 := Lib.hid (HR5.out.past hp6)
  clear hp6
  have hpr := bar_parse exD
  rw [ex_txt] at hpr
  have HPR := Lib.hid hpr
  clear hpr
  go_wp2_with fail
  refine (HPR.out _ ex_fitD ex_check1 ex_cleanD (by decide +kernel)).mono ?_
  rintro e w7 ⟨hp7, v7, rfl, ho7⟩
  obtain ⟨A7, c7, rfl, hr7⟩ := ho7.reads
  have HR7 : Hid (Rows w7 rBar A7 1 c7 exD) := hr7
  have HL7 : Hid (exD.length = 1) := rfl
  rw [HL7.out]
  have HP7 : Hid (Past w1 w7) := HP6.out.trans hp7
  have HR57 := Lib.hid (HR6.out.past hp7)
  clear hp7 ho7 hr7
  go_wp2_with fail
  refine (bar_check _ 4 4 exB _ ((rowsB HG1.out).past HP7.out) ex_fit).mono ?_
  rintro e w8 ⟨hp8, rfl⟩
  rw [ex_check]
  have HP8 : Hid (Past w1 w8) := HP7.out.trans hp8
  have HR58 := Lib.hid (HR57.out.past hp8)
  have HR78 := Lib.hid (HR7.out.past hp8)
  clear hp8
  go_wp2_with fail
  refine (ref_same A5 _ 4 c5 4 exC _ (HR58.out.past ((Past.refl _).alloc _)) (rowsC (heap_new _ _)) (by decide)).mono ?_
  rintro e w9 ⟨hp9, rfl⟩
  have HP9 : Hid (Past w1 w9) := (HP8.out.alloc _).trans hp9
  have HR79 := Lib.hid ((HR78.out.past ((Past.refl _).alloc _)).past hp9)
  clear hp9
  go_wp2_with fail
  refine (ref_same A7 _ 1 c7 1 exD _ HR79.out ((rowsD HG1.out).past HP9.out) (by decide)).mono ?_
  rintro e w10 ⟨hp10, rfl⟩
  go_wp2
  go_ret
  exact ⟨(HP1.out.trans HP9.out).trans hp10, rfl⟩

end Go.Proofs.YtdcjibjldfjllaaGreat
