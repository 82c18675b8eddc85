/- slices.SortFunc over ends by ratio.Cmp, at any length. -/
import Derived.Test.YtdcjibjldfjllaaGreatPMono
import Derived.Test.YtdcjibjldfjllaaGreatPGyh
import Derived.Shelf.SlSortCmp.Whole1
import Derived.Test.YtdcjibjldfjllaaGreatPGa
import Derived.Shelf.SlicesG.CompactS
import Derived.Sort.Grow
import Derived.Test.YtdcjibjldfjllaaGreatPGk
import Derived.Lib.SlicesCompact
import Derived.Test.YtdcjibjldfjllaaGreatPGn
import Derived.Test.YtdcjibjldfjllaaGreatPGp
set_option linter.unusedVariables false
set_option linter.unusedSimpArgs false
namespace Go.Proofs.YtdcjibjldfjllaaGreat
open Go.RowKit Go.Shelf Go.Sort

def renS : Ren :=
  { f := fun x => match x with
      | 6 => 115
      | 14 => 184 | 15 => 185 | 20 => 228
      | 21 => 229 | 22 => 230 | 23 => 231
      | 24 => 232 | 25 => 233 | 26 => 234
      | 27 => 235 | 28 => 236 | 29 => 237 | 46 => 258
      | 47 => 259 | 48 => 260 | 49 => 261 | 50 => 262
      | 57 => 270
      | n => n
    t := fun x => match x with
      | 0 => 0 | 3 => 3 | 4 => 4 | 5 => 5 | 9 => 9 | 22 => 83 | 24 => 36 | 25 => 38 | 39 => 169
      | 45 => 285 | 46 => 286 | 50 => 188 | 53 => 247 | 55 => 250 | 66 => 312 | 70 => 316 | 76 => 321 | 77 => 322
      | n => n
    g := fun n => n }
set_option maxRecDepth 100000 in
set_option maxHeartbeats 4000000 in
theorem laysS : SlLaysF.n6 Tryz.prog renS where
  mixed := by kernel_rfl
  f6 := ⟨Tryz.f115.name, by kernel_rfl, by kernel_rfl⟩
  f14 := ⟨Tryz.f184.name, by kernel_rfl, by kernel_rfl⟩
  f15 := by kernel_rfl
  f20 := ⟨Tryz.f228.name, by kernel_rfl, by kernel_rfl⟩
  f21 := ⟨Tryz.f229.name, by kernel_rfl, by kernel_rfl⟩
  f22 := ⟨Tryz.f230.name, by kernel_rfl, by kernel_rfl⟩
  f23 := ⟨Tryz.f231.name, by kernel_rfl, by kernel_rfl⟩
  f24 := ⟨Tryz.f232.name, by kernel_rfl, by kernel_rfl⟩
  f25 := ⟨Tryz.f233.name, by kernel_rfl, by kernel_rfl⟩
  f26 := ⟨Tryz.f234.name, by kernel_rfl, by kernel_rfl⟩
  f27 := ⟨Tryz.f235.name, by kernel_rfl, by kernel_rfl⟩
  f28 := by kernel_rfl
  f29 := by kernel_rfl
  f46 := ⟨Tryz.f258.name, by kernel_rfl, by kernel_rfl⟩
  f47 := by kernel_rfl
  f48 := by kernel_rfl
  f49 := ⟨Tryz.f261.name, by kernel_rfl, by kernel_rfl⟩
  f50 := ⟨Tryz.f262.name, by kernel_rfl, by kernel_rfl⟩
  f57 := ⟨Tryz.f270.name, by kernel_rfl, by kernel_rfl⟩
  t0 := by kernel_rfl
  a0 := fun w => by kernel_rfl
  z0 := fun w => by kernel_rfl
  v0 := fun w => by kernel_rfl
  t3 := by kernel_rfl
  a3 := fun w => by kernel_rfl
  z3 := fun w => by kernel_rfl
  v3 := fun w => by kernel_rfl
  t4 := by kernel_rfl
  a4 := fun w => by kernel_rfl
  z4 := fun w => by kernel_rfl
  v4 := fun w => by kernel_rfl
  t5 := by kernel_rfl
  a5 := fun w => by kernel_rfl
  z5 := fun w => by kernel_rfl
  v5 := fun w => by kernel_rfl
  t9 := by kernel_rfl
  a9 := fun w => by kernel_rfl
  z9 := fun w => by kernel_rfl
  v9 := fun w => by kernel_rfl
  t22 := by kernel_rfl
  a22 := fun w => by kernel_rfl
  z22 := fun w => by kernel_rfl
  v22 := fun w => by kernel_rfl
  a24 := fun w => by kernel_rfl
  z24 := fun w => by kernel_rfl
  t25 := by kernel_rfl
  a25 := fun w => by kernel_rfl
  z25 := fun w => by kernel_rfl
  v25 := fun w => by kernel_rfl
  t39 := by kernel_rfl
  a39 := fun w => by kernel_rfl
  z39 := fun w => by kernel_rfl
  v39 := fun w => by kernel_rfl
  t45 := by kernel_rfl
  a45 := fun w => by kernel_rfl
  z45 := fun w => by kernel_rfl
  v45 := fun w => by kernel_rfl
  t46 := by kernel_rfl
  a46 := fun w => by kernel_rfl
  z46 := fun w => by kernel_rfl
  v46 := fun w => by kernel_rfl
  t50 := by kernel_rfl
  a50 := fun w => by kernel_rfl
  z50 := fun w => by kernel_rfl
  v50 := fun w => by kernel_rfl
  t53 := by kernel_rfl
  a53 := fun w => by kernel_rfl
  z53 := fun w => by kernel_rfl
  v53 := fun w => by kernel_rfl
  t55 := by kernel_rfl
  a55 := fun w => by kernel_rfl
  z55 := fun w => by kernel_rfl
  v55 := fun w => by kernel_rfl
  t66 := by kernel_rfl
  a66 := fun w => by kernel_rfl
  z66 := fun w => by kernel_rfl
  v66 := fun w => by kernel_rfl
  t70 := by kernel_rfl
  a70 := fun w => by kernel_rfl
  z70 := fun w => by kernel_rfl
  v70 := fun w => by kernel_rfl
  t76 := by kernel_rfl
  a76 := fun w => by kernel_rfl
  z76 := fun w => by kernel_rfl
  v76 := fun w => by kernel_rfl
  t77 := by kernel_rfl
  a77 := fun w => by kernel_rfl
  z77 := fun w => by kernel_rfl
  v77 := fun w => by kernel_rfl

/-- An end whose text is not too long to be compared. -/
def EndS := { e : Option Rat // tlE e ≤ 1000 }
instance : Inhabited EndS := ⟨⟨none, by decide +kernel⟩⟩
def encS (e : EndS) : Value := .string (tE e.1)
def cfS (a b : EndS) : Int := cmpE a.1 b.1
theorem ltS (a b : EndS) : ltOf cfS a b = decide (cmpE a.1 b.1 < 0) := rfl

theorem swoS : SWO (ltOf cfS) where
  irrefl x := by rw [ltS, cmpE_self]; rfl
  trans x y z h1 h2 := by
    rw [ltS, decide_eq_true_iff] at *
    have h := cmpE_trans (e := x.1) (f := y.1) (g := z.1) (by omega) (by omega)
    have h3 : cmpE x.1 z.1 ≠ 0 := by
      intro h0
      have e := cmpE_eq.1 h0
      rw [e] at h1
      have := cmpE_neg y.1 z.1
      omega
    omega
  ntrans x y z h1 h2 := by
    rw [ltS, decide_eq_false_iff_not] at *
    have n1 := cmpE_neg x.1 y.1
    have n2 := cmpE_neg y.1 z.1
    have n3 := cmpE_neg x.1 z.1
    have h := cmpE_trans (e := z.1) (f := y.1) (g := x.1) (by omega) (by omega)
    omega

theorem past_grown {w w' : World} (h : Past w w') (hd : w.drawn ≤ w'.drawn) : ∃ q os, w' = grow (w.drewN q) os := by
  refine ⟨w'.drawn - w.drawn, w'.heap.extract w.heap.size w'.heap.size, ?_⟩
  obtain ⟨heap', tape', drawn', os', output'⟩ := w'
  have e1 : os' = w.os := h.os
  have e2 : tape' = w.tape := h.tape
  have e3 : output' = w.output := h.output
  have hs : w.heap.size ≤ heap'.size := h.size
  have hb : ∀ k, k < w.heap.size → heap'[k]? = w.heap[k]? := h.block
  have hd' : w.drawn ≤ drawn' := hd
  subst e1 e2 e3
  have eh : heap' = w.heap ++ heap'.extract w.heap.size heap'.size := by
    apply Array.ext_getElem?
    intro k
    by_cases hk : k < w.heap.size
    · rw [Array.getElem?_append_left hk]; exact hb k hk
    · rw [Array.getElem?_append_right (by omega), Array.getElem?_extract]
      by_cases hk2 : k < heap'.size
      · rw [if_pos (by omega)]; congr 1; omega
      · rw [if_neg (by omega), Array.getElem?_eq_none (by omega)]
  show World.mk heap' w.tape drawn' w.os w.output = World.mk (w.heap ++ heap'.extract w.heap.size heap'.size) w.tape (w.drawn + (drawn' - w.drawn)) w.os w.output
  rw [← eh, Nat.add_sub_cancel' hd']

theorem cmp_ends (a b : EndS) (w : World) : Calls Tryz.prog 79 #[encS a, encS b] w fun e w' => e = .returned (.int .i64 (cfS a b)) ∧ ∃ q os, w' = grow (w.drewN q) os := by
  have h := calls_drawn (ratio_Cmp (tE a.1) (tE b.1) w (Nat.le_trans (tE_sizeM a.2) (by decide)) (Nat.le_trans (tE_sizeM b.2) (by decide))) (fun w' h => by cases h.2)
  refine h.mono ?_
  rintro e w' ⟨⟨hp, rfl⟩, hd⟩
  exact ⟨by rw [cmpT_enc a.2 b.2]; rfl, past_grown hp hd⟩

theorem sort_ends (blk off cap : Nat) (d : Array EndS) (w : World) (hH : Holds encS w blk off d) (hblk : blk < w.heap.size) (hsz : d.size < 4611686018427387904) :
    Calls Tryz.prog 115 #[.slice (some ⟨blk, off, none⟩) d.size cap, .func (.func 79) #[] #[]] w fun e w' =>
      e = .returned (.tuple #[]) ∧ ∃ d' n os, PermIn 0 d.size d d' ∧ SortedIn (ltOf cfS) 0 d.size d' ∧ w' = sortWorld encS w blk off n d' os := by
  have eg : ∀ args w, (callFunc 79 args).run Tryz.prog w = .ok (.enter 79 args) w := enters_of Tryz.func79 (by kernel_rfl) rfl
  exact Any.slices_SortFunc laysS encS (fun _ => rfl) cfS swoS _ #[] blk off cap d w eg (fun m os dk _ x y => cmp_ends x y _) hH hblk hsz

end Go.Proofs.YtdcjibjldfjllaaGreat

namespace Go.Proofs.YtdcjibjldfjllaaGreat
open Go Go.RowKit Go.Shelf Go.Sort

def renK : Ren :=
  { f := fun x => match x with
      | 44 => 116
      | n => n
    t := fun x => match x with
      | 0 => 0 | 3 => 3 | 4 => 4 | 25 => 83 | 26 => 36
      | n => n
    g := fun n => n }
set_option maxRecDepth 100000 in
theorem laysK : SlLaysN.n44 Tryz.prog renK where
  mixed := by kernel_rfl
  f44 := ⟨Tryz.f116.name, by kernel_rfl, by kernel_rfl⟩
  t0 := by kernel_rfl
  a0 := fun w => by kernel_rfl
  z0 := fun w => by kernel_rfl
  v0 := fun w => by kernel_rfl
  t3 := by kernel_rfl
  a3 := fun w => by kernel_rfl
  z3 := fun w => by kernel_rfl
  v3 := fun w => by kernel_rfl
  t4 := by kernel_rfl
  a4 := fun w => by kernel_rfl
  z4 := fun w => by kernel_rfl
  v4 := fun w => by kernel_rfl
  t25 := by kernel_rfl
  a25 := fun w => by kernel_rfl
  z25 := fun w => by kernel_rfl
  v25 := fun w => by kernel_rfl
  t26 := by kernel_rfl
  a26 := fun w => by kernel_rfl
  z26 := fun w => by kernel_rfl
  v26 := fun w => by kernel_rfl
  i26 := by kernel_rfl

theorem compact_ends (blk off cap : Nat) (zs : List (List UInt8)) (w : World) (hH : Holds encStr w blk off zs.toArray) (hsz : zs.length ≤ 1000000000) (hcap : zs.length ≤ cap) :
    Calls Tryz.prog 116 #[.slice (some ⟨blk, off, none⟩) zs.length cap] w fun e w' => e = .returned (.slice (some ⟨blk, off, none⟩) (Lib.compact zs).length cap) ∧ ∃ q, w' = putRow encStr (Sort.ahead w q) blk off (Lib.compact zs ++ List.replicate (zs.length - (Lib.compact zs).length) []).toArray :=
  AnyG.slices_Compact_string laysK blk off cap zs w hH (by omega) hcap
theorem compact_none (a : Option Addr) (cap : Nat) (w : World) :
    Calls Tryz.prog 116 #[.slice a 0 cap] w fun e w' => e = .returned (.slice a 0 cap) ∧ w' = w :=
  AnyG.slices_Compact_string_empty laysK a cap w

end Go.Proofs.YtdcjibjldfjllaaGreat

namespace Go.Proofs.YtdcjibjldfjllaaGreat
open Go Go.RowKit Go.Shelf Go.Sort

theorem past_ahead {w0 w : World} (h : Past w0 w) (n : Nat) : Past w0 (Sort.ahead w n) := ⟨h.os, h.tape, h.output, h.size, h.block⟩
theorem past_growS {w0 w : World} (h : Past w0 w) (os : Array Obj) : Past w0 (grow w os) := by
  have hs : w0.heap.size ≤ w.heap.size := h.size
  refine ⟨h.os, h.tape, h.output, ?_, fun k hk => ?_⟩
  · show _ ≤ (w.heap ++ os).size
    rw [Array.size_append]; omega
  · show (w.heap ++ os)[k]? = _
    rw [Array.getElem?_append_left (by omega)]
    exact h.block k hk
theorem past_putRow {α : Type} [Inhabited α] {w0 w : World} (h : Past w0 w) (enc : α → Value) (blk off : Nat) (d : Array α) (hb : w0.heap.size ≤ blk) : Past w0 (putRow enc w blk off d) := by
  refine ⟨h.os, h.tape, h.output, ?_, fun k hk => ?_⟩
  · rw [size_putRow]; exact h.size
  · rw [← h.block k hk]
    unfold putRow mapBlock
    simp only [Array.getElem?_modify]
    rw [if_neg (by omega)]

/-- A row of texts, one a cell. -/
def rTx : Rep ByteArray := ⟨fun s => [.string s], 1, fun _ => rfl, by intro x u hu; simp at hu; subst hu; rfl, by decide⟩
theorem info_tx : ((Tryz.prog.info? 36).map fun i => (i.zero.map (·.cells), i.size, i.bytes)) = some (some #[.string ⟨#[]⟩], 1, 16) := by kernel_rfl
theorem el_tx : ElS Tryz.prog rTx 83 36 := by
  refine ⟨by kernel_rfl, ?_⟩
  have h := info_tx
  cases hi : Tryz.prog.info? 36 with
  | none => rw [hi] at h; cases h
  | some i =>
    rw [hi] at h
    simp only [Option.map_some, Option.some.injEq, Prod.mk.injEq] at h
    obtain ⟨h1, h2, h3⟩ := h
    cases hz : i.zero with
    | none => rw [hz] at h1; cases h1
    | some z =>
      rw [hz] at h1
      simp only [Option.map_some, Option.some.injEq] at h1
      exact ⟨i, z, rfl, hz, h2, by omega, by rw [h1]; rfl⟩

theorem holds_rows (w : World) (g : Nat) (zs : List (List UInt8)) (n c : Nat) (h : Holds encStr w g 0 zs.toArray) (hn : zs.length = n) (hc : n ≤ c) (hb : c ≤ 9223372036854775807) : Rows w rTx (some ⟨g, 0, none⟩) n c (zs.map fun l => (⟨l.toArray⟩ : ByteArray)) := by
  refine ⟨by rw [List.length_map]; exact hn, hc, hb, fun _ => ⟨g, 0, rfl, fun j hj i u hu => ?_⟩⟩
  have hj' : j < zs.length := by rw [List.length_map] at hj; exact hj
  have hi : i = 0 := by
    have := (List.getElem?_eq_some_iff.1 hu).1
    rw [rTx.len] at this
    have e : rTx.sz = 1 := rfl
    omega
  subst hi
  have h1 := (h j (by simpa using hj')).1
  have e2 : zs.toArray[j]! = zs[j] := by simp [hj']
  rw [e2] at h1
  have e3 : u = .string ⟨zs[j].toArray⟩ := by
    simp [rTx] at hu
    exact hu.symm
  have e4 : (0 + j * rTx.sz + 0) = 0 + j := by show 0 + j * 1 + 0 = _; omega
  rw [e3, e4]
  exact h1

end Go.Proofs.YtdcjibjldfjllaaGreat

namespace Go.Proofs.YtdcjibjldfjllaaGreat
open Go Go.RowKit Go.Shelf Go.Sort

def byL (e : Option Rat) : List UInt8 := (tE e).data.toList
theorem byL_enc (e : Option Rat) : encStr (byL e) = .string (tE e) := by
  show Value.string ⟨(tE e).data.toList.toArray⟩ = _
  rw [Array.toArray_toList]
theorem byL_inj (a b : Option Rat) (h : byL a = byL b) : a = b := by
  apply tE_inj
  have h1 : (tE a).data = (tE b).data := Array.toList_inj.1 h
  cases ha : tE a
  cases hb : tE b
  rw [ha, hb] at h1
  exact congrArg ByteArray.mk h1

theorem ends_list : ∀ xs : List (Option Rat), (∀ e ∈ xs, tlE e ≤ 1000) → ∃ l : List EndS, l.map (fun x => x.1) = xs
  | [], _ => ⟨[], rfl⟩
  | x :: xs, h => by
    obtain ⟨l, hl⟩ := ends_list xs fun e he => h e (List.mem_cons_of_mem _ he)
    exact ⟨(⟨x, h x (by simp)⟩ : EndS) :: l, congrArg (x :: ·) hl⟩
theorem sort_own (w0 w : World) (v : Value) (xs : List (Option Rat)) (ho : OwnS w0 w rTx 36 v (xs.map tE)) (hk : ∀ e ∈ xs, tlE e ≤ 1000) (h0 : 0 < xs.length) (hn : xs.length ≤ 1000000) :
    ∃ g c, v = .slice (some ⟨g, 0, none⟩) xs.length c ∧ xs.length ≤ c ∧ c ≤ 9223372036854775807 ∧ w0.heap.size ≤ g ∧
    Calls Tryz.prog 115 #[.slice (some ⟨g, 0, none⟩) xs.length c, .func (.func 79) #[] #[]] w fun e w' =>
      e = .returned (.tuple #[]) ∧ Past w0 w' ∧ ∃ ys : List (Option Rat), ys.Perm xs ∧ (ys.Pairwise fun a b => cmpE a b ≤ 0) ∧ Holds encStr w' g 0 (ys.map byL).toArray := by
  obtain ⟨g, c, rfl, hc1, hc2, hg1, hg2, hcell, hfr⟩ := ho.form (by rw [List.length_map]; exact h0)
  rw [List.length_map] at hc1 ⊢
  refine ⟨g, c, rfl, hc1, hc2, hg1, ?_⟩
  obtain ⟨l, hl⟩ := ends_list xs hk
  subst hl
  rw [List.length_map]
  have hH : Holds encS w g 0 l.toArray := by
    intro j hj
    have hj' : j < l.length := by simpa using hj
    refine ⟨?_, hfr _⟩
    have h1 := hcell j (by simpa using hj') 0 (.string (tE l[j].1)) (by simp [rTx])
    have e2 : l.toArray[j]! = l[j] := by simp [hj']
    rw [e2]
    have e4 : (0 + j * rTx.sz + 0) = 0 + j := by show 0 + j * 1 + 0 = _; omega
    rw [e4] at h1
    exact h1
  have h := sort_ends g 0 c l.toArray w hH hg2 (by rw [List.size_toArray]; rw [List.length_map] at hn; omega)
  rw [List.size_toArray] at h
  refine h.mono ?_
  rintro e w' ⟨rfl, d', n, os, ⟨hsz0, _, hperm⟩, hs, rfl⟩
  have hsz : d'.size = l.length := by rw [hsz0]; exact List.size_toArray ..
  refine ⟨rfl, past_growS (past_putRow (past_ahead ho.2 n) encS g 0 d' hg1) os, d'.toList.map (·.1), ?_, ?_, ?_⟩
  · have e1 : d'.extract 0 l.length = d' := by have := Array.extract_size (xs := d'); rw [hsz] at this; exact this
    have e2 : l.toArray.extract 0 l.length = l.toArray := by have := Array.extract_size (xs := l.toArray); rw [List.size_toArray] at this; exact this
    rw [e1, e2] at hperm
    exact hperm.map _
  · rw [List.pairwise_map]
    rw [List.pairwise_iff_getElem]
    intro i j hi hj hij
    have hi' : i < d'.size := by simpa using hi
    have hj' : j < d'.size := by simpa using hj
    have h1 := hs i j (Nat.zero_le _) hij (by omega)
    rw [getElem!_pos d' i hi', getElem!_pos d' j hj', ltS, decide_eq_false_iff_not] at h1
    rw [Array.getElem_toList, Array.getElem_toList]
    have := cmpE_neg d'[i].1 d'[j].1
    omega
  · have hh := holds_sortWorld encS w g 0 n l.toArray d' os hg2 hH (by rw [List.size_toArray]; exact hsz)
    intro j hj
    have hj' : j < d'.size := by simpa using hj
    have h1 := hh j hj'
    rw [getElem!_pos d' j hj'] at h1
    have e2 : ((d'.toList.map (·.1)).map byL).toArray[j]! = byL d'[j].1 := by
      rw [getElem!_pos _ j (by simpa using hj')]
      simp
    rw [e2, byL_enc]
    exact h1

end Go.Proofs.YtdcjibjldfjllaaGreat

namespace Go.Proofs.YtdcjibjldfjllaaGreat
open Go Go.RowKit

theorem arr_getC {α : Type} [Inhabited α] (l : List α) (i : Nat) (h : i < l.length) : l.toArray[i]! = l[i] := by simp [h]
theorem mem_compactC {α : Type} [Inhabited α] [DecidableEq α] (zs : List α) (x : α) : x ∈ Lib.compact zs ↔ x ∈ zs := by
  unfold Lib.compact Lib.compactUpTo
  rw [List.mem_map]
  constructor
  · rintro ⟨j, hj, rfl⟩
    have h1 := List.mem_range.1 (List.mem_filter.1 hj).1
    rw [arr_getC _ _ h1]
    exact List.getElem_mem h1
  · intro hx
    obtain ⟨j, hj, he⟩ := List.getElem_of_mem hx
    induction j using Nat.strongRecOn with
    | ind j ih =>
      by_cases hk : Lib.keeps zs.toArray j = true
      · exact ⟨j, List.mem_filter.2 ⟨List.mem_range.2 hj, hk⟩, by rw [arr_getC _ _ hj]; exact he⟩
      · unfold Lib.keeps at hk
        rw [decide_eq_true_iff] at hk
        have h0 : j ≠ 0 := fun h => hk (.inl h)
        have h1 : zs.toArray[j]! = zs.toArray[j - 1]! := Decidable.byContradiction fun h => hk (.inr h)
        rw [arr_getC _ _ hj, arr_getC _ _ (by omega)] at h1
        exact ih (j - 1) (by omega) (by omega) (by rw [← h1]; exact he)
theorem compact_mapC {α β : Type} [Inhabited α] [DecidableEq α] [Inhabited β] [DecidableEq β] (f : α → β) (hf : ∀ a b, f a = f b → a = b) (zs : List α) : Lib.compact (zs.map f) = (Lib.compact zs).map f := by
  unfold Lib.compact Lib.compactUpTo
  rw [List.length_map, List.map_map]
  have hk : ∀ j, j ∈ List.range zs.length → Lib.keeps (zs.map f).toArray j = Lib.keeps zs.toArray j := by
    intro j hj
    have hj := List.mem_range.1 hj
    unfold Lib.keeps
    have a := arr_getC (zs.map f) j (by rw [List.length_map]; exact hj)
    have b := arr_getC (zs.map f) (j - 1) (by rw [List.length_map]; omega)
    rw [a, b, arr_getC _ _ hj, arr_getC _ _ (show j - 1 < zs.length by omega), List.getElem_map, List.getElem_map]
    apply decide_eq_decide.2
    constructor
    · rintro (h | h)
      · exact .inl h
      · exact .inr fun e => h (by rw [e])
    · rintro (h | h)
      · exact .inl h
      · exact .inr fun e => h (hf _ _ e)
  rw [List.filter_congr hk]
  apply List.map_congr_left
  intro j hj
  have h1 := List.mem_range.1 (List.mem_filter.1 hj).1
  show (zs.map f).toArray[j]! = f zs.toArray[j]!
  rw [arr_getC (zs.map f) j (by rw [List.length_map]; exact h1), arr_getC _ _ h1, List.getElem_map]
theorem cmpE_lt_ofC {a b : Option Rat} (h : cmpE a b ≤ 0) (hne : a ≠ b) : cmpE a b < 0 := by
  have : cmpE a b ≠ 0 := fun e => hne (cmpE_eq.1 e)
  omega
theorem cmpE_le_ltC {a b c : Option Rat} (h : cmpE a b ≤ 0) (k : cmpE b c < 0) : cmpE a c < 0 := by
  have h1 := cmpE_trans h (show cmpE b c ≤ 0 by omega)
  refine cmpE_lt_ofC h1 fun e => ?_
  subst e
  have := cmpE_neg a b
  omega
theorem compact_asc (ys : List (Option Rat)) (h : ys.Pairwise fun a b => cmpE a b ≤ 0) : (Lib.compact ys).Pairwise fun a b => cmpE a b < 0 := by
  unfold Lib.compact Lib.compactUpTo
  rw [List.pairwise_map]
  have hr : (List.range ys.length).Pairwise (· < ·) := List.pairwise_lt_range
  have hf := hr.filter (Lib.keeps ys.toArray)
  refine hf.imp_of_mem ?_
  intro i j hi hj hij
  have hjl := List.mem_range.1 (List.mem_filter.1 hj).1
  have hk := (List.mem_filter.1 hj).2
  unfold Lib.keeps at hk
  rw [decide_eq_true_iff] at hk
  have hne : ys.toArray[j]! ≠ ys.toArray[j - 1]! := by
    rcases hk with h | h
    · omega
    · exact h
  have hg := List.pairwise_iff_getElem.1 h
  rw [arr_getC _ _ hjl, arr_getC _ _ (show j - 1 < ys.length by omega)] at hne
  rw [arr_getC _ _ hjl, arr_getC _ _ (show i < ys.length by omega)]
  have h2 : cmpE ys[j - 1] ys[j] < 0 := cmpE_lt_ofC (hg (j - 1) j (by omega) hjl (by omega)) (Ne.symm hne)
  by_cases e : i = j - 1
  · subst e; exact h2
  · exact cmpE_le_ltC (hg i (j - 1) (by omega) (by omega) (by omega)) h2
theorem asc_uniqueC : ∀ (l m : List (Option Rat)), l.Pairwise (fun a b => cmpE a b < 0) → m.Pairwise (fun a b => cmpE a b < 0) → (∀ x, x ∈ l ↔ x ∈ m) → l = m
  | [], [], _, _, _ => rfl
  | [], b :: m, _, _, h => by have := (h b).2 (by simp); cases this
  | a :: l, [], _, _, h => by have := (h a).1 (by simp); cases this
  | a :: l, b :: m, h1, h2, h => by
    rw [List.pairwise_cons] at h1 h2
    have irr : ∀ x : Option Rat, ¬ cmpE x x < 0 := fun x => by rw [cmpE_self]; decide
    have e : a = b := by
      rcases List.mem_cons.1 ((h a).1 (by simp)) with e | e
      · exact e
      · rcases List.mem_cons.1 ((h b).2 (by simp)) with e' | e'
        · exact e'.symm
        · have x1 := h2.1 a e
          have x2 := h1.1 b e'
          have := cmpE_neg a b
          omega
    subst e
    congr 1
    refine asc_uniqueC l m h1.2 h2.2 fun x => ?_
    constructor
    · intro hx
      rcases List.mem_cons.1 ((h x).1 (List.mem_cons_of_mem _ hx)) with e | e
      · subst e; exact absurd (h1.1 x hx) (irr x)
      · exact e
    · intro hx
      rcases List.mem_cons.1 ((h x).2 (List.mem_cons_of_mem _ hx)) with e | e
      · subst e; exact absurd (h2.1 x hx) (irr x)
      · exact e

end Go.Proofs.YtdcjibjldfjllaaGreat

namespace Go.Proofs.YtdcjibjldfjllaaGreat
open Go Go.RowKit Go.Shelf Go.Sort

theorem compact_len (ys : List (Option Rat)) : (Lib.compact ys).length ≤ ys.length := by
  unfold Lib.compact Lib.compactUpTo
  rw [List.length_map]
  exact Nat.le_trans (List.length_filter_le ..) (by rw [List.length_range]; exact Nat.le_refl _)

theorem compact_own (w0 w : World) (g c : Nat) (ys : List (Option Rat)) (hp : Past w0 w) (hg : w0.heap.size ≤ g) (hH : Holds encStr w g 0 (ys.map byL).toArray) (hc : ys.length ≤ c) (hb : c ≤ 9223372036854775807) (hn : ys.length ≤ 1000000) :
    Calls Tryz.prog 116 #[.slice (some ⟨g, 0, none⟩) ys.length c] w fun e w' =>
      e = .returned (.slice (some ⟨g, 0, none⟩) (Lib.compact ys).length c) ∧ Past w0 w' ∧ Rows w' rTx (some ⟨g, 0, none⟩) (Lib.compact ys).length c ((Lib.compact ys).map tE) := by
  have h := compact_ends g 0 c (ys.map byL) w hH (by rw [List.length_map]; omega) (by rw [List.length_map]; exact hc)
  rw [compact_mapC byL byL_inj, List.length_map, List.length_map] at h
  refine h.mono ?_
  rintro e w' ⟨rfl, q, rfl⟩
  obtain ⟨us, hus⟩ : ∃ us, Lib.compact ys = us := ⟨_, rfl⟩
  have hul := compact_len ys
  rw [hus] at hul ⊢
  have hpa := past_ahead hp q
  refine ⟨rfl, past_putRow hpa _ _ _ _ hg, ?_⟩
  have hHa : Holds encStr (Sort.ahead w q) g 0 (ys.map byL).toArray := hH
  have hh := holds_putRow encStr (Sort.ahead w q) g 0 (ys.map byL).toArray (us.map byL ++ List.replicate (ys.length - us.length) []).toArray hHa (by simp; omega)
  have hr : Holds encStr (putRow encStr (Sort.ahead w q) g 0 (us.map byL ++ List.replicate (ys.length - us.length) []).toArray) g 0 (us.map byL).toArray := by
    intro j hj
    have hj' : j < us.length := by simpa using hj
    have h1 := hh j (by simp; omega)
    have e1 : (us.map byL ++ List.replicate (ys.length - us.length) []).toArray[j]! = (us.map byL).toArray[j]! := by
      rw [arr_getC _ j (by simp; omega), arr_getC _ j (by simpa using hj')]
      exact List.getElem_append_left (by simpa using hj')
    rw [e1] at h1
    exact h1
  have hrow := holds_rows _ g (us.map byL) us.length c hr (by rw [List.length_map]) (by omega) hb
  have e2 : (us.map byL).map (fun l => (⟨l.toArray⟩ : ByteArray)) = us.map tE := by
    rw [List.map_map]
    apply List.map_congr_left
    intro e _
    show (⟨(tE e).data.toList.toArray⟩ : ByteArray) = tE e
    rw [Array.toArray_toList]
  rw [e2] at hrow
  exact hrow

end Go.Proofs.YtdcjibjldfjllaaGreat

namespace Go.Proofs.YtdcjibjldfjllaaGreat
open Go Go.RowKit Go.Shelf Go.Sort

set_option maxRecDepth 100000 in
set_option maxHeartbeats 2000000 in
theorem ins_none (A : Option Addr) (c : Nat) (fv : Value) (w : World) :
    Calls Tryz.prog 228 #[.slice A 0 c, .int .i64 0, .int .i64 0, fv] w fun e w' => e = .returned (.tuple #[]) ∧ w' = w := by
  go_enter Tryz.func228, Tryz.ntmps228
  go_wp2_with fail
  refine wp_loop_rounds 1 ?_
  rw [rounds_succ]
  go_wp2_with fail
  go_end0
  exact ⟨rfl, rfl⟩
set_option maxRecDepth 100000 in
set_option maxHeartbeats 2000000 in
theorem pdq_none (A : Option Addr) (c : Nat) (lim : Int) (fv : Value) (w : World) :
    Calls Tryz.prog 184 #[.slice A 0 c, .int .i64 0, .int .i64 0, .int .i64 lim, fv] w fun e w' => e = .returned (.tuple #[]) ∧ w' = w := by
  go_enter Tryz.func184, Tryz.ntmps184
  go_wp2_with fail
  refine wp_loop_rounds 1 ?_
  rw [rounds_succ]
  go_wp2_with (go_at_call 228; refine (ins_none A c fv _).mono ?_; rintro e w' ⟨rfl, rfl⟩)
  (try simp only [Exit.inBlock, Exit.then])
  refine bodyPost_ret (results_none rfl _ _ _) rfl ?_
  exact ⟨rfl, rfl⟩
set_option maxRecDepth 100000 in
set_option maxHeartbeats 2000000 in
theorem sort_none (A : Option Addr) (c : Nat) (fv : Value) (w : World) :
    Calls Tryz.prog 115 #[.slice A 0 c, fv] w fun e w' => e = .returned (.tuple #[]) ∧ w' = w := by
  have hl : ∀ W, Calls Tryz.prog 185 #[.int .u64 0] W fun e w' => e = .returned (.int .i64 (Lib.bitLen 0 : Nat)) ∧ w' = W := fun W => by
    have h := Any.bits_Len (SlLaysF0.n15.bits (P := Tryz.prog) (ρ := renS) { laysS with }) 0 W (by omega) (by omega)
    exact h
  go_enter Tryz.func115, Tryz.ntmps115
  go_wp2_with (first | (go_at_call 185; refine (hl _).mono ?_; rintro e w' ⟨rfl, rfl⟩) | (go_at_call 184; refine (pdq_none A c _ fv _).mono ?_; rintro e w' ⟨rfl, rfl⟩))
  go_end0
  exact ⟨rfl, rfl⟩

end Go.Proofs.YtdcjibjldfjllaaGreat

namespace Go.Proofs.YtdcjibjldfjllaaGreat
open Go Go.RowKit

/-- Where an end goes: behind all that are before it. -/
def posE (e : Option Rat) (l : List (Option Rat)) : Nat := (l.takeWhile fun a => decide (cmpE a e < 0)).length
def insS (e : Option Rat) (l : List (Option Rat)) : List (Option Rat) :=
  if l[posE e l]? = some e then l else l.take (posE e l) ++ e :: l.drop (posE e l)
theorem posE_le (e : Option Rat) (l : List (Option Rat)) : posE e l ≤ l.length := (List.takeWhile_sublist _).length_le
theorem posE_lt (e : Option Rat) : ∀ (l : List (Option Rat)) (i : Nat) (h : i < posE e l) (h2 : i < l.length), cmpE l[i] e < 0
  | [], i, _, h2 => by cases h2
  | a :: l, i, h, h2 => by
    unfold posE at h
    rw [List.takeWhile_cons] at h
    split at h
    · rename_i ha
      cases i with
      | zero => exact of_decide_eq_true ha
      | succ i => exact posE_lt e l i (by simpa [posE] using h) (by simpa using h2)
    · cases h
theorem posE_at (e : Option Rat) : ∀ (l : List (Option Rat)) (h : posE e l < l.length), 0 ≤ cmpE l[posE e l] e
  | [], h => by cases h
  | a :: l, h => by
    by_cases ha : cmpE a e < 0
    · have e1 : posE e (a :: l) = posE e l + 1 := by unfold posE; rw [List.takeWhile_cons, if_pos (decide_eq_true ha)]; rfl
      have h' : posE e l < l.length := by rw [e1] at h; simpa using h
      have := posE_at e l h'
      simp only [e1, List.getElem_cons_succ]
      exact this
    · have e1 : posE e (a :: l) = 0 := by unfold posE; rw [List.takeWhile_cons, if_neg (by simpa using ha)]; rfl
      simp only [e1, List.getElem_cons_zero]
      omega
theorem insS_mem (e x : Option Rat) (l : List (Option Rat)) : x ∈ insS e l ↔ x = e ∨ x ∈ l := by
  unfold insS
  split
  · rename_i h
    have he : e ∈ l := List.mem_of_getElem? h
    constructor
    · exact .inr
    · rintro (rfl | h)
      · exact he
      · exact h
  · have h1 : x ∈ l ↔ x ∈ l.take (posE e l) ∨ x ∈ l.drop (posE e l) := by
      rw [← List.mem_append, List.take_append_drop]
    rw [h1, List.mem_append, List.mem_cons]
    constructor
    · rintro (h | h | h)
      · exact .inr (.inl h)
      · exact .inl h
      · exact .inr (.inr h)
    · rintro (h | h | h)
      · exact .inr (.inl h)
      · exact .inl h
      · exact .inr (.inr h)
theorem insS_asc (e : Option Rat) (l : List (Option Rat)) (h : l.Pairwise fun a b => cmpE a b < 0) : (insS e l).Pairwise fun a b => cmpE a b < 0 := by
  unfold insS
  split
  · exact h
  · rename_i hne
    have h0 : (l.take (posE e l) ++ l.drop (posE e l)).Pairwise fun a b => cmpE a b < 0 := by rw [List.take_append_drop]; exact h
    rw [List.pairwise_append] at h0
    obtain ⟨p1, p2, p3⟩ := h0
    have ht : ∀ a ∈ l.take (posE e l), cmpE a e < 0 := by
      intro a ha
      obtain ⟨i, hi, rfl⟩ := List.getElem_of_mem ha
      rw [List.length_take] at hi
      rw [List.getElem_take]
      exact posE_lt e l i (by omega) (by omega)
    have hd : ∀ b ∈ l.drop (posE e l), cmpE e b < 0 := by
      intro b hb
      obtain ⟨i, hi, rfl⟩ := List.getElem_of_mem hb
      rw [List.length_drop] at hi
      rw [List.getElem_drop]
      have hp : posE e l < l.length := by omega
      have h1 := posE_at e l hp
      have hne' : l[posE e l] ≠ e := fun h => hne (by rw [List.getElem?_eq_getElem hp, h])
      have h2 : cmpE e l[posE e l] < 0 := by
        have n := cmpE_neg l[posE e l] e
        have : cmpE l[posE e l] e ≠ 0 := fun h => hne' (cmpE_eq.1 h)
        omega
      cases i with
      | zero => exact h2
      | succ i =>
        have h3 := List.pairwise_iff_getElem.1 h (posE e l) (posE e l + (i + 1)) hp (by omega) (by omega)
        exact cmpE_le_ltC (by omega) h3
    rw [List.pairwise_append, List.pairwise_cons]
    refine ⟨p1, ⟨hd, p2⟩, ?_⟩
    intro a ha b hb
    rcases List.mem_cons.1 hb with rfl | hb
    · exact ht a ha
    · exact p3 a ha b hb
/-- All of a list put in, one by one. -/
theorem insAll_asc (xs : List (Option Rat)) : ∀ l : List (Option Rat), l.Pairwise (fun a b => cmpE a b < 0) → (xs.foldl (fun l e => insS e l) l).Pairwise fun a b => cmpE a b < 0 := by
  induction xs with
  | nil => intro l h; exact h
  | cons x xs ih => intro l h; exact ih _ (insS_asc x l h)
theorem insAll_mem (xs : List (Option Rat)) : ∀ (l : List (Option Rat)) (x : Option Rat), x ∈ xs.foldl (fun l e => insS e l) l ↔ x ∈ xs ∨ x ∈ l := by
  induction xs with
  | nil => intro l x; simp
  | cons y xs ih =>
    intro l x
    rw [List.foldl_cons, ih, insS_mem, List.mem_cons]
    constructor
    · rintro (h | h | h)
      · exact .inl (.inr h)
      · exact .inl (.inl h)
      · exact .inr h
    · rintro ((h | h) | h)
      · exact .inr (.inl h)
      · exact .inl h
      · exact .inr (.inr h)
/-- The two ways to the sorted distinct ends are one. -/
theorem compact_ins (ys xs : List (Option Rat)) (h : ys.Pairwise fun a b => cmpE a b ≤ 0) (hm : ∀ x, x ∈ ys ↔ x ∈ xs) : Lib.compact ys = xs.foldl (fun l e => insS e l) [] := by
  refine asc_uniqueC _ _ (compact_asc ys h) (insAll_asc xs [] List.Pairwise.nil) fun x => ?_
  rw [mem_compactC, insAll_mem, hm]
  simp

end Go.Proofs.YtdcjibjldfjllaaGreat

namespace Go.Proofs.YtdcjibjldfjllaaGreat
open Go Go.RowKit

theorem Rows.tx {w : World} {A : Option Addr} {n c : Nat} {xs : List ByteArray} (h : Rows w rTx A n c xs) (hn : 0 < n) :
    ∃ b off, A = some ⟨b, off, none⟩ ∧ ∀ j (hj : j < xs.length), w.cell? ⟨b, off + j, none⟩ = some (.string xs[j]) := by
  obtain ⟨b, off, rfl, hc⟩ := h.at_ hn
  refine ⟨b, off, rfl, fun j hj => ?_⟩
  have h1 := hc j hj 0 (.string xs[j]) rfl
  have e4 : (off + j * rTx.sz + 0) = off + j := by show off + j * 1 + 0 = _; omega
  rw [e4] at h1
  exact h1

theorem sort_compact (w0 w : World) (v : Value) (xs : List (Option Rat)) (ho : OwnS w0 w rTx 36 v (xs.map tE)) (hk : ∀ e ∈ xs, tlE e ≤ 1000) (hn : xs.length ≤ 1000000) :
    ∃ A k c, v = .slice A k c ∧ Calls Tryz.prog 115 #[.slice A k c, .func (.func 79) #[] #[]] w fun e w' =>
      e = .returned (.tuple #[]) ∧ Past w0 w' ∧ Calls Tryz.prog 116 #[.slice A k c] w' fun e w'' =>
        e = .returned (.slice A (xs.foldl (fun l e => insS e l) []).length c) ∧ Past w0 w'' ∧ Rows w'' rTx A (xs.foldl (fun l e => insS e l) []).length c ((xs.foldl (fun l e => insS e l) []).map tE) := by
  by_cases h0 : 0 < xs.length
  · obtain ⟨g, c, rfl, hc1, hc2, hg, hS⟩ := sort_own w0 w v xs ho hk h0 hn
    refine ⟨_, _, _, rfl, hS.mono ?_⟩
    rintro e w' ⟨rfl, hp, ys, hperm, hasc, hH⟩
    refine ⟨rfl, hp, ?_⟩
    have hl := hperm.length_eq
    have h := compact_own w0 w' g c ys hp hg hH (by omega) hc2 (by omega)
    rw [compact_ins ys xs hasc (fun x => hperm.mem_iff), hl] at h
    exact h
  · have hx : xs = [] := List.eq_nil_of_length_eq_zero (by omega)
    subst hx
    obtain ⟨A, c, rfl, hr⟩ := ho.reads
    refine ⟨_, _, _, rfl, (sort_none A c _ w).mono ?_⟩
    rintro e w1 ⟨rfl, hw1⟩
    rw [hw1]
    refine ⟨rfl, ho.2, (compact_none A c w).mono ?_⟩
    rintro e w2 ⟨rfl, hw2⟩
    rw [hw2]
    exact ⟨rfl, ho.2, hr⟩

end Go.Proofs.YtdcjibjldfjllaaGreat

namespace Go.Proofs.YtdcjibjldfjllaaGreat
open Go Go.RowKit

/-- The ends that a bar gives. -/
def endsV (v : VB) : List (Option Rat) := match v.e with | none => [some v.q] | some r => [some v.q, some r]
def endsL (vs : List VB) : List (Option Rat) := vs.flatMap endsV
theorem endsL_take {vs : List VB} {i : Nat} {v : VB} (h : i < vs.length) (hv : vs[i] = v) : endsL (vs.take (i + 1)) = endsL (vs.take i) ++ endsV v := by
  unfold endsL
  rw [List.take_succ_eq_append_getElem h, hv, List.flatMap_append]
  simp
theorem endsL_len (vs : List VB) : (endsL vs).length ≤ 2 * vs.length := by
  induction vs with
  | nil => simp [endsL]
  | cons v vs ih =>
    have h : endsL (v :: vs) = endsV v ++ endsL vs := rfl
    have h2 : (endsV v).length ≤ 2 := by unfold endsV; cases v.e <;> simp
    rw [h, List.length_append, List.length_cons]
    omega

/-- The ends of bars in order, each once. -/
def curL (vs : List VB) : List (Option Rat) := (endsL vs).foldl (fun l e => insS e l) []
/-- How many bars cover an end. -/
def covN (vs : List VB) (e : Option Rat) : Int := (((vs.map VB.enc).countP (covB (tE e) (tE e)) : Nat) : Int)
theorem endsL_ok {vs : List VB} {N : Nat} (h : ∀ v ∈ vs, tlE (some v.q) ≤ N ∧ tlE v.e ≤ N) : ∀ e ∈ endsL vs, tlE e ≤ N := by
  intro e he
  obtain ⟨v, hv, h2⟩ := List.mem_flatMap.1 he
  have hk := h v hv
  unfold endsV at h2
  cases hve : v.e with
  | none => rw [hve] at h2; simp only [List.mem_singleton] at h2; rw [h2]; exact hk.1
  | some r =>
    rw [hve] at h2
    simp only [List.mem_cons, List.not_mem_nil, or_false] at h2
    rcases h2 with rfl | rfl
    · exact hk.1
    · rw [← hve]; exact hk.2
theorem curL_mem {vs : List VB} {e : Option Rat} : e ∈ curL vs ↔ e ∈ endsL vs := by
  unfold curL
  rw [insAll_mem]
  simp
theorem insS_len (e : Option Rat) (l : List (Option Rat)) : (insS e l).length ≤ l.length + 1 := by
  unfold insS
  have := posE_le e l
  split
  · omega
  · rw [List.length_append, List.length_cons, List.length_take, List.length_drop]; omega
theorem insAll_len (xs : List (Option Rat)) : ∀ l : List (Option Rat), (xs.foldl (fun l e => insS e l) l).length ≤ l.length + xs.length := by
  induction xs with
  | nil => intro l; simp
  | cons x xs ih => intro l; rw [List.foldl_cons]; have h1 := ih (insS x l); have h2 := insS_len x l; rw [List.length_cons]; omega
theorem curL_len (vs : List VB) : (curL vs).length ≤ 2 * vs.length := by
  unfold curL
  have h1 := insAll_len (endsL vs) []
  have h2 := endsL_len vs
  simp only [List.length_nil] at h1
  omega

end Go.Proofs.YtdcjibjldfjllaaGreat
