/- Helpers of the proof, joined: Ps1 Ps2 Ps3. -/
import Derived.Test.YtdcjibjldfjllaaGreatGo
import Derived.Test.YtdcjibjldfjllaaGreatGyd
set_option linter.unusedVariables false
set_option linter.unusedSimpArgs false
/- What a parser of bars answers at any text, in plain terms. -/
namespace Go.Proofs.YtdcjibjldfjllaaGreat
open Go.RowKit

def wEnd (s : ByteArray) (p : Nat) : Nat := p + (wordL (s.data.toList.drop p)).length
/-- One line at a place: the place of an error; or the bar and the place behind it. -/
def stepP (s : ByteArray) (p : Nat) : Nat ⊕ (Bar × Nat) :=
  let c := (s.data.toList.getD p 0).toNat
  if c < 48 ∨ 52 < c then .inl p
  else if s.data.toList[p + 1]? ≠ some 32 then .inl (p + 1)
  else if okV (byt (wordS s (p + 2))) = false then .inl (p + 2)
  else if s.data.toList[wEnd s (p + 2)]? ≠ some 32 then .inl (wEnd s (p + 2))
  else if okE (byt (wordS s (wEnd s (p + 2) + 1))) = false then .inl (wEnd s (p + 2) + 1)
  else if s.data.toList[wEnd s (wEnd s (p + 2) + 1)]? ≠ some 10 then .inl (wEnd s (wEnd s (p + 2) + 1))
  else .inr (⟨(c : Int) - 48, wordS s (p + 2), wordS s (wEnd s (p + 2) + 1)⟩, wEnd s (wEnd s (p + 2) + 1) + 1)

theorem wEnd_ge (s : ByteArray) (p : Nat) : p ≤ wEnd s p := Nat.le_add_right _ _
theorem wEnd_le {s : ByteArray} {p : Nat} (h : p ≤ s.size) : wEnd s p ≤ s.size := by
  unfold wEnd wordL
  have h1 := (List.takeWhile_prefix (fun b : UInt8 => b != 32 && b != 10) (l := s.data.toList.drop p)).length_le
  rw [List.length_drop] at h1
  have h2 : s.data.toList.length = s.size := by rw [Array.length_toList]; rfl
  omega
theorem stepP_next {s : ByteArray} {p q : Nat} {b : Bar} (h : stepP s p = .inr (b, q)) : p + 6 ≤ q + 2 ∧ q ≤ s.size := by
  unfold stepP at h
  dsimp only at h
  split at h
  · cases h
  · split at h
    · cases h
    · split at h
      · cases h
      · split at h
        · cases h
        · split at h
          · cases h
          · split at h
            · cases h
            · rename_i h6
              injection h with h
              injection h with _ h
              subst h
              have h1 := wEnd_ge s (p + 2)
              have h2 := wEnd_ge s (wEnd s (p + 2) + 1)
              refine ⟨by omega, ?_⟩
              have h6' : s.data.toList[wEnd s (wEnd s (p + 2) + 1)]? = some 10 := Decidable.of_not_not h6
              have := (List.getElem?_eq_some_iff.1 h6').1
              rw [Array.length_toList] at this
              exact this

/-- What is behind a place: the bars and no error; or no bars, the place of an error and the error. -/
def parseP (s : ByteArray) (p : Nat) (acc : List Bar) : List Bar × Nat × Int :=
  if hp : p < s.size then
    match h : stepP s p with
    | .inl at' => ([], at', 2)
    | .inr (b, q) => parseP s q (acc ++ [b])
  else if checkB acc ≠ 0 then ([], 0, checkB acc) else (acc, 0, 0)
termination_by s.size - p
decreasing_by have := stepP_next h; omega

theorem parseP_end {s : ByteArray} {p : Nat} {acc : List Bar} (h : ¬ p < s.size) : parseP s p acc = if checkB acc ≠ 0 then ([], 0, checkB acc) else (acc, 0, 0) := by
  rw [parseP, dif_neg h]
theorem parseP_bad {s : ByteArray} {p a : Nat} {acc : List Bar} (h : p < s.size) (hs : stepP s p = .inl a) : parseP s p acc = ([], a, 2) := by
  rw [parseP, dif_pos h]
  split
  · rename_i e; rw [hs] at e; injection e with e; rw [e]
  · rename_i e; rw [hs] at e; cases e
theorem parseP_go {s : ByteArray} {p q : Nat} {b : Bar} {acc : List Bar} (h : p < s.size) (hs : stepP s p = .inr (b, q)) : parseP s p acc = parseP s q (acc ++ [b]) := by
  rw [parseP, dif_pos h]
  split
  · rename_i e; rw [hs] at e; cases e
  · rename_i e; rw [hs] at e; injection e with e; injection e with e1 e2; rw [e1, e2]

/-- What barcode.Parse answers. -/
def parseB (s : ByteArray) : List Bar × Nat × Int := if 65536 < s.size then ([], 0, 3) else parseP s 0 []

end Go.Proofs.YtdcjibjldfjllaaGreat

/- barcode.Parse: the closure that reads a field, at any text. -/
namespace Go.Proofs.YtdcjibjldfjllaaGreat
open Go.RowKit

set_option maxRecDepth 100000 in
set_option maxHeartbeats 4000000 in
theorem field_ok (s : ByteArray) (ga gs p : Nat) (c : Int) (w : World) (hat : AtCell w ga p) (hs : w.cell? ⟨gs, 0, none⟩ = some (.string s)) (hne : ga ≠ gs) (hp : p < s.size)
    (hc : (((s[p]'hp).toNat : Nat) : Int) = c) (hsz : s.size ≤ 4000000000) :
    Calls Tryz.prog 70 #[.int .u8 c, .pointer (some ⟨ga, 0, none⟩), .pointer (some ⟨gs, 0, none⟩)] w fun e w' => w.grownBy w' (some ga) ∧ AtCell w' ga (p + 1) ∧ e = .returned (.tuple #[.string (wordS s (p + 1)), .bool true]) := by
  have HAT := Lib.hid hat
  have ha := hat.cell
  have hfa := hat.frozen
  clear hat
  have hnb : ((((s[p]'hp).toNat : Nat) : Int) != c) = false := by simp [hc]
  have hpz : (p : Int) < (s.size : Int) := by omega
  have hpe : decide (p = s.size) = false := decide_eq_false (by omega)
  have hpe2 : ((p : Int) == (s.size : Int)) = false := by simp; omega
  go_enter Tryz.func70, Tryz.ntmps70
  go_wp2_with fail
  have HP : Hid (Past (w.setCell ⟨ga, 0, none⟩ (.int .i64 ((p : Int) + 1))) (w.setCell ⟨ga, 0, none⟩ (.int .i64 ((p : Int) + 1)))) := Past.refl _
  have hasz : (s.extract (p + 1) s.size).size < 4294967281 := by
    show (s.extract (p + 1) s.size).data.size < 4294967281
    rw [← Array.length_toList, ext_drop, List.length_drop, Array.length_toList]
    show s.size - (p + 1) < 4294967281
    omega
  refine (s_indexAnyB _ _ hasz).mono ?_
  rintro e w2 ⟨hp2, rfl⟩
  rw [ext_drop, indexAny_word]
  have HG : Hid (w.grownBy w2 (some ga) ∧ AtCell w2 ga (p + 1)) := by
    refine ⟨⟨hp2.os, hp2.tape, hp2.output, by have := hp2.size; simpa [World.setCell] using this, fun k hk hne => ?_⟩, (HAT.out.set (p + 1)).past hp2⟩
    rw [hp2.block k (by simpa [World.setCell] using hk)]
    exact Below.heap_setCell _ _ _ _ (by simpa using hne)
  clear hp2
  by_cases hk : (wordL (s.data.toList.drop (p + 1))).length < (s.data.toList.drop (p + 1)).length
  · rw [if_pos hk]
    have HW := Lib.hid (ext_word s (p + 1))
    have hk2 : (wordL (s.data.toList.drop (p + 1))).length ≤ (s.extract (p + 1) s.size).size := by
      show _ ≤ (s.extract (p + 1) s.size).data.size
      rw [← Array.length_toList, ext_drop]
      omega
    clear hk
    generalize (wordL (s.data.toList.drop (p + 1))).length = k at HW hk2 ⊢
    generalize s.extract (p + 1) s.size = r at HW hk2 hasz ⊢
    have hk3 : (k : Int) ≤ (r.size : Int) := by omega
    go_wp2
    go_ret2
    exact ⟨HG.out.1, HG.out.2, by rw [← HW.out]; rfl⟩
  · rw [if_neg hk]
    have HW := Lib.hid (ext_all s (p + 1) hk)
    clear hk
    go_wp2
    go_ret2
    exact ⟨HG.out.1, HG.out.2, by rw [← HW.out]; rfl⟩

set_option maxRecDepth 100000 in
set_option maxHeartbeats 4000000 in
theorem field_bad (s : ByteArray) (ga gs p : Nat) (c : Int) (w : World) (hat : AtCell w ga p) (hs : w.cell? ⟨gs, 0, none⟩ = some (.string s)) (hp : p ≤ s.size)
    (hc : ∀ h : p < s.size, (((s[p]'h).toNat : Nat) : Int) ≠ c) :
    Calls Tryz.prog 70 #[.int .u8 c, .pointer (some ⟨ga, 0, none⟩), .pointer (some ⟨gs, 0, none⟩)] w fun e w' => Past w w' ∧ e = .returned (.tuple #[.string ⟨#[]⟩, .bool false]) := by
  have ha := hat.cell
  have hfa := hat.frozen
  clear hat
  by_cases hps : p = s.size
  · subst hps
    clear hc hp
    go_enter Tryz.func70, Tryz.ntmps70
    go_wp2
    go_ret2
    exact ⟨Past.refl _, rfl⟩
  · have hlt : p < s.size := by omega
    have hnb : ((((s[p]'hlt).toNat : Nat) : Int) != c) = true := by simpa using hc hlt
    have hpz : (p : Int) < (s.size : Int) := by omega
    have hpe : decide (p = s.size) = false := decide_eq_false (by omega)
    have hpe2 : ((p : Int) == (s.size : Int)) = false := by simp; omega
    clear hc hp hps
    go_enter Tryz.func70, Tryz.ntmps70
    go_wp2
    go_ret2
    exact ⟨Past.refl _, rfl⟩

end Go.Proofs.YtdcjibjldfjllaaGreat

/- barcode.Parse at any text. -/
namespace Go.Proofs.YtdcjibjldfjllaaGreat
open Go.RowKit

theorem wordS_size (s : ByteArray) (p : Nat) : (wordS s p).size = (wordL (s.data.toList.drop p)).length := by
  show (wordL (s.data.toList.drop p)).toArray.size = _
  simp
theorem wordS_le (s : ByteArray) (p : Nat) : (wordS s p).size ≤ s.size := by
  rw [wordS_size]
  unfold wordL
  have h1 := (List.takeWhile_prefix (fun b : UInt8 => b != 32 && b != 10) (l := s.data.toList.drop p)).length_le
  rw [List.length_drop] at h1
  have h2 : s.data.toList.length = s.size := by rw [Array.length_toList]; rfl
  omega
theorem wEnd_eq (s : ByteArray) (p : Nat) : wEnd s p = p + (wordS s p).size := by rw [wordS_size]; rfl
theorem wEnd_eq2 {s : ByteArray} {p : Nat} {x : ByteArray} (h : wordS s p = x) : wEnd s p = p + x.size := by rw [wEnd_eq, h]
theorem at_some {s : ByteArray} {p : Nat} (h : p < s.size) : s.data.toList[p]? = some (s[p]'h) := Lib.data_getElem? s p h
theorem at_none {s : ByteArray} {p : Nat} (h : ¬ p < s.size) : s.data.toList[p]? = none := by
  rw [List.getElem?_eq_none]
  rw [Array.length_toList]
  have h2 : s.data.size = s.size := rfl
  omega
/-- Whether a byte stands at a place. -/
theorem at_iff {s : ByteArray} {p : Nat} {c : UInt8} : s.data.toList[p]? = some c ↔ ∃ h : p < s.size, (((s[p]'h).toNat : Nat) : Int) = (c.toNat : Int) := by
  constructor
  · intro h
    have hp : p < s.size := by
      by_cases hp : p < s.size
      · exact hp
      · rw [at_none hp] at h; cases h
    rw [at_some hp] at h
    injection h with h
    exact ⟨hp, by rw [h]⟩
  · rintro ⟨hp, h⟩
    rw [at_some hp]
    congr 1
    apply UInt8.toNat_inj.1
    omega

theorem PT.done {w0 w : World} {ga gs p : Nat} {s : ByteArray} {v : Value} {l : List Bar} (h : PT w0 w ga gs p s v l) (q : Nat) : Past w0 (w.setCell ⟨ga, 0, none⟩ (.int .i64 q)).drew := (h.set q).2.2.1.2.drew
theorem PS.done {w0 w : World} {ga gs gb p : Nat} {s : ByteArray} {b : Bar} {v : Value} {l : List Bar} (h : PS w0 w ga gs gb p s b v l) (q : Nat) : Past w0 (w.setCell ⟨ga, 0, none⟩ (.int .i64 q)).drew := (h.set q).2.2.2.1.2.drew

set_option maxRecDepth 100000 in
set_option maxHeartbeats 8000000 in
theorem bar_parseG (s : ByteArray) (w : World) :
    Calls Tryz.prog 19 #[.string s] w fun e w' => Past w w' ∧ ∃ v, e = .returned (.tuple #[v, .int .i64 (parseB s).2.1, .int .i64 (parseB s).2.2]) ∧ OwnS w w' rBar 94 v (parseB s).1 := by
  have hmf : ∀ (fn : Fn) (first cap : Array Value) (w : World), (Instr.makeFunc fn first cap).run Tryz.prog w = .ok (.func fn first cap) w := fun _ _ _ _ => rfl
  by_cases hbig : 65536 < s.size
  · have HR : Hid (parseB s = ([], 0, 3)) := by unfold parseB; rw [if_pos hbig]; exact rfl
    have hb0 : (65536 : Int) < (s.size : Int) := by omega
    go_enter Tryz.func19, Tryz.ntmps19
    go_wp2_with fail
    have hp : Past w ((w.alloc (.cells #[.string s] 9)).alloc (.cells #[.int .i64 0] 3)) := ((Past.refl w).alloc _).alloc _
    have k1 := (atCell_new2 w (.cells #[.string s] 9) 0).cell
    exact bodyPost_ret (v := .tuple #[.slice none 0 0, .int .i64 0, .int .i64 3]) (by simp [results, Tryz.results19, go_sem]) rfl ⟨hp, _, by rw [HR.out]; rfl, by rw [HR.out]; exact OwnS.nil hp _ _⟩
  · have HR : Hid (parseB s = parseP s 0 []) := by unfold parseB; rw [if_neg hbig]; exact rfl
    have hss : s.size ≤ 65536 := by omega
    have hb0 : ¬ (65536 : Int) < (s.size : Int) := by omega
    go_enter Tryz.func19, Tryz.ntmps19
    go_wp2_with fail
    have HPT : Hid (PT w ((w.alloc (.cells #[.string s] 9)).alloc (.cells #[.int .i64 0] 3)) (w.heap.size + 1) w.heap.size 0 s (.slice none 0 0) []) :=
      ⟨atCell_new2 w _ _, (Below.heap_alloc _ _ _ (by show w.heap.size < (w.heap.push _).size; simp)).trans (heap_new w _), OwnS.nil (((Past.refl _).alloc _).alloc _) _ _, by omega, by omega⟩
    go_loopg [2] s.size (fun gg ov wr => ∃ (p : Nat) (acc : List Bar) (vo : Value), vo = ov ∧ p ≤ s.size ∧ Hid (gg = s.size - p) ∧ Hid (acc.length ≤ p) ∧ Hid (∀ b ∈ acc, b.fit) ∧ Hid (parseP s p acc = parseP s 0 []) ∧ Hid (PT w wr (w.heap.size + 1) w.heap.size p s vo acc))
    case atStart => exact ⟨0, [], _, rfl, Nat.zero_le _, rfl, Nat.le_refl _, (by intro b hb; cases hb), rfl, HPT⟩
    case round =>
      clear HPT
      obtain ⟨wo, hwo⟩ : ∃ x, x = wr := ⟨_, rfl⟩
      subst hwo
      obtain ⟨p, acc, vo, hvo, hps, HG, HAL, HAF, HPP, HPT⟩ := hrel
      subst hvo
      have a1 := HPT.out.1.cell
      have a2 := HPT.out.1.frozen
      have a3 := HPT.out.2.1.cell
      by_cases hin : p < s.size
      · obtain ⟨d, r1⟩ : ∃ d : Int, (((s[p]'hin).toNat : Nat) : Int) = 48 + d := ⟨(((s[p]'hin).toNat : Nat) : Int) - 48, by omega⟩
        have hpz : (p : Int) < (s.size : Int) := by omega
        have HC : Hid ((s.data.toList.getD p 0).toNat = (s[p]'hin).toNat) := by
          show _ = _
          rw [List.getD_eq_getElem?_getD, at_some hin]; rfl
        by_cases hd : d < 0 ∨ 4 < d
        · have HE : Hid (parseP s 0 [] = ([], p, 2)) := by
            show _ = _
            rw [← HPP.out]
            refine parseP_bad hin ?_
            unfold stepP
            dsimp only
            rw [HC.out, if_pos (by omega)]
          rcases hd with hd | hd
          · go_wp2_with fail
            go_region
            all_goals (
              go_wp2_with fail
              have hq := HPT.out.done (p)
              exact bodyPost_ret (v := .tuple #[.slice none 0 0, .int .i64 ((p : Nat) : Int), .int .i64 2]) (by simp [results, Tryz.results19, go_sem, a1]) rfl ⟨hq, _, by rw [HR.out, HE.out], by rw [HR.out, HE.out]; exact OwnS.nil hq _ _⟩)
          · have hdn : ¬ d < 0 := by omega
            go_wp2_with fail
            go_region
            all_goals (
              go_wp2_with fail
              have hq := HPT.out.done (p)
              exact bodyPost_ret (v := .tuple #[.slice none 0 0, .int .i64 ((p : Nat) : Int), .int .i64 2]) (by simp [results, Tryz.results19, go_sem, a1]) rfl ⟨hq, _, by rw [HR.out, HE.out], by rw [HR.out, HE.out]; exact OwnS.nil hq _ _⟩)
        · have hd0 : 0 ≤ d := by omega
          have hd1 : d ≤ 4 := by omega
          obtain ⟨x, hx⟩ : ∃ x, wordS s (p + 2) = x := ⟨_, rfl⟩
          obtain ⟨y, hy⟩ : ∃ y, wordS s (p + 2 + x.size + 1) = y := ⟨_, rfl⟩
          have sx : x.size ≤ s.size := by rw [← hx]; exact wordS_le _ _
          have sy : y.size ≤ s.size := by rw [← hy]; exact wordS_le _ _
          have HST : Hid (stepP s p = if s.data.toList[p + 1]? ≠ some 32 then .inl (p + 1) else if okV (byt x) = false then .inl (p + 2) else if s.data.toList[p + 2 + x.size]? ≠ some 32 then .inl (p + 2 + x.size)
              else if okE (byt y) = false then .inl (p + 2 + x.size + 1) else if s.data.toList[p + 2 + x.size + 1 + y.size]? ≠ some 10 then .inl (p + 2 + x.size + 1 + y.size) else .inr (⟨48 + d - 48, x, y⟩, p + 2 + x.size + 1 + y.size + 1)) := by
            show _ = _
            unfold stepP
            dsimp only
            rw [HC.out, if_neg (by omega), wEnd_eq s (p + 2), hx, wEnd_eq s (p + 2 + x.size + 1), hy, r1]
          have HW1 : Hid (wordS s (p + 1 + 1) = x) := hx
          have HW2 : Hid (wordS s (p + 2 + x.size + 1) = y) := hy
          have HX2 : Hid (p + 2 ≤ s.size → p + 2 + x.size ≤ s.size) := fun h => by have := wEnd_le h; rw [wEnd_eq, hx] at this; exact this
          have HY2 : Hid (p + 2 + x.size + 1 ≤ s.size → p + 2 + x.size + 1 + y.size ≤ s.size) := fun h => by have := wEnd_le h; rw [wEnd_eq, hy] at this; exact this
          clear hx hy hd
          have HNE : Hid (w.heap.size + 1 ≠ w.heap.size) := by unfold Hid; omega
          have PB := HPT.out.box (48 + d - 48) ⟨#[]⟩ ⟨#[]⟩
          have b1 := PB.1.cell
          have b2 := PB.1.frozen
          have b3 := PB.2.1.cell
          have PB1 := Lib.hid (PB.set (p + 1))
          clear PB
          have HV : Hid (vo.ownBlock ≠ some wo.heap.size) := by
            intro hv
            have := (HPT.out.2.2.1.1.lt _ hv).2
            omega
          go_wp2_with fail
          clear b1 b2 b3
          by_cases h2 : s.data.toList[p + 1]? = some 32
          · obtain ⟨q2, r2⟩ := at_iff.1 h2
            refine (field_ok s (w.heap.size + 1) w.heap.size (p + 1) 32 _ PB1.out.1 PB1.out.2.1.cell HNE.out q2 (r2.trans rfl) (by omega)).mono ?_
            rintro e w2 ⟨hg2, hat2, rfl⟩
            have P2 : Hid (PS w w2 (w.heap.size + 1) w.heap.size wo.heap.size (p + 2) s ⟨48 + d - 48, ⟨#[]⟩, ⟨#[]⟩⟩ vo acc) := PB1.out.grown hg2 hat2
            rw [HW1.out]
            clear hg2 hat2 r2
            have H2 := Lib.hid h2
            clear h2
            have hx2 := HX2.out (by omega)
            go_wp2_with fail
            refine (ratio_valid x _ (by omega)).mono ?_
            rintro e w3 ⟨hp3, rfl⟩
            have P3 := Lib.hid (P2.out.past hp3)
            have b1 := P3.out.1.cell
            have b2 := P3.out.1.frozen
            have b3 := P3.out.2.1.cell
            clear hp3
            cases hvx : okV (byt x) with
            | false =>
              have HE : Hid (parseP s 0 [] = ([], p + 2, 2)) := by
                show _ = _
                rw [← HPP.out]
                refine parseP_bad hin ?_
                rw [HST.out, if_neg (by rw [H2.out]; simp), if_pos hvx]
              go_wp2_with fail
              go_region
              all_goals (
                go_wp2_with fail
                have hq := P3.out.done (p + 2)
                exact bodyPost_ret (v := .tuple #[.slice none 0 0, .int .i64 ((p + 2 : Nat) : Int), .int .i64 2]) (by simp [results, Tryz.results19, go_sem, b1]) rfl ⟨hq, _, by rw [HR.out, HE.out], by rw [HR.out, HE.out]; exact OwnS.nil hq _ _⟩)
            | true =>
              have HVX := Lib.hid hvx
              clear hvx
              have P4 := Lib.hid (P3.out.set (p + 2 + x.size))
              go_wp2_with fail
              clear b1 b2 b3
              by_cases h3 : s.data.toList[p + 2 + x.size]? = some 32
              · obtain ⟨q3, r3⟩ := at_iff.1 h3
                refine (field_ok s (w.heap.size + 1) w.heap.size (p + 2 + x.size) 32 _ P4.out.1 P4.out.2.1.cell HNE.out q3 (r3.trans rfl) (by omega)).mono ?_
                rintro e w5 ⟨hg5, hat5, rfl⟩
                have P5 : Hid (PS w w5 (w.heap.size + 1) w.heap.size wo.heap.size (p + 2 + x.size + 1) s ⟨48 + d - 48, ⟨#[]⟩, ⟨#[]⟩⟩ vo acc) := P4.out.grown hg5 hat5
                rw [HW2.out]
                clear hg5 hat5 r3
                have H3 := Lib.hid h3
                clear h3
                have hy2 := HY2.out (by omega)
                go_wp2_with fail
                refine (ratio_end y _ (by omega)).mono ?_
                rintro e w6 ⟨hp6, rfl⟩
                have P6 := Lib.hid (P5.out.past hp6)
                have b1 := P6.out.1.cell
                have b2 := P6.out.1.frozen
                have b3 := P6.out.2.1.cell
                clear hp6
                cases hvy : okE (byt y) with
                | false =>
                  have HE : Hid (parseP s 0 [] = ([], p + 2 + x.size + 1, 2)) := by
                    show _ = _
                    rw [← HPP.out]
                    refine parseP_bad hin ?_
                    rw [HST.out, if_neg (by rw [H2.out]; simp), if_neg (by rw [HVX.out]; simp), if_neg (by rw [H3.out]; simp), if_pos hvy]
                  go_wp2_with fail
                  go_region
                  all_goals (
                    go_wp2_with fail
                    have hq := P6.out.done (p + 2 + x.size + 1)
                    exact bodyPost_ret (v := .tuple #[.slice none 0 0, .int .i64 ((p + 2 + x.size + 1 : Nat) : Int), .int .i64 2]) (by simp [results, Tryz.results19, go_sem, b1]) rfl ⟨hq, _, by rw [HR.out, HE.out], by rw [HR.out, HE.out]; exact OwnS.nil hq _ _⟩)
                | true =>
                  have HVY := Lib.hid hvy
                  clear hvy
                  have P7 := Lib.hid (P6.out.set (p + 2 + x.size + 1 + y.size))
                  go_wp2_with fail
                  clear b1 b2 b3
                  by_cases h4 : s.data.toList[p + 2 + x.size + 1 + y.size]? = some 10
                  · obtain ⟨q4, r4⟩ := at_iff.1 h4
                    refine (field_ok s (w.heap.size + 1) w.heap.size (p + 2 + x.size + 1 + y.size) 10 _ P7.out.1 P7.out.2.1.cell HNE.out q4 (r4.trans rfl) (by omega)).mono ?_
                    rintro e w8 ⟨hg8, hat8, rfl⟩
                    have P8 : Hid (PS w w8 (w.heap.size + 1) w.heap.size wo.heap.size (p + 2 + x.size + 1 + y.size + 1) s ⟨48 + d - 48, ⟨#[]⟩, ⟨#[]⟩⟩ vo acc) := P7.out.grown hg8 hat8
                    clear hg8 hat8 r4
                    have H4 := Lib.hid h4
                    clear h4
                    have HGO : Hid (parseP s (p + 2 + x.size + 1 + y.size + 1) (acc ++ [⟨d, x, y⟩]) = parseP s 0 []) := by
                      show _ = _
                      rw [← HPP.out]
                      refine (parseP_go hin ?_).symm
                      rw [HST.out, if_neg (by rw [H2.out]; simp), if_neg (by rw [HVX.out]; simp), if_neg (by rw [H3.out]; simp), if_neg (by rw [HVY.out]; simp), if_neg (by rw [H4.out]; simp), show 48 + d - 48 = d by omega]
                    have g0 : w8.cell? ⟨wo.heap.size, 0, none⟩ = some (.int .i64 (48 + d - 48)) := by rw [Lib.cell_of_heap P8.out.2.2.1]; rfl
                    have g1 : w8.cell? ⟨wo.heap.size, 1, none⟩ = some (.string ⟨#[]⟩) := by rw [Lib.cell_of_heap P8.out.2.2.1]; rfl
                    have g2 : w8.cell? ⟨wo.heap.size, 2, none⟩ = some (.string ⟨#[]⟩) := by rw [Lib.cell_of_heap P8.out.2.2.1]; rfl
                    have g3 : w8.frozen? ⟨wo.heap.size, 1, none⟩ = false := Lib.frozen_of_heap P8.out.2.2.1 1
                    have g4 : w8.frozen? ⟨wo.heap.size, 2, none⟩ = false := Lib.frozen_of_heap P8.out.2.2.1 2
                    have P9 : Hid (PT w ((w8.setCell ⟨wo.heap.size, 1, none⟩ (.string x)).setCell ⟨wo.heap.size, 2, none⟩ (.string y)) (w.heap.size + 1) w.heap.size (p + 2 + x.size + 1 + y.size + 1) s vo acc) :=
                      P8.out.fill HV.out (by have h1 := (Array.getElem?_eq_some_iff.1 HPT.out.2.1).1; omega) HPT.out.2.2.1.2.size _ _
                    go_wp2_with (first | (at_builtin; refine wpList_appG el_bar (OwnS.alloc P9.out.2.2.1 _) rfl rfl rfl ⟨_, 0, none⟩ _ ⟨d, x, y⟩ rfl (cell_newS rBar _ _ _ _ _ (by simp [go_sem]) (by show [Value.int .i64 (48 + d - 48), Value.string x, Value.string y] = [Value.int .i64 d, Value.string x, Value.string y]; rw [show 48 + d - 48 = d by omega])) ?_ ?_; (have := HAL.out; omega); intro v9 w9 hown9 hgr9))
                    have P10 : Hid (PT w w9 (w.heap.size + 1) w.heap.size (p + 2 + x.size + 1 + y.size + 1) s v9 (acc ++ [⟨d, x, y⟩])) := P9.out.app hgr9 hown9
                    clear hgr9 hown9 g0 g1 g2 g3 g4
                    have HFF : Hid (∀ b ∈ acc ++ [(⟨d, x, y⟩ : Bar)], b.fit) := fun b hb => by
                      rcases List.mem_append.1 hb with h | h
                      · exact HAF.out b h
                      · rw [List.mem_singleton] at h
                        subst h
                        exact ⟨by show x.size ≤ _; omega, by show y.size ≤ _; omega⟩
                    go_roundg (s.size - (p + 2 + x.size + 1 + y.size + 1))
                    case measure => have := HG.out; omega
                    case rel => exact ⟨p + 2 + x.size + 1 + y.size + 1, _, _, rfl, by omega, rfl, by have := HAL.out; show _ ≤ _; simp; omega, HFF.out, HGO.out, P10.out⟩
                  · refine (field_bad s (w.heap.size + 1) w.heap.size (p + 2 + x.size + 1 + y.size) 10 _ P7.out.1 P7.out.2.1.cell (by omega) (fun h hh => h4 (at_iff.2 ⟨h, hh⟩))).mono ?_
                    rintro e w8 ⟨hp8, rfl⟩
                    have P8 := Lib.hid (P7.out.past hp8)
                    have b1 := P8.out.1.cell
                    have b2 := P8.out.1.frozen
                    have b3 := P8.out.2.1.cell
                    clear hp8
                    have HE : Hid (parseP s 0 [] = ([], p + 2 + x.size + 1 + y.size, 2)) := by
                      show _ = _
                      rw [← HPP.out]
                      refine parseP_bad hin ?_
                      rw [HST.out, if_neg (by rw [H2.out]; simp), if_neg (by rw [HVX.out]; simp), if_neg (by rw [H3.out]; simp), if_neg (by rw [HVY.out]; simp), if_pos h4]
                    go_wp2_with fail
                    go_region
                    all_goals (
                      go_wp2_with fail
                      have hq := P8.out.done (p + 2 + x.size + 1 + y.size)
                      exact bodyPost_ret (v := .tuple #[.slice none 0 0, .int .i64 ((p + 2 + x.size + 1 + y.size : Nat) : Int), .int .i64 2]) (by simp [results, Tryz.results19, go_sem, b1]) rfl ⟨hq, _, by rw [HR.out, HE.out], by rw [HR.out, HE.out]; exact OwnS.nil hq _ _⟩)
              · refine (field_bad s (w.heap.size + 1) w.heap.size (p + 2 + x.size) 32 _ P4.out.1 P4.out.2.1.cell (by omega) (fun h hh => h3 (at_iff.2 ⟨h, hh⟩))).mono ?_
                rintro e w5 ⟨hp5, rfl⟩
                have P5 := Lib.hid (P4.out.past hp5)
                have b1 := P5.out.1.cell
                have b2 := P5.out.1.frozen
                have b3 := P5.out.2.1.cell
                clear hp5
                have HE : Hid (parseP s 0 [] = ([], p + 2 + x.size, 2)) := by
                  show _ = _
                  rw [← HPP.out]
                  refine parseP_bad hin ?_
                  rw [HST.out, if_neg (by rw [H2.out]; simp), if_neg (by rw [HVX.out]; simp), if_pos h3]
                go_wp2_with fail
                go_region
                all_goals (
                  go_wp2_with fail
                  have hq := P5.out.done (p + 2 + x.size)
                  exact bodyPost_ret (v := .tuple #[.slice none 0 0, .int .i64 ((p + 2 + x.size : Nat) : Int), .int .i64 2]) (by simp [results, Tryz.results19, go_sem, b1]) rfl ⟨hq, _, by rw [HR.out, HE.out], by rw [HR.out, HE.out]; exact OwnS.nil hq _ _⟩)
          · refine (field_bad s (w.heap.size + 1) w.heap.size (p + 1) 32 _ PB1.out.1 PB1.out.2.1.cell (by omega) (fun h hh => h2 (at_iff.2 ⟨h, hh⟩))).mono ?_
            rintro e w2 ⟨hp2, rfl⟩
            have P2 := Lib.hid (PB1.out.past hp2)
            have b1 := P2.out.1.cell
            have b2 := P2.out.1.frozen
            have b3 := P2.out.2.1.cell
            clear hp2
            have HE : Hid (parseP s 0 [] = ([], p + 1, 2)) := by
              show _ = _
              rw [← HPP.out]
              refine parseP_bad hin ?_
              rw [HST.out, if_pos h2]
            go_wp2_with fail
            go_region
            all_goals (
              go_wp2_with fail
              have hq := P2.out.done (p + 1)
              exact bodyPost_ret (v := .tuple #[.slice none 0 0, .int .i64 ((p + 1 : Nat) : Int), .int .i64 2]) (by simp [results, Tryz.results19, go_sem, b1]) rfl ⟨hq, _, by rw [HR.out, HE.out], by rw [HR.out, HE.out]; exact OwnS.nil hq _ _⟩)
      · have hpe : p = s.size := by omega
        have HE : Hid (parseP s 0 [] = if checkB acc ≠ 0 then ([], 0, checkB acc) else (acc, 0, 0)) := by
          show _ = _
          rw [← HPP.out, parseP_end hin]
        obtain ⟨A, c, rfl, hrows⟩ := HPT.out.2.2.1.reads
        have HRO := Lib.hid hrows
        clear hrows hin
        subst hpe
        go_wp2_with fail
        refine (bar_check A acc.length c acc _ HRO.out HAF.out).mono ?_
        rintro e w2 ⟨hp2, rfl⟩
        have k1 := hp2.cell a1
        have k2 := (hp2.free a1 a2).2
        have HOF : Hid (OwnS w (w2.setCell ⟨w.heap.size + 1, 0, none⟩ (.int .i64 0)) rBar 94 (.slice A acc.length c) acc) :=
          (HPT.out.2.2.1.past hp2).grown (grown_set (Past.refl w2) _ _ _) (by omega) HPT.out.own
        clear hp2
        obtain ⟨ck, hck⟩ : ∃ k, checkB acc = k := ⟨_, rfl⟩
        rw [hck] at HE ⊢
        clear hck
        by_cases hk0 : ck = 0
        · subst hk0
          go_wp2_with fail
          exact bodyPost_ret (v := .tuple #[.slice A acc.length c, .int .i64 0, .int .i64 0]) (by simp [results, Tryz.results19, go_sem, k1]) rfl ⟨HOF.out.2, _, by rw [HR.out, HE.out]; rfl, by rw [HR.out, HE.out]; exact HOF.out⟩
        · have hkb : (ck != 0) = true := by simp [hk0]
          go_wp2_with fail
          exact bodyPost_ret (v := .tuple #[.slice none 0 0, .int .i64 0, .int .i64 ck]) (by simp [results, Tryz.results19, go_sem, k1]) rfl ⟨HOF.out.2, _, by rw [HR.out, HE.out, if_pos hk0]; rfl, by rw [HR.out, HE.out, if_pos hk0]; exact OwnS.nil HOF.out.2 _ _⟩

end Go.Proofs.YtdcjibjldfjllaaGreat
