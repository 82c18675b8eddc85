/- Helpers of the proof, joined: App Lq Fr7 Dv1 Dec7f. -/
import Derived.Test.YtdcjibjldfjllaaGreatPGa
import Derived.Test.YtdcjibjldfjllaaGreatPGj
import Derived.Test.YtdcjibjldfjllaaGreatPGl
import Derived.Test.YtdcjibjldfjllaaGreatPGi
import Derived.Maps.AppendAt
set_option linter.unusedVariables false
set_option linter.unusedSimpArgs false
/- 'append(out, ys...)' onto a row of the call's own, whatever the other slice is; slices that are written out. -/
namespace Go.Proofs.YtdcjibjldfjllaaGreat
open Go.RowKit

theorem run_app_nil {P : Program} (w : World) (t ty e : TypeId) (i : TypeInfo) (ht : P.underlying t = some (.slice e)) (hi : P.info? e = some i) {base size n : Nat} {v : Value} {xs : List Value} (h : w.ownsRow base e size v n xs) (c : Nat) :
    (Builtin.append_ #[t, t] ty #[v, .slice none 0 c]).run P w = .ok v w := by
  rcases h.2 with ⟨rfl, rfl⟩ | ⟨g, cap, cur, rfl, _, _, h1, _, _, _⟩
  · simp [Builtin.append_, run_underlying ht, sizeOf, typeInfo, hi, Builtin.lenOf, Builtin.firstCells]
  · simp [Builtin.append_, run_underlying ht, sizeOf, typeInfo, hi, Builtin.lenOf, Builtin.firstCells, h1, storeCells]

/-- 'append(out, ys...)'. -/
theorem wpList_apps {P : Program} {w : World} {ops : Array Oper} {rest : List Oper} {o : Oper} {a : Act} {Q : Exit → Act → World → Prop} {w0 : World} {k : IntKind} {xs ys : List Int} {e : TypeId} {s x : Operand} {t : TypeId} (he : ElT P t e) {v : Value}
    (hown : Own w0 w e k v xs) (hgd : o.guard = none)
    (ho : o.op = .call { callee := .builtin .append, args := #[s, x], argTypes := #[t, t] })
    (hs : a.eval s = v) (A : Option Addr) (m c : Nat) (hx : a.eval x = .slice A m c) (hy : RInts w k A m c ys) (hlen : xs.length + m < 1099511627776)
    (h : ∀ v' w', Own w0 w' e k v' (xs ++ ys) → Past w0 w' → wpList P ops Q rest (a.put o.dst v') w') : wpList P ops Q (o :: rest) a w := by
  obtain ⟨i, z, hi, hz, hsize, hby, hzs⟩ := he.i
  have hl := hy.len
  cases A with
  | none =>
    have hm : m = 0 := by
      rcases Nat.eq_zero_or_pos m with h0 | h0
      · exact h0
      · obtain ⟨b, o', hA, _⟩ := hy.at_ h0; cases hA
    subst hm
    have hys : ys = [] := List.eq_nil_of_length_eq_zero hl
    have hrun := run_app_nil (P := P) w t o.type e i he.t hi hown.1 c
    refine wpList_plain hgd fun K hK => ?_
    unfold Oper.wp
    simp [execOp, ho, resolve, invoke, builtin, hs, hx, hrun, Result.andThen]
    exact hK _ _ (h v w (by rw [hys, List.append_nil]; exact hown) hown.2)
  | some ad =>
    have hb : (xs.length + m) * i.bytes ≤ 140737488355328 := Nat.le_trans (Nat.mul_le_mul_left _ hby) (by omega)
    refine wpList_append_own (P := P) w hgd s x t ho w0.heap.size e i z 1 i.bytes he.t hi hz hsize rfl hzs (by omega) v xs.length _ hs hown.1 ad m c (ys.map (Value.int k)) hx (by simp [hl]) ?_ ?_ (by unfold maxLen; omega) hb hown.2.size ?_
    · intro j u hj
      have hjl : j < m := by
        rcases Nat.lt_or_ge j m with h1 | h1
        · exact h1
        · rw [List.getElem?_eq_none (by simp [hl]; exact h1)] at hj; cases hj
      obtain ⟨b, o', hA, hc⟩ := hy.at_ (by omega)
      injection hA with hA
      subst hA
      have hu : u = .int k (rd ys j) := by
        rw [List.getElem?_map, List.getElem?_eq_getElem (by omega)] at hj
        simp at hj
        rw [← hj]; unfold rd; rw [List.getD_eq_getElem?_getD, List.getElem?_eq_getElem (by omega)]; rfl
      rw [hu]
      have h1 : (⟨b, o', none⟩ : Addr).add j = ⟨b, o' + j, none⟩ := by unfold Addr.add; split <;> simp_all
      rw [h1]
      exact hc j hjl
    · intro u hu
      obtain ⟨y, _, rfl⟩ := List.mem_map.1 hu
      rfl
    · intro v' w' h1 h2 _
      have hp : Past w0 w' := hown.2.grown h2 (fun k hk => (hown.1.lt k hk).1)
      refine h v' w' ⟨?_, hp⟩ hp
      rw [List.length_append, hl, List.map_append]
      exact h1

theorem Own.reads2 {w0 w : World} {e : TypeId} {k : IntKind} {v : Value} {xs : List Int} (h : Own w0 w e k v xs) : ∃ A n c, v = .slice A n c ∧ RInts w k A n c xs :=
  let ⟨A, c, h1, h2⟩ := h.reads; ⟨A, _, c, h1, h2⟩
/-- '[]T{}'. -/
theorem Own.made0 {w0 w : World} (h : Past w0 w) (e : TypeId) (k : IntKind) : Own w0 (w.alloc (.cells #[] e)) e k (.slice (some ⟨w.heap.size, 0, none⟩) 0 0) [] :=
  ⟨⟨rfl, .inr ⟨w.heap.size, 0, #[], rfl, h.size, heap_alloc_new w _, Nat.le_refl _, Nat.zero_le _, rfl, rfl⟩⟩, h.alloc _⟩
/-- '[]T{x}'. -/
theorem Own.made1 {w0 w : World} (h : Past w0 w) (e : TypeId) (k : IntKind) (x : Int) : Own w0 (w.alloc (.cells #[.int k x] e)) e k (.slice (some ⟨w.heap.size, 0, none⟩) 1 1) [x] :=
  ⟨⟨rfl, .inr ⟨w.heap.size, 1, #[.int k x], rfl, h.size, heap_alloc_new w _, Nat.le_refl _, by decide, rfl, rfl⟩⟩, h.alloc _⟩

end Go.Proofs.YtdcjibjldfjllaaGreat

/- How long sums and products of rational numbers are. -/
namespace Go.Proofs.YtdcjibjldfjllaaGreat
open Go.RowKit

theorem len_mono {x y : Int} (h : x.natAbs ≤ y.natAbs) : len x ≤ len y := dg_le h
theorem mk_parts (x : Int) (y : Nat) (hy : y ≠ 0) : (mkRat x y).num.natAbs ≤ x.natAbs ∧ (mkRat x y).den ≤ y := by
  rw [Rat.num_mkRat, Rat.den_mkRat, if_neg hy, if_neg hy]
  exact ⟨Int.natAbs_ediv_le_natAbs _ _, Nat.div_le_self _ _⟩
theorem lenQ_mk {x : Int} {y k : Nat} (hy : y ≠ 0) (h1 : len x ≤ k) (h2 : len (y : Int) ≤ k) : lenQ (mkRat x y) ≤ k := by
  have h := mk_parts x y hy
  unfold lenQ
  have a := len_mono h.1
  have b : len ((mkRat x y).den : Int) ≤ len (y : Int) := len_mono (by simpa using h.2)
  omega
theorem lenQ_add (q r : Rat) : lenQ (q + r) ≤ lenQ q + lenQ r + 1 := by
  rw [Rat.add_def']
  have hq := q.den_nz
  have hr := r.den_nz
  refine lenQ_mk (Nat.mul_ne_zero hq hr) ?_ ?_
  · have := len_add (q.num * r.den) (r.num * q.den)
    have := len_mul q.num r.den
    have := len_mul r.num q.den
    unfold lenQ
    omega
  · rw [Int.natCast_mul]
    have := len_mul (q.den : Int) (r.den : Int)
    unfold lenQ
    omega
/-- How many decimal digits. -/
def dlen10 (z : Int) : Nat := (dgt z.natAbs).length
theorem dgt_lt' (n : Nat) : n < 10 ^ (dgt n).length := by
  have h := Dg.val_lt (b := 10) (by omega) (dgt_dig n)
  rw [dgt_val] at h
  have e : ((10 ^ (dgt n).length : Nat) : Int) = (10 : Int) ^ (dgt n).length := by rw [Int.natCast_pow]; rfl
  omega
theorem dlen10_mono {x y : Int} (h : x.natAbs ≤ y.natAbs) : dlen10 x ≤ dlen10 y := dgt_len_mono h
theorem dlen10_mul (x y : Int) : dlen10 (x * y) ≤ dlen10 x + dlen10 y := by
  unfold dlen10
  refine Dg.toD_length_le (by omega) ?_
  rw [Int.natAbs_mul, Nat.pow_add]
  exact Nat.mul_lt_mul'' (dgt_lt' _) (dgt_lt' _)
theorem dlen10_add (x y : Int) : dlen10 (x + y) ≤ max (dlen10 x) (dlen10 y) + 1 := by
  unfold dlen10
  have h1 := dgt_lt' x.natAbs
  have h2 := dgt_lt' y.natAbs
  refine Dg.toD_length_le (by omega) ?_
  generalize (dgt x.natAbs).length = a at *
  generalize (dgt y.natAbs).length = b at *
  have h3 : 10 ^ a ≤ 10 ^ (max a b) := Nat.pow_le_pow_right (by omega) (by omega)
  have h4 : 10 ^ b ≤ 10 ^ (max a b) := Nat.pow_le_pow_right (by omega) (by omega)
  rw [Nat.pow_succ]
  have := Int.natAbs_add_le x y
  omega
def dlQ (q : Rat) : Nat := max (dlen10 q.num) (dlen10 (q.den : Int))
theorem tlQ_le (q : Rat) : tlQ q ≤ dlQ q + 1 := by
  unfold tlQ dlQ dlen10
  have := tlen_le q.num
  have := tlen_le (q.den : Int)
  omega
theorem dlQ_le (q : Rat) : dlQ q ≤ tlQ q := by
  unfold tlQ dlQ dlen10
  have := dgt_length_le q.num
  have := dgt_length_le (q.den : Int)
  omega
theorem dlQ_mk {x : Int} {y k : Nat} (hy : y ≠ 0) (h1 : dlen10 x ≤ k) (h2 : dlen10 (y : Int) ≤ k) : dlQ (mkRat x y) ≤ k := by
  have h := mk_parts x y hy
  unfold dlQ
  have a := dlen10_mono h.1
  have b : dlen10 ((mkRat x y).den : Int) ≤ dlen10 (y : Int) := dlen10_mono (by simpa using h.2)
  omega
theorem dlQ_add (q r : Rat) : dlQ (q + r) ≤ dlQ q + dlQ r + 1 := by
  rw [Rat.add_def']
  refine dlQ_mk (Nat.mul_ne_zero q.den_nz r.den_nz) ?_ ?_
  · have := dlen10_add (q.num * r.den) (r.num * q.den)
    have := dlen10_mul q.num r.den
    have := dlen10_mul r.num q.den
    unfold dlQ
    omega
  · rw [Int.natCast_mul]
    have := dlen10_mul (q.den : Int) (r.den : Int)
    unfold dlQ
    omega
end Go.Proofs.YtdcjibjldfjllaaGreat

/- The reference's rational numbers: opposites, sums, products, differences, over what Reduced answers. -/
namespace Go.Proofs.YtdcjibjldfjllaaGreat
open Go.RowKit

/-- Reduced answers the quotient of these. -/
def RedC (x y : Int) : Prop := ∀ w, Calls Tryz.prog 94 #[.string (tZ x), .string (tZ y)] w fun r w' => Past w w' ∧ r = .returned (.string (tQ (mkRat x y.toNat)))
theorem split_call (q : Rat) (h : tlQ q ≤ 10000000) (w : World) : Calls Tryz.prog 76 #[.string (tQ q)] w fun e w' => Past w w' ∧ e = .returned (.tuple #[.string (tZ q.num), .string (tZ (q.den : Int)), .bool (!decide (q.den = 1))]) := by
  have h1 := ref_split (tQ q) w (by have := tQ_size q; omega)
  rw [split_tQ] at h1
  exact h1

set_option maxRecDepth 100000 in
set_option maxHeartbeats 4000000 in
theorem fr_opposite (q : Rat) (w : World) (hq : tlQ q ≤ 10000000) :
    Calls Tryz.prog 32 #[.string (tQ q)] w fun r w' => Past w w' ∧ r = .returned (.string (tQ (-q))) := by
  have HT : Hid (tlen q.num ≤ 10000000 ∧ tlen (q.den : Int) ≤ 10000000) := by unfold tlQ at hq; unfold Hid; omega
  have C1 := Lib.hid (split_call q hq)
  have z1 : (tZ (-q.num)).size ≤ 20000000 := by
    rw [tZ_size]
    have h1 := tlen_le (-q.num)
    have h2 := dgt_length_le q.num
    have := HT.out.1
    rw [Int.natAbs_neg] at h1
    omega
  have z2 : (tZ (q.den : Int)).size ≤ 10000000 := by rw [tZ_size]; exact HT.out.2
  have hs1 : ¬ 9223372036854775807 < (tZ (-q.num)).size + 1 := by omega
  have hs2 : ¬ 9223372036854775807 < (tZ (-q.num)).size + 1 + (tZ (q.den : Int)).size := by omega
  clear z1 z2 hq
  by_cases hd : q.den = 1
  · have hb : decide (q.den = 1) = true := decide_eq_true hd
    have HE : Hid (tQ (-q) = tZ (-q.num)) := by
      show _ = _
      rw [tQ_one (by rw [Rat.neg_den]; exact hd), Rat.neg_num]
    clear hd
    rw [hb] at C1
    go_enter Tryz.func32, Tryz.ntmps32
    go_wp2_with fail
    refine (C1.out _).mono ?_
    rintro e w1 ⟨hp1, rfl⟩
    go_wp2_with fail
    refine (ref_opposite q.num _ (by have := HT.out; omega)).mono ?_
    rintro e w2 ⟨hp2, rfl⟩
    go_wp2
    go_ret
    exact ⟨hp1.trans hp2, by rw [HE.out]; rfl⟩
  · have hb : decide (q.den = 1) = false := decide_eq_false hd
    have HE : Hid (tQ (-q) = tZ (-q.num) ++ ⟨#[47]⟩ ++ tZ (q.den : Int)) := by
      show _ = _
      rw [tQ_more (by rw [Rat.neg_den]; exact hd), Rat.neg_num, Rat.neg_den]
    clear hd
    rw [hb] at C1
    go_enter Tryz.func32, Tryz.ntmps32
    go_wp2_with fail
    refine (C1.out _).mono ?_
    rintro e w1 ⟨hp1, rfl⟩
    go_wp2_with fail
    refine (ref_opposite q.num _ (by have := HT.out; omega)).mono ?_
    rintro e w2 ⟨hp2, rfl⟩
    go_wp2
    go_ret
    exact ⟨hp1.trans hp2, by rw [HE.out]; rfl⟩

theorem mkRat_add (p q : Rat) : mkRat (p.num * q.den + q.num * p.den) (((p.den : Int) * (q.den : Int)).toNat) = p + q := by
  rw [Rat.add_def', ← Int.natCast_mul, Int.toNat_natCast]
set_option maxRecDepth 100000 in
set_option maxHeartbeats 4000000 in
theorem fr_plus (p q : Rat) (w : World) (hp : tlQ p ≤ 10000000) (hq : tlQ q ≤ 10000000) (hr : RedC (p.num * q.den + q.num * p.den) ((p.den : Int) * (q.den : Int))) :
    Calls Tryz.prog 33 #[.string (tQ p), .string (tQ q)] w fun r w' => Past w w' ∧ r = .returned (.string (tQ (p + q))) := by
  have HT : Hid (tlen p.num ≤ 10000000 ∧ tlen (p.den : Int) ≤ 10000000 ∧ tlen q.num ≤ 10000000 ∧ tlen (q.den : Int) ≤ 10000000) := by unfold tlQ at hp hq; unfold Hid; omega
  have C1 := Lib.hid (split_call p hp)
  have C2 := Lib.hid (split_call q hq)
  have C3 := Lib.hid (hr)
  have HM := Lib.hid (mkRat_add p q)
  have T1 := Lib.hid (tlen_mul p.num q.den)
  have T2 := Lib.hid (tlen_mul q.num p.den)
  have hn1 := toList_one (p.den : Int)
  have hn2 := toList_one (q.den : Int)
  obtain ⟨b1, hb1⟩ : ∃ b, decide ((p.den : Int) = 1) = b := ⟨_, rfl⟩
  obtain ⟨b2, hb2⟩ : ∃ b, decide ((q.den : Int) = 1) = b := ⟨_, rfl⟩
  rw [hb1] at hn1
  rw [hb2] at hn2
  have HB1 := Lib.hid hb1
  have HB2 := Lib.hid hb2
  clear hp hq hr hb1 hb2
  cases b1 with
  | false =>
    go_enter Tryz.func33, Tryz.ntmps33
    go_wp2_with fail
    refine (C1.out _).mono ?_
    rintro e w1 ⟨hp1, rfl⟩
    go_wp2_with fail
    refine (C2.out _).mono ?_
    rintro e w2 ⟨hp2, rfl⟩
    go_wp2_with fail
    refine (ref_times p.num (q.den : Int) _ (by have := HT.out; omega) (by have := HT.out; omega)).mono ?_
    rintro e w3 ⟨hp3, rfl⟩
    go_wp2_with fail
    refine (ref_times q.num (p.den : Int) _ (by have := HT.out; omega) (by have := HT.out; omega)).mono ?_
    rintro e w4 ⟨hp4, rfl⟩
    go_wp2_with fail
    refine (ref_plus (p.num * q.den) (q.num * p.den) _ (by have := HT.out; have := T1.out; omega) (by have := HT.out; have := T2.out; omega)).mono ?_
    rintro e w5 ⟨hp5, rfl⟩
    go_wp2_with fail
    refine (ref_times (p.den : Int) (q.den : Int) _ (by have := HT.out; omega) (by have := HT.out; omega)).mono ?_
    rintro e w6 ⟨hp6, rfl⟩
    go_wp2_with fail
    refine (C3.out _).mono ?_
    rintro e w7 ⟨hp7, rfl⟩
    rw [HM.out]
    go_wp2
    go_ret
    exact ⟨(((((hp1.trans hp2).trans hp3).trans hp4).trans hp5).trans hp6).trans hp7, rfl⟩
  | true => cases b2 with
    | false =>
      go_enter Tryz.func33, Tryz.ntmps33
      go_wp2_with fail
      refine (C1.out _).mono ?_
      rintro e w1 ⟨hp1, rfl⟩
      go_wp2_with fail
      refine (C2.out _).mono ?_
      rintro e w2 ⟨hp2, rfl⟩
      go_wp2_with fail
      refine (ref_times p.num (q.den : Int) _ (by have := HT.out; omega) (by have := HT.out; omega)).mono ?_
      rintro e w3 ⟨hp3, rfl⟩
      go_wp2_with fail
      refine (ref_times q.num (p.den : Int) _ (by have := HT.out; omega) (by have := HT.out; omega)).mono ?_
      rintro e w4 ⟨hp4, rfl⟩
      go_wp2_with fail
      refine (ref_plus (p.num * q.den) (q.num * p.den) _ (by have := HT.out; have := T1.out; omega) (by have := HT.out; have := T2.out; omega)).mono ?_
      rintro e w5 ⟨hp5, rfl⟩
      go_wp2_with fail
      refine (ref_times (p.den : Int) (q.den : Int) _ (by have := HT.out; omega) (by have := HT.out; omega)).mono ?_
      rintro e w6 ⟨hp6, rfl⟩
      go_wp2_with fail
      refine (C3.out _).mono ?_
      rintro e w7 ⟨hp7, rfl⟩
      rw [HM.out]
      go_wp2
      go_ret
      exact ⟨(((((hp1.trans hp2).trans hp3).trans hp4).trans hp5).trans hp6).trans hp7, rfl⟩
    | true =>
      have HE : Hid (tQ (p + q) = tZ (p.num + q.num)) := by
        have a : p.den = 1 := by have := of_decide_eq_true HB1.out; omega
        have b : q.den = 1 := by have := of_decide_eq_true HB2.out; omega
        have h : p + q = ((p.num + q.num : Int) : Rat) := by
          have hp : p = ((p.num : Int) : Rat) := Rat.ext rfl a
          have hq : q = ((q.num : Int) : Rat) := Rat.ext rfl b
          conv => lhs; rw [hp, hq]
          rw [← Rat.intCast_add]
        show _ = _
        rw [h, tQ_one (Rat.den_intCast _), Rat.num_intCast]
      go_enter Tryz.func33, Tryz.ntmps33
      go_wp2_with fail
      refine (C1.out _).mono ?_
      rintro e w1 ⟨hp1, rfl⟩
      go_wp2_with fail
      refine (C2.out _).mono ?_
      rintro e w2 ⟨hp2, rfl⟩
      go_wp2_with fail
      refine (ref_plus p.num q.num _ (by have := HT.out; omega) (by have := HT.out; omega)).mono ?_
      rintro e w3 ⟨hp3, rfl⟩
      go_wp2
      go_ret
      exact ⟨(hp1.trans hp2).trans hp3, by rw [HE.out]; rfl⟩

theorem tlQ_neg (q : Rat) : tlQ (-q) ≤ tlQ q + 1 := by
  unfold tlQ
  rw [Rat.neg_num, Rat.neg_den]
  have h1 := tlen_le (-q.num)
  have h2 := dgt_length_le q.num
  rw [Int.natAbs_neg] at h1
  omega

set_option maxRecDepth 100000 in
set_option maxHeartbeats 4000000 in
theorem fr_minus (p q : Rat) (w : World) (hp : tlQ p ≤ 10000000) (hq : tlQ q ≤ 1000000) (hr : RedC (p.num * q.den - q.num * p.den) ((p.den : Int) * (q.den : Int))) :
    Calls Tryz.prog 117 #[.string (tQ p), .string (tQ q)] w fun r w' => Past w w' ∧ r = .returned (.string (tQ (p - q))) := by
  have c1 : ∀ w, Calls Tryz.prog 33 #[.string (tQ p), .string (tQ (-q))] w fun r w' => Past w w' ∧ r = .returned (.string (tQ (p - q))) := fun w => by
    have h := fr_plus p (-q) w hp (by have := tlQ_neg q; omega) (by rw [Rat.neg_num, Rat.neg_den, Int.neg_mul, ← Int.sub_eq_add_neg]; exact hr)
    rw [Rat.sub_eq_add_neg]
    exact h
  have C1 := Lib.hid c1
  have HQ := Lib.hid hq
  clear c1 hp hq hr
  go_enter Tryz.func117, Tryz.ntmps117
  go_wp2_with fail
  refine (fr_opposite q _ (by have := HQ.out; omega)).mono ?_
  rintro e w1 ⟨hp1, rfl⟩
  go_wp2_with fail
  refine (C1.out _).mono ?_
  rintro e w2 ⟨hp2, rfl⟩
  go_wp2
  go_ret
  exact ⟨hp1.trans hp2, rfl⟩

end Go.Proofs.YtdcjibjldfjllaaGreat

/- Long division of decimal digits: plain. -/
namespace Go.Proofs.YtdcjibjldfjllaaGreat

theorem val_drop_dgt (N i : Nat) : Dg.val 10 ((dgt N).drop i) = ((N / 10 ^ i : Nat) : Int) := by
  rcases Nat.lt_or_ge i (dgt N).length with hi | hi
  · have h1 := Dg.val_take_drop 10 (dgt N) i (by omega)
    rw [dgt_val] at h1
    have h2 := Dg.val_lt (b := 10) (by omega) ((dgt_dig N).take i)
    have h3 := Dg.val_nonneg (b := 10) (by omega) ((dgt_dig N).take i)
    rw [List.length_take, Nat.min_eq_left (by omega)] at h2
    have h4 : (0 : Int) < 10 ^ i := Int.pow_pos (by omega)
    rw [Int.natCast_ediv, Int.natCast_pow]
    have h5 : ((N : Nat) : Int) / 10 ^ i = Dg.val 10 ((dgt N).drop i) := by
      rw [h1, Int.add_mul_ediv_left _ _ (by omega), Int.ediv_eq_zero_of_lt h3 h2, Int.zero_add]
    exact h5.symm
  · rw [List.drop_of_length_le hi]
    have h2 := Dg.val_lt (b := 10) (by omega) (dgt_dig N)
    rw [dgt_val] at h2
    have h3 : (10 : Int) ^ (dgt N).length ≤ 10 ^ i := Dg.pow_mono (by omega) hi
    have h4 : N < 10 ^ i := by
      have : ((N : Nat) : Int) < ((10 ^ i : Nat) : Int) := by rw [Int.natCast_pow]; exact Int.lt_of_lt_of_le h2 h3
      omega
    rw [Nat.div_eq_of_lt h4]
    rfl
theorem trim_drop_dgt (N i : Nat) : Dg.trim ((dgt N).drop i) = dgt (N / 10 ^ i) := by
  rw [Dg.trim_eq_toD (b := 10) (by omega) ((dgt_dig N).drop i)]
  show Dg.toD 10 (Dg.val 10 ((dgt N).drop i)).toNat = dgt (N / 10 ^ i)
  rw [val_drop_dgt, Int.toNat_natCast]
  rfl
theorem rd_dgt (N i : Nat) (h : i < (dgt N).length) : rd (dgt N) i = ((N / 10 ^ i % 10 : Nat) : Int) := by
  have h1 := Dg.val_drop_succ 10 h
  rw [val_drop_dgt, val_drop_dgt] at h1
  have h2 := Dg.Dig.getD (dgt_dig N) (by omega) i
  have h3 : N / 10 ^ (i + 1) = N / 10 ^ i / 10 := by rw [Nat.pow_succ, Nat.div_div_eq_div_mul]
  rw [h3] at h1
  unfold rd
  omega
/-- What is left below the first digits is less than the divisor. -/
theorem div_start (N M : Nat) (hM : 0 < M) : N / 10 ^ ((dgt N).length + 1 - (dgt M).length) < M := by
  have hY : dgt M ≠ [] := fun h => by rw [dgt_nil] at h; omega
  have hYl : 0 < (dgt M).length := List.length_pos_iff.2 hY
  have h1 := Dg.pow_le_val (b := 10) (by omega) (dgt_dig M) (Dg.toD_can 10 (by omega) M) hY
  rw [dgt_val] at h1
  have h2 := Dg.val_lt (b := 10) (by omega) (dgt_dig N)
  rw [dgt_val] at h2
  have h1' : 10 ^ ((dgt M).length - 1) ≤ M := by
    have : ((10 ^ ((dgt M).length - 1) : Nat) : Int) ≤ M := by rw [Int.natCast_pow]; exact h1
    omega
  have h2' : N < 10 ^ (dgt N).length := by
    have : ((N : Nat) : Int) < ((10 ^ (dgt N).length : Nat) : Int) := by rw [Int.natCast_pow]; exact h2
    omega
  refine Nat.lt_of_lt_of_le ?_ h1'
  apply Nat.div_lt_of_lt_mul
  rw [← Nat.pow_add]
  refine Nat.lt_of_lt_of_le h2' (Nat.pow_le_pow_right (by omega) (by omega))
/-- One more digit. -/
theorem div_next (N M i : Nat) (hM : 0 < M) : N / 10 ^ i / M = 10 * (N / 10 ^ (i + 1) / M) + (N / 10 ^ i % 10 + 10 * (N / 10 ^ (i + 1) % M)) / M ∧ N / 10 ^ i % M = (N / 10 ^ i % 10 + 10 * (N / 10 ^ (i + 1) % M)) % M ∧ N / 10 ^ i % 10 + 10 * (N / 10 ^ (i + 1) % M) < 10 * M := by
  have h3 : N / 10 ^ (i + 1) = N / 10 ^ i / 10 := by rw [Nat.pow_succ, Nat.div_div_eq_div_mul]
  rw [h3]
  obtain ⟨K, hK⟩ : ∃ K, N / 10 ^ i = K := ⟨_, rfl⟩
  rw [hK]
  have e1 := Nat.div_add_mod K 10
  have e2 := Nat.div_add_mod (K / 10) M
  have e3 := Nat.mod_lt K (show 10 > 0 by omega)
  have e4 := Nat.mod_lt (K / 10) hM
  obtain ⟨q, hq⟩ : ∃ q, K / 10 / M = q := ⟨_, rfl⟩
  obtain ⟨r, hr⟩ : ∃ r, K / 10 % M = r := ⟨_, rfl⟩
  rw [hq, hr] at e2
  rw [hr] at e4
  rw [hq, hr]
  have e5 : K = (K % 10 + 10 * r) + M * (10 * q) := by
    have : M * (10 * q) = 10 * (M * q) := by rw [Nat.mul_left_comm]
    omega
  have e6 : K / M = (K % 10 + 10 * r) / M + 10 * q := by
    conv => lhs; rw [e5]
    rw [Nat.add_mul_div_left _ _ hM]
  have e7 : K % M = (K % 10 + 10 * r) % M := by
    conv => lhs; rw [e5]
    rw [Nat.add_mul_mod_self_left]
  refine ⟨by omega, e7, by omega⟩
theorem trim_cons_dgt (d r : Nat) (hd : d < 10) : Dg.trim ((d : Int) :: dgt r) = dgt (d + 10 * r) := by
  rw [Dg.trim_eq_toD (b := 10) (by omega) (Dg.Dig.cons (b := 10) (by omega) (by omega) (dgt_dig r))]
  show Dg.toD 10 (Dg.val 10 ((d : Int) :: dgt r)).toNat = Dg.toD 10 (d + 10 * r)
  rw [Dg.val_cons, dgt_val]
  congr 1
theorem snoc_rev (qs : List Int) (t : Int) : Dg.val 10 (qs ++ [t]).reverse = t + 10 * Dg.val 10 qs.reverse := by
  rw [List.reverse_append]; rfl

end Go.Proofs.YtdcjibjldfjllaaGreat

/- The reference's difference of digits, and where it lies; an append, and what it leaves alone. -/
namespace Go.Proofs.YtdcjibjldfjllaaGreat
open Go.RowKit

theorem cell_same {w w' : World} {b : Nat} (h : w'.heap[b]? = w.heap[b]?) (o : Nat) : w'.cell? ⟨b, o, none⟩ = w.cell? ⟨b, o, none⟩ := by
  simp [World.cell?, h]
/-- The slice lies in a block from B on. -/
def FreshV (B : Nat) (v : Value) : Prop := ∀ g, v.ownBlock = some g → B ≤ g
theorem FreshV.slice {B : Nat} {A : Option Addr} {n c n' c' : Nat} (h : FreshV B (.slice A n c)) : FreshV B (.slice A n' c') := by
  cases A with
  | none => intro g hg; cases hg
  | some a => exact h
theorem Own.fresh {w0 w : World} {e : TypeId} {k : IntKind} {v : Value} {xs : List Int} (h : Own w0 w e k v xs) : FreshV w0.heap.size v := fun g hg => (h.1.lt g hg).1
def AnsF64 (xs : List Int) (w : World) (e : Ending) (w' : World) : Prop := Past w w' ∧ ∃ A n c, e = .returned (.slice A n c) ∧ RInts w' .i64 A n c xs ∧ FreshV w.heap.size (.slice A n c)
theorem RInts.grown {w w' : World} {k : IntKind} {A : Option Addr} {n c : Nat} {xs : List Int} {row : Option Nat} (h : RInts w k A n c xs) (hg : w.grownBy w' row) (hne : 0 < n → ∀ b, (Value.slice A n c).ownBlock = some b → row ≠ some b) : RInts w' k A n c xs := by
  refine ⟨h.len, h.cap, h.big, fun hp => ?_⟩
  obtain ⟨b, o, rfl, hc⟩ := h.at_ hp
  refine ⟨b, o, rfl, fun j hj => ?_⟩
  have h1 := hc j hj
  have hb : b < w.heap.size := World.block_lt_of_cell? w _ h1
  rw [← h1]
  exact cell_same (hg.block b hb (fun e => hne hp b rfl e.symm)) _

theorem RInts.setFar {w : World} {k : IntKind} {A : Option Addr} {n c : Nat} {xs : List Int} {g : Nat} (h : RInts w k A n c xs) (hne : 0 < n → ∀ b, (Value.slice A n c).ownBlock = some b → b ≠ g) (o : Nat) (u : Value) : RInts (w.setCell ⟨g, o, none⟩ u) k A n c xs := by
  refine ⟨h.len, h.cap, h.big, fun hp => ?_⟩
  obtain ⟨b, o', rfl, hc⟩ := h.at_ hp
  refine ⟨b, o', rfl, fun j hj => ?_⟩
  have hb := hne hp b rfl
  rw [World.cell?_setCell_other _ _ _ _ (by intro e; injection e with e1; exact hb e1.symm)]
  exact hc j hj
theorem RInts.lt {w : World} {k : IntKind} {A : Option Addr} {n c : Nat} {xs : List Int} (h : RInts w k A n c xs) (hp : 0 < n) : ∀ b, (Value.slice A n c).ownBlock = some b → b < w.heap.size := by
  obtain ⟨b, o, rfl, hc⟩ := h.at_ hp
  intro b' hb
  injection hb with hb
  subst hb
  exact World.block_lt_of_cell? w _ (hc 0 hp)
/-- Two slices lie in different blocks. -/
def Apart (A : Option Addr) (n c : Nat) (v : Value) : Prop := 0 < n → ∀ b, (Value.slice A n c).ownBlock = some b → v.ownBlock ≠ some b

/-- 'append(out, y)', and what it leaves alone. -/
theorem wpList_appF {P : Program} {w : World} {ops : Array Oper} {rest : List Oper} {o : Oper} {a : Act} {Q : Exit → Act → World → Prop} {w0 : World} {k : IntKind} {xs : List Int} {e : TypeId} {s x : Operand} {t : TypeId} (he : ElT P t e) {v : Value}
    (hown : Own w0 w e k v xs) (hgd : o.guard = none)
    (ho : o.op = .call { callee := .builtin .append, args := #[s, x], argTypes := #[t, t] })
    (hs : a.eval s = v) (ad : Addr) (c : Nat) (y : Int) (hx : a.eval x = .slice (some ad) 1 c) (hc : w.cell? ad = some (.int k y)) (hlen : xs.length < 1099511627776)
    (h : ∀ v' w', Own w0 w' e k v' (xs ++ [y]) → w.grownBy w' v.ownBlock → (v'.ownBlock = v.ownBlock ∨ v'.ownBlock = some w.heap.size) → wpList P ops Q rest (a.put o.dst v') w') : wpList P ops Q (o :: rest) a w := by
  obtain ⟨i, z, hi, hz, hsize, hby, hzs⟩ := he.i
  have hb : (xs.length + 1) * i.bytes ≤ 140737488355328 :=
    Nat.le_trans (Nat.mul_le_mul_left _ hby) (by omega)
  refine wpList_append_own_at (P := P) w hgd s x t ho w0.heap.size e i z 1 i.bytes he.t hi hz hsize rfl hzs (by omega) v xs.length _ hs hown.1 ad 1 c [.int k y] hx rfl ?_ ?_ (by unfold maxLen; omega) hb hown.2.size ?_
  · intro j u hj
    match j, hj with
    | 0, hj =>
      simp at hj
      subst hj
      have : ad.add 0 = ad := by unfold Addr.add; simp
      rw [this]; exact hc
    | j + 1, hj => simp at hj
  · intro u hu
    simp at hu
    subst hu
    rfl
  · intro v' w' h1 h2 _ h3
    have hp : Past w0 w' := hown.2.grown h2 (fun k hk => (hown.1.lt k hk).1)
    refine h v' w' ⟨?_, hp⟩ h2 h3
    simpa using h1

set_option maxRecDepth 100000 in
set_option maxHeartbeats 4000000 in
theorem ref_differenceF (A B : Option Addr) (n m c d : Nat) (xs ys : List Int) (w : World) (hx : RInts w .i64 A n c xs) (hy : RInts w .i64 B m d ys) (dx : Dg.Dig 10 xs) (dy : Dg.Dig 10 ys) (hn : n ≤ 1000000000) (hmn : m ≤ n) (hle : Dg.val 10 ys ≤ Dg.val 10 xs) :
    Calls Tryz.prog 149 #[.slice A n c, .slice B m d] w (AnsF64 (dgt (Dg.val 10 xs - Dg.val 10 ys).toNat) w) := by
  have HX := Lib.hid hx
  have HY := Lib.hid hy
  have DX := Lib.hid dx
  have DY := Lib.hid dy
  have HLX := Lib.hid hx.len
  have HLY := Lib.hid hy.len
  have HLE := Lib.hid hle
  have hcx := hx.cap
  have hcy := hy.cap
  have hbx := hx.big
  have hby := hy.big
  clear hx hy dx dy hle
  go_enter Tryz.func149, Tryz.ntmps149
  go_wp2
  go_loopw [5, 6, 7] (fun dv cv iv wr => ∃ (i : Nat) (os : List Int) (br : Int), i ≤ n ∧ iv = .int .i64 i ∧ cv = .int .i64 br ∧ 0 ≤ br ∧ br ≤ 1 ∧ Hid (os.length = i) ∧ Hid (Dg.Dig 10 os) ∧ Hid (Dg.val 10 os - 10 ^ i * br = Dg.val 10 (xs.take i) - Dg.val 10 (ys.take i)) ∧ Hid (Own w wr 3 .i64 dv os)) (fun _ _ iv _ => n - (intOf iv).toNat)
  case atStart => exact ⟨0, [], 0, by omega, rfl, rfl, by omega, by omega, rfl, Dg.Dig.nil _, by simp [Hid], Own.nil (Past.refl w) _ _⟩
  case round =>
    obtain ⟨i, os, br, hi, rfl, rfl, hc0, hc1, HLo, HDo, HV, HO⟩ := hrel
    have hdx := rd_dig DX.out (by omega) i
    have hdy := rd_dig DY.out (by omega) i
    obtain ⟨hdx0, hdx1⟩ := hdx
    obtain ⟨hdy0, hdy1⟩ := hdy
    by_cases hin : i < n
    · obtain ⟨b1, o1, rfl, hc1'⟩ := HX.out.at_ (by omega)
      have e1 := HO.out.2.cell (hc1' i (by omega))
      clear hc1'
      by_cases him : i < m
      · obtain ⟨b2, o2, rfl, hc2'⟩ := HY.out.at_ (by omega)
        have e2 := HO.out.2.cell (hc2' i (by omega))
        clear hc2'
        by_cases hneg : rd xs i - br - rd ys i < 0
        · have hb : decide (rd xs i - br - rd ys i < 0) = true := decide_eq_true hneg
          have HT : Hid (rd xs i - br - rd ys i = rd xs i - br - rd ys i) := by unfold Hid; omega
          go_wp2_with (first | (at_builtin; refine wpList_app el_int (HO.out.alloc _) rfl rfl rfl _ _ _ rfl (cell_new1 _ _ _) ?_ ?_; (have := HLo.out; omega); intro v1 w1 hown1 hp1))
          go_roundw
          case rel => exact ⟨i + 1, os ++ [(rd xs i - br - rd ys i + 10)], 1, by omega, by go_num, rfl, by omega, by omega, by simp [Hid, HLo.out], HDo.out.snoc (by omega) (by omega), diff_step HLo.out HV.out HT.out (by omega), hown1⟩
          case measure => simp [intOf]; omega
        · have hb : decide (rd xs i - br - rd ys i < 0) = false := decide_eq_false hneg
          have HT : Hid (rd xs i - br - rd ys i = rd xs i - br - rd ys i) := by unfold Hid; omega
          go_wp2_with (first | (at_builtin; refine wpList_app el_int (HO.out.alloc _) rfl rfl rfl _ _ _ rfl (cell_new1 _ _ _) ?_ ?_; (have := HLo.out; omega); intro v1 w1 hown1 hp1))
          go_roundw
          case rel => exact ⟨i + 1, os ++ [(rd xs i - br - rd ys i)], 0, by omega, by go_num, rfl, by omega, by omega, by simp [Hid, HLo.out], HDo.out.snoc (by omega) (by omega), diff_step HLo.out HV.out HT.out (by omega), hown1⟩
          case measure => simp [intOf]; omega
      · have hy0 : rd ys i = 0 := rd_out (by have := HLY.out; omega)
        by_cases hneg : rd xs i - br < 0
        · have hb : decide (rd xs i - br < 0) = true := decide_eq_true hneg
          have HT : Hid (rd xs i - br = rd xs i - br - rd ys i) := by unfold Hid; omega
          go_wp2_with (first | (at_builtin; refine wpList_app el_int (HO.out.alloc _) rfl rfl rfl _ _ _ rfl (cell_new1 _ _ _) ?_ ?_; (have := HLo.out; omega); intro v1 w1 hown1 hp1))
          go_roundw
          case rel => exact ⟨i + 1, os ++ [(rd xs i - br + 10)], 1, by omega, by go_num, rfl, by omega, by omega, by simp [Hid, HLo.out], HDo.out.snoc (by omega) (by omega), diff_step HLo.out HV.out HT.out (by omega), hown1⟩
          case measure => simp [intOf]; omega
        · have hb : decide (rd xs i - br < 0) = false := decide_eq_false hneg
          have HT : Hid (rd xs i - br = rd xs i - br - rd ys i) := by unfold Hid; omega
          go_wp2_with (first | (at_builtin; refine wpList_app el_int (HO.out.alloc _) rfl rfl rfl _ _ _ rfl (cell_new1 _ _ _) ?_ ?_; (have := HLo.out; omega); intro v1 w1 hown1 hp1))
          go_roundw
          case rel => exact ⟨i + 1, os ++ [(rd xs i - br)], 0, by omega, by go_num, rfl, by omega, by omega, by simp [Hid, HLo.out], HDo.out.snoc (by omega) (by omega), diff_step HLo.out HV.out HT.out (by omega), hown1⟩
          case measure => simp [intOf]; omega
    · have hie : i = n := by omega
      have HRES : Hid (Dg.trim os = dgt (Dg.val 10 xs - Dg.val 10 ys).toNat) := by
        have h := HV.out
        rw [Dg.val_take_all 10 (by have := HLX.out; omega), Dg.val_take_all 10 (by have := HLY.out; omega)] at h
        have h1 := Dg.val_lt (b := 10) (by omega) HDo.out
        rw [HLo.out] at h1
        have h2 := HLE.out
        have h3 : br = 0 := by
          rcases Int.lt_or_le 0 br with h4 | h4
          · have : br = 1 := by omega
            subst this
            omega
          · omega
        rw [h3, Int.mul_zero, Int.sub_zero] at h
        have h5 := Dg.trim_eq_toD (b := 10) (by omega) HDo.out
        rw [h5]
        unfold dgt
        rw [← h]
        rfl
      have HFR := Lib.hid (HO.out.fresh)
      obtain ⟨A1, c1, rfl, hrr⟩ := HO.out.reads
      have HRR := Lib.hid hrr
      clear hrr
      go_wp2_with fail
      refine (ref_trim _ _ _ _ _ HRR.out).mono ?_
      rintro e w2 ⟨hd, k, rfl, hr⟩
      go_wp2
      go_ret
      exact ⟨HO.out.2.trans hd.past, _, _, _, rfl, by rw [← HRES.out]; exact hr.past hd.past, HFR.out.slice⟩

end Go.Proofs.YtdcjibjldfjllaaGreat
