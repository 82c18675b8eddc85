/- Helpers of the proof, joined: Vl3 Vl4 LwSh. -/
import Derived.Test.YtdcjibjldfjllaaGreatGu
import Derived.Test.YtdcjibjldfjllaaGreatGxg
import Derived.Test.YtdcjibjldfjllaaGreatGq
import Derived.Test.YtdcjibjldfjllaaGreatGs
import Derived.Test.YtdcjibjldfjllaaGreatGxb
import Derived.Test.YtdcjibjldfjllaaGreatGp
set_option linter.unusedVariables false
set_option linter.unusedSimpArgs false
/- Bars of numbers over an increasing function: shifts and factors. -/
namespace Go.Proofs.YtdcjibjldfjllaaGreat
open Go.RowKit

def mapV (F : Rat → Rat) (v : VB) : VB := ⟨v.d, F v.q, v.e.map F⟩
def Inc (F : Rat → Rat) : Prop := ∀ p q, p < q → F p < F q
theorem cmpQ_vals (p q : Rat) : cmpQ p q = if p < q then -1 else if q < p then 1 else 0 := by
  have h1 := cmpQ_lt p q
  have h2 := cmpQ_gt p q
  unfold cmpQ cmpZ at *
  split
  · rename_i h; rw [if_pos h] at h1; rw [if_pos (h1.1 (by omega))]
  · rename_i h
    rw [if_neg h] at h1 h2
    split
    · rename_i h3; rw [if_pos h3] at h1 h2
      rw [if_neg (fun h4 => by have := h1.2 h4; omega), if_pos (h2.1 (by omega))]
    · rename_i h3; rw [if_neg h3] at h1 h2
      rw [if_neg (fun h4 => by have := h1.2 h4; omega), if_neg (fun h4 => by have := h2.2 h4; omega)]
theorem Inc.lt {F : Rat → Rat} (h : Inc F) (p q : Rat) : F p < F q ↔ p < q := by
  constructor
  · intro h1
    by_cases h2 : p < q
    · exact h2
    · by_cases h4 : q = p
      · rw [h4] at h1; exact absurd h1 (Rat.lt_irrefl)
      · have h5 := h q p (Rat.lt_of_le_of_ne (Rat.not_lt.1 h2) h4)
        exact absurd h1 (Rat.not_lt.2 (Rat.le_of_lt h5))
  · exact h p q
theorem Inc.cmpQ {F : Rat → Rat} (h : Inc F) (p q : Rat) : cmpQ (F p) (F q) = cmpQ p q := by
  rw [cmpQ_vals, cmpQ_vals]; simp only [h.lt]
theorem Inc.cmpE {F : Rat → Rat} (h : Inc F) (e f : Option Rat) : cmpE (e.map F) (f.map F) = cmpE e f := by
  cases e <;> cases f
  · rfl
  · rfl
  · rfl
  · exact h.cmpQ _ _
theorem Inc.ltV {F : Rat → Rat} (h : Inc F) (a b : VB) : ltV (mapV F a) (mapV F b) = ltV a b := by
  unfold Go.Proofs.YtdcjibjldfjllaaGreat.ltV cmpV mapV
  dsimp only
  have e1 : Go.Proofs.YtdcjibjldfjllaaGreat.cmpE (some (F a.q)) (some (F b.q)) = Go.Proofs.YtdcjibjldfjllaaGreat.cmpE (some a.q) (some b.q) := h.cmpE (some a.q) (some b.q)
  rw [e1, h.cmpE a.e b.e]
theorem Inc.live {F : Rat → Rat} (h : Inc F) (v : VB) : live (mapV F v) = live v := by
  unfold Go.Proofs.YtdcjibjldfjllaaGreat.live mapV
  dsimp only
  have e1 : Go.Proofs.YtdcjibjldfjllaaGreat.cmpE (some (F v.q)) (v.e.map F) = Go.Proofs.YtdcjibjldfjllaaGreat.cmpE (some v.q) v.e := h.cmpE (some v.q) v.e
  rw [e1]
theorem Inc.cnt {F : Rat → Rat} (h : Inc F) (l : List VB) (d : Int) (p q : Rat) : cntV (l.map (mapV F)) d (F p) (F q) = cntV l d p q := by
  unfold cntV
  rw [List.countP_map]
  refine List.countP_congr fun v _ => ?_
  have e1 : Go.Proofs.YtdcjibjldfjllaaGreat.cmpE (some (F v.q)) (some (F p)) = Go.Proofs.YtdcjibjldfjllaaGreat.cmpE (some v.q) (some p) := h.cmpE (some v.q) (some p)
  have e2 : Go.Proofs.YtdcjibjldfjllaaGreat.cmpE (some (F q)) (v.e.map F) = Go.Proofs.YtdcjibjldfjllaaGreat.cmpE (some q) v.e := h.cmpE (some q) v.e
  show (v.d == d && (decide (Go.Proofs.YtdcjibjldfjllaaGreat.cmpE (some (F v.q)) (some (F p)) ≤ 0) && decide (Go.Proofs.YtdcjibjldfjllaaGreat.cmpE (some (F q)) (v.e.map F) < 0))) = true ↔ _
  rw [e1, e2]
theorem Inc.asc {F : Rat → Rat} (h : Inc F) {l : List VB} (ha : Asc Go.Proofs.YtdcjibjldfjllaaGreat.ltV l) : Asc Go.Proofs.YtdcjibjldfjllaaGreat.ltV (l.map (mapV F)) := by
  unfold Asc at *
  rw [List.pairwise_map]
  exact ha.imp fun {a b} hab => by rw [h.ltV]; exact hab

theorem eachT_enc (F : Rat → Rat) (e : Option Rat) : eachT F (tE e) = tE (e.map F) := by
  unfold eachT
  cases e with
  | none => rw [byt_tE]; rfl
  | some q =>
    rw [byt_tE]
    show (if isInf (rtx q) = true then _ else tQ (F (valR (rtx q)))) = _
    rw [isInf_rtx, if_neg (by simp), valR_rtx]; rfl
theorem eachOk_enc (F : Rat → Rat) (e : Option Rat) (h : tlE (e.map F) ≤ 1000) : eachOk F (tE e) = true := by
  unfold eachOk
  cases e with
  | none => rw [byt_tE]; rfl
  | some q =>
    rw [byt_tE]
    show (isInf (rtx q) || !longQ (F (valR (rtx q)))) = true
    rw [isInf_rtx, valR_rtx, long_short (show tlQ (F q) ≤ 1000 from h)]; rfl
theorem each_enc {F : Rat → Rat} (hF : Inc F) {l : List VB} (hv : ∀ v ∈ l, v.ok ∧ live v = true) (hm : ∀ v ∈ l, (mapV F v).ok) (ha : Asc ltV l) :
    chgAll [eachChg F] [] (l.map VB.enc) = ((l.map (mapV F)).map VB.enc, 0) := by
  rw [chgAll_pure (fun b => ⟨b.d, eachT F b.x, eachT F b.y⟩) (fun _ => true) _ _ (fun b hb => ?_)]
  · rw [List.filter_eq_self.2 (fun _ _ => rfl), List.nil_append]
    have e1 : (l.map VB.enc).map (fun b => (⟨b.d, eachT F b.x, eachT F b.y⟩ : Bar)) = (l.map (mapV F)).map VB.enc := by
      rw [List.map_map, List.map_map]
      refine List.map_congr_left fun v _ => ?_
      show (⟨v.d, eachT F (tE (some v.q)), eachT F (tE v.e)⟩ : Bar) = ⟨v.d, tE (some (F v.q)), tE (v.e.map F)⟩
      rw [eachT_enc, eachT_enc]; rfl
    have hok : ∀ v ∈ l.map (mapV F), v.ok := fun v h => by
      obtain ⟨u, hu, rfl⟩ := List.mem_map.1 h
      exact hm u hu
    have hlv : ∀ v ∈ l.map (mapV F), live v = true := fun v h => by
      obtain ⟨u, hu, rfl⟩ := List.mem_map.1 h
      rw [hF.live]; exact (hv u hu).2
    rw [e1, filter_live hok, List.filter_eq_self.2 hlv, isort_enc hok, isort_of_ord (hF.asc ha)]
  · obtain ⟨v, hm', rfl⟩ := List.mem_map.1 hb
    have ho := hm v hm'
    have o1 : eachOk F v.enc.x = true := eachOk_enc F (some v.q) (Nat.le_trans ho.2.2.1 (by decide))
    have o2 : eachOk F v.enc.y = true := eachOk_enc F v.e (Nat.le_trans ho.2.2.2 (by decide))
    unfold runChg eachChg
    dsimp only
    rw [o1, o2]
    simp [runChg]

/-- Small ends. -/
def tiny (v : VB) : Prop := 0 ≤ v.d ∧ v.d ≤ 4 ∧ tlE (some v.q) ≤ 10 ∧ tlE v.e ≤ 10
theorem small_bd10 (n : Int) : tlQ (smallQ n) ≤ 10 := by
  have h0 := Int.emod_nonneg n (show (24 : Int) ≠ 0 by omega)
  have h1 := Int.emod_lt_of_pos n (show (0 : Int) < 24 by omega)
  unfold smallQ
  generalize n % 24 = k at *
  have : ∀ k : Fin 24, tlQ (mkRat ((k.val : Int) - 8) 4) ≤ 10 := by decide +kernel
  have h := this ⟨k.toNat, by omega⟩
  simp only at h
  rwa [show ((k.toNat : Nat) : Int) = k by omega] at h
theorem fit1_tiny (a b c : Int) : tiny (fit1 a b c) := by
  have h0 := Int.emod_nonneg a (show (3 : Int) ≠ 0 by omega)
  have h1 := Int.emod_lt_of_pos a (show (0 : Int) < 3 by omega)
  have hb := small_bd10 b
  have hc := small_bd10 c
  unfold fit1 tiny
  split
  · exact ⟨h0, (by show a % 3 ≤ 4; omega), hb, (by show 0 ≤ 10; omega)⟩
  · split
    · exact ⟨h0, (by show a % 3 ≤ 4; omega), hc, hb⟩
    · exact ⟨h0, (by show a % 3 ≤ 4; omega), hb, hc⟩
theorem fitV_tiny (xs : List Int) (most : Nat) : ∀ v ∈ fitV xs most, tiny v := by
  intro v hv
  unfold fitV sortV at hv
  have h1 := (isort_perm _ _).mem_iff.1 hv
  have h2 := (List.mem_filter.1 h1).1
  unfold fitRaw at h2
  obtain ⟨j, _, rfl⟩ := List.mem_map.1 h2
  exact fit1_tiny _ _ _
theorem inc_add (a : Rat) : Inc (fun q => a + q) := fun p q h => Rat.add_lt_add_left.2 h
theorem inc_mul {a : Rat} (ha : 0 < a) : Inc (fun q => a * q) := fun p q h => Rat.mul_lt_mul_of_pos_left h ha
theorem map_ok {F : Rat → Rat} {K : Nat} (hK : K ≤ 99) (hb : ∀ q, tlQ q ≤ 10 → tlQ (F q) ≤ K) {v : VB} (h : tiny v) : (mapV F v).ok := by
  refine ⟨h.1, h.2.1, ?_, ?_⟩
  · exact Nat.le_trans (hb v.q h.2.2.1) (by omega)
  · show tlE (v.e.map F) ≤ 100
    cases he : v.e with
    | none => exact Nat.zero_le _
    | some q => exact Nat.le_trans (hb q (by have := h.2.2.2; rw [he] at this; exact this)) (by omega)
theorem add_tl {a q : Rat} {k m : Nat} (ha : tlQ a ≤ k) (hq : tlQ q ≤ m) : tlQ (a + q) ≤ k + m + 2 := by
  have h1 := tlQ_le (a + q)
  have h2 := dlQ_add a q
  have h3 := dlQ_le a
  have h4 := dlQ_le q
  omega
theorem mul_tl {a q : Rat} {k m : Nat} (ha : tlQ a ≤ k) (hq : tlQ q ≤ m) : tlQ (a * q) ≤ k + m + 1 := by
  have h1 := tlQ_le (a * q)
  have h2 := dlQ_mul a q
  have h3 := dlQ_le a
  have h4 := dlQ_le q
  omega


/-- The sum of the lengths of a dimension's bars that die. -/
def stepV (acc : Rat) (v : VB) : Rat := match v.e with
  | none => acc
  | some r => acc + r - v.q
def totV (l : List VB) : Rat := l.foldl stepV 0
theorem sumB_enc (l : List VB) : sumB (l.map VB.enc) = totV l := by
  unfold sumB totV
  rw [List.foldl_map]
  congr 1
  funext acc v
  unfold sumStep stepV
  show (if isInf (byt (tE v.e)) = true then acc else acc + valR (byt (tE v.e)) - valR (byt (tE (some v.q)))) = _
  cases he : v.e with
  | none => rw [byt_tE]; rfl
  | some r =>
    rw [byt_tE, byt_tE]
    show (if isInf (rtx r) = true then acc else acc + valR (rtx r) - valR (rtx v.q)) = _
    rw [isInf_rtx, valR_rtx, valR_rtx, if_neg (by simp)]
theorem fold_scale (a : Rat) : ∀ (l : List VB) (acc : Rat), (l.map (mapV fun q => a * q)).foldl stepV (a * acc) = a * l.foldl stepV acc
  | [], acc => rfl
  | v :: l, acc => by
    rw [List.map_cons, List.foldl_cons, List.foldl_cons, ← fold_scale a l]
    congr 1
    unfold stepV mapV
    cases v.e with
    | none => rfl
    | some r =>
      show a * acc + a * r - a * v.q = a * (acc + r - v.q)
      rw [Rat.sub_eq_add_neg, Rat.sub_eq_add_neg, Rat.mul_add, Rat.mul_add, Rat.mul_neg]
theorem totV_scale (a : Rat) (l : List VB) : totV (l.map (mapV fun q => a * q)) = a * totV l := by
  have h := fold_scale a l 0
  rw [Rat.mul_zero] at h
  exact h
theorem fold_dl (K : Nat) : ∀ (l : List VB) (acc : Rat), (∀ v ∈ l, dlQ v.q ≤ K ∧ ∀ r, v.e = some r → dlQ r ≤ K) → dlQ (l.foldl stepV acc) ≤ dlQ acc + (2 * K + 2) * l.length
  | [], acc, _ => by simp
  | v :: l, acc, h => by
    have ih := fold_dl K l (stepV acc v) (fun u hu => h u (List.mem_cons_of_mem _ hu))
    have hs : dlQ (stepV acc v) ≤ dlQ acc + (2 * K + 2) := by
      unfold stepV
      cases he : v.e with
      | none => show dlQ acc ≤ _; omega
      | some r =>
        show dlQ (acc + r - v.q) ≤ _
        have h1 := dlQ_add acc r
        have h2 := dlQ_add (acc + r) (-v.q)
        rw [dlQ_neg, ← Rat.sub_eq_add_neg] at h2
        have h3 := h v (List.mem_cons_self ..)
        have h4 := h3.2 r he
        have h5 := h3.1
        omega
    rw [List.foldl_cons, List.length_cons, Nat.mul_succ]
    omega
theorem len_le_dl (z : Int) : len z ≤ dlen10 z := by
  unfold len dlen10
  refine Dg.toD_length_le (by omega) ?_
  have h := dgt_lt' z.natAbs
  exact Nat.lt_of_lt_of_le h (Nat.pow_le_pow_left (by omega) _)
theorem lenQ_le_dl (q : Rat) : lenQ q ≤ dlQ q := by
  have h1 := len_le_dl q.num
  have h2 := len_le_dl (q.den : Int)
  unfold lenQ dlQ
  omega

end Go.Proofs.YtdcjibjldfjllaaGreat

/- Bars of numbers: what Shift, Scale and Total answer on them. -/
namespace Go.Proofs.YtdcjibjldfjllaaGreat
open Go.RowKit

theorem valR_tE (q : Rat) : valR (byt (tE (some q))) = q := by rw [byt_tE]; exact valR_rtx q
theorem shift_enc {l : List VB} (hv : ∀ v ∈ l, v.ok ∧ live v = true) (ha : Asc ltV l) (hl : l.length ≤ 2048) {a : Rat} (hta : tlQ a ≤ 100) (hm : ∀ v ∈ l, (mapV (fun q => a + q) v).ok) :
    shiftB (l.map VB.enc) (tE (some a)) = ((l.map (mapV fun q => a + q)).map VB.enc, 0) := by
  unfold shiftB
  rw [check_enc hv ha hl, if_neg (by simp), okV_tE hta, if_neg (by simp), valR_tE]
  exact each_enc (inc_add a) hv hm ha
theorem map_back {l : List VB} (a : Rat) : (l.map (mapV fun q => a + q)).map (mapV fun q => -a + q) = l := by
  rw [List.map_map]
  conv => rhs; rw [← List.map_id l]
  refine List.map_congr_left fun v _ => ?_
  have h : ∀ q : Rat, -a + (a + q) = q := fun q => by rw [← Rat.add_assoc, Rat.neg_add_cancel, Rat.zero_add]
  show (⟨v.d, -a + (a + v.q), (v.e.map fun q => a + q).map fun q => -a + q⟩ : VB) = v
  rw [h]
  cases v with
  | mk d q e =>
    cases e with
    | none => rfl
    | some r => show (⟨d, q, some (-a + (a + r))⟩ : VB) = _; rw [h]
def half3 : Rat := mkRat 3 2
theorem half3_text : (⟨#[51, 47, 50]⟩ : ByteArray) = tE (some half3) := by decide +kernel
theorem half3_pos : (0 : Rat) < half3 := by decide +kernel
theorem half3_cmp : ¬ cmpT (byt (tE (some half3))) [48] ≤ 0 := by decide +kernel
theorem half3_tl : tlQ half3 ≤ 1 := by decide +kernel
theorem scale_enc {l : List VB} (hv : ∀ v ∈ l, v.ok ∧ live v = true) (ha : Asc ltV l) (hl : l.length ≤ 2048) (hm : ∀ v ∈ l, (mapV (fun q => half3 * q) v).ok) :
    scaleB (l.map VB.enc) (tE (some half3)) = ((l.map (mapV fun q => half3 * q)).map VB.enc, 0) := by
  unfold scaleB
  rw [check_enc hv ha hl, if_neg (by simp), okV_tE (Nat.le_trans half3_tl (by omega)), if_neg (by rintro (h | h); cases h; exact half3_cmp h), valR_tE]
  exact each_enc (inc_mul half3_pos) hv hm ha
theorem map_good {F : Rat → Rat} (hF : Inc F) {l : List VB} (hv : ∀ v ∈ l, v.ok ∧ live v = true) (hm : ∀ v ∈ l, (mapV F v).ok) : ∀ v ∈ l.map (mapV F), v.ok ∧ live v = true := by
  intro v hv'
  obtain ⟨u, hu, rfl⟩ := List.mem_map.1 hv'
  exact ⟨hm u hu, by rw [hF.live]; exact (hv u hu).2⟩

/-- Short ends. -/
def shrt (v : VB) : Prop := dlQ v.q ≤ 20 ∧ ∀ r, v.e = some r → dlQ r ≤ 20
theorem dlQ_zero : dlQ 0 ≤ 1 := by decide +kernel
theorem tot_bd {l : List VB} (h : ∀ v ∈ l, shrt v) : dlQ (totV l) ≤ 1 + 42 * l.length := by
  have h1 := fold_dl 20 l 0 h
  have h2 := dlQ_zero
  unfold totV
  omega
theorem total_enc {l : List VB} (hv : ∀ v ∈ l, v.ok ∧ live v = true) (ha : Asc ltV l) (hl : l.length ≤ 12) (hs : ∀ v ∈ l, shrt v) {d : Int} (h0 : 0 ≤ d) (h4 : d ≤ 4) :
    totalB (l.map VB.enc) d = (tE (some (totV (l.filter fun v => v.d == d))), 0) ∧
    (∀ i, i ≤ (dimB (l.map VB.enc) d).1.length → lenQ (sumB ((dimB (l.map VB.enc) d).1.take i)) < 8589934592) ∧
    (∀ i (h : i < (dimB (l.map VB.enc) d).1.length), lenQ (sumB ((dimB (l.map VB.enc) d).1.take i) + valR (byt ((dimB (l.map VB.enc) d).1[i]).y)) < 8589934592) ∧ dlQ (totV (l.filter fun v => v.d == d)) ≤ 600 := by
  have hd := dim_enc hv ha (by omega) h0 h4
  obtain ⟨m, hm⟩ : ∃ m, (l.filter fun v => v.d == d) = m := ⟨_, rfl⟩
  rw [hm] at hd
  have hml : m.length ≤ 12 := by rw [← hm]; exact Nat.le_trans (List.length_filter_le _ _) hl
  have hms : ∀ v ∈ m, shrt v := fun v h => hs v (by rw [← hm] at h; exact (List.mem_filter.1 h).1)
  have hmo : ∀ v ∈ m, v.ok := fun v h => (hv v (by rw [← hm] at h; exact (List.mem_filter.1 h).1)).1
  have hb : ∀ i, dlQ (totV (m.take i)) ≤ 600 := fun i => by
    have h1 := tot_bd (l := m.take i) (fun v h => hms v (List.mem_of_mem_take h))
    have h2 : (m.take i).length ≤ 12 := by rw [List.length_take]; omega
    omega
  have hb0 : dlQ (totV m) ≤ 600 := by have := hb m.length; rwa [List.take_length] at this
  rw [hm, hd]
  refine ⟨?_, ?_, ?_, hb0⟩
  · unfold totalB
    rw [hd, if_neg (by simp)]
    dsimp only
    rw [sumB_enc, long_short (by have := tlQ_le (totV m); omega), if_neg (by simp)]
    rfl
  · intro i _
    dsimp only
    rw [← List.map_take, sumB_enc]
    have h1 := lenQ_le_dl (totV (m.take i))
    have := hb i
    omega
  · intro i hi
    dsimp only at hi ⊢
    rw [← List.map_take, sumB_enc]
    have h1 := lenQ_le_dl (totV (m.take i))
    have h2 := lenQ_add (totV (m.take i)) (valR (byt ((m.map VB.enc)[i]).y))
    have h3 := lenQ_valR (byt ((m.map VB.enc)[i]).y)
    have h4' : (byt ((m.map VB.enc)[i]).y).length ≤ 201 := by
      rw [byt_length, List.getElem_map]
      exact tE_size (hmo _ (List.getElem_mem _)).2.2.2
    have := hb i
    omega
theorem map_filter_d (F : Rat → Rat) (l : List VB) (d : Int) : ((l.map (mapV F)).filter fun v => v.d == d) = (l.filter fun v => v.d == d).map (mapV F) := by
  rw [List.filter_map]; rfl
theorem tiny_ok {v : VB} (h : tiny v) : v.ok := ⟨h.1, h.2.1, Nat.le_trans h.2.2.1 (by decide), Nat.le_trans h.2.2.2 (by decide)⟩
theorem tiny_shrt {v : VB} (h : tiny v) : shrt v :=
  ⟨Nat.le_trans (dlQ_le _) (Nat.le_trans h.2.2.1 (by decide)), fun r hr => by
    have := h.2.2.2
    rw [hr] at this
    exact Nat.le_trans (dlQ_le r) (Nat.le_trans this (by decide))⟩
theorem scale_shrt {v : VB} (h : tiny v) : shrt (mapV (fun q => half3 * q) v) := by
  have hb : ∀ q, tlQ q ≤ 10 → dlQ (half3 * q) ≤ 20 := fun q hq => by
    have := mul_tl half3_tl hq
    have := dlQ_le (half3 * q)
    omega
  refine ⟨hb _ h.2.2.1, fun r hr => ?_⟩
  cases he : v.e with
  | none => unfold mapV at hr; rw [he] at hr; cases hr
  | some q =>
    unfold mapV at hr
    rw [he] at hr
    injection hr with hr
    rw [← hr]
    exact hb q (by have := h.2.2.2; rw [he] at this; exact this)

end Go.Proofs.YtdcjibjldfjllaaGreat

/- BarcodeShifts: the walk. -/
namespace Go.Proofs.YtdcjibjldfjllaaGreat
open Go.RowKit

theorem fr_small2 (n : Int) (w : World) (h : -9223372036854775808 ≤ n ∧ n ≤ 9223372036854775807) :
    Calls Tryz.prog 23 #[.int .i64 n] w fun r w' => Past w w' ∧ r = .returned (.string (tE (some (smallQ n)))) := fr_small n w h.1 h.2

set_option maxRecDepth 100000 in
set_option maxHeartbeats 8000000 in
theorem law_shifts (A : Option Addr) (n c : Nat) (xs : List Int) (p1 p2 d : Int) (w : World) (hx : RInts w .i64 A n c xs) (hr : ∀ x ∈ xs, -9223372036854775808 ≤ x ∧ x ≤ 9223372036854775807)
    (h1 : -9223372036854775808 ≤ p1 ∧ p1 ≤ 9223372036854775807) (h2 : -9223372036854775808 ≤ p2 ∧ p2 ≤ 9223372036854775807) (hd : 0 ≤ d ∧ d ≤ 255) :
    Calls Tryz.prog 8 #[.slice A n c, .int .i64 p1, .int .i64 p2, .int .u8 d] w fun e w' => Past w w' ∧ e = .returned (.bool true) := by
  have HX := Lib.hid hx
  have HR := Lib.hid hr
  have H1 := Lib.hid h1
  have H2 := Lib.hid h2
  have HD := Lib.hid hd
  clear hx hr h1 h2
  obtain ⟨g1, g2, g3⟩ := fitV_good xs 12
  have g4 := fitV_tiny xs 12
  obtain ⟨l, hl⟩ : ∃ l, fitV xs 12 = l := ⟨_, rfl⟩
  rw [hl] at g1 g2 g3 g4
  have HLF := Lib.hid hl
  clear hl
  have ta := small_bd10 p1
  have ty := small_bd10 p2
  obtain ⟨a, ha⟩ : ∃ a, smallQ p1 = a := ⟨_, rfl⟩
  obtain ⟨y, hy⟩ : ∃ a, smallQ p2 = a := ⟨_, rfl⟩
  rw [ha] at ta
  rw [hy] at ty
  have HA := Lib.hid ha
  have HY := Lib.hid hy
  clear ha hy
  obtain ⟨k, hk, hk0, hk2⟩ : ∃ k : Int, d.tmod 3 = k ∧ 0 ≤ k ∧ k ≤ 2 := by
    have := HD.out
    refine ⟨_, rfl, ?_⟩
    rw [Int.tmod_eq_emod_of_nonneg HD.out.1]
    omega
  have hwd : wrap64 d = d := by
    have := HD.out
    unfold wrap64
    omega
  -- the shifted bars
  have hm1 : ∀ v ∈ l, (mapV (fun q => a + q) v).ok := fun v hv => map_ok (K := 22) (by omega) (fun q hq => add_tl ta hq) (g4 v hv)
  have s1 := shift_enc g1 g2 (by omega) (Nat.le_trans ta (by omega)) hm1
  have e1 := map_good (inc_add a) g1 hm1
  have e2 := (inc_add a).asc g2
  have tna : tlQ (-a) ≤ 100 := Nat.le_trans (tlQ_neg a) (by omega)
  have s2 := shift_enc (l := l.map (mapV fun q => a + q)) e1 e2 (by rw [List.length_map]; omega) tna (fun v hv => by
    obtain ⟨u, hu, rfl⟩ := List.mem_map.1 hv
    have h := map_back (l := [u]) a
    simp only [List.map_cons, List.map_nil, List.cons.injEq, and_true] at h
    rw [h]
    exact (g1 u hu).1)
  rw [map_back] at s2
  have tay : tlQ (a + y) ≤ 100 := Nat.le_trans (add_tl ta ty) (by omega)
  have r1 := rank_enc (d := k) g1 g2 (by omega) hk0 (by omega) (Nat.le_trans ty (by omega)) (Nat.le_trans ty (by omega)) (by rw [cmpE_self]; omega)
  have r2 := rank_enc (d := k) e1 e2 (by rw [List.length_map]; omega) hk0 (by omega) tay tay (by rw [cmpE_self]; omega)
  rw [(inc_add a).cnt l k y y] at r2
  -- the scaled bars
  have hm2 : ∀ v ∈ l, (mapV (fun q => half3 * q) v).ok := fun v hv => map_ok (K := 12) (by omega) (fun q hq => Nat.le_trans (mul_tl half3_tl hq) (by omega)) (g4 v hv)
  have s3 := scale_enc g1 g2 (by omega) hm2
  have f1 := map_good (inc_mul half3_pos) g1 hm2
  have f2 := (inc_mul half3_pos).asc g2
  have t1 := total_enc (d := k) g1 g2 (by omega) (fun v hv => tiny_shrt (g4 v hv)) hk0 (by omega)
  have t2 := total_enc (d := k) f1 f2 (by rw [List.length_map]; omega) (fun v hv => by
    obtain ⟨u, hu, rfl⟩ := List.mem_map.1 hv
    exact scale_shrt (g4 u hu)) hk0 (by omega)
  rw [map_filter_d, totV_scale] at t2
  have c1 := check_enc e1 e2 (by rw [List.length_map]; omega)
  have c2 := check_enc f1 f2 (by rw [List.length_map]; omega)
  have fitE : ∀ (m : List VB), (∀ v ∈ m, v.ok ∧ live v = true) → ∀ b ∈ m.map VB.enc, b.fit := fun m hm b hb => by
    obtain ⟨v, hv, rfl⟩ := List.mem_map.1 hb
    exact (hm v hv).1.fit
  have ft1 := fitE _ g1
  have ft2 := fitE _ e1
  have ft3 := fitE _ f1
  obtain ⟨bs, hbs⟩ : ∃ bs, l.map VB.enc = bs := ⟨_, rfl⟩
  obtain ⟨sb, hsb⟩ : ∃ bs, (l.map (mapV fun q => a + q)).map VB.enc = bs := ⟨_, rfl⟩
  obtain ⟨mb, hmb⟩ : ∃ bs, (l.map (mapV fun q => half3 * q)).map VB.enc = bs := ⟨_, rfl⟩
  obtain ⟨U, hU⟩ : ∃ U, totV (l.filter fun v => v.d == k) = U := ⟨_, rfl⟩
  obtain ⟨nb, hnb⟩ : ∃ z, cntV l k y y = z := ⟨_, rfl⟩
  have bl1 : bs.length < 20 := by rw [← hbs, List.length_map]; omega
  have bl2 : sb.length < 20 := by rw [← hsb, List.length_map, List.length_map]; omega
  have bl3 : mb.length < 20 := by rw [← hmb, List.length_map, List.length_map]; omega
  rw [hbs, hsb] at s1 s2
  rw [hbs, hmb] at s3
  rw [hbs, hnb] at r1
  rw [hsb, hnb] at r2
  rw [hbs, hU] at t1
  rw [hmb, hU] at t2
  rw [hsb] at c1 ft2
  rw [hmb] at c2 ft3
  rw [hbs] at ft1
  have HBS := Lib.hid hbs
  have S1 := Lib.hid s1
  have S2 := Lib.hid s2
  have S3 := Lib.hid s3
  have R1 := Lib.hid r1
  have R2 := Lib.hid r2
  have T1 := Lib.hid t1
  have T2 := Lib.hid t2
  have C1 := Lib.hid c1
  have C2 := Lib.hid c2
  have FT1 := Lib.hid ft1
  have FT2 := Lib.hid ft2
  have FT3 := Lib.hid ft3
  have BL1 := Lib.hid bl1
  have BL2 := Lib.hid bl2
  have BL3 := Lib.hid bl3
  have TA := Lib.hid ta
  have TY := Lib.hid ty
  have TNA := Lib.hid tna
  have TAY := Lib.hid tay
  have SZ : Hid (∀ q : Rat, tlQ q ≤ 100 → (tE (some q)).size ≤ 100000000) := fun q h => Nat.le_trans (tE_size (e := some q) h) (by decide)
  have TU : Hid (tlQ U ≤ 1000) := by have := t1.2.2.2; have := tlQ_le U; unfold Hid; omega
  have HH := Lib.hid half3_text
  have HUM : Hid (tQ (U * half3) = tE (some (half3 * U))) := by show _ = _; rw [Rat.mul_comm]; rfl
  clear s1 s2 s3 r1 r2 t1 t2 c1 c2 ft1 ft2 ft3 bl1 bl2 bl3 ta ty tna tay hbs hsb hmb hU hnb fitE f1 f2 e1 e2 hm1 hm2 g1 g2 g3 g4 hk0 hk2
  go_enter Tryz.func8, Tryz.ntmps8
  go_wp2_with fail
  refine (law_awake _).mono ?_
  rintro e w1 ⟨hp1, rfl⟩
  have HP1 := Lib.hid hp1
  clear hp1
  go_wp2_with fail
  refine (ref_fit A n c 12 xs _ (HX.out.past HP1.out) HR.out (by decide)).mono ?_
  rintro e w2 ⟨hp2, v2, rfl, ho2⟩
  rw [HLF.out, HBS.out] at ho2
  obtain ⟨A2, c2, rfl, hr2⟩ := ho2.reads
  obtain ⟨n2, hn2⟩ : ∃ n2, bs.length = n2 := ⟨_, rfl⟩
  rw [hn2] at hr2 BL1
  have HR2 := Lib.hid hr2
  have HP2 : Hid (Past w w2) := HP1.out.trans hp2
  have HN2 := Lib.hid hn2
  rw [hn2]
  clear hp2 ho2 hr2 hn2
  go_wp2_with fail
  refine (fr_small2 p1 _ H1.out).mono ?_
  rintro e w3 ⟨hp3, rfl⟩
  rw [HA.out]
  have Q3 := Lib.hid hp3
  clear hp3
  go_wp2_with fail
  refine (fr_small2 p2 _ H2.out).mono ?_
  rintro e w4 ⟨hp4, rfl⟩
  rw [HY.out]
  have Q4 := Lib.hid (Q3.out.trans hp4)
  clear hp4
  go_wp2_with fail
  refine (bar_shift A2 n2 c2 bs (tE (some a)) _ (HR2.out.past Q4.out) FT1.out (SZ.out a (Nat.le_trans TA.out (by decide))) (by have := BL1.out; omega)).mono ?_
  rintro e w5 ⟨hp5, v5, rfl, ho5, -⟩
  rw [S1.out] at ho5
  rw [S1.out]
  obtain ⟨A5, n5, c5, rfl, hr5, hn5⟩ : ∃ A n c, v5 = .slice A n c ∧ Rows w5 rBar A n c sb ∧ sb.length = n := by
    obtain ⟨A', c', h1, h2⟩ := ho5.reads
    exact ⟨A', _, c', h1, h2, rfl⟩
  have HR5 := Lib.hid hr5
  have HN5 := Lib.hid hn5
  have Q5 := Lib.hid (Q4.out.trans hp5)
  clear hp5 ho5 hr5 hn5
  go_wp2_with fail
  refine (fr_opposite a _ (Nat.le_trans TA.out (by decide))).mono ?_
  rintro e w6 ⟨hp6, rfl⟩
  have P6 := Lib.hid hp6
  clear hp6
  go_wp2_with fail
  refine (bar_shift A5 n5 c5 sb (tE (some (-a))) _ (HR5.out.past P6.out) FT2.out (SZ.out _ TNA.out) (by have := BL2.out; have := HN5.out; omega)).mono ?_
  rintro e w7 ⟨hp7, v7, rfl, ho7, -⟩
  rw [S2.out] at ho7
  rw [S2.out]
  obtain ⟨A7, c7, rfl, hr7⟩ := ho7.reads
  rw [HN2.out] at hr7 ⊢
  have HR7 := Lib.hid hr7
  have P7 := Lib.hid (P6.out.trans hp7)
  clear hp7 ho7 hr7
  have Q7 := Lib.hid (Q5.out.trans P7.out)
  go_wp2_with fail
  refine (bar_betti A2 n2 c2 bs k (tE (some y)) _ (HR2.out.past Q7.out) FT1.out (SZ.out _ (Nat.le_trans TY.out (by decide))) BL1.out).mono ?_
  rintro e w8 ⟨hp8, rfl⟩
  rw [R1.out]
  have P8 := Lib.hid (P7.out.trans hp8)
  have B8 := Lib.hid hp8
  clear hp8
  go_wp2_with fail
  refine (frl_plus a y _ (Nat.le_trans TA.out (by decide)) (Nat.le_trans TY.out (by decide))).mono ?_
  rintro e w9 ⟨hp9, rfl⟩
  have P9 := Lib.hid (P8.out.trans hp9)
  have B9 := Lib.hid (B8.out.trans hp9)
  clear hp9
  go_wp2_with fail
  refine (bar_betti A5 n5 c5 sb k (tE (some (a + y))) _ (HR5.out.past P9.out) FT2.out (SZ.out _ TAY.out) (by have := BL2.out; have := HN5.out; omega)).mono ?_
  rintro e w10 ⟨hp10, rfl⟩
  rw [R2.out]
  have P10 := Lib.hid (P9.out.trans hp10)
  have B10 := Lib.hid (B9.out.trans hp10)
  clear hp10
  go_wp2_with fail
  rw [HH.out]
  refine (bar_scale A2 n2 c2 bs (tE (some half3)) _ (HR2.out.past (Q5.out.trans P10.out)) FT1.out (SZ.out _ (Nat.le_trans half3_tl (by decide))) (by have := BL1.out; omega)).mono ?_
  rintro e w11 ⟨hp11, v11, rfl, ho11, -⟩
  rw [S3.out] at ho11
  rw [S3.out]
  obtain ⟨A11, n11, c11, rfl, hr11, hn11⟩ : ∃ A n c, v11 = .slice A n c ∧ Rows w11 rBar A n c mb ∧ mb.length = n := by
    obtain ⟨A', c', h1, h2⟩ := ho11.reads
    exact ⟨A', _, c', h1, h2, rfl⟩
  have HR11 := Lib.hid hr11
  have HN11 := Lib.hid hn11
  have P11 := Lib.hid (P10.out.trans hp11)
  have B11 := Lib.hid (B10.out.trans hp11)
  clear hp11 ho11 hr11 hn11
  go_wp2_with fail
  refine (bar_total A2 n2 c2 bs k _ (HR2.out.past (Q5.out.trans P11.out)) FT1.out BL1.out T1.out.2.1 T1.out.2.2.1).mono ?_
  rintro e w12 ⟨hp12, rfl⟩
  rw [T1.out.1]
  have D12 := Lib.hid hp12
  clear hp12
  go_wp2_with fail
  refine (bar_total A11 n11 c11 mb k _ (HR11.out.past D12.out) FT3.out (by have := BL3.out; have := HN11.out; omega) T2.out.2.1 T2.out.2.2.1).mono ?_
  rintro e w13 ⟨hp13, rfl⟩
  rw [T2.out.1]
  have D13 := Lib.hid (D12.out.trans hp13)
  clear hp13
  go_wp2_with fail
  refine (bar_check A5 n5 c5 sb _ (HR5.out.past (P11.out.trans D13.out)) FT2.out).mono ?_
  rintro e w14 ⟨hp14, rfl⟩
  rw [C1.out]
  have D14 := Lib.hid (D13.out.trans hp14)
  clear hp14
  go_wp2_with fail
  refine (bar_check A11 n11 c11 mb _ (HR11.out.past D14.out) FT3.out).mono ?_
  rintro e w15 ⟨hp15, rfl⟩
  rw [C2.out]
  have D15 := Lib.hid (D14.out.trans hp15)
  clear hp15
  go_wp2_with fail
  refine (ref_same A7 A2 n2 c7 c2 bs _ (HR7.out.past (B11.out.trans D15.out)) (HR2.out.past (Q5.out.trans (P11.out.trans D15.out))) (by have := BL1.out; omega)).mono ?_
  rintro e w16 ⟨hp16, rfl⟩
  have D16 := Lib.hid (D15.out.trans hp16)
  clear hp16
  go_wp2_with fail
  rw [HH.out]
  refine (frl_times U half3 _ (Nat.le_trans TU.out (by decide)) (Nat.le_trans half3_tl (by decide))).mono ?_
  rintro e w17 ⟨hp17, rfl⟩
  rw [HUM.out]
  go_wp2
  go_ret
  exact ⟨((HP2.out.trans (Q5.out.trans (P11.out.trans D16.out))).trans hp17), rfl⟩

end Go.Proofs.YtdcjibjldfjllaaGreat
