/- Helpers of the proof, joined: Vl3 Vl4. -/
import Derived.Test.YtdcjibjldfjllaaGreatGu
import Derived.Test.YtdcjibjldfjllaaGreatGxg
import Derived.Test.YtdcjibjldfjllaaGreatGq
set_option linter.unusedVariables false
set_option linter.unusedSimpArgs false
/- Bars of numbers over an increasing function: shifts and factors. -/
namespace Go.Proofs.YtdcjibjldfjllaaGreat
open Go.RowKit

def mapV (F : Rat → Rat) (v : VB) : VB := ⟨v.d, F v.q, v.e.map F⟩
def Inc (F : Rat → Rat) : Prop := ∀ p q, p < q → F p < F q
theorem cmpQ_vals (p q : Rat) : cmpQ p q = if p < q then -1 else if q < p then 1 else 0 := by
  have h1 := cmpQ_lt p q
  have h2 := cmpQ_gt p q
  unfold cmpQ cmpZ at *
  split
  · rename_i h; rw [if_pos h] at h1; rw [if_pos (h1.1 (by omega))]
  · rename_i h
    rw [if_neg h] at h1 h2
    split
    · rename_i h3; rw [if_pos h3] at h1 h2
      rw [if_neg (fun h4 => by have := h1.2 h4; omega), if_pos (h2.1 (by omega))]
    · rename_i h3; rw [if_neg h3] at h1 h2
      rw [if_neg (fun h4 => by have := h1.2 h4; omega), if_neg (fun h4 => by have := h2.2 h4; omega)]
theorem Inc.lt {F : Rat → Rat} (h : Inc F) (p q : Rat) : F p < F q ↔ p < q := by
  constructor
  · intro h1
    by_cases h2 : p < q
    · exact h2
    · by_cases h4 : q = p
      · rw [h4] at h1; exact absurd h1 (Rat.lt_irrefl)
      · have h5 := h q p (Rat.lt_of_le_of_ne (Rat.not_lt.1 h2) h4)
        exact absurd h1 (Rat.not_lt.2 (Rat.le_of_lt h5))
  · exact h p q
theorem Inc.cmpQ {F : Rat → Rat} (h : Inc F) (p q : Rat) : cmpQ (F p) (F q) = cmpQ p q := by
  rw [cmpQ_vals, cmpQ_vals]; simp only [h.lt]
theorem Inc.cmpE {F : Rat → Rat} (h : Inc F) (e f : Option Rat) : cmpE (e.map F) (f.map F) = cmpE e f := by
  cases e <;> cases f
  · rfl
  · rfl
  · rfl
  · exact h.cmpQ _ _
theorem Inc.ltV {F : Rat → Rat} (h : Inc F) (a b : VB) : ltV (mapV F a) (mapV F b) = ltV a b := by
  unfold Go.Proofs.YtdcjibjldfjllaaGreat.ltV cmpV mapV
  dsimp only
  have e1 : Go.Proofs.YtdcjibjldfjllaaGreat.cmpE (some (F a.q)) (some (F b.q)) = Go.Proofs.YtdcjibjldfjllaaGreat.cmpE (some a.q) (some b.q) := h.cmpE (some a.q) (some b.q)
  rw [e1, h.cmpE a.e b.e]
theorem Inc.live {F : Rat → Rat} (h : Inc F) (v : VB) : live (mapV F v) = live v := by
  unfold Go.Proofs.YtdcjibjldfjllaaGreat.live mapV
  dsimp only
  have e1 : Go.Proofs.YtdcjibjldfjllaaGreat.cmpE (some (F v.q)) (v.e.map F) = Go.Proofs.YtdcjibjldfjllaaGreat.cmpE (some v.q) v.e := h.cmpE (some v.q) v.e
  rw [e1]
theorem Inc.cnt {F : Rat → Rat} (h : Inc F) (l : List VB) (d : Int) (p q : Rat) : cntV (l.map (mapV F)) d (F p) (F q) = cntV l d p q := by
  unfold cntV
  rw [List.countP_map]
  refine List.countP_congr fun v _ => ?_
  have e1 : Go.Proofs.YtdcjibjldfjllaaGreat.cmpE (some (F v.q)) (some (F p)) = Go.Proofs.YtdcjibjldfjllaaGreat.cmpE (some v.q) (some p) := h.cmpE (some v.q) (some p)
  have e2 : Go.Proofs.YtdcjibjldfjllaaGreat.cmpE (some (F q)) (v.e.map F) = Go.Proofs.YtdcjibjldfjllaaGreat.cmpE (some q) v.e := h.cmpE (some q) v.e
  show (v.d == d && (decide (Go.Proofs.YtdcjibjldfjllaaGreat.cmpE (some (F v.q)) (some (F p)) ≤ 0) && decide (Go.Proofs.YtdcjibjldfjllaaGreat.cmpE (some (F q)) (v.e.map F) < 0))) = true ↔ _
  rw [e1, e2]
theorem Inc.asc {F : Rat → Rat} (h : Inc F) {l : List VB} (ha : Asc Go.Proofs.YtdcjibjldfjllaaGreat.ltV l) : Asc Go.Proofs.YtdcjibjldfjllaaGreat.ltV (l.map (mapV F)) := by
  unfold Asc at *
  rw [List.pairwise_map]
  exact ha.imp fun {a b} hab => by rw [h.ltV]; exact hab

theorem eachT_enc (F : Rat → Rat) (e : Option Rat) : eachT F (tE e) = tE (e.map F) := by
  unfold eachT
  cases e with
  | none => rw [byt_tE]; rfl
  | some q =>
    rw [byt_tE]
    show (if isInf (rtx q) = true then _ else tQ (F (valR (rtx q)))) = _
    rw [isInf_rtx, if_neg (by simp), valR_rtx]; rfl
theorem eachOk_enc (F : Rat → Rat) (e : Option Rat) (h : tlE (e.map F) ≤ 1000) : eachOk F (tE e) = true := by
  unfold eachOk
  cases e with
  | none => rw [byt_tE]; rfl
  | some q =>
    rw [byt_tE]
    show (isInf (rtx q) || !longQ (F (valR (rtx q)))) = true
    rw [isInf_rtx, valR_rtx, long_short (show tlQ (F q) ≤ 1000 from h)]; rfl
theorem each_enc {F : Rat → Rat} (hF : Inc F) {l : List VB} (hv : ∀ v ∈ l, v.ok ∧ live v = true) (hm : ∀ v ∈ l, (mapV F v).ok) (ha : Asc ltV l) :
    chgAll [eachChg F] [] (l.map VB.enc) = ((l.map (mapV F)).map VB.enc, 0) := by
  rw [chgAll_pure (fun b => ⟨b.d, eachT F b.x, eachT F b.y⟩) (fun _ => true) _ _ (fun b hb => ?_)]
  · rw [List.filter_eq_self.2 (fun _ _ => rfl), List.nil_append]
    have e1 : (l.map VB.enc).map (fun b => (⟨b.d, eachT F b.x, eachT F b.y⟩ : Bar)) = (l.map (mapV F)).map VB.enc := by
      rw [List.map_map, List.map_map]
      refine List.map_congr_left fun v _ => ?_
      show (⟨v.d, eachT F (tE (some v.q)), eachT F (tE v.e)⟩ : Bar) = ⟨v.d, tE (some (F v.q)), tE (v.e.map F)⟩
      rw [eachT_enc, eachT_enc]; rfl
    have hok : ∀ v ∈ l.map (mapV F), v.ok := fun v h => by
      obtain ⟨u, hu, rfl⟩ := List.mem_map.1 h
      exact hm u hu
    have hlv : ∀ v ∈ l.map (mapV F), live v = true := fun v h => by
      obtain ⟨u, hu, rfl⟩ := List.mem_map.1 h
      rw [hF.live]; exact (hv u hu).2
    rw [e1, filter_live hok, List.filter_eq_self.2 hlv, isort_enc hok, isort_of_ord (hF.asc ha)]
  · obtain ⟨v, hm', rfl⟩ := List.mem_map.1 hb
    have ho := hm v hm'
    have o1 : eachOk F v.enc.x = true := eachOk_enc F (some v.q) (Nat.le_trans ho.2.2.1 (by decide))
    have o2 : eachOk F v.enc.y = true := eachOk_enc F v.e (Nat.le_trans ho.2.2.2 (by decide))
    unfold runChg eachChg
    dsimp only
    rw [o1, o2]
    simp [runChg]

/-- Small ends. -/
def tiny (v : VB) : Prop := 0 ≤ v.d ∧ v.d ≤ 4 ∧ tlE (some v.q) ≤ 10 ∧ tlE v.e ≤ 10
theorem small_bd10 (n : Int) : tlQ (smallQ n) ≤ 10 := by
  have h0 := Int.emod_nonneg n (show (24 : Int) ≠ 0 by omega)
  have h1 := Int.emod_lt_of_pos n (show (0 : Int) < 24 by omega)
  unfold smallQ
  generalize n % 24 = k at *
  have : ∀ k : Fin 24, tlQ (mkRat ((k.val : Int) - 8) 4) ≤ 10 := by decide +kernel
  have h := this ⟨k.toNat, by omega⟩
  simp only at h
  rwa [show ((k.toNat : Nat) : Int) = k by omega] at h
theorem fit1_tiny (a b c : Int) : tiny (fit1 a b c) := by
  have h0 := Int.emod_nonneg a (show (3 : Int) ≠ 0 by omega)
  have h1 := Int.emod_lt_of_pos a (show (0 : Int) < 3 by omega)
  have hb := small_bd10 b
  have hc := small_bd10 c
  unfold fit1 tiny
  split
  · exact ⟨h0, (by show a % 3 ≤ 4; omega), hb, (by show 0 ≤ 10; omega)⟩
  · split
    · exact ⟨h0, (by show a % 3 ≤ 4; omega), hc, hb⟩
    · exact ⟨h0, (by show a % 3 ≤ 4; omega), hb, hc⟩
theorem fitV_tiny (xs : List Int) (most : Nat) : ∀ v ∈ fitV xs most, tiny v := by
  intro v hv
  unfold fitV sortV at hv
  have h1 := (isort_perm _ _).mem_iff.1 hv
  have h2 := (List.mem_filter.1 h1).1
  unfold fitRaw at h2
  obtain ⟨j, _, rfl⟩ := List.mem_map.1 h2
  exact fit1_tiny _ _ _
theorem inc_add (a : Rat) : Inc (fun q => a + q) := fun p q h => Rat.add_lt_add_left.2 h
theorem inc_mul {a : Rat} (ha : 0 < a) : Inc (fun q => a * q) := fun p q h => Rat.mul_lt_mul_of_pos_left h ha
theorem map_ok {F : Rat → Rat} {K : Nat} (hK : K ≤ 99) (hb : ∀ q, tlQ q ≤ 10 → tlQ (F q) ≤ K) {v : VB} (h : tiny v) : (mapV F v).ok := by
  refine ⟨h.1, h.2.1, ?_, ?_⟩
  · exact Nat.le_trans (hb v.q h.2.2.1) (by omega)
  · show tlE (v.e.map F) ≤ 100
    cases he : v.e with
    | none => exact Nat.zero_le _
    | some q => exact Nat.le_trans (hb q (by have := h.2.2.2; rw [he] at this; exact this)) (by omega)
theorem add_tl {a q : Rat} {k m : Nat} (ha : tlQ a ≤ k) (hq : tlQ q ≤ m) : tlQ (a + q) ≤ k + m + 2 := by
  have h1 := tlQ_le (a + q)
  have h2 := dlQ_add a q
  have h3 := dlQ_le a
  have h4 := dlQ_le q
  omega
theorem mul_tl {a q : Rat} {k m : Nat} (ha : tlQ a ≤ k) (hq : tlQ q ≤ m) : tlQ (a * q) ≤ k + m + 1 := by
  have h1 := tlQ_le (a * q)
  have h2 := dlQ_mul a q
  have h3 := dlQ_le a
  have h4 := dlQ_le q
  omega


/-- The sum of the lengths of a dimension's bars that die. -/
def stepV (acc : Rat) (v : VB) : Rat := match v.e with
  | none => acc
  | some r => acc + r - v.q
def totV (l : List VB) : Rat := l.foldl stepV 0
theorem sumB_enc (l : List VB) : sumB (l.map VB.enc) = totV l := by
  unfold sumB totV
  rw [List.foldl_map]
  congr 1
  funext acc v
  unfold sumStep stepV
  show (if isInf (byt (tE v.e)) = true then acc else acc + valR (byt (tE v.e)) - valR (byt (tE (some v.q)))) = _
  cases he : v.e with
  | none => rw [byt_tE]; rfl
  | some r =>
    rw [byt_tE, byt_tE]
    show (if isInf (rtx r) = true then acc else acc + valR (rtx r) - valR (rtx v.q)) = _
    rw [isInf_rtx, valR_rtx, valR_rtx, if_neg (by simp)]
theorem fold_scale (a : Rat) : ∀ (l : List VB) (acc : Rat), (l.map (mapV fun q => a * q)).foldl stepV (a * acc) = a * l.foldl stepV acc
  | [], acc => rfl
  | v :: l, acc => by
    rw [List.map_cons, List.foldl_cons, List.foldl_cons, ← fold_scale a l]
    congr 1
    unfold stepV mapV
    cases v.e with
    | none => rfl
    | some r =>
      show a * acc + a * r - a * v.q = a * (acc + r - v.q)
      rw [Rat.sub_eq_add_neg, Rat.sub_eq_add_neg, Rat.mul_add, Rat.mul_add, Rat.mul_neg]
theorem totV_scale (a : Rat) (l : List VB) : totV (l.map (mapV fun q => a * q)) = a * totV l := by
  have h := fold_scale a l 0
  rw [Rat.mul_zero] at h
  exact h
theorem fold_dl (K : Nat) : ∀ (l : List VB) (acc : Rat), (∀ v ∈ l, dlQ v.q ≤ K ∧ ∀ r, v.e = some r → dlQ r ≤ K) → dlQ (l.foldl stepV acc) ≤ dlQ acc + (2 * K + 2) * l.length
  | [], acc, _ => by simp
  | v :: l, acc, h => by
    have ih := fold_dl K l (stepV acc v) (fun u hu => h u (List.mem_cons_of_mem _ hu))
    have hs : dlQ (stepV acc v) ≤ dlQ acc + (2 * K + 2) := by
      unfold stepV
      cases he : v.e with
      | none => show dlQ acc ≤ _; omega
      | some r =>
        show dlQ (acc + r - v.q) ≤ _
        have h1 := dlQ_add acc r
        have h2 := dlQ_add (acc + r) (-v.q)
        rw [dlQ_neg, ← Rat.sub_eq_add_neg] at h2
        have h3 := h v (List.mem_cons_self ..)
        have h4 := h3.2 r he
        have h5 := h3.1
        omega
    rw [List.foldl_cons, List.length_cons, Nat.mul_succ]
    omega
theorem len_le_dl (z : Int) : len z ≤ dlen10 z := by
  unfold len dlen10
  refine Dg.toD_length_le (by omega) ?_
  have h := dgt_lt' z.natAbs
  exact Nat.lt_of_lt_of_le h (Nat.pow_le_pow_left (by omega) _)
theorem lenQ_le_dl (q : Rat) : lenQ q ≤ dlQ q := by
  have h1 := len_le_dl q.num
  have h2 := len_le_dl (q.den : Int)
  unfold lenQ dlQ
  omega

end Go.Proofs.YtdcjibjldfjllaaGreat

/- Bars of numbers: what Shift, Scale and Total answer on them. -/
namespace Go.Proofs.YtdcjibjldfjllaaGreat
open Go.RowKit

theorem valR_tE (q : Rat) : valR (byt (tE (some q))) = q := by rw [byt_tE]; exact valR_rtx q
theorem shift_enc {l : List VB} (hv : ∀ v ∈ l, v.ok ∧ live v = true) (ha : Asc ltV l) (hl : l.length ≤ 2048) {a : Rat} (hta : tlQ a ≤ 100) (hm : ∀ v ∈ l, (mapV (fun q => a + q) v).ok) :
    shiftB (l.map VB.enc) (tE (some a)) = ((l.map (mapV fun q => a + q)).map VB.enc, 0) := by
  unfold shiftB
  rw [check_enc hv ha hl, if_neg (by simp), okV_tE hta, if_neg (by simp), valR_tE]
  exact each_enc (inc_add a) hv hm ha
theorem map_back {l : List VB} (a : Rat) : (l.map (mapV fun q => a + q)).map (mapV fun q => -a + q) = l := by
  rw [List.map_map]
  conv => rhs; rw [← List.map_id l]
  refine List.map_congr_left fun v _ => ?_
  have h : ∀ q : Rat, -a + (a + q) = q := fun q => by rw [← Rat.add_assoc, Rat.neg_add_cancel, Rat.zero_add]
  show (⟨v.d, -a + (a + v.q), (v.e.map fun q => a + q).map fun q => -a + q⟩ : VB) = v
  rw [h]
  cases v with
  | mk d q e =>
    cases e with
    | none => rfl
    | some r => show (⟨d, q, some (-a + (a + r))⟩ : VB) = _; rw [h]
def half3 : Rat := mkRat 3 2
theorem half3_text : (⟨#[51, 47, 50]⟩ : ByteArray) = tE (some half3) := by decide +kernel
theorem half3_pos : (0 : Rat) < half3 := by decide +kernel
theorem half3_cmp : ¬ cmpT (byt (tE (some half3))) [48] ≤ 0 := by decide +kernel
theorem half3_tl : tlQ half3 ≤ 1 := by decide +kernel
theorem scale_enc {l : List VB} (hv : ∀ v ∈ l, v.ok ∧ live v = true) (ha : Asc ltV l) (hl : l.length ≤ 2048) (hm : ∀ v ∈ l, (mapV (fun q => half3 * q) v).ok) :
    scaleB (l.map VB.enc) (tE (some half3)) = ((l.map (mapV fun q => half3 * q)).map VB.enc, 0) := by
  unfold scaleB
  rw [check_enc hv ha hl, if_neg (by simp), okV_tE (Nat.le_trans half3_tl (by omega)), if_neg (by rintro (h | h); cases h; exact half3_cmp h), valR_tE]
  exact each_enc (inc_mul half3_pos) hv hm ha
theorem map_good {F : Rat → Rat} (hF : Inc F) {l : List VB} (hv : ∀ v ∈ l, v.ok ∧ live v = true) (hm : ∀ v ∈ l, (mapV F v).ok) : ∀ v ∈ l.map (mapV F), v.ok ∧ live v = true := by
  intro v hv'
  obtain ⟨u, hu, rfl⟩ := List.mem_map.1 hv'
  exact ⟨hm u hu, by rw [hF.live]; exact (hv u hu).2⟩

/-- Short ends. -/
def shrt (v : VB) : Prop := dlQ v.q ≤ 20 ∧ ∀ r, v.e = some r → dlQ r ≤ 20
theorem dlQ_zero : dlQ 0 ≤ 1 := by decide +kernel
theorem tot_bd {l : List VB} (h : ∀ v ∈ l, shrt v) : dlQ (totV l) ≤ 1 + 42 * l.length := by
  have h1 := fold_dl 20 l 0 h
  have h2 := dlQ_zero
  unfold totV
  omega
theorem total_enc {l : List VB} (hv : ∀ v ∈ l, v.ok ∧ live v = true) (ha : Asc ltV l) (hl : l.length ≤ 12) (hs : ∀ v ∈ l, shrt v) {d : Int} (h0 : 0 ≤ d) (h4 : d ≤ 4) :
    totalB (l.map VB.enc) d = (tE (some (totV (l.filter fun v => v.d == d))), 0) ∧
    (∀ i, i ≤ (dimB (l.map VB.enc) d).1.length → lenQ (sumB ((dimB (l.map VB.enc) d).1.take i)) < 8589934592) ∧
    (∀ i (h : i < (dimB (l.map VB.enc) d).1.length), lenQ (sumB ((dimB (l.map VB.enc) d).1.take i) + valR (byt ((dimB (l.map VB.enc) d).1[i]).y)) < 8589934592) ∧ dlQ (totV (l.filter fun v => v.d == d)) ≤ 600 := by
  have hd := dim_enc hv ha (by omega) h0 h4
  obtain ⟨m, hm⟩ : ∃ m, (l.filter fun v => v.d == d) = m := ⟨_, rfl⟩
  rw [hm] at hd
  have hml : m.length ≤ 12 := by rw [← hm]; exact Nat.le_trans (List.length_filter_le _ _) hl
  have hms : ∀ v ∈ m, shrt v := fun v h => hs v (by rw [← hm] at h; exact (List.mem_filter.1 h).1)
  have hmo : ∀ v ∈ m, v.ok := fun v h => (hv v (by rw [← hm] at h; exact (List.mem_filter.1 h).1)).1
  have hb : ∀ i, dlQ (totV (m.take i)) ≤ 600 := fun i => by
    have h1 := tot_bd (l := m.take i) (fun v h => hms v (List.mem_of_mem_take h))
    have h2 : (m.take i).length ≤ 12 := by rw [List.length_take]; omega
    omega
  have hb0 : dlQ (totV m) ≤ 600 := by have := hb m.length; rwa [List.take_length] at this
  rw [hm, hd]
  refine ⟨?_, ?_, ?_, hb0⟩
  · unfold totalB
    rw [hd, if_neg (by simp)]
    dsimp only
    rw [sumB_enc, long_short (by have := tlQ_le (totV m); omega), if_neg (by simp)]
    rfl
  · intro i _
    dsimp only
    rw [← List.map_take, sumB_enc]
    have h1 := lenQ_le_dl (totV (m.take i))
    have := hb i
    omega
  · intro i hi
    dsimp only at hi ⊢
    rw [← List.map_take, sumB_enc]
    have h1 := lenQ_le_dl (totV (m.take i))
    have h2 := lenQ_add (totV (m.take i)) (valR (byt ((m.map VB.enc)[i]).y))
    have h3 := lenQ_valR (byt ((m.map VB.enc)[i]).y)
    have h4' : (byt ((m.map VB.enc)[i]).y).length ≤ 201 := by
      rw [byt_length, List.getElem_map]
      exact tE_size (hmo _ (List.getElem_mem _)).2.2.2
    have := hb i
    omega
theorem map_filter_d (F : Rat → Rat) (l : List VB) (d : Int) : ((l.map (mapV F)).filter fun v => v.d == d) = (l.filter fun v => v.d == d).map (mapV F) := by
  rw [List.filter_map]; rfl
theorem tiny_ok {v : VB} (h : tiny v) : v.ok := ⟨h.1, h.2.1, Nat.le_trans h.2.2.1 (by decide), Nat.le_trans h.2.2.2 (by decide)⟩
theorem tiny_shrt {v : VB} (h : tiny v) : shrt v :=
  ⟨Nat.le_trans (dlQ_le _) (Nat.le_trans h.2.2.1 (by decide)), fun r hr => by
    have := h.2.2.2
    rw [hr] at this
    exact Nat.le_trans (dlQ_le r) (Nat.le_trans this (by decide))⟩
theorem scale_shrt {v : VB} (h : tiny v) : shrt (mapV (fun q => half3 * q) v) := by
  have hb : ∀ q, tlQ q ≤ 10 → dlQ (half3 * q) ≤ 20 := fun q hq => by
    have := mul_tl half3_tl hq
    have := dlQ_le (half3 * q)
    omega
  refine ⟨hb _ h.2.2.1, fun r hr => ?_⟩
  cases he : v.e with
  | none => unfold mapV at hr; rw [he] at hr; cases hr
  | some q =>
    unfold mapV at hr
    rw [he] at hr
    injection hr with hr
    rw [← hr]
    exact hb q (by have := h.2.2.2; rw [he] at this; exact this)

end Go.Proofs.YtdcjibjldfjllaaGreat
