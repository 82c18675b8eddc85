/- Helpers of the proof, joined: Vl1 LwRT. -/
import Derived.Test.YtdcjibjldfjllaaGreatGo
import Derived.Test.YtdcjibjldfjllaaGreatGp
import Derived.Test.YtdcjibjldfjllaaGreatGs
import Derived.Test.YtdcjibjldfjllaaGreatGq
set_option linter.unusedVariables false
set_option linter.unusedSimpArgs false
/- Bars of numbers: what their texts are worth. -/
namespace Go.Proofs.YtdcjibjldfjllaaGreat
open Go.RowKit

theorem byt_tE (e : Option Rat) : byt (tE e) = etx e := by
  cases e with
  | none => rfl
  | some q => exact byt_tQ q
theorem dlen_le_tlen (z : Int) : dlen z ≤ tlen z := by
  unfold dlen tlen dtx
  by_cases h : z = 0
  · subst h
    rw [show dgt (0 : Int).natAbs = [] from (dgt_nil 0).2 rfl]
    simp
  · rw [if_neg h]
    split <;> simp
theorem long_short {q : Rat} (h : tlQ q ≤ 1000) : longQ q = false := by
  have h1 := dlen_le_tlen q.num
  have h2 := dlen_le_tlen (q.den : Int)
  unfold tlQ at h
  unfold longQ
  simp only [Bool.or_eq_false_iff, decide_eq_false_iff_not]
  omega
theorem okV_rtx {q : Rat} (h : tlQ q ≤ 1000) : okV (rtx q) = true := by
  unfold okV
  rw [okR_rtx, valR_rtx, long_short h]
  rfl
theorem okE_etx {e : Option Rat} (h : tlE e ≤ 1000) : okE (etx e) = true := by
  cases e with
  | none => decide
  | some q =>
    unfold okE
    show (isInf (rtx q) || okV (rtx q)) = true
    rw [okV_rtx h]
    simp
theorem eV_etx (e : Option Rat) : eV (etx e) = e := by
  cases e with
  | none => decide
  | some q => exact eV_rtx q
theorem cmpT_enc {e f : Option Rat} (he : tlE e ≤ 1000) (hf : tlE f ≤ 1000) : cmpT (byt (tE e)) (byt (tE f)) = cmpE e f := by
  unfold cmpT
  rw [byt_tE, byt_tE, okE_etx he, okE_etx hf, eV_etx, eV_etx]
  rfl
theorem tE_size {e : Option Rat} (h : tlE e ≤ 100) : (tE e).size ≤ 201 := by
  cases e with
  | none => decide
  | some q =>
    have := tQ_size q
    have h' : tlQ q ≤ 100 := h
    show (tQ q).size ≤ 201
    omega
theorem VB.ok.fit {v : VB} (h : v.ok) : v.enc.fit := by
  have h1 := tE_size h.2.2.1
  have h2 := tE_size h.2.2.2
  exact ⟨by show (tE (some v.q)).size ≤ _; omega, by show (tE v.e).size ≤ _; omega⟩
theorem enc_valid {v : VB} (h : v.ok) (hc : cmpE (some v.q) v.e ≤ 0) : validB v.enc = true := by
  unfold validB
  show (decide (0 ≤ v.d) && decide (v.d ≤ 4) && okV (byt (tE (some v.q))) && okE (byt (tE v.e)) && decide (cmpT (byt (tE (some v.q))) (byt (tE v.e)) ≤ 0)) = true
  rw [cmpT_enc (Nat.le_trans h.2.2.1 (by decide)) (Nat.le_trans h.2.2.2 (by decide)), byt_tE, byt_tE, okE_etx (Nat.le_trans h.2.2.2 (by decide))]
  show (decide (0 ≤ v.d) && decide (v.d ≤ 4) && okV (rtx v.q) && true && decide (cmpE (some v.q) v.e ≤ 0)) = true
  rw [okV_rtx (Nat.le_trans (show tlQ v.q ≤ 100 from h.2.2.1) (by decide))]
  have h1 := h.1
  have h2 := h.2.1
  simp [h1, h2, hc]
theorem tE_inj {e f : Option Rat} (h : tE e = tE f) : e = f := by
  rw [← eV_etx e, ← eV_etx f, ← byt_tE, ← byt_tE, h]
theorem enc_same {v : VB} (hl : live v = true) : sameEnds v.enc = false := by
  unfold live at hl
  have hl' := of_decide_eq_true hl
  unfold sameEnds
  rw [beq_eq_false_iff_ne]
  intro e
  have : tE (some v.q) = tE v.e := toList_inj e
  have := tE_inj this
  rw [← this, cmpE_self] at hl'
  omega
theorem cmpZ_sign (a b : Int) : (cmpZ a b < 0 ↔ a < b) ∧ (cmpZ a b = 0 ↔ a = b) := by
  unfold cmpZ
  split
  · constructor <;> constructor <;> intro h <;> omega
  · split
    · constructor <;> constructor <;> intro h <;> omega
    · constructor <;> constructor <;> intro h <;> omega
theorem enc_lt {a b : VB} (ha : a.ok) (hb : b.ok) : ltB a.enc b.enc = ltV a b := by
  unfold ltB ltV
  apply decide_eq_decide.2
  have e1 : cmpB a.enc b.enc = orI (cmpZ a.d b.d) (orI (cmpE (some a.q) (some b.q)) (cmpE a.e b.e)) := by
    unfold cmpB
    show orI (cmpZ a.d b.d) (orI (cmpT (byt (tE (some a.q))) (byt (tE (some b.q)))) (cmpT (byt (tE a.e)) (byt (tE b.e)))) = _
    rw [cmpT_enc (Nat.le_trans ha.2.2.1 (by decide)) (Nat.le_trans hb.2.2.1 (by decide)), cmpT_enc (Nat.le_trans ha.2.2.2 (by decide)) (Nat.le_trans hb.2.2.2 (by decide))]
  rw [e1]
  unfold cmpV orI
  have hz := cmpZ_sign a.d b.d
  by_cases hd : a.d = b.d
  · rw [if_pos (hz.2.2 hd), if_neg (show ¬ a.d ≠ b.d by simp [hd])]
    by_cases hq : cmpE (some a.q) (some b.q) = 0
    · rw [if_pos hq, if_neg (show ¬ cmpE (some a.q) (some b.q) ≠ 0 by simp [hq])]
    · rw [if_neg hq, if_pos (show cmpE (some a.q) (some b.q) ≠ 0 from hq)]
  · rw [if_neg (fun h => hd (hz.2.1 h)), if_pos hd, hz.1]
    omega

theorem ltV_false (a b : VB) : ltV b a = false ↔ a.d < b.d ∨ a.d = b.d ∧ (cmpE (some a.q) (some b.q) < 0 ∨ cmpE (some a.q) (some b.q) = 0 ∧ cmpE a.e b.e ≤ 0) := by
  unfold ltV
  rw [decide_eq_false_iff_not]
  unfold cmpV
  have h1 := cmpE_neg (some a.q) (some b.q)
  have h2 := cmpE_neg a.e b.e
  by_cases hd : b.d = a.d
  · rw [if_neg (show ¬ b.d ≠ a.d by simp [hd])]
    by_cases hq : cmpE (some b.q) (some a.q) = 0
    · rw [if_neg (show ¬ cmpE (some b.q) (some a.q) ≠ 0 by simp [hq])]; omega
    · rw [if_pos (show cmpE (some b.q) (some a.q) ≠ 0 from hq)]; omega
  · rw [if_pos hd]; omega
theorem cmpE_lt_le {e f g : Option Rat} (h : cmpE e f < 0) (k : cmpE f g ≤ 0) : cmpE e g < 0 := by
  have h1 := cmpE_trans (show cmpE e f ≤ 0 by omega) k
  rcases Int.lt_or_le (cmpE e g) 0 with h2 | h2
  · exact h2
  · have h3 := cmpE_eq.1 (show cmpE e g = 0 by omega)
    subst h3
    have := cmpE_neg e f
    omega
theorem cmpE_le_lt {e f g : Option Rat} (h : cmpE e f ≤ 0) (k : cmpE f g < 0) : cmpE e g < 0 := by
  have h1 := cmpE_trans h (show cmpE f g ≤ 0 by omega)
  rcases Int.lt_or_le (cmpE e g) 0 with h2 | h2
  · exact h2
  · have h3 := cmpE_eq.1 (show cmpE e g = 0 by omega)
    subst h3
    have := cmpE_neg e f
    omega
theorem cmpV_trans : ∀ a b c : VB, ltV b a = false → ltV c b = false → ltV c a = false := by
  intro a b c h k
  rw [ltV_false] at h k ⊢
  rcases h with h | ⟨h, h'⟩
  · rcases k with k | ⟨k, _⟩ <;> exact .inl (by omega)
  · rcases k with k | ⟨k, k'⟩
    · exact .inl (by omega)
    · refine .inr ⟨by omega, ?_⟩
      rcases h' with h' | ⟨h', h''⟩
      · rcases k' with k' | ⟨k', _⟩
        · exact .inl (cmpE_lt_le h' (by omega))
        · exact .inl (cmpE_lt_le h' (by omega))
      · rcases k' with k' | ⟨k', k''⟩
        · exact .inl (cmpE_le_lt (by omega) k')
        · have e1 := cmpE_eq.1 h'
          have e2 := cmpE_eq.1 k'
          exact .inr ⟨by rw [e1, e2, cmpE_self], cmpE_trans h'' k''⟩
theorem cmpV_asym : ∀ a b : VB, ltV a b = true → ltV b a = false := by
  intro a b h
  rw [ltV_false]
  have h' := of_decide_eq_true (show decide (cmpV a b < 0) = true from h)
  unfold cmpV at h'
  by_cases hd : a.d = b.d
  · rw [if_neg (show ¬ a.d ≠ b.d by simp [hd])] at h'
    by_cases hq : cmpE (some a.q) (some b.q) = 0
    · rw [if_neg (show ¬ cmpE (some a.q) (some b.q) ≠ 0 by simp [hq])] at h'; omega
    · rw [if_pos (show cmpE (some a.q) (some b.q) ≠ 0 from hq)] at h'; omega
  · rw [if_pos hd] at h'; omega
theorem chk_enc : ∀ (l : List VB) (p : Option VB), (∀ v ∈ l, v.ok ∧ live v = true) → (∀ u, p = some u → u.ok ∧ ∀ v ∈ l, ltV v u = false) → Asc ltV l → chkFrom (p.map VB.enc) (l.map VB.enc) = 0
  | [], _, _, _, _ => by rw [List.map_nil]; cases ‹Option VB› <;> rfl
  | v :: l, p, hv, hp, ha => by
    have h1 := hv v (by simp)
    have hlv := of_decide_eq_true (show decide (cmpE (some v.q) v.e < 0) = true from h1.2)
    rw [List.map_cons, chkFrom, enc_valid h1.1 (by omega), enc_same h1.2, if_neg (by simp)]
    have hb : before (p.map VB.enc) v.enc = false := by
      cases p with
      | none => rfl
      | some u =>
        have := hp u rfl
        show ltB v.enc u.enc = false
        rw [enc_lt h1.1 this.1]
        exact this.2 v (by simp)
    rw [if_neg (by rw [hb]; simp)]
    have ha' := List.pairwise_cons.1 ha
    exact chk_enc l (some v) (fun u hu => hv u (by simp [hu])) (fun u hu => by injection hu with hu; subst hu; exact ⟨h1.1, fun w hw => ha'.1 w hw⟩) ha'.2
theorem check_enc {l : List VB} (hv : ∀ v ∈ l, v.ok ∧ live v = true) (ha : Asc ltV l) (hl : l.length ≤ 2048) : checkB (l.map VB.enc) = 0 := by
  unfold checkB
  rw [if_neg (by rw [List.length_map]; omega)]
  exact chk_enc l none hv (fun u hu => by cases hu) ha
theorem sortV_good {l : List VB} (h : ∀ v ∈ l, v.ok) : (∀ v ∈ sortV l, v.ok ∧ live v = true) ∧ Asc ltV (sortV l) ∧ (sortV l).length ≤ l.length := by
  refine ⟨fun v hv => ?_, isort_ord cmpV_trans cmpV_asym _, ?_⟩
  · have := List.mem_filter.1 ((isort_perm _ _).mem_iff.1 hv)
    exact ⟨h v this.1, this.2⟩
  · unfold sortV
    rw [isort_length]
    exact List.length_filter_le _ _
theorem fitV_good (xs : List Int) (most : Nat) : (∀ v ∈ fitV xs most, v.ok ∧ live v = true) ∧ Asc ltV (fitV xs most) ∧ (fitV xs most).length ≤ most := by
  have h := sortV_good (l := fitRaw xs (min (xs.length / 3) most)) fitRaw_ok
  refine ⟨h.1, h.2.1, ?_⟩
  have := h.2.2
  rw [fitRaw_len] at this
  unfold fitV
  omega

/-- The texts of numbers hold no space and no line feed. -/
theorem rtx_low (q : Rat) : ∀ x ∈ rtx q, 45 ≤ x := by
  have hd : ∀ z : Int, ∀ x ∈ dtx z, 45 ≤ x := by
    intro z x hx
    unfold dtx at hx
    split at hx
    · simp at hx; omega
    · rcases List.mem_append.1 hx with hx | hx
      · split at hx
        · simp at hx; omega
        · simp at hx
      · rw [List.mem_reverse] at hx
        obtain ⟨y, hy, rfl⟩ := List.mem_map.1 hx
        have := dgt_dig z.natAbs y hy
        omega
  intro x hx
  unfold rtx at hx
  split at hx
  · exact hd _ x hx
  · rcases List.mem_append.1 hx with hx | hx
    · rcases List.mem_append.1 hx with hx | hx
      · exact hd _ x hx
      · simp at hx; omega
    · exact hd _ x hx
theorem clean_of {s : ByteArray} (h : ∀ x ∈ byt s, 45 ≤ x ∧ x < 128) : clean s := by
  intro b hb
  have hm : ((b.toNat : Nat) : Int) ∈ byt s := List.mem_map.2 ⟨b, hb, rfl⟩
  have h1 := h _ hm
  refine ⟨?_, by omega⟩
  rw [Bool.and_eq_true, bne_iff_ne, bne_iff_ne]
  constructor
  · rintro rfl; exact absurd h1.1 (by decide)
  · rintro rfl; exact absurd h1.1 (by decide)
theorem clean_tE (e : Option Rat) : clean (tE e) := by
  refine clean_of ?_
  rw [byt_tE]
  cases e with
  | none =>
    intro x hx
    have : x ∈ ([105, 110, 102] : List Int) := hx
    simp at this
    omega
  | some q =>
    intro x hx
    have h1 := rtx_low q x hx
    have h2 := rtx_chars q x hx
    omega
theorem enc_len {v : VB} (h : v.ok) : (barBytes v.enc).length ≤ 406 := by
  rw [barBytes_len]
  have h1 := tE_size h.2.2.1
  have h2 := tE_size h.2.2.2
  show (tE (some v.q)).size + (tE v.e).size + 4 ≤ 406
  omega
theorem txt_len : ∀ {l : List VB}, (∀ v ∈ l, v.ok) → ((l.map VB.enc).flatMap barBytes).length ≤ 406 * l.length
  | [], _ => by simp
  | v :: l, h => by
    have h1 := enc_len (h v (by simp))
    have h2 := txt_len (l := l) fun u hu => h u (by simp [hu])
    simp only [List.map_cons, List.flatMap_cons, List.length_append, List.length_cons]
    omega

end Go.Proofs.YtdcjibjldfjllaaGreat

/- BarcodeRoundTrip: the walk. -/
namespace Go.Proofs.YtdcjibjldfjllaaGreat
open Go.RowKit

set_option maxRecDepth 100000 in
set_option maxHeartbeats 4000000 in
theorem law_roundTrip (A : Option Addr) (n c : Nat) (xs : List Int) (w : World) (hx : RInts w .i64 A n c xs) (hr : ∀ x ∈ xs, -9223372036854775808 ≤ x ∧ x ≤ 9223372036854775807) :
    Calls Tryz.prog 6 #[.slice A n c] w fun e w' => Past w w' ∧ e = .returned (.bool true) := by
  have HX := Lib.hid hx
  have HR := Lib.hid hr
  clear hx hr
  obtain ⟨g1, g2, g3⟩ := fitV_good xs 40
  obtain ⟨l, hl⟩ : ∃ l, fitV xs 40 = l := ⟨_, rfl⟩
  rw [hl] at g1 g2 g3
  have HLF := Lib.hid hl
  have hck := check_enc g1 g2 (by omega)
  have hlen : ((l.map VB.enc).flatMap barBytes).length ≤ 65536 := by
    have := txt_len (l := l) fun v hv => (g1 v hv).1
    omega
  have HFIT : Hid (∀ b ∈ l.map VB.enc, b.fit) := by
    intro b hb
    obtain ⟨v, hv, rfl⟩ := List.mem_map.1 hb
    exact (g1 v hv).1.fit
  have HCL : Hid (∀ b ∈ l.map VB.enc, clean b.x ∧ clean b.y) := by
    intro b hb
    obtain ⟨v, hv, rfl⟩ := List.mem_map.1 hb
    exact ⟨clean_tE _, clean_tE _⟩
  obtain ⟨bs, hbs⟩ : ∃ bs, l.map VB.enc = bs := ⟨_, rfl⟩
  have HBL : Hid (bs.length ≤ 40) := by rw [← hbs]; unfold Hid; rw [List.length_map]; exact g3
  rw [hbs] at hck hlen HFIT HCL
  have HBS := Lib.hid hbs
  have HCK := Lib.hid hck
  have HLN := Lib.hid hlen
  have HFM : Hid (formatB bs = (txtB bs, 0)) := by
    show _ = _
    unfold formatB
    rw [hck, if_neg (by simp), if_neg (by omega)]
  clear hl g1 g2 g3 hck hlen hbs
  go_enter Tryz.func6, Tryz.ntmps6
  go_wp2_with fail
  refine (law_awake _).mono ?_
  rintro e w1 ⟨hp1, rfl⟩
  have HP1 := Lib.hid hp1
  clear hp1
  go_wp2_with fail
  refine (ref_fit A n c 40 xs _ (HX.out.past HP1.out) HR.out (by decide)).mono ?_
  rintro e w2 ⟨hp2, v2, rfl, ho2⟩
  rw [HLF.out, HBS.out] at ho2
  obtain ⟨A2, c2, rfl, hr2⟩ := ho2.reads
  have HR2 := Lib.hid hr2
  have HP2 : Hid (Past w w2) := HP1.out.trans hp2
  clear hp2 ho2 hr2
  go_wp2_with fail
  refine (bar_format A2 bs.length c2 bs _ HR2.out HFIT.out).mono ?_
  rintro e w3 ⟨hp3, rfl⟩
  rw [HFM.out]
  have HP3 : Hid (Past w w3) := HP2.out.trans hp3
  have HR3 := Lib.hid (HR2.out.past hp3)
  clear hp3
  go_wp2_with fail
  refine (bar_parse bs _ HFIT.out HCK.out HCL.out HLN.out).mono ?_
  rintro e w4 ⟨hp4, v4, rfl, ho4⟩
  obtain ⟨A4, c4, rfl, hr4⟩ := ho4.reads
  have HR4 := Lib.hid hr4
  have HP4 : Hid (Past w w4) := HP3.out.trans hp4
  have HR34 := Lib.hid (HR3.out.past hp4)
  clear hp4 ho4 hr4
  go_wp2_with fail
  refine (ref_same A4 A2 bs.length c4 c2 bs _ HR4.out HR34.out (by have := HBL.out; omega)).mono ?_
  rintro e w5 ⟨hp5, rfl⟩
  go_wp2
  go_ret
  exact ⟨HP4.out.trans hp5, rfl⟩

end Go.Proofs.YtdcjibjldfjllaaGreat
