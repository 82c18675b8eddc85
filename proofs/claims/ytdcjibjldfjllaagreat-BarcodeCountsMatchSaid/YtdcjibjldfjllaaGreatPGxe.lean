/- Helpers of the proof, joined: Sm5 Bar14 Sm6 Sm7. -/
import Derived.Test.YtdcjibjldfjllaaGreatPGxd
import Derived.Test.YtdcjibjldfjllaaGreatPGn
set_option linter.unusedVariables false
set_option linter.unusedSimpArgs false
/- slices.SortStableFunc on bars: the order; the state of the sort's two phases. -/
namespace Go.Proofs.YtdcjibjldfjllaaGreat
open Go.RowKit Go.Sort

/-- The numbers of a bar. -/
def obV (b : Bar) : VB := ⟨b.d, valR (byt b.x), eV (byt b.y)⟩
theorem okV_notInf {l : List Int} (h : okV l = true) : isInf l = false := by
  unfold okV at h
  rw [Bool.and_eq_true] at h
  rw [rtx_valR h.1, isInf_rtx]
theorem eV_okV {l : List Int} (h : okV l = true) : eV l = some (valR l) := by
  unfold eV; rw [okV_notInf h]; rfl
theorem ltB_obV {a b : Bar} (ha : okBar a) (hb : okBar b) : ltB a b = ltV (obV a) (obV b) := by
  unfold ltB ltV
  apply decide_eq_decide.2
  have o1 : okE (byt a.x) = true := by unfold okE; rw [ha.2.1]; simp
  have o2 : okE (byt b.x) = true := by unfold okE; rw [hb.2.1]; simp
  have e1 : cmpB a b = orI (cmpZ a.d b.d) (orI (cmpE (some (valR (byt a.x))) (some (valR (byt b.x)))) (cmpE (eV (byt a.y)) (eV (byt b.y)))) := by
    unfold cmpB cmpT
    rw [o1, o2, ha.2.2, hb.2.2, eV_okV ha.2.1, eV_okV hb.2.1]
    rfl
  rw [e1]
  unfold cmpV orI obV
  dsimp only
  have hz := cmpZ_sign a.d b.d
  by_cases hd : a.d = b.d
  · rw [if_pos (hz.2.2 hd), if_neg (show ¬ a.d ≠ b.d by simp [hd])]
    by_cases hq : cmpE (some (valR (byt a.x))) (some (valR (byt b.x))) = 0
    · rw [if_pos hq, if_neg (show ¬ cmpE (some (valR (byt a.x))) (some (valR (byt b.x))) ≠ 0 by simp [hq])]
    · rw [if_neg hq, if_pos (show cmpE (some (valR (byt a.x))) (some (valR (byt b.x))) ≠ 0 from hq)]
  · rw [if_neg (fun h => hd (hz.2.1 h)), if_pos hd, hz.1]
    omega
def ltO (x y : OB) : Bool := ltB x.val y.val
theorem ltO_swo : SWO ltO := by
  have e : ∀ x y : OB, ltO x y = ltV (obV x.val) (obV y.val) := fun x y => ltB_obV x.property y.property
  have ir : ∀ x : OB, ltO x x = false := fun x => by
    rw [e, ltV_false]
    exact Or.inr ⟨rfl, Or.inr ⟨cmpE_self _, by rw [cmpE_self]; omega⟩⟩
  have nt : ∀ x y z : OB, ltO x y = false → ltO y z = false → ltO x z = false := fun x y z h1 h2 => by
    rw [e] at *
    exact cmpV_trans _ _ _ h2 h1
  refine ⟨ir, fun x y z h1 h2 => ?_, nt⟩
  cases h : ltO x z with
  | true => rfl
  | false =>
    have h3 : ltO z y = false := by
      rw [e] at h2 ⊢
      exact cmpV_asym _ _ h2
    have := nt x z y h h3
    rw [h1] at this
    cases this
theorem leT_swo : SWO leT := tagged_swo (lt := ltO) ltO_swo

theorem mrg_all (w0 : World) (g c N : Nat) (hsz : N ≤ 1000000000) : ∀ (n a m b : Nat) (d : Array TB), b - a ≤ n → a < m → m < b → b ≤ N → d.size = N → Halv leT tagPre d a m b → MrgC w0 g c N a m b d
  | 0, a, m, b, d, hn, h1, h2, _, _, _ => by omega
  | n + 1, a, m, b, d, hn, h1, h2, hb, hN, hH => by
    by_cases e1 : m = a + 1
    · exact mrg_left leT_swo w0 g c N a m b d hN e1 h2 hb hsz hH
    · by_cases e2 : b = m + 1
      · exact mrg_right leT_swo w0 g c N a m b d hN e2 h1 e1 hb hsz hH
      · exact mrg_gen leT_swo w0 g c N a m b d hN (by omega) (by omega) hb hsz hH (fun a' m' b' e h3 h4 h5 h6 h7 h8 => mrg_all w0 g c N hsz n a' m' b' e (by omega) h4 h5 h6 h7 h8)

section
variable {N : Nat} {d0 : Array TB}
/-- What stands before a border of blocks stands before what is behind it. -/
def PreB (N bs lo : Nat) (d : Array TB) : Prop := ∀ t p q, lo ≤ p → p < t * bs → t * bs ≤ q → q < N → tagPre d[p]! d[q]!
theorem PreB.perm {bs lo hi : Nat} {d e : Array TB} (h : PreB N bs 0 d) (hd : d.size = N) (hlo : ∀ t, t * bs ≤ lo ∨ hi ≤ t * bs) (hh : hi ≤ N) (hp : PermIn lo hi d e) : PreB N bs 0 e := by
  intro t p q _ h1 h2 h3
  rcases hlo t with ht | ht
  · rw [hp.2.1 p (Or.inl (by omega))]
    by_cases hq : lo ≤ q ∧ q < hi
    · exact permIn_all d e lo hi (fun v => tagPre d[p]! v) (by omega) hp (fun i h4 h5 => h t p i (Nat.zero_le _) h1 (by omega) (by omega)) q hq.1 hq.2
    · rw [hp.2.1 q (by omega)]
      exact h t p q (Nat.zero_le _) h1 h2 h3
  · rw [hp.2.1 q (Or.inr (by omega))]
    by_cases hq : lo ≤ p ∧ p < hi
    · exact permIn_all d e lo hi (fun v => tagPre v d[q]!) (by omega) hp (fun i h4 h5 => h t i q (Nat.zero_le _) (by omega) h2 h3) p hq.1 hq.2
    · rw [hp.2.1 p (by omega)]
      exact h t p q (Nat.zero_le _) h1 h2 h3
theorem PreB.low {bs lo hi : Nat} {d e : Array TB} (h : PreB N bs lo d) (hhi : lo ≤ hi) (hk : ∀ i, hi ≤ i → e[i]! = d[i]!) : PreB N bs hi e := by
  intro t p q h0 h1 h2 h3
  rw [hk p h0, hk q (by omega)]
  exact h t p q (by omega) h1 h2 h3
theorem srt_keep {a b : Nat} {d e : Array TB} (h : SortedIn leT a b d) (hk : ∀ i, a ≤ i → i < b → e[i]! = d[i]!) : SortedIn leT a b e := by
  intro i j h1 h2 h3
  rw [hk i h1 (by omega), hk j (by omega) h3]
  exact h i j h1 h2 h3

/-- Between the rounds of the second phase. -/
structure Ot (N bs : Nat) (d0 d : Array TB) : Prop where
  size : d.size = N
  perm : PermIn 0 N d0 d
  blk : ∀ t, SortedIn leT (t * bs) (min (t * bs + bs) N) d
  pre : PreB N bs 0 d
/-- Within a round: up to A. -/
structure St (N bs A : Nat) (d0 d : Array TB) : Prop where
  size : d.size = N
  perm : PermIn 0 N d0 d
  done : ∀ t, t * (2 * bs) < A → SortedIn leT (t * (2 * bs)) (t * (2 * bs) + 2 * bs) d
  rest : ∀ t, A ≤ t * bs → SortedIn leT (t * bs) (min (t * bs + bs) N) d
  pre2 : PreB N (2 * bs) 0 d
  pre1 : PreB N bs A d
theorem two_mul_bs (t bs : Nat) : t * (2 * bs) = (2 * t) * bs := by rw [← Nat.mul_assoc, Nat.mul_comm t 2]
theorem St.start {bs : Nat} {d : Array TB} (h : Ot N bs d0 d) : St N bs 0 d0 d :=
  ⟨h.size, h.perm, fun t ht => absurd ht (Nat.not_lt_zero _), fun t _ => h.blk t, fun t p q h0 h1 h2 h3 => h.pre (2 * t) p q h0 (by rw [← two_mul_bs]; exact h1) (by rw [← two_mul_bs]; exact h2) h3, h.pre⟩
theorem mul_gap {t k bs : Nat} : t * bs ≤ k * bs ∨ k * bs + bs ≤ t * bs := by
  rcases Nat.lt_or_ge k t with h | h
  · exact Or.inr (by have := Nat.mul_le_mul_right bs (show k + 1 ≤ t from h); rw [Nat.succ_mul] at this; exact this)
  · exact Or.inl (Nat.mul_le_mul_right bs h)
theorem St.halv {bs A k : Nat} {d : Array TB} (h : St N bs A d0 d) (hA : A = k * (2 * bs)) (hb : A + bs < N) : Halv leT tagPre d A (A + bs) (min (A + 2 * bs) N) := by
  have e1 : (2 * k) * bs = A := by rw [← two_mul_bs, hA]
  have e2 : (2 * k + 1) * bs = A + bs := by rw [Nat.succ_mul, e1]
  refine ⟨?_, ?_, fun i j h1 h2 h3 h4 => ?_⟩
  · have := h.rest (2 * k) (by omega)
    rw [e1, show min (A + bs) N = A + bs by omega] at this
    exact this
  · have := h.rest (2 * k + 1) (by omega)
    rw [e2, show A + bs + bs = A + 2 * bs by omega] at this
    exact this
  · exact h.pre1 (2 * k + 1) i j h1 (by omega) (by omega) (by omega)
theorem St.step {bs A k : Nat} {d e : Array TB} (h : St N bs A d0 d) (hA : A = k * (2 * bs)) (hb : A + 2 * bs ≤ N) (hp : PermIn A (A + 2 * bs) d e) (hs : SortedIn leT A (A + 2 * bs) e) : St N bs (A + 2 * bs) d0 e := by
  refine ⟨hp.1.trans h.size, permIn_trans _ _ _ _ _ h.perm (permIn_mono _ _ _ _ _ _ (Nat.zero_le _) hb (by rw [h.size]; exact Nat.le_refl _) hp), fun t ht => ?_, fun t ht => ?_, h.pre2.perm h.size (fun t => ?_) hb hp, h.pre1.low (by omega) (fun i hi => hp.2.1 i (Or.inr hi))⟩
  · rcases mul_gap (t := k) (k := t) (bs := 2 * bs) with h1 | h1
    · have e1 : t * (2 * bs) = A := by
        rcases mul_gap (t := t) (k := k) (bs := 2 * bs) with h2 | h2 <;> omega
      rw [e1]; exact hs
    · exact srt_keep (h.done t (by omega)) (fun i h3 h4 => hp.2.1 i (Or.inl (by omega)))
  · exact srt_keep (h.rest t (by omega)) (fun i h3 h4 => hp.2.1 i (Or.inr (by omega)))
  · rcases mul_gap (t := t) (k := k) (bs := 2 * bs) with h1 | h1
    · exact Or.inl (by omega)
    · exact Or.inr (by omega)
theorem St.last {bs A k : Nat} {d e : Array TB} (h : St N bs A d0 d) (hA : A = k * (2 * bs)) (hb : N < A + 2 * bs) (hAN : A ≤ N) (hp : PermIn A N d e) (hs : SortedIn leT A N e) : Ot N (2 * bs) d0 e := by
  refine ⟨hp.1.trans h.size, permIn_trans _ _ _ _ _ h.perm (permIn_mono _ _ _ _ _ _ (Nat.zero_le _) (Nat.le_refl _) (by rw [h.size]; exact Nat.le_refl _) hp), fun t => ?_, h.pre2.perm h.size (fun t => ?_) (Nat.le_refl _) hp⟩
  · rcases mul_gap (t := t) (k := k) (bs := 2 * bs) with h1 | h1
    · rcases mul_gap (t := k) (k := t) (bs := 2 * bs) with h2 | h2
      · have e1 : t * (2 * bs) = A := by omega
        rw [e1, show min (A + 2 * bs) N = N by omega]; exact hs
      · rw [show min (t * (2 * bs) + 2 * bs) N = t * (2 * bs) + 2 * bs by omega]
        rcases Nat.eq_zero_or_pos bs with h0 | h0
        · intro i j h3 h4 h5; omega
        · exact srt_keep (h.done t (by omega)) (fun i h3 h4 => hp.2.1 i (Or.inl (by omega)))
    · intro i j h3 h4 h5; omega
  · rcases mul_gap (t := t) (k := k) (bs := 2 * bs) with h1 | h1
    · exact Or.inl (by omega)
    · exact Or.inr (by omega)
theorem St.short {bs A k : Nat} {d : Array TB} (h : St N bs A d0 d) (hA : A = k * (2 * bs)) (hb : N ≤ A + bs) (hAN : A ≤ N) : SortedIn leT A N d := by
  have e1 : (2 * k) * bs = A := by rw [← two_mul_bs, hA]
  have := h.rest (2 * k) (by omega)
  rw [e1, show min (A + bs) N = N by omega] at this
  exact this

/-- The first phase, up to A. -/
structure Ft (N A : Nat) (d0 d : Array TB) : Prop where
  size : d.size = N
  perm : PermIn 0 N d0 d
  done : ∀ t, t * 20 < A → SortedIn leT (t * 20) (t * 20 + 20) d
  pre : PreB N 20 0 d
  asc : ∀ p q, A ≤ p → p < q → q < N → tagPre d[p]! d[q]!
theorem Ft.start {d : Array TB} (hs : d.size = N) (ha : ∀ p q, p < q → q < N → tagPre d[p]! d[q]!) : Ft N 0 d d :=
  ⟨hs, permIn_refl _ _ _, fun t ht => absurd ht (Nat.not_lt_zero _), fun t p q _ h1 h2 h3 => ha p q (by omega) h3, fun p q _ h1 h2 => ha p q h1 h2⟩
theorem Ft.step {A k : Nat} {d e : Array TB} (h : Ft N A d0 d) (hA : A = k * 20) (hb : A + 20 ≤ N) (hp : PermIn A (A + 20) d e) (hs : SortedIn leT A (A + 20) e) : Ft N (A + 20) d0 e := by
  refine ⟨hp.1.trans h.size, permIn_trans _ _ _ _ _ h.perm (permIn_mono _ _ _ _ _ _ (Nat.zero_le _) hb (by rw [h.size]; exact Nat.le_refl _) hp), fun t ht => ?_, h.pre.perm h.size (fun t => by omega) hb hp, fun p q h1 h2 h3 => by rw [hp.2.1 p (Or.inr h1), hp.2.1 q (Or.inr (by omega))]; exact h.asc p q (by omega) h2 h3⟩
  by_cases ht2 : t * 20 < A
  · exact srt_keep (h.done t ht2) (fun i h3 h4 => hp.2.1 i (Or.inl (by omega)))
  · rw [show t * 20 = A by omega]; exact hs
theorem Ft.last {A k : Nat} {d e : Array TB} (h : Ft N A d0 d) (hA : A = k * 20) (hAN : A ≤ N) (hb : N < A + 20) (hp : PermIn A N d e) (hs : SortedIn leT A N e) : Ot N 20 d0 e := by
  refine ⟨hp.1.trans h.size, permIn_trans _ _ _ _ _ h.perm (permIn_mono _ _ _ _ _ _ (Nat.zero_le _) (Nat.le_refl _) (by rw [h.size]; exact Nat.le_refl _) hp), fun t => ?_, h.pre.perm h.size (fun t => by omega) (Nat.le_refl _) hp⟩
  by_cases ht2 : t * 20 < A
  · rw [show min (t * 20 + 20) N = t * 20 + 20 by omega]
    exact srt_keep (h.done t ht2) (fun i h3 h4 => hp.2.1 i (Or.inl (by omega)))
  · by_cases ht3 : t * 20 = A
    · rw [ht3, show min (A + 20) N = N by omega]; exact hs
    · intro i j h3 h4 h5; omega
end

def OB.bar (b : OB) : Bar := b.val
def OB.of (b : Bar) (h : okBar b) : OB := ⟨b, h⟩
def mkO : (l : List Bar) → (∀ b ∈ l, okBar b) → List OB
  | [], _ => []
  | b :: l, h => OB.of b (h b (List.mem_cons_self ..)) :: mkO l (fun x hx => h x (List.mem_cons_of_mem _ hx))
theorem mkO_bars : ∀ (l : List Bar) (h : ∀ b ∈ l, okBar b), (mkO l h).map OB.bar = l
  | [], _ => rfl
  | b :: l, h => by
    show OB.bar (OB.of b _) :: (mkO l _).map OB.bar = b :: l
    rw [mkO_bars l]; rfl
theorem mkO_length (l : List Bar) (h : ∀ b ∈ l, okBar b) : (mkO l h).length = l.length := by
  conv => rhs; rw [← mkO_bars l h, List.length_map]
/-- The bars with their places. -/
def tagged0 (l : List Bar) (h : ∀ b ∈ l, okBar b) : Array TB := ⟨(mkO l h).zipIdx⟩
theorem bar_map (m : List TB) : m.map TB.bar = (m.map Prod.fst).map OB.bar := by
  rw [List.map_map]; rfl
theorem tagged0_bars (l : List Bar) (h : ∀ b ∈ l, okBar b) : (tagged0 l h).toList.map TB.bar = l := by
  rw [bar_map]
  show ((mkO l h).zipIdx.map Prod.fst).map OB.bar = l
  rw [List.zipIdx_map_fst, mkO_bars]
theorem tagged0_size (l : List Bar) (h : ∀ b ∈ l, okBar b) : (tagged0 l h).size = l.length := by
  show (mkO l h).zipIdx.length = l.length
  rw [List.length_zipIdx, mkO_length]
theorem tagged0_tag (l : List Bar) (h : ∀ b ∈ l, okBar b) (p : Nat) (hp : p < l.length) : (tagged0 l h)[p]!.2 = p := by
  have hl : p < (mkO l h).length := by rw [mkO_length]; exact hp
  have h1 : (tagged0 l h).toList[p]? = some ((mkO l h)[p], 0 + p) := by
    show (mkO l h).zipIdx[p]? = _
    rw [List.getElem?_zipIdx, List.getElem?_eq_getElem hl]; rfl
  rw [getElem!_def, ← Array.getElem?_toList, h1]
  exact Nat.zero_add p
theorem tagged0_asc (l : List Bar) (h : ∀ b ∈ l, okBar b) : ∀ p q, p < q → q < l.length → tagPre (tagged0 l h)[p]! (tagged0 l h)[q]! := by
  intro p q h1 h2
  unfold tagPre
  rw [tagged0_tag l h p (by omega), tagged0_tag l h q h2]
  exact h1
/-- What the stable sort leaves. -/
theorem ot_isort (l : List Bar) (h : ∀ b ∈ l, okBar b) {bs : Nat} {e : Array TB} (ho : Ot l.length bs (tagged0 l h) e) (hb : l.length ≤ bs) : e.toList.map TB.bar = isort ltB l := by
  have hs : SortedIn leT 0 l.length e := by
    have := ho.blk 0
    rw [Nat.zero_mul, Nat.zero_add, show min bs l.length = l.length by omega] at this
    exact this
  have hpm : e.toList.Perm (mkO l h).zipIdx := by
    have := ho.perm.2.2
    have e1 : (e.extract 0 l.length).toList = e.toList := by rw [← ho.size, Array.extract_size]
    have e2 : ((tagged0 l h).extract 0 l.length).toList = (tagged0 l h).toList := by rw [← tagged0_size l h, Array.extract_size]
    rw [e1, e2] at this
    exact this
  have hpw : e.toList.Pairwise (fun a b => tagged ltO b a = false) := by
    rw [List.pairwise_iff_getElem]
    intro i j hi hj hij
    have := hs i j (Nat.zero_le _) hij (by rw [← ho.size]; simpa using hj)
    rw [getElem!_pos e i (by simpa using hi), getElem!_pos e j (by simpa using hj)] at this
    exact this
  have hst := stable_eq (lt := ltO) ltO_swo _ _ hpm hpw
  rw [bar_map, hst]
  conv => rhs; rw [← mkO_bars l h]
  exact (isort_map (f := OB.bar) (lt := ltB) (lt' := ltO) (fun _ _ => rfl) _).symm

end Go.Proofs.YtdcjibjldfjllaaGreat

/- barcode.changed, with what each change asks of a bar, over any length that the sort serves. -/
namespace Go.Proofs.YtdcjibjldfjllaaGreat
open Go.RowKit

/-- The stable sort serves lists of this length. -/
def SortOk (w0 : World) (N : Nat) (Q : Bar → Prop) : Prop := ∀ (v : Value) (l : List Bar) (w : World), OwnS w0 w rBar 94 v l → (∀ b ∈ l, Q b) → l.length ≤ N →
  Calls Tryz.prog 136 #[v, .func (.func 86) #[] #[]] w fun e w' => e = .returned (.tuple #[]) ∧ OwnS w0 w' rBar 94 v (isort ltB l)
def ChgOk2 (w0 : World) (f : Value) (φ : Chg) (G G' : Bar → Prop) : Prop :=
  ∃ (k : Nat) (caps : Array Value), f = .func (.func k) #[] caps ∧ (∀ args w, (callFunc k args).run Tryz.prog w = .ok (.enter k args) w) ∧
    ∀ (w : World) (g : Nat) (b : Bar), Past w0 w → w0.heap.size ≤ g → BarAt w g 0 b → (∀ j, w.frozen? ⟨g, j, none⟩ = false) → G b →
      Calls Tryz.prog k (#[.pointer (some ⟨g, 0, none⟩)] ++ caps) w fun e w' => w.grownBy w' (some g) ∧ BarAt w' g 0 (φ b).1 ∧ (∀ j, w'.frozen? ⟨g, j, none⟩ = false) ∧ ((φ b).2.1 = true → G' (φ b).1) ∧ e = .returned (.tuple #[.bool (φ b).2.1, .int .i64 (φ b).2.2])

set_option maxRecDepth 100000 in
set_option maxHeartbeats 4000000 in
theorem bar_changed2 (G : Nat → Bar → Prop) (Q : Bar → Prop) (hQ : ∀ b, Q b → b.fit) (A B : Option Addr) (n c m d : Nat) (bs : List Bar) (fs : List Value) (φs : List Chg) (w : World) (hx : Rows w rBar A n c bs) (hf : ∀ b ∈ bs, G 0 b) (hgf : ∀ b, G m b → Q b) (hn : n ≤ 1000000)
    (hsort : SortOk w n Q)
    (hm : fs.length = m) (hφ : φs.length = m) (hm2 : m ≤ 1000) (hB : 0 < m → ∃ b o, B = some ⟨b, o, none⟩ ∧ ∀ j (h : j < fs.length), w.cell? ⟨b, o + j, none⟩ = some fs[j])
    (hok : ∀ j (h : j < fs.length) (h' : j < φs.length), ChgOk2 w fs[j] φs[j] (G j) (G (j + 1))) :
    Calls Tryz.prog 80 #[.slice A n c, .slice B m d] w fun e w' => Past w w' ∧ ∃ v, e = .returned (.tuple #[v, .int .i64 (chgAll φs [] bs).2]) ∧ OwnS w w' rBar 94 v (chgAll φs [] bs).1 ∧ ∀ b ∈ (chgAll φs [] bs).1, Q b := by
  have HX := Lib.hid hx
  have HQ := Lib.hid hQ
  have HL := Lib.hid hx.len
  have HF := Lib.hid hf
  have HM := Lib.hid hm
  have HPHI := Lib.hid hφ
  have HB := Lib.hid hB
  have HOK := Lib.hid hok
  have HGF := Lib.hid hgf
  have HSORT := Lib.hid hsort
  have HEL := Lib.hid el_bar
  clear hx hf hm hφ hB hok hgf hsort hQ
  go_enter Tryz.func80, Tryz.ntmps80
  go_wp2_with fail
  go_step3
  go_wp2_with fail
  go_step3
  go_wp2_with fail
  go_loopg [6, 15] n (fun gg ov iv wr => ∃ (i : Nat) (out : List Bar) (vo : Value), vo = ov ∧ iv = .int .i64 i ∧ i ≤ n ∧ Hid (gg = n - i) ∧ Hid (out.length ≤ i) ∧ Hid (∀ b ∈ out, Q b) ∧ Hid (chgAll φs out (bs.drop i) = chgAll φs [] bs) ∧ Hid (OwnS w wr rBar 94 vo out))
  case atStart => exact ⟨0, [], _, rfl, rfl, Nat.zero_le _, rfl, Nat.le_refl _, (by intro b hb; cases hb), rfl, OwnS.nil (Past.refl _) _ _⟩
  case round =>
    obtain ⟨wo, hwo⟩ : ∃ x, x = wr := ⟨_, rfl⟩
    subst hwo
    obtain ⟨i, out, vo, hvo, rfl, hi, HG, HOL, HOF, HR, HO⟩ := hrel
    subst hvo
    by_cases hin : i < n
    · have hil : i < bs.length := by have := HL.out; omega
      obtain ⟨b1, o1, rfl, hc1⟩ := HX.out.bar (by omega)
      have hbi := (hc1 i hil).past HO.out.2
      obtain ⟨b, hbe⟩ : ∃ b, bs[i] = b := ⟨_, rfl⟩
      rw [hbe] at hbi
      have HFIT : Hid (G 0 b) := by rw [← hbe]; exact HF.out _ (List.getElem_mem hil)
      have HDR : Hid (bs.drop i = b :: bs.drop (i + 1)) := by rw [← hbe]; exact List.drop_eq_getElem_cons hil
      clear hc1 hbe
      have HBK : Hid (∃ b0, b0 = b) := ⟨b, rfl⟩
      obtain ⟨x0, x1, x2⟩ := b
      have e0 : wo.cell? ⟨b1, o1 + i * 3, none⟩ = some (.int .i64 x0) := hbi.1
      have e1 : wo.cell? ⟨b1, o1 + i * 3 + 1, none⟩ = some (.string x1) := hbi.2.1
      have e2 : wo.cell? ⟨b1, o1 + i * 3 + 2, none⟩ = some (.string x2) := hbi.2.2
      clear hbi
      have HBA : Hid (BarAt (wo.alloc (.cells #[.int .i64 x0, .string x1, .string x2] 94)) wo.heap.size 0 ⟨x0, x1, x2⟩ ∧ (∀ j, (wo.alloc (.cells #[.int .i64 x0, .string x1, .string x2] 94)).frozen? ⟨wo.heap.size, j, none⟩ = false) ∧ G 0 ⟨x0, x1, x2⟩) :=
        ⟨⟨by simp [go_sem], by simp [go_sem], by simp [go_sem]⟩, fun j => by simp [go_sem], HFIT.out⟩
      have HSZ : Hid (w.heap.size ≤ wo.heap.size) := HO.out.2.size
      have HNB : Hid (vo.ownBlock ≠ some wo.heap.size) := by
        intro h
        have := (HO.out.1.lt _ h).2
        omega
      have HOA : Hid (OwnS w (wo.alloc (.cells #[.int .i64 x0, .string x1, .string x2] 94)) rBar 94 vo out) := HO.out.alloc _
      go_wp2_with fail
      go_loopg [21] m (fun gg kv wx => ∃ (k : Nat) (b : Bar), kv = .int .i64 k ∧ k ≤ m ∧ Hid (gg = m - k) ∧ Hid (runChg (φs.drop k) b = runChg φs ⟨x0, x1, x2⟩) ∧ Hid (BarAt wx wo.heap.size 0 b ∧ (∀ j, wx.frozen? ⟨wo.heap.size, j, none⟩ = false) ∧ G k b) ∧ Hid (OwnS w wx rBar 94 vo out))
      case atStart => exact ⟨0, ⟨x0, x1, x2⟩, rfl, Nat.zero_le _, rfl, rfl, HBA, HOA⟩
      case round =>
        clear HBA HOA e0 e1 e2
        obtain ⟨k, b, rfl, hk, HG2, HRC, HBA, HOA⟩ := hrel
        by_cases hkm : k < m
        · have hkf : k < fs.length := by have := HM.out; omega
          have hkp : k < φs.length := by have := HPHI.out; omega
          obtain ⟨bb, ob, rfl, hcb⟩ := HB.out (by omega)
          have ef := HOA.out.2.cell (hcb k hkf)
          obtain ⟨φ, hφe⟩ : ∃ φ, φs[k] = φ := ⟨_, rfl⟩
          have hok := HOK.out k hkf hkp
          rw [hφe] at hok
          obtain ⟨kf, caps, hfe, hent, hcall⟩ := hok
          rw [hfe] at ef
          have HRD : Hid (runChg φs ⟨x0, x1, x2⟩ = if (φ b).2.2 ≠ 0 then ((φ b).1, false, (φ b).2.2) else if (φ b).2.1 = false then ((φ b).1, false, 0) else runChg (φs.drop (k + 1)) (φ b).1) := by
            show _ = _
            rw [← HRC.out, runChg_drop hkp hφe]
          have HCALL := Lib.hid hcall
          clear hcb hfe hcall hφe
          obtain ⟨b', hb'⟩ : ∃ x, (φ b).1 = x := ⟨_, rfl⟩
          obtain ⟨kp, hkp'⟩ : ∃ x, (φ b).2.1 = x := ⟨_, rfl⟩
          obtain ⟨er, her⟩ : ∃ x, (φ b).2.2 = x := ⟨_, rfl⟩
          have HRD2 : Hid (runChg φs ⟨x0, x1, x2⟩ = if er ≠ 0 then (b', false, er) else if kp = false then (b', false, 0) else runChg (φs.drop (k + 1)) b') := by
            show _ = _
            rw [HRD.out, hb', hkp', her]
          have HEQ := Lib.hid (And.intro hb' (And.intro hkp' her))
          clear hb' hkp' her
          go_wp2_with fail
          refine (HCALL.out _ wo.heap.size b HOA.out.2 HSZ.out HBA.out.1 HBA.out.2.1 HBA.out.2.2).mono ?_
          rintro e w2 ⟨hg2, hb2, hfz2, hfit2, rfl⟩
          rw [HEQ.out.1] at hb2 hfit2
          rw [HEQ.out.2.1] at hfit2
          rw [HEQ.out.2.1, HEQ.out.2.2]
          have HO2 : Hid (OwnS w w2 rBar 94 vo out) := HOA.out.grown hg2 HSZ.out HNB.out
          have HBA2 : Hid (BarAt w2 wo.heap.size 0 b' ∧ (∀ j, w2.frozen? ⟨wo.heap.size, j, none⟩ = false) ∧ (kp = true → G (k + 1) b')) := ⟨hb2, hfz2, hfit2⟩
          clear hg2 hb2 hfz2 hfit2 ef
          by_cases her : er = 0
          · subst her
            cases kp with
            | true =>
              have HRE : Hid (runChg (φs.drop (k + 1)) b' = runChg φs ⟨x0, x1, x2⟩) := by
                show _ = _
                rw [HRD2.out]; rfl
              go_wp2_with fail
              go_roundg (m - (k + 1))
              case measure => have := HG2.out; omega
              case rel => exact ⟨k + 1, b', by go_num, by omega, rfl, HRE.out, ⟨HBA2.out.1, HBA2.out.2.1, HBA2.out.2.2 (by first | rfl | trivial)⟩, HO2.out⟩
            | false =>
              have HRE : Hid (chgAll φs out (bs.drop (i + 1)) = chgAll φs [] bs) := by
                have h1 : runChg φs ⟨x0, x1, x2⟩ = (b', false, 0) := by rw [HRD2.out]; rfl
                show _ = _
                rw [← HR.out, HDR.out, chgAll, h1]; rfl
              go_wp2_with fail
              go_roundg (n - (i + 1))
              case measure => have := HG.out; omega
              case rel => exact ⟨i + 1, out, _, rfl, by go_num, by omega, rfl, by have := HOL.out; show _ ≤ _; omega, HOF.out, HRE.out, HO2.out⟩
          · have HRE : Hid (chgAll φs [] bs = ([], er)) := by
              have h1 : runChg φs ⟨x0, x1, x2⟩ = (b', false, er) := by rw [HRD2.out, if_pos her]
              show _ = _
              rw [← HR.out, HDR.out, chgAll, h1]
              simp [her]
            have hb : (er != 0) = true := by simp [her]
            go_wp2_with fail
            try rw [Exit.noGoto_ret]
            go_ret2
            exact ⟨HO2.out.2, _, by rw [HRE.out]; rfl, by rw [HRE.out]; exact OwnS.nil HO2.out.2 _ _, by rw [HRE.out]; intro b hb; cases hb⟩
        · have hkm' : k = m := by omega
          have HRE : Hid (runChg φs ⟨x0, x1, x2⟩ = (b, true, 0)) := by
            show _ = _
            rw [← HRC.out, List.drop_of_length_le (by have := HPHI.out; omega)]; rfl
          have HBQ : Hid (Q b) := HGF.out _ (by rw [← hkm']; exact HBA.out.2.2)
          have HBF : Hid b.fit := HQ.out _ HBQ.out
          clear hkm'
          obtain ⟨y0, y1, y2⟩ := b
          have f1 : wr.cell? ⟨wo.heap.size, 0, none⟩ = some (.int .i64 y0) := HBA.out.1.1
          have f2 : wr.cell? ⟨wo.heap.size, 1, none⟩ = some (.string y1) := HBA.out.1.2.1
          have f3 : wr.cell? ⟨wo.heap.size, 2, none⟩ = some (.string y2) := HBA.out.1.2.2
          obtain ⟨cv, hcv⟩ : ∃ c, cmpT (byt y1) (byt y2) = c := ⟨_, rfl⟩
          have HCV := Lib.hid hcv
          clear hcv
          go_wp2_with fail
          refine (ratio_Cmp y1 y2 _ HBF.out.1 HBF.out.2).mono ?_
          rintro e w2 ⟨hp2, rfl⟩
          rw [HCV.out]
          have k1 := hp2.cell f1
          have k2 := hp2.cell f2
          have k3 := hp2.cell f3
          have HO2 : Hid (OwnS w w2 rBar 94 vo out) := HOA.out.past hp2
          clear f1 f2 f3
          by_cases hlt : cv < 0
          · have HRR : Hid (chgAll φs (out ++ [⟨y0, y1, y2⟩]) (bs.drop (i + 1)) = chgAll φs [] bs) := by
              show _ = _
              rw [← HR.out, HDR.out]
              conv => rhs; rw [chgAll, HRE.out]
              simp [HCV.out, hlt]
            go_wp2_with (first | (at_builtin; refine wpList_appS HEL.out (HO2.out.alloc _) rfl rfl rfl ⟨_, 0, none⟩ _ ⟨y0, y1, y2⟩ rfl (cell_newS rBar _ _ _ _ _ (by simp [go_sem]) rfl) ?_ ?_; (have := HOL.out; omega); intro v3 w3 hown3 hp3))
            go_roundg (n - (i + 1))
            case measure => have := HG.out; omega
            case rel => exact ⟨i + 1, _, _, rfl, by go_num, by omega, rfl, by have := HOL.out; show _ ≤ _; simp; omega, fun b hb => by rcases List.mem_append.1 hb with h | h; exact HOF.out b h; rw [List.mem_singleton] at h; rw [h]; exact HBQ.out, HRR.out, hown3⟩
          · have HRR : Hid (chgAll φs out (bs.drop (i + 1)) = chgAll φs [] bs) := by
              show _ = _
              rw [← HR.out, HDR.out]
              conv => rhs; rw [chgAll, HRE.out]
              simp [HCV.out, hlt]
            go_wp2_with fail
            go_roundg (n - (i + 1))
            case measure => have := HG.out; omega
            case rel => exact ⟨i + 1, out, _, rfl, by go_num, by omega, rfl, by have := HOL.out; show _ ≤ _; omega, HOF.out, HRR.out, HO2.out⟩
    · have HN : Hid (chgAll φs [] bs = (isort ltB out, 0)) := by
        show _ = _
        rw [← HR.out, List.drop_of_length_le (by have := HL.out; omega)]; rfl
      go_wp2_with fail
      refine (HSORT.out _ out _ HO.out HOF.out (by have := HOL.out; omega)).mono ?_
      rintro e w1 ⟨rfl, hown1⟩
      have HO1 := Lib.hid hown1
      clear hown1
      go_wp2
      try rw [Exit.noGoto_ret]
      go_ret2
      exact ⟨HO1.out.2, _, by rw [HN.out]; rfl, by rw [HN.out]; exact HO1.out, by rw [HN.out]; exact fun b hb => HOF.out b ((isort_perm _ _).mem_iff.1 hb)⟩

end Go.Proofs.YtdcjibjldfjllaaGreat

/- slices.SortStableFunc on bars: the insertion sort of a part; the stable sort. -/
namespace Go.Proofs.YtdcjibjldfjllaaGreat
open Go.RowKit Go.Sort

section
variable {α : Type} [Inhabited α] (lt : α → α → Bool)
theorem ins_go (a j : Nat) (d : Array α) (hj : a < j + 1) (hl : lt d[j + 1]! d[j]! = true) : insInner lt a (j + 1) d = insInner lt a j (swp d (j + 1) j) := by
  conv => lhs; unfold insInner
  rw [if_pos (by simp [hl]; omega)]
theorem ins_stop (a j : Nat) (d : Array α) (h : j ≤ a ∨ lt d[j]! d[j - 1]! = false) : insInner lt a j d = d := by
  cases j with
  | zero => unfold insInner; rfl
  | succ j =>
    unfold insInner
    rw [if_neg]
    rcases h with h | h
    · simp; omega
    · simp only [Nat.add_sub_cancel] at h; simp [h]
end

set_option maxRecDepth 100000 in
set_option maxHeartbeats 8000000 in
theorem srt_ins (g c N a b : Nat) (d : Array TB) (w0 w : World) (hA : Arr w0 w g c d) (hN : d.size = N) (hab : a ≤ b) (hb : b ≤ N) (hsz : N ≤ 1000000000) :
    Calls Tryz.prog 240 #[.slice (some ⟨g, 0, none⟩) N c, .int .i64 a, .int .i64 b, .func (.func 86) #[] #[]] w fun e w' =>
      e = .returned (.tuple #[]) ∧ Arr w0 w' g c (insertionSort ltT d a b) := by
  have HN := Lib.hid hN
  have HA := Lib.hid hA
  clear hA hN
  go_enter Tryz.func240, Tryz.ntmps240
  go_wp2_with fail
  go_loopg [8] (b - a) (fun gg iv wr => ∃ (i : Nat) (d1 : Array TB), iv = .int .i64 i ∧ a + 1 ≤ i ∧ i ≤ b + 1 ∧ Hid (gg = b + 1 - i) ∧ Hid (d1.size = N) ∧ Hid (insOuter ltT a b i d1 = insertionSort ltT d a b) ∧ Hid (Arr w0 wr g c d1))
  case atStart => exact ⟨a + 1, d, by go_num, Nat.le_refl _, by omega, by unfold Hid; omega, HN.out, rfl, HA.out⟩
  case round =>
    clear HA
    obtain ⟨i, d1, rfl, hai, hib, HG, HS1, HI, HA⟩ := hrel
    by_cases hlt : i < b
    · have hlt' : (i : Int) < (b : Int) := by omega
      go_wp2_with fail
      go_loopg [9] i (fun gj jv wx => ∃ (j : Nat) (dj : Array TB), jv = .int .i64 j ∧ a ≤ j ∧ j ≤ i ∧ Hid (gj = j) ∧ Hid (dj.size = N) ∧ Hid (insInner ltT a j dj = insInner ltT a i d1) ∧ Hid (Arr w0 wx g c dj))
      case atStart => exact ⟨i, d1, rfl, by omega, Nat.le_refl _, rfl, HS1.out, rfl, HA.out⟩
      case round =>
        clear HA
        obtain ⟨j, dj, rfl, haj, hji, HGJ, HSJ, HJ, HA⟩ := hrel
        have OUT : Hid ((j ≤ a ∨ ltT dj[j]! dj[j - 1]! = false) → insOuter ltT a b (i + 1) dj = insertionSort ltT d a b) := fun hs => by
          rw [← HI.out]
          conv => rhs; rw [insOuter, if_pos hlt]
          rw [← HJ.out, ins_stop _ _ _ _ hs]
        by_cases hja : a < j
        · obtain ⟨k, rfl⟩ : ∃ k, j = k + 1 := ⟨j - 1, by omega⟩
          have hja' : (a : Int) < (k : Int) + 1 := by omega
          have hq1 := HA.out.bar (i := k + 1) (by rw [HSJ.out]; omega)
          have hq2 := HA.out.bar (i := k) (by rw [HSJ.out]; omega)
          have HAS := Lib.hid (HA.out.swap (i := k + 1) (j := k) (by rw [HSJ.out]; omega) (by rw [HSJ.out]; omega))
          have fx := ob_fit dj[k + 1]!
          have fy := ob_fit dj[k]!
          have hlt0 : ltT dj[k + 1]! dj[k]! = decide (cmpB (TB.bar dj[k + 1]!) (TB.bar dj[k]!) < 0) := rfl
          obtain ⟨bx, hbx⟩ : ∃ x, TB.bar dj[k + 1]! = x := ⟨_, rfl⟩
          obtain ⟨by_, hby⟩ : ∃ x, TB.bar dj[k]! = x := ⟨_, rfl⟩
          rw [hbx] at hq1 fx hlt0 HAS
          rw [hby] at hq2 fy hlt0 HAS
          obtain ⟨x0, x1, x2⟩ := bx
          obtain ⟨y0, y1, y2⟩ := by_
          have H6 : Hid (wr.cell? ⟨g, (k + 1) * 3, none⟩ = some (.int .i64 x0) ∧ wr.cell? ⟨g, (k + 1) * 3 + 1, none⟩ = some (.string x1) ∧ wr.cell? ⟨g, (k + 1) * 3 + 2, none⟩ = some (.string x2) ∧ wr.cell? ⟨g, k * 3, none⟩ = some (.int .i64 y0) ∧ wr.cell? ⟨g, k * 3 + 1, none⟩ = some (.string y1) ∧ wr.cell? ⟨g, k * 3 + 2, none⟩ = some (.string y2)) := ⟨hq1.1.1, hq1.1.2.1, hq1.1.2.2, hq2.1.1, hq2.1.2.1, hq2.1.2.2⟩
          obtain ⟨cv, hcv⟩ : ∃ v, cmpB ⟨x0, x1, x2⟩ ⟨y0, y1, y2⟩ = v := ⟨_, rfl⟩
          rw [hcv] at hlt0
          have HLT := Lib.hid hlt0
          have HBX := Lib.hid hbx
          have HBY := Lib.hid hby
          have HCV := Lib.hid hcv
          have HFX := Lib.hid fx
          have HFY := Lib.hid fy
          have PD : Hid (Past wr wr.drew) := (Past.refl wr).drew
          have z1 : (k : Int) < (N : Int) := by omega
          have z2 : IntKind.i64.wrap (k : Int) = (k : Int) := by rw [IntKind.wrap_i64]; omega
          have z3 : (k : Int) + 1 < (N : Int) := by omega
          have z4 : (0 : Int) ≤ (k : Int) + 1 := by omega
          have z5 : ((k : Int) + 1).toNat = k + 1 := by omega
          clear hq1 hq2 fx fy hbx hby hcv hlt0
          go_wp2_with fail
          go_region_held3 (fun w' => w'.cell? ⟨g, (k + 1) * 3, none⟩ = some (.int .i64 x0) ∧ w'.cell? ⟨g, (k + 1) * 3 + 1, none⟩ = some (.string x1) ∧ w'.cell? ⟨g, (k + 1) * 3 + 2, none⟩ = some (.string x2) ∧ w'.cell? ⟨g, k * 3, none⟩ = some (.int .i64 y0) ∧ w'.cell? ⟨g, k * 3 + 1, none⟩ = some (.string y1) ∧ w'.cell? ⟨g, k * 3 + 2, none⟩ = some (.string y2)) (first | (refine keep6 hp2 ?_; assumption) | (refine keep6 PD ?_; exact H6.out))
            (first
              | (go_at_call 86; ((with_reducible refine (bar_compare' x0 y0 x1 x2 y1 y2 _ HFX.out HFY.out).mono ?_)); rintro e w2 ⟨hp2, rfl⟩))
          have HPP := Lib.hid (PD.out.trans hp2)
          have h6 := keep6 HPP.out H6.out
          have q0 := h6.1
          have q1 := h6.2.1
          have q2 := h6.2.2.1
          have q3 := h6.2.2.2.1
          have q4 := h6.2.2.2.2.1
          have q5 := h6.2.2.2.2.2
          clear h6
          rw [HCV.out]
          have HA2 := Lib.hid (HA.out.past HPP.out)
          clear H6 HAS
          by_cases hlv : cv < 0
          · have HLV : Hid (ltT dj[k + 1]! dj[k]! = true) := by show _ = _; rw [HLT.out]; exact decide_eq_true hlv
            have hb1 := HA2.out.bar (i := k + 1) (by rw [HSJ.out]; omega)
            have HAS := Lib.hid (HA2.out.swap (i := k + 1) (j := k) (by rw [HSJ.out]; omega) (by rw [HSJ.out]; omega))
            rw [HBX.out, HBY.out] at HAS
            have f0 := hb1.2 ((k + 1) * 3)
            have f1 := hb1.2 ((k + 1) * 3 + 1)
            have f2 := hb1.2 ((k + 1) * 3 + 2)
            have f3 := hb1.2 (k * 3)
            have f4 := hb1.2 (k * 3 + 1)
            have f5 := hb1.2 (k * 3 + 2)
            have HS2 : Hid ((swp dj (k + 1) k).size = N) := by show _ = _; rw [swp_size]; exact HSJ.out
            clear hb1
            go_wp2_with fail
            go_region
            all_goals go_wp2_with fail
            go_roundg k
            case measure => have := HGJ.out; omega
            case rel =>
              refine ⟨k, _, rfl, by omega, by omega, rfl, HS2.out, ?_, HAS.out.past (Past.refl _).drew⟩
              show _ = _
              rw [← HJ.out, ins_go ltT a k dj hja HLV.out]
          · have HLV : Hid (ltT dj[k + 1]! dj[k + 1 - 1]! = false) := by show _ = _; rw [Nat.add_sub_cancel, HLT.out]; exact decide_eq_false hlv
            have HN2 := Lib.hid (OUT.out (Or.inr HLV.out))
            go_wp2
            go_roundg (b + 1 - (i + 1))
            case measure => have := HG.out; omega
            case rel => exact ⟨i + 1, dj, by go_num, by omega, by omega, rfl, HSJ.out, HN2.out, HA2.out⟩
        · have HN2 := Lib.hid (OUT.out (Or.inl (by omega)))
          have hja' : ¬ (a : Int) < (j : Int) := by omega
          have hjb : decide ((a : Int) < (j : Int)) = false := decide_eq_false hja'
          go_wp2
          go_quiet (fail)
          go_wp2
          go_roundg (b + 1 - (i + 1))
          case measure => have := HG.out; omega
          case rel => exact ⟨i + 1, dj, by go_num, by omega, by omega, rfl, HSJ.out, HN2.out, HA.out.past ((Past.refl _).drewN _)⟩
    · have hlt' : ¬ (i : Int) < (b : Int) := by omega
      have HE : Hid (d1 = insertionSort ltT d a b) := by
        show _ = _
        rw [← HI.out, insOuter, if_neg hlt]
      go_wp2
      go_end0
      exact ⟨rfl, by rw [← HE.out]; exact HA.out⟩

end Go.Proofs.YtdcjibjldfjllaaGreat

/- slices.SortStableFunc on bars, at any length. -/
namespace Go.Proofs.YtdcjibjldfjllaaGreat
open Go.RowKit Go.Sort

/-- What the stable sort leaves in the row. -/
def StabP (N : Nat) (d : Array TB) (w0 w' : World) (g c : Nat) : Prop := ∃ bs e', N ≤ bs ∧ Ot N bs d e' ∧ Arr w0 w' g c e'

set_option maxRecDepth 100000 in
set_option maxHeartbeats 8000000 in
theorem srt_stable (g c N : Nat) (d : Array TB) (w0 w : World) (hA : Arr w0 w g c d) (hN : d.size = N) (hasc : ∀ p q, p < q → q < N → tagPre d[p]! d[q]!) (hsz : N ≤ 100000000) :
    Calls Tryz.prog 197 #[.slice (some ⟨g, 0, none⟩) N c, .int .i64 N, .func (.func 86) #[] #[]] w fun e w' =>
      e = .returned (.tuple #[]) ∧ StabP N d w0 w' g c := by
  have HF : Hid (Ft N 0 d d) := Ft.start hN hasc
  have HA := Lib.hid hA
  have hsz' : N ≤ 1000000000 := by omega
  clear hA hN hasc
  go_enter Tryz.func197, Tryz.ntmps197
  go_wp2_with fail
  go_loopg [7, 8] N (fun gg av bv wr => ∃ (A B k : Nat) (d1 : Array TB), av = .int .i64 A ∧ bv = .int .i64 B ∧ Hid (B = A + 20) ∧ Hid (A = k * 20) ∧ A ≤ N ∧ B ≤ N + 20 ∧ Hid (gg = N - A) ∧ Hid (Ft N A d d1) ∧ Hid (Arr w0 wr g c d1))
  case atStart => exact ⟨0, 20, 0, d, rfl, rfl, rfl, rfl, Nat.zero_le _, by omega, rfl, HF.out, HA.out⟩
  case round =>
    clear HF HA
    obtain ⟨A, B, k, d1, rfl, rfl, HB, HK, hAN, hBN, HG, HF, HA⟩ := hrel
    by_cases hlt : B ≤ N
    · have hlt' : (B : Int) ≤ (N : Int) := by omega
      have hAB : A ≤ B := by have := HB.out; omega
      go_wp2_with fail
      refine (srt_ins g c N A B d1 w0 _ HA.out HF.out.size hAB hlt hsz').mono ?_
      rintro e w2 ⟨rfl, ha2⟩
      have HA2 := Lib.hid ha2
      have HT := Lib.hid (insertionSort_tags leT_swo ltT_pre d1 A B hAB (by rw [HF.out.size]; exact hlt) (fun p q h1 h2 h3 => HF.out.asc p q h1 h2 (by omega)))
      have HST : Hid (Ft N B d (insertionSort ltT d1 A B)) := by
        have h := HF.out.step HK.out (by have := HB.out; omega) (by rw [← HB.out]; exact HT.out.1) (by rw [← HB.out]; exact HT.out.2)
        rw [← HB.out] at h
        exact h
      clear ha2
      go_wp2_with fail
      go_roundg (N - B)
      case measure => have := HG.out; have := HB.out; omega
      case rel => exact ⟨B, B + 20, k + 1, _, rfl, by go_num, rfl, by have := HB.out; have := HK.out; unfold Hid; omega, hlt, by omega, rfl, HST.out, HA2.out⟩
    · have hlt' : ¬ (B : Int) ≤ (N : Int) := by omega
      go_wp2_with fail
      refine (srt_ins g c N A N d1 w0 _ HA.out HF.out.size hAN (Nat.le_refl _) hsz').mono ?_
      rintro e w2 ⟨rfl, ha2⟩
      have HA2 := Lib.hid ha2
      have HT := Lib.hid (insertionSort_tags leT_swo ltT_pre d1 A N hAN (by rw [HF.out.size]; exact Nat.le_refl _) (fun p q h1 h2 h3 => HF.out.asc p q h1 h2 h3))
      have HO : Hid (Ot N 20 d (insertionSort ltT d1 A N)) := HF.out.last HK.out hAN (by have := HB.out; omega) HT.out.1 HT.out.2
      clear ha2 HT
      go_wp2_with fail
      go_loopg [6, 7, 8, 9] (2 * N + 40) (fun gg sv av bv mv wr => ∃ (bs : Nat) (d2 : Array TB), sv = .int .i64 bs ∧ 20 ≤ bs ∧ bs ≤ 2 * N + 40 ∧ Hid (gg = 2 * N + 60 - bs) ∧ Hid (Ot N bs d d2) ∧ Hid (Arr w0 wr g c d2))
      case atStart => exact ⟨20, _, rfl, Nat.le_refl _, by omega, by unfold Hid; omega, HO.out, HA2.out⟩
      case round =>
        clear HO HA2
        obtain ⟨bs, d2, rfl, hbs, hbN, HG2, HO, HA2⟩ := hrel
        by_cases hlt2 : bs < N
        · have hlt2' : (bs : Int) < (N : Int) := by omega
          have HS0 : Hid (St N bs 0 d d2) := St.start HO.out
          go_wp2_with fail
          go_loopg [7, 8] N (fun gg av bv wr => ∃ (A B k : Nat) (d3 : Array TB), av = .int .i64 A ∧ bv = .int .i64 B ∧ Hid (B = A + 2 * bs) ∧ Hid (A = k * (2 * bs)) ∧ A ≤ N ∧ B ≤ 4 * N ∧ Hid (gg = N - A) ∧ Hid (St N bs A d d3) ∧ Hid (Arr w0 wr g c d3))
          case atStart => exact ⟨0, 2 * bs, 0, d2, rfl, by go_num, by unfold Hid; omega, by unfold Hid; omega, Nat.zero_le _, by omega, rfl, HS0.out, HA2.out⟩
          case round =>
            clear HS0 HA2 HA
            obtain ⟨A, B, k, d3, rfl, rfl, HB, HK, hAN, hBN, HG3, HS, HA⟩ := hrel
            obtain ⟨M, hM⟩ : ∃ M, A + bs = M := ⟨_, rfl⟩
            have HM : Hid ((A : Int) + (bs : Int) = (M : Int)) := by unfold Hid; omega
            by_cases hlt3 : B ≤ N
            · have hlt3' : (B : Int) ≤ (N : Int) := by omega
              have HB2 : Hid (min (A + 2 * bs) N = B) := by have := HB.out; unfold Hid; omega
              have HH : Hid (Halv leT tagPre d3 A M B) := by
                have h := HS.out.halv HK.out (by have := HB.out; omega)
                rw [HB2.out, hM] at h
                exact h
              have HMM : Hid (A < M ∧ M < B) := by have := HB.out; unfold Hid; omega
              clear hM
              go_wp2_with fail
              rw [HM.out]
              refine (mrg_all w0 g c N hsz' (B - A) A M B d3 (Nat.le_refl _) HMM.out.1 HMM.out.2 hlt3 HS.out.size HH.out _ HA.out).mono ?_
              rintro e w3 ⟨rfl, f, hp, hs, ha⟩
              have HA3 := Lib.hid ha
              have HST : Hid (St N bs B d f) := by
                have h := HS.out.step HK.out (by have := HB.out; omega) (by rw [← HB.out]; exact hp) (by rw [← HB.out]; exact hs)
                rw [← HB.out] at h
                exact h
              clear hp hs ha
              go_wp2_with fail
              go_roundg (N - B)
              case measure => have := HG3.out; have := HB.out; omega
              case rel => exact ⟨B, B + 2 * bs, k + 1, f, rfl, by go_num, rfl, by have := HB.out; have := HK.out; show _ = _; rw [Nat.succ_mul]; omega, hlt3, by omega, rfl, HST.out, HA3.out⟩
            · have hlt3' : ¬ (B : Int) ≤ (N : Int) := by omega
              by_cases hmn : M < N
              · have hmn' : (A : Int) + (bs : Int) < (N : Int) := by omega
                have hmn2 : (M : Int) < (N : Int) := by omega
                have HH : Hid (Halv leT tagPre d3 A M N) := by
                  have h := HS.out.halv HK.out (by omega)
                  rw [show min (A + 2 * bs) N = N by have := HB.out; omega, hM] at h
                  exact h
                have HMM : Hid (A < M) := by unfold Hid; omega
                clear hM
                go_wp2_with fail
                rw [HM.out]
                refine (mrg_all w0 g c N hsz' (N - A) A M N d3 (Nat.le_refl _) HMM.out hmn (Nat.le_refl _) HS.out.size HH.out _ HA.out).mono ?_
                rintro e w3 ⟨rfl, f, hp, hs, ha⟩
                have HA3 := Lib.hid ha
                have HO3 : Hid (Ot N (2 * bs) d f) := HS.out.last HK.out (by have := HB.out; omega) hAN hp hs
                clear hp hs ha
                go_wp2_with fail
                go_roundg (2 * N + 60 - 2 * bs)
                case measure => have := HG2.out; omega
                case rel => exact ⟨2 * bs, f, by go_num, by omega, by omega, rfl, HO3.out, HA3.out⟩
              · have hmn' : ¬ (A : Int) + (bs : Int) < (N : Int) := by omega
                have HO3 : Hid (Ot N (2 * bs) d d3) := HS.out.last HK.out (by have := HB.out; omega) hAN (permIn_refl _ _ _) (HS.out.short HK.out (by omega) hAN)
                clear hM
                go_wp2_with fail
                go_roundg (2 * N + 60 - 2 * bs)
                case measure => have := HG2.out; omega
                case rel => exact ⟨2 * bs, d3, by go_num, by omega, by omega, rfl, HO3.out, HA.out⟩
        · have hlt2' : ¬ (bs : Int) < (N : Int) := by omega
          go_wp2
          go_end0
          exact ⟨rfl, bs, d2, by omega, HO.out, HA2.out⟩

set_option maxRecDepth 100000 in
set_option maxHeartbeats 4000000 in
theorem sort_stable2 (v : Value) (bs : List Bar) (w0 w : World) (hown : OwnS w0 w rBar 94 v bs) (hf : ∀ b ∈ bs, okBar b) (hn : bs.length ≤ 100000000) :
    Calls Tryz.prog 136 #[v, .func (.func 86) #[] #[]] w fun e w' => e = .returned (.tuple #[]) ∧ OwnS w0 w' rBar 94 v (isort ltB bs) := by
  by_cases h0 : bs.length = 0
  · exact sort_stable v bs w0 w hown (fun b hb => (hf b hb).1) (by omega)
  · obtain ⟨g, c, rfl, hc1, hc2, hg1, hg2, _, _⟩ := hown.form (by omega)
    have hA : Arr w0 w g c (tagged0 bs hf) := by
      unfold Arr
      rw [tagged0_size, tagged0_bars]
      exact hown
    have hst := srt_stable g c bs.length (tagged0 bs hf) w0 w hA (tagged0_size bs hf) (fun p q h1 h2 => tagged0_asc bs hf p q h1 h2) hn
    have HST : Hid (Calls Tryz.prog 197 #[.slice (some ⟨g, 0, none⟩) bs.length c, .int .i64 bs.length, .func (.func 86) #[] #[]] w fun e w' => e = .returned (.tuple #[]) ∧ OwnS w0 w' rBar 94 (.slice (some ⟨g, 0, none⟩) bs.length c) (isort ltB bs)) := by
      refine hst.mono ?_
      rintro e w' ⟨rfl, bz, e', h1, h2, h3⟩
      refine ⟨rfl, ?_⟩
      have h4 := ot_isort bs hf h2 h1
      have h5 : OwnS w0 w' rBar 94 (.slice (some ⟨g, 0, none⟩) e'.size c) (e'.toList.map TB.bar) := h3
      rw [h4, h2.size] at h5
      exact h5
    obtain ⟨n, hn'⟩ : ∃ n, bs.length = n := ⟨_, rfl⟩
    rw [hn'] at HST ⊢
    have hn2 : n ≤ 100000000 := by omega
    clear hst hA hown hn' h0 hn hc1
    go_enter Tryz.func136, Tryz.ntmps136
    go_wp2_with fail
    refine HST.out.mono ?_
    rintro e w1 ⟨rfl, hown1⟩
    have HO1 := Lib.hid hown1
    clear hown1
    go_wp2
    go_end0
    exact ⟨rfl, HO1.out⟩

theorem sortOk_any {w0 : World} {N : Nat} {Q : Bar → Prop} (hQ : ∀ b, Q b → okBar b) (h : N ≤ 100000000) : SortOk w0 N Q := fun v l w ho hf hl => sort_stable2 v l w0 w ho (fun b hb => hQ b (hf b hb)) (by omega)

end Go.Proofs.YtdcjibjldfjllaaGreat
