/- Helpers of the proof, joined: Sy1 Sy2 Sm1 Sm2 Sm3. -/
import Derived.Sort.LotA
import Derived.Test.YtdcjibjldfjllaaGreatPGa
import Derived.Test.YtdcjibjldfjllaaGreatPGn
import Derived.Test.YtdcjibjldfjllaaGreatPGt
set_option linter.unusedVariables false
set_option linter.unusedSimpArgs false
/- Rotations of a part of a row, and what a stable merge leaves: plain. -/
namespace Go.Proofs.YtdcjibjldfjllaaGreat
open Go.Sort
variable {α : Type} [Inhabited α]

/-- e is d with [a, a+n) and [b, b+n) exchanged. -/
structure SwR (d e : Array α) (a b n : Nat) : Prop where
  size : e.size = d.size
  fst : ∀ j, j < n → e[a + j]! = d[b + j]!
  snd : ∀ j, j < n → e[b + j]! = d[a + j]!
  oth : ∀ k, ¬ (a ≤ k ∧ k < a + n) → ¬ (b ≤ k ∧ k < b + n) → e[k]! = d[k]!
  perm : ∀ lo hi, lo ≤ a → b + n ≤ hi → hi ≤ d.size → PermIn lo hi d e

theorem SwR.zero (d : Array α) (a b : Nat) : SwR d d a b 0 :=
  ⟨rfl, fun j h => absurd h (Nat.not_lt_zero _), fun j h => absurd h (Nat.not_lt_zero _), fun _ _ _ => rfl, fun lo hi _ _ _ => permIn_refl d lo hi⟩

theorem SwR.step {d e : Array α} {a b n : Nat} (h : SwR d e a b n) (hab : a + n + 1 ≤ b) (hb : b + n < d.size) : SwR d (swp e (a + n) (b + n)) a b (n + 1) := by
  have hs := h.size
  have g := swp_get e (i := a + n) (j := b + n) (by omega) (by omega)
  refine ⟨by rw [swp_size, hs], ?_, ?_, ?_, ?_⟩
  · intro j hj
    rw [g]
    by_cases hjn : j = n
    · subst hjn
      rw [if_neg (by omega), if_pos rfl]
      exact h.oth _ (by omega) (by omega)
    · rw [if_neg (by omega), if_neg (by omega)]
      exact h.fst j (by omega)
  · intro j hj
    rw [g]
    by_cases hjn : j = n
    · subst hjn
      rw [if_pos rfl]
      exact h.oth _ (by omega) (by omega)
    · rw [if_neg (by omega), if_neg (by omega)]
      exact h.snd j (by omega)
  · intro k h1 h2
    rw [g, if_neg (by omega), if_neg (by omega)]
    exact h.oth k (by omega) (by omega)
  · intro lo hi hl hh hd
    exact permIn_trans _ _ _ _ _ (h.perm lo hi hl (by omega) hd) (swp_permIn _ _ _ _ _ (by omega) (by omega) (by omega) (by omega) (by omega))

/-- e is d with the parts [a, m) and [m, b) exchanged. -/
structure Rot (d e : Array α) (a m b : Nat) : Prop where
  size : e.size = d.size
  low : ∀ j, j < a → e[j]! = d[j]!
  fst : ∀ j, j < b - m → e[a + j]! = d[m + j]!
  snd : ∀ j, j < m - a → e[a + (b - m) + j]! = d[a + j]!
  high : ∀ j, b ≤ j → e[j]! = d[j]!
  perm : PermIn a b d e

theorem Rot.left (d : Array α) (a b : Nat) : Rot d d a a b :=
  ⟨rfl, fun _ _ => rfl, fun _ _ => rfl, fun j h => by omega, fun _ _ => rfl, permIn_refl _ _ _⟩
theorem Rot.right (d : Array α) (a b : Nat) : Rot d d a b b :=
  ⟨rfl, fun _ _ => rfl, fun j h => by omega, fun j h => by rw [Nat.sub_self, Nat.add_zero], fun _ _ => rfl, permIn_refl _ _ _⟩

/-- The longer left part: its first j places and the right part are exchanged. -/
theorem rot_more {c c' e : Array α} {m i j : Nat} (h : SwR c c' (m - i) m j) (hji : j < i) (him : i ≤ m) (hs : m + j ≤ c.size) (r : Rot c' e (m - (i - j)) m (m + j)) : Rot c e (m - i) m (m + j) := by
  have x1 : m - (i - j) = m - i + j := by omega
  rw [x1] at r
  refine ⟨r.size.trans h.size, ?_, ?_, ?_, ?_, ?_⟩
  · intro k hk
    rw [r.low k (by omega), h.oth k (by omega) (by omega)]
  · intro k hk
    rw [r.low _ (by omega), h.fst k (by omega)]
  · intro k hk
    have e0 : m + j - m = j := by omega
    rw [e0]
    by_cases hkj : k < j
    · have h1 := r.fst k (by omega)
      rw [h1, h.snd k hkj]
    · have h1 := r.snd (k - j) (by omega)
      rw [e0] at h1
      have e1 : m - i + j + j + (k - j) = m - i + j + k := by omega
      have e2 : m - i + j + (k - j) = m - i + k := by omega
      rw [e1, e2] at h1
      rw [h1, h.oth _ (by omega) (by omega)]
  · intro k hk
    rw [r.high k hk, h.oth k (by omega) (by omega)]
  · exact permIn_trans _ _ _ _ _ (h.perm _ _ (Nat.le_refl _) (Nat.le_refl _) hs) (permIn_mono _ _ _ _ _ _ (by omega) (Nat.le_refl _) (by rw [h.size]; exact hs) r.perm)

/-- The longer right part: the left part and its last i places are exchanged. -/
theorem rot_less {c c' e : Array α} {m i j : Nat} (h : SwR c c' (m - i) (m + (j - i)) i) (hji : i < j) (him : i ≤ m) (hs : m + j ≤ c.size) (r : Rot c' e (m - i) m (m + (j - i))) : Rot c e (m - i) m (m + j) := by
  refine ⟨r.size.trans h.size, ?_, ?_, ?_, ?_, ?_⟩
  · intro k hk
    rw [r.low k hk, h.oth k (by omega) (by omega)]
  · intro k hk
    by_cases hkj : k < j - i
    · have h1 := r.fst k (by omega)
      rw [h1, h.oth _ (by omega) (by omega)]
    · have h1 := r.snd (k - (j - i)) (by omega)
      have h2 := h.fst (k - (j - i)) (by omega)
      have e1 : m - i + (m + (j - i) - m) + (k - (j - i)) = m - i + k := by omega
      have e2 : m + (j - i) + (k - (j - i)) = m + k := by omega
      rw [e1] at h1
      rw [e2] at h2
      rw [h1, h2]
  · intro k hk
    have h1 := r.high (m + (j - i) + k) (by omega)
    have h2 := h.snd k (by omega)
    have e1 : m - i + (m + j - m) + k = m + (j - i) + k := by omega
    rw [e1, h1, h2]
  · intro k hk
    rw [r.high k (by omega), h.oth k (by omega) (by omega)]
  · exact permIn_trans _ _ _ _ _ (h.perm _ _ (Nat.le_refl _) (by omega) hs) (permIn_mono _ _ _ _ _ _ (Nat.le_refl _) (by omega) (by rw [h.size]; exact hs) r.perm)

theorem rot_same {c e : Array α} {m i : Nat} (h : SwR c e (m - i) m i) (him : i ≤ m) (hs : m + i ≤ c.size) : Rot c e (m - i) m (m + i) := by
  refine ⟨h.size, ?_, ?_, ?_, ?_, ?_⟩
  · intro k hk
    exact h.oth k (by omega) (by omega)
  · intro k hk
    exact h.fst k (by omega)
  · intro k hk
    have h1 := h.snd k (by omega)
    have e1 : m - i + (m + i - m) + k = m + k := by omega
    rw [e1, h1]
  · intro k hk
    exact h.oth k (by omega) (by omega)
  · exact h.perm _ _ (Nat.le_refl _) (Nat.le_refl _) hs

/-- One place at the left end moves up. -/
theorem rot_up {d c : Array α} {a k : Nat} (h : Rot d c a (a + 1) (k + 1)) (hak : a ≤ k) (hk : k + 1 < d.size) : Rot d (swp c k (k + 1)) a (a + 1) (k + 2) := by
  have hs := h.size
  have g := swp_get c (i := k) (j := k + 1) (by omega) (by omega)
  have x := h.snd 0 (by omega)
  have e0 : a + (k + 1 - (a + 1)) + 0 = k := by omega
  rw [e0, Nat.add_zero] at x
  refine ⟨by rw [swp_size, hs], ?_, ?_, ?_, ?_, ?_⟩
  · intro j hj
    rw [g, if_neg (by omega), if_neg (by omega), h.low j hj]
  · intro j hj
    rw [g, if_neg (by omega)]
    by_cases hjk : a + j = k
    · rw [if_pos hjk, h.high _ (Nat.le_refl _)]
      congr 1
      omega
    · rw [if_neg hjk, h.fst j (by omega)]
  · intro j hj
    have e1 : a + (k + 2 - (a + 1)) + j = k + 1 := by omega
    have e2 : a + j = a := by omega
    rw [g, if_pos e1, x, e2]
  · intro j hj
    rw [g, if_neg (by omega), if_neg (by omega), h.high j (by omega)]
  · exact permIn_trans _ _ _ _ _ (permIn_mono _ _ _ _ _ _ (Nat.le_refl _) (by omega) (by omega) h.perm) (swp_permIn _ _ _ _ _ hak (by omega) (by omega) (by omega) (by omega))

/-- One place at the right end moves down. -/
theorem rot_down {d c : Array α} {k m : Nat} (h : Rot d c (k + 1) m (m + 1)) (hkm : k + 1 ≤ m) (hm : m < d.size) : Rot d (swp c (k + 1) k) k m (m + 1) := by
  have hs := h.size
  have g := swp_get c (i := k + 1) (j := k) (by omega) (by omega)
  have x := h.fst 0 (by omega)
  rw [Nat.add_zero, Nat.add_zero] at x
  refine ⟨by rw [swp_size, hs], ?_, ?_, ?_, ?_, ?_⟩
  · intro j hj
    rw [g, if_neg (by omega), if_neg (by omega), h.low j (by omega)]
  · intro j hj
    obtain rfl : j = 0 := by omega
    rw [g, if_pos (Nat.add_zero k), x, Nat.add_zero]
  · intro j hj
    rw [g, if_neg (by omega)]
    by_cases hj0 : j = 0
    · subst hj0
      rw [if_pos (by omega), h.low k (by omega), Nat.add_zero]
    · rw [if_neg (by omega)]
      have h1 := h.snd (j - 1) (by omega)
      have e1 : k + 1 + (m + 1 - m) + (j - 1) = k + (m + 1 - m) + j := by omega
      have e2 : k + 1 + (j - 1) = k + j := by omega
      rw [e1, e2] at h1
      exact h1
  · intro j hj
    rw [g, if_neg (by omega), if_neg (by omega), h.high j (by omega)]
  · exact permIn_trans _ _ _ _ _ (permIn_mono _ _ _ _ _ _ (by omega) (Nat.le_refl _) (by omega) h.perm) (swp_permIn _ _ _ _ _ (by omega) (by omega) (by omega) (by omega) (by omega))

/-- Two halves in order; each place of the left one stands before each of the right one. -/
structure Halv (lt : α → α → Bool) (pre : α → α → Prop) (d : Array α) (a m b : Nat) : Prop where
  l : SortedIn lt a m d
  r : SortedIn lt m b d
  p : ∀ i j, a ≤ i → i < m → m ≤ j → j < b → pre d[i]! d[j]!

section
variable {lt lt' : α → α → Bool} {pre : α → α → Prop}

omit [Inhabited α] in
theorem le_lt (hS : SWO lt') {x y z : α} (h1 : lt' y x = false) (h2 : lt' y z = true) : lt' x z = true := by
  cases h : lt' x z with
  | true => rfl
  | false => rw [hS.ntrans y x z h1 h] at h2; cases h2
omit [Inhabited α] in
theorem lt_le (hS : SWO lt') {x y z : α} (h1 : lt' x y = true) (h2 : lt' z y = false) : lt' x z = true := by
  cases h : lt' x z with
  | true => rfl
  | false => rw [hS.ntrans x z y h h2] at h1; cases h1

theorem srt_refl (hS : SWO lt') {d : Array α} {a b : Nat} (h : SortedIn lt' a b d) {i j : Nat} (hi : a ≤ i) (hij : i ≤ j) (hj : j < b) : lt' d[j]! d[i]! = false := by
  rcases Nat.lt_or_ge i j with h1 | h1
  · exact h i j hi h1 hj
  · obtain rfl : i = j := by omega
    exact hS.irrefl _

/-- The test of the merge's search is monotone. -/
theorem Halv.mono (hS : SWO lt') (hp : ∀ x y, pre x y → lt y x = lt' y x) {d : Array α} {a m b : Nat} (h : Halv lt' pre d a m b) {i i' j j' : Nat} (hi : a ≤ i) (hii : i ≤ i') (hi' : i' < m) (hj : m ≤ j) (hjj : j ≤ j') (hj' : j' < b) (ht : lt d[j']! d[i]! = true) : lt d[j]! d[i']! = true := by
  rw [hp _ _ (h.p i j' hi (by omega) (by omega) hj')] at ht
  rw [hp _ _ (h.p i' j (by omega) hi' hj (by omega))]
  exact lt_le hS (le_lt hS (srt_refl hS h.r hj hjj hj') ht) (srt_refl hS h.l hi hii hi')

/-- Where the merge parts: what is left and right of the middle behind the rotation. -/
theorem Halv.part (hS : SWO lt') (hp : ∀ x y, pre x y → lt y x = lt' y x) {d e : Array α} {a m b s t mid : Nat} (h : Halv lt' pre d a m b) (ham : a ≤ m) (hmb : m ≤ b) (hs : a ≤ s) (hsm : s ≤ m) (hmt : m ≤ t) (htb : t ≤ b) (hst : s + t = mid + m)
    (h1 : a < s → t < b → lt d[t]! d[s - 1]! = false) (h2 : s < m → m < t → lt d[t - 1]! d[s]! = true) (hr : Rot d e s m t) :
    Halv lt' pre e a s mid ∧ Halv lt' pre e mid t b ∧ ∀ i j, a ≤ i → i < mid → mid ≤ j → j < b → lt' e[j]! e[i]! = false := by
  have hmid : s + (t - m) = mid := by omega
  have A1 : ∀ i, i < s → e[i]! = d[i]! := hr.low
  have B1 : ∀ i, s ≤ i → i < mid → e[i]! = d[i - s + m]! := fun i hi him => by
    have h1 := hr.fst (i - s) (by omega)
    rw [show s + (i - s) = i by omega, show m + (i - s) = i - s + m by omega] at h1
    exact h1
  have A2 : ∀ i, mid ≤ i → i < t → e[i]! = d[i - mid + s]! := fun i hi hit => by
    have h1 := hr.snd (i - mid) (by omega)
    rw [hmid, show mid + (i - mid) = i by omega, show s + (i - mid) = i - mid + s by omega] at h1
    exact h1
  have B2 : ∀ i, t ≤ i → e[i]! = d[i]! := hr.high
  refine ⟨⟨?_, ?_, ?_⟩, ⟨?_, ?_, ?_⟩, ?_⟩
  · intro i j hi hij hj
    rw [A1 i (by omega), A1 j hj]
    exact h.l i j hi hij (by omega)
  · intro i j hi hij hj
    rw [B1 i hi (by omega), B1 j (by omega) hj]
    exact h.r _ _ (by omega) (by omega) (by omega)
  · intro i j hi his hj hjm
    rw [A1 i his, B1 j hj hjm]
    exact h.p _ _ hi (by omega) (by omega) (by omega)
  · intro i j hi hij hj
    rw [A2 i hi (by omega), A2 j (by omega) hj]
    exact h.l _ _ (by omega) (by omega) (by omega)
  · intro i j hi hij hj
    rw [B2 i hi, B2 j (by omega)]
    exact h.r i j (by omega) hij hj
  · intro i j hi hit hj hjb
    rw [A2 i hi hit, B2 j hj]
    exact h.p _ _ (by omega) (by omega) (by omega) hjb
  · intro i j hi him hj hjb
    by_cases hi1 : i < s
    · rw [A1 i hi1]
      by_cases hj1 : j < t
      · rw [A2 j hj hj1]
        exact srt_refl hS h.l hi (by omega) (by omega)
      · rw [B2 j (by omega)]
        have h3 := h1 (by omega) (by omega)
        rw [hp _ _ (h.p _ _ (by omega) (by omega) (by omega) (by omega))] at h3
        exact hS.ntrans _ _ _ (hS.ntrans _ _ _ (srt_refl hS h.r (by omega) (by omega) hjb) h3) (srt_refl hS h.l hi (by omega) (by omega))
    · rw [B1 i (by omega) him]
      by_cases hj1 : j < t
      · rw [A2 j hj hj1]
        have h3 := h2 (by omega) (by omega)
        rw [hp _ _ (h.p _ _ (by omega) (by omega) (by omega) (by omega))] at h3
        have h4 := lt_le hS (le_lt hS (srt_refl hS h.r (i := i - s + m) (j := t - 1) (by omega) (by omega) (by omega)) h3) (srt_refl hS h.l (i := s) (j := j - mid + s) (by omega) (by omega) (by omega))
        exact hS.asymmA h4
      · rw [B2 j (by omega)]
        exact srt_refl hS h.r (by omega) (by omega) hjb

/-- The two halves sorted each by itself: the whole is. -/
theorem glue (hS : SWO lt') {e f g : Array α} {a mid b : Nat} (ham : a ≤ mid) (hmb : mid ≤ b) (hb : b ≤ e.size) (hx : ∀ i j, a ≤ i → i < mid → mid ≤ j → j < b → lt' e[j]! e[i]! = false)
    (p1 : PermIn a mid e f) (s1 : SortedIn lt' a mid f) (p2 : PermIn mid b f g) (s2 : SortedIn lt' mid b g) : PermIn a b e g ∧ SortedIn lt' a b g := by
  have q1 := permIn_mono _ _ _ _ a b (Nat.le_refl _) hmb hb p1
  have q2 := permIn_mono _ _ _ _ a b ham (Nat.le_refl _) (by rw [p1.1]; exact hb) p2
  refine ⟨permIn_trans _ _ _ _ _ q1 q2, ?_⟩
  have x1 : ∀ j, mid ≤ j → j < b → ∀ i, a ≤ i → i < mid → lt' e[j]! f[i]! = false := fun j hj hjb =>
    permIn_all e f a mid (fun v => lt' e[j]! v = false) (by omega) p1 (fun i hi him => hx i j hi him hj hjb)
  have x2 : ∀ i, a ≤ i → i < mid → ∀ j, mid ≤ j → j < b → lt' g[j]! f[i]! = false := fun i hi him =>
    permIn_all f g mid b (fun v => lt' v f[i]! = false) (by rw [p1.1]; exact hb) p2 (fun j hj hjb => by rw [p1.2.1 j (Or.inr hj)]; exact x1 j hj hjb i hi him)
  intro i j hi hij hj
  by_cases hjm : j < mid
  · rw [p2.2.1 i (Or.inl (by omega)), p2.2.1 j (Or.inl hjm)]
    exact s1 i j hi hij hjm
  · by_cases him : i < mid
    · rw [p2.2.1 i (Or.inl him)]
      exact x2 i hi him j (by omega) hj
    · exact s2 i j (by omega) hij hj

/-- One element at the left, moved into the right half. -/
theorem one_left (hS : SWO lt') (hp : ∀ x y, pre x y → lt y x = lt' y x) {d e : Array α} {a b i : Nat} (h : Halv lt' pre d a (a + 1) b) (hi : a + 1 ≤ i) (hib : i ≤ b)
    (h1 : ∀ c, a + 1 ≤ c → c < i → lt d[c]! d[a]! = true) (h2 : ∀ c, i ≤ c → c < b → lt d[c]! d[a]! = false) (hr : Rot d e a (a + 1) i) : SortedIn lt' a b e := by
  have L : ∀ j, a ≤ j → j < i - 1 → e[j]! = d[j + 1]! := fun j hj hji => by
    have h3 := hr.fst (j - a) (by omega)
    rw [show a + (j - a) = j by omega, show a + 1 + (j - a) = j + 1 by omega] at h3
    exact h3
  have M : e[i - 1]! = d[a]! := by
    have h3 := hr.snd 0 (by omega)
    rw [show a + (i - (a + 1)) + 0 = i - 1 by omega, Nat.add_zero] at h3
    exact h3
  have q1 : ∀ c, a + 1 ≤ c → c < i → lt' d[c]! d[a]! = true := fun c hc hci => by rw [← hp _ _ (h.p a c (Nat.le_refl _) (by omega) hc (by omega))]; exact h1 c hc hci
  have q2 : ∀ c, i ≤ c → c < b → lt' d[c]! d[a]! = false := fun c hc hcb => by rw [← hp _ _ (h.p a c (Nat.le_refl _) (by omega) (by omega) hcb)]; exact h2 c hc hcb
  intro x y hx hxy hy
  by_cases hy1 : y < i - 1
  · rw [L x hx (by omega), L y (by omega) hy1]
    exact h.r _ _ (by omega) (by omega) (by omega)
  · by_cases hy2 : y = i - 1
    · rw [hy2, M, L x hx (by omega)]
      exact hS.asymmA (q1 _ (by omega) (by omega))
    · rw [hr.high y (by omega)]
      by_cases hx1 : x < i - 1
      · rw [L x hx hx1]
        exact h.r _ _ (by omega) (by omega) hy
      · by_cases hx2 : x = i - 1
        · rw [hx2, M]
          exact q2 y (by omega) hy
        · rw [hr.high x (by omega)]
          exact h.r _ _ (by omega) hxy hy

/-- One element at the right, moved into the left half. -/
theorem one_right (hS : SWO lt') (hp : ∀ x y, pre x y → lt y x = lt' y x) {d e : Array α} {a m i : Nat} (h : Halv lt' pre d a m (m + 1)) (hi : a ≤ i) (him : i ≤ m)
    (h1 : ∀ c, a ≤ c → c < i → lt d[m]! d[c]! = false) (h2 : ∀ c, i ≤ c → c < m → lt d[m]! d[c]! = true) (hr : Rot d e i m (m + 1)) : SortedIn lt' a (m + 1) e := by
  have M : e[i]! = d[m]! := by
    have h3 := hr.fst 0 (by omega)
    rw [Nat.add_zero, Nat.add_zero] at h3
    exact h3
  have R : ∀ j, i < j → j < m + 1 → e[j]! = d[j - 1]! := fun j hj hjm => by
    have h3 := hr.snd (j - i - 1) (by omega)
    rw [show i + (m + 1 - m) + (j - i - 1) = j by omega, show i + (j - i - 1) = j - 1 by omega] at h3
    exact h3
  have q1 : ∀ c, a ≤ c → c < i → lt' d[m]! d[c]! = false := fun c hc hci => by rw [← hp _ _ (h.p c m hc (by omega) (Nat.le_refl _) (by omega))]; exact h1 c hc hci
  have q2 : ∀ c, i ≤ c → c < m → lt' d[m]! d[c]! = true := fun c hc hcm => by rw [← hp _ _ (h.p c m (by omega) hcm (Nat.le_refl _) (by omega))]; exact h2 c hc hcm
  intro x y hx hxy hy
  by_cases hx1 : x < i
  · rw [hr.low x hx1]
    by_cases hy1 : y < i
    · rw [hr.low y hy1]; exact h.l x y hx hxy (by omega)
    · by_cases hy2 : y = i
      · rw [hy2, M]; exact q1 x hx hx1
      · rw [R y (by omega) hy]
        exact h.l _ _ hx (by omega) (by omega)
  · by_cases hx2 : x = i
    · rw [hx2, M, R y (by omega) hy]
      exact hS.asymmA (q2 _ (by omega) (by omega))
    · rw [R x (by omega) (by omega), R y (by omega) hy]
      exact h.l _ _ (by omega) (by omega) (by omega)

end
end Go.Proofs.YtdcjibjldfjllaaGreat

/- The insertion sort with tags; tags make a stable order strict: plain. -/
namespace Go.Proofs.YtdcjibjldfjllaaGreat
open Go.Sort
section
variable {α : Type} [Inhabited α] {lt lt' : α → α → Bool} {pre : α → α → Prop}

theorem insInner_same (a : Nat) : ∀ (j : Nat) (d : Array α), a ≤ j → j < d.size → (∀ p, a ≤ p → p < j → lt d[j]! d[p]! = lt' d[j]! d[p]!) → insInner lt a j d = insInner lt' a j d
  | 0, _, _, _, _ => by unfold insInner; rfl
  | j + 1, d, haj, hj, h => by
    have g := swp_get d (i := j + 1) (j := j) hj (by omega)
    unfold insInner
    by_cases hg : j + 1 > a
    · rw [h j (by omega) (by omega)]
      have ih := insInner_same a j (swp d (j + 1) j) (by omega) (by rw [swp_size]; omega) (fun p hp hpj => by
        rw [g, g, if_pos rfl, if_neg (by omega), if_neg (by omega)]
        exact h p hp (by omega))
      rw [ih]
    · simp [hg]

theorem insOuter_same (hS : SWO lt') (hp : ∀ x y, pre x y → lt y x = lt' y x) (a b : Nat) : ∀ (n i : Nat) (d d0 : Array α), b - i = n → a < i → i ≤ b → b ≤ d.size → SortedIn lt' a i d → PermIn a i d0 d → (∀ p q, a ≤ p → p < q → q < b → pre d0[p]! d0[q]!) → insOuter lt a b i d = insOuter lt' a b i d
  | 0, i, d, d0, hn, _, hib, _, _, _, _ => by
    rw [insOuter, if_neg (by omega), insOuter, if_neg (by omega)]
  | n + 1, i, d, d0, hn, hai, hib, hb, hs, hP, hd => by
    have hlt : i < b := by omega
    have e1 : insInner lt a i d = insInner lt' a i d := insInner_same a i d (by omega) (by omega) (fun p hp1 hp2 => by
      rw [hP.2.1 i (Or.inr (Nat.le_refl _))]
      have h1 : ∀ q, a ≤ q → q < i → lt d0[i]! d[q]! = lt' d0[i]! d[q]! := permIn_all d0 d a i (fun v => lt d0[i]! v = lt' d0[i]! v) (by rw [← hP.1]; omega) hP (fun q h1 h2 => hp _ _ (hd q i h1 h2 hlt))
      exact h1 p hp1 hp2)
    have h1 := insInner_spec hS swp_permIn permIn_refl permIn_trans a (i + 1) i (by omega) i d (by omega) (Nat.le_refl _) (by omega) ⟨fun p q hap hpq hqi _ hq => hs p q hap hpq (by omega), fun q h1 h2 => by omega⟩
    rw [insOuter, if_pos hlt, e1]
    conv => rhs; rw [insOuter, if_pos hlt]
    exact insOuter_same hS hp a b n (i + 1) _ d0 (by omega) (by omega) (by omega) (by rw [h1.1.1]; exact hb) h1.2 (permIn_trans _ _ _ _ _ (permIn_mono _ _ _ _ _ _ (Nat.le_refl _) (by omega) (by rw [← hP.1]; omega) hP) h1.1) hd

theorem insertionSort_tags (hS : SWO lt') (hp : ∀ x y, pre x y → lt y x = lt' y x) (d : Array α) (a b : Nat) (hab : a ≤ b) (hb : b ≤ d.size) (hd : ∀ p q, a ≤ p → p < q → q < b → pre d[p]! d[q]!) :
    PermIn a b d (insertionSort lt d a b) ∧ SortedIn lt' a b (insertionSort lt d a b) := by
  have e : insertionSort lt d a b = insertionSort lt' d a b := by
    unfold insertionSort
    by_cases h : a = b
    · rw [insOuter, if_neg (by omega), insOuter, if_neg (by omega)]
    · exact insOuter_same hS hp a b (b - (a + 1)) (a + 1) d d rfl (by omega) (by omega) hb (fun i j h1 h2 h3 => by omega) (permIn_refl _ _ _) hd
  rw [e]
  exact insertionSort_holds hS d a b hab hb
end

section
variable {β : Type} {lt : β → β → Bool}
/-- By the order, and then by the tags. -/
def tagged (lt : β → β → Bool) (x y : β × Nat) : Bool := lt x.1 y.1 || (!lt y.1 x.1 && decide (x.2 < y.2))
def tagPre (x y : β × Nat) : Prop := x.2 < y.2
theorem tagged_swo (h : SWO lt) : SWO (tagged lt) where
  irrefl x := by unfold tagged; rw [h.irrefl]; simp
  trans x y z h1 h2 := by
    unfold tagged at *
    simp only [Bool.or_eq_true, Bool.and_eq_true, Bool.not_eq_true', decide_eq_true_eq] at *
    rcases h1 with h1 | ⟨h1, t1⟩
    · rcases h2 with h2 | ⟨h2, t2⟩
      · exact Or.inl (h.trans _ _ _ h1 h2)
      · exact Or.inl (lt_le h h1 h2)
    · rcases h2 with h2 | ⟨h2, t2⟩
      · exact Or.inl (le_lt h h1 h2)
      · exact Or.inr ⟨h.ntrans _ _ _ h2 h1, by omega⟩
  ntrans x y z h1 h2 := by
    unfold tagged at *
    simp only [Bool.or_eq_false_iff, Bool.and_eq_false_iff, Bool.not_eq_false', decide_eq_false_iff_not] at *
    obtain ⟨a1, b1⟩ := h1
    obtain ⟨a2, b2⟩ := h2
    refine ⟨h.ntrans _ _ _ a1 a2, ?_⟩
    rcases b1 with b1 | b1
    · exact Or.inl (le_lt h a2 b1)
    · rcases b2 with b2 | b2
      · exact Or.inl (lt_le h b2 a1)
      · exact Or.inr (by omega)
theorem tagged_pre {x y : β × Nat} (h : tagPre x y) : lt y.1 x.1 = tagged lt y x := by
  unfold tagged tagPre at *
  rw [decide_eq_false (show ¬ y.2 < x.2 by omega), Bool.and_false, Bool.or_false]

theorem slot_tags {x : β} {n : Nat} (l : List (β × Nat)) (hl : ∀ y ∈ l, y.2 < n) : ∀ j, slot (tagged lt) (x, n) l j = slot lt x (l.map Prod.fst) j
  | 0 => by unfold slot; rfl
  | j + 1 => by
    have ih := slot_tags (x := x) l hl j
    by_cases hj : j < l.length
    · have hj' : j < (l.map Prod.fst).length := by rw [List.length_map]; exact hj
      have hm := hl _ (List.getElem_mem hj)
      have e : tagged lt (x, n) l[j] = lt x (l.map Prod.fst)[j] := by
        rw [List.getElem_map]
        exact (tagged_pre (x := l[j]) (y := (x, n)) hm).symm
      cases hx : lt x (l.map Prod.fst)[j] with
      | true => rw [slot_go hj (e.trans hx), slot_go hj' hx, ih]
      | false => rw [slot_stop hj (e.trans hx), slot_stop hj' hx]
    · have h1 : l[j]? = none := List.getElem?_eq_none (by omega)
      have h2 : (l.map Prod.fst)[j]? = none := List.getElem?_eq_none (by rw [List.length_map]; omega)
      unfold slot
      simp only [h1, h2]
      try rfl

theorem insR_tags {x : β} {n : Nat} (l : List (β × Nat)) (hl : ∀ y ∈ l, y.2 < n) : (insR (tagged lt) (x, n) l).map Prod.fst = insR lt x (l.map Prod.fst) := by
  unfold insR
  rw [List.map_append, List.map_cons, List.map_take, List.map_drop, slot_tags l hl, List.length_map]
theorem fold_tags : ∀ (l : List β) (acc : List (β × Nat)) (n : Nat), (∀ y ∈ acc, y.2 < n) → ((l.zipIdx n).foldl (fun a x => insR (tagged lt) x a) acc).map Prod.fst = l.foldl (fun a x => insR lt x a) (acc.map Prod.fst)
  | [], _, _, _ => rfl
  | x :: l, acc, n, h => by
    rw [List.zipIdx_cons, List.foldl_cons, List.foldl_cons, fold_tags l _ (n + 1) (fun y hy => by
      rcases List.mem_cons.1 ((insR_perm _ _ _).mem_iff.1 hy) with h1 | h1
      · rw [h1]; exact Nat.lt_succ_self n
      · exact Nat.lt_succ_of_lt (h y h1)), insR_tags acc h]
theorem isort_tags (l : List β) : (isort (tagged lt) l.zipIdx).map Prod.fst = isort lt l := by
  unfold isort
  exact fold_tags l [] 0 (fun y hy => by cases hy)

/-- A sorted arrangement of the tagged list, without its tags, is the stable order. -/
theorem stable_eq (hS : SWO lt) (l : List β) (m : List (β × Nat)) (hp : m.Perm l.zipIdx) (hs : m.Pairwise (fun a b => tagged lt b a = false)) : m.map Prod.fst = isort lt l := by
  rw [← isort_tags]
  congr 1
  have hT := tagged_swo hS
  refine List.Perm.eq_of_pairwise (le := fun a b => tagged lt b a = false) ?_ hs ?_ (hp.trans (isort_perm _ _).symm)
  · intro a b ha hb h1 h2
    have ma := hp.mem_iff.1 ha
    have mb := (isort_perm _ _).mem_iff.1 hb
    unfold tagged at h1 h2
    simp only [Bool.or_eq_false_iff, Bool.and_eq_false_iff, Bool.not_eq_false', decide_eq_false_iff_not] at h1 h2
    have e : a.2 = b.2 := by
      rcases h1.2 with h | h
      · rw [h2.1] at h; cases h
      · rcases h2.2 with k | k
        · rw [h1.1] at k; cases k
        · omega
    obtain ⟨a1, a2⟩ := a
    obtain ⟨b1, b2⟩ := b
    simp only at e
    subst e
    rw [List.mk_mem_zipIdx_iff_getElem?] at ma mb
    rw [ma] at mb
    injection mb with mb
    rw [mb]
  · exact isort_ord (lt := tagged lt) (fun a b c h1 h2 => hT.ntrans _ _ _ h2 h1) (fun a b h => hT.asymmA h) _
end
end Go.Proofs.YtdcjibjldfjllaaGreat

/- slices.SortStableFunc on bars: exchanges of parts. -/
namespace Go.Proofs.YtdcjibjldfjllaaGreat
open Go.RowKit Go.Sort

/-- A bar whose texts are what they should be. -/
def okBar (b : Bar) : Prop := b.fit ∧ okV (byt b.x) = true ∧ okE (byt b.y) = true
def OB : Type := { b : Bar // okBar b }
instance : Inhabited OB := ⟨⟨⟨0, ⟨#[48]⟩, ⟨#[49]⟩⟩, ⟨by decide, by decide⟩, by decide +kernel, by decide +kernel⟩⟩
abbrev TB : Type := OB × Nat
def TB.bar (x : TB) : Bar := x.1.val
/-- The row holds these bars. -/
def Arr (w0 w : World) (g c : Nat) (d : Array TB) : Prop := OwnS w0 w rBar 94 (.slice (some ⟨g, 0, none⟩) d.size c) (d.toList.map TB.bar)
theorem Arr.past {w0 w w1 : World} {g c : Nat} {d : Array TB} (h : Arr w0 w g c d) (hp : Past w w1) : Arr w0 w1 g c d := OwnS.past h hp
theorem arr_getElem (d : Array TB) (i : Nat) (hi : i < d.size) : (d.toList.map TB.bar)[i]? = some (TB.bar d[i]!) := by
  rw [List.getElem?_map, Array.getElem?_toList, Array.getElem?_eq_getElem hi, getElem!_pos d i hi]; rfl
theorem Arr.bar {w0 w : World} {g c : Nat} {d : Array TB} (h : Arr w0 w g c d) {i : Nat} (hi : i < d.size) : BarAt w g (i * 3) (TB.bar d[i]!) ∧ ∀ k, w.frozen? ⟨g, k, none⟩ = false :=
  OwnS.barAt h (arr_getElem d i hi)
theorem swp_list (d : Array TB) (i j : Nat) (hi : i < d.size) (hj : j < d.size) : (swp d i j).toList.map TB.bar = ((d.toList.map TB.bar).set i (TB.bar d[j]!)).set j (TB.bar d[i]!) := by
  unfold swp
  rw [Array.toList_setIfInBounds, Array.toList_setIfInBounds, List.map_set, List.map_set]
theorem Arr.swap {w0 w : World} {g c : Nat} {d : Array TB} (h : Arr w0 w g c d) {i j : Nat} (hi : i < d.size) (hj : j < d.size) :
    Arr w0 (setBar (setBar w g (i * 3) (TB.bar d[j]!)) g (j * 3) (TB.bar d[i]!)) g c (swp d i j) := by
  unfold Arr
  rw [swp_list d i j hi hj, swp_size]
  have h1 := OwnS.setBar h (j := i) (by simpa using hi) (TB.bar d[j]!)
  exact OwnS.setBar h1 (j := j) (by simpa using hj) (TB.bar d[i]!)

set_option maxRecDepth 100000 in
set_option maxHeartbeats 4000000 in
theorem srt_swapRange (g c N : Nat) (d : Array TB) (a b n : Nat) (F : Value) (w0 w : World) (h : Arr w0 w g c d) (hN : d.size = N) (hab : a + n ≤ b) (hb : b + n ≤ N) (hsz : N ≤ 1000000000) :
    Calls Tryz.prog 271 #[.slice (some ⟨g, 0, none⟩) N c, .int .i64 a, .int .i64 b, .int .i64 n, F] w fun e w' => e = .returned (.tuple #[]) ∧ ∃ d', SwR d d' a b n ∧ Arr w0 w' g c d' := by
  have HN := Lib.hid hN
  have HA := Lib.hid h
  clear h hN
  go_enter Tryz.func271, Tryz.ntmps271
  go_wp2_with fail
  go_loopg [10] n (fun gg iv wr => ∃ (i : Nat) (d1 : Array TB), iv = .int .i64 i ∧ i ≤ n ∧ Hid (gg = n - i) ∧ Hid (SwR d d1 a b i) ∧ Hid (Arr w0 wr g c d1))
  case atStart => exact ⟨0, d, rfl, Nat.zero_le _, rfl, SwR.zero d a b, HA.out⟩
  case round =>
    clear HA
    obtain ⟨i, d1, rfl, hi, HG, HS, HA⟩ := hrel
    by_cases hin : i < n
    · have hs1 : d1.size = N := by rw [HS.out.size]; exact HN.out
      obtain ⟨p, hp⟩ : ∃ p, a + i = p := ⟨_, rfl⟩
      obtain ⟨q, hq⟩ : ∃ q, b + i = q := ⟨_, rfl⟩
      have hpq : p < q := by omega
      have hqN : q < N := by omega
      have hb1 := HA.out.bar (i := p) (by omega)
      have hb2 := HA.out.bar (i := q) (by omega)
      have HST : Hid (SwR d (swp d1 p q) a b (i + 1)) := by rw [← hp, ← hq]; exact HS.out.step (by omega) (by rw [HN.out]; omega)
      have HAS := Lib.hid (HA.out.swap (i := p) (j := q) (by omega) (by omega))
      obtain ⟨x, hx⟩ : ∃ x, TB.bar d1[p]! = x := ⟨_, rfl⟩
      obtain ⟨y, hy⟩ : ∃ x, TB.bar d1[q]! = x := ⟨_, rfl⟩
      rw [hx] at hb1 HAS
      rw [hy] at hb2 HAS
      obtain ⟨x0, x1, x2⟩ := x
      obtain ⟨y0, y1, y2⟩ := y
      have e0 : wr.cell? ⟨g, p * 3, none⟩ = some (.int .i64 x0) := hb1.1.1
      have e1 : wr.cell? ⟨g, p * 3 + 1, none⟩ = some (.string x1) := hb1.1.2.1
      have e2 : wr.cell? ⟨g, p * 3 + 2, none⟩ = some (.string x2) := hb1.1.2.2
      have g0 : wr.cell? ⟨g, q * 3, none⟩ = some (.int .i64 y0) := hb2.1.1
      have g1 : wr.cell? ⟨g, q * 3 + 1, none⟩ = some (.string y1) := hb2.1.2.1
      have g2 : wr.cell? ⟨g, q * 3 + 2, none⟩ = some (.string y2) := hb2.1.2.2
      have f0 := hb1.2 (p * 3)
      have f1 := hb1.2 (p * 3 + 1)
      have f2 := hb1.2 (p * 3 + 2)
      have f3 := hb1.2 (q * 3)
      have f4 := hb1.2 (q * 3 + 1)
      have f5 := hb1.2 (q * 3 + 2)
      have z1 : IntKind.i64.wrap ((a : Int) + (i : Int)) = (p : Int) := by rw [IntKind.wrap_i64]; omega
      have z2 : IntKind.i64.wrap ((b : Int) + (i : Int)) = (q : Int) := by rw [IntKind.wrap_i64]; omega
      have z3 : (p : Int) < (N : Int) := by omega
      have z4 : (q : Int) < (N : Int) := by omega
      have HPQ : Hid (a + i = p ∧ b + i = q) := ⟨hp, hq⟩
      clear hx hy hb1 hb2 hp hq hs1
      go_wp2_with fail
      go_region
      all_goals go_wp2_with fail
      go_roundg (n - (i + 1))
      case measure => have := HG.out; omega
      case rel => exact ⟨i + 1, _, by go_num, by omega, rfl, HST.out, HAS.out.past (Past.refl _).drew⟩
    · have hin' : i = n := by omega
      have HS' : Hid (SwR d d1 a b n) := by rw [← hin']; exact HS.out
      clear hin'
      go_wp2
      go_end0
      exact ⟨rfl, d1, HS'.out, HA.out⟩

set_option maxRecDepth 100000 in
set_option maxHeartbeats 4000000 in
theorem srt_rotate (g c N : Nat) (d : Array TB) (a m b : Nat) (F : Value) (w0 w : World) (h : Arr w0 w g c d) (hN : d.size = N) (ham : a < m) (hmb : m < b) (hb : b ≤ N) (hsz : N ≤ 1000000000) :
    Calls Tryz.prog 264 #[.slice (some ⟨g, 0, none⟩) N c, .int .i64 a, .int .i64 m, .int .i64 b, F] w fun e w' => e = .returned (.tuple #[]) ∧ ∃ d', Rot d d' a m b ∧ Arr w0 w' g c d' := by
  have HN := Lib.hid hN
  have HA := Lib.hid h
  clear h hN
  have i0 : ((m - a : Nat) : Int) = (m : Int) - (a : Int) := by omega
  have j0 : ((b - m : Nat) : Int) = (b : Int) - (m : Int) := by omega
  have HI0 := Lib.hid i0
  have HJ0 := Lib.hid j0
  clear i0 j0
  go_enter Tryz.func264, Tryz.ntmps264
  go_wp2_with fail
  go_loopg [10, 11] (b - a) (fun gg iv jv wr => ∃ (i j : Nat) (d1 : Array TB), iv = .int .i64 i ∧ jv = .int .i64 j ∧ 0 < i ∧ 0 < j ∧ i ≤ m ∧ m + j ≤ N ∧ Hid (gg = i + j) ∧ Hid (d1.size = N) ∧ Hid (∀ e, Rot d1 e (m - i) m (m + j) → Rot d e a m b) ∧ Hid (Arr w0 wr g c d1))
  case atStart => exact ⟨m - a, b - m, d, by rw [HI0.out], by rw [HJ0.out], by omega, by omega, by omega, by omega, by unfold Hid; omega, HN.out, fun e he => by rw [show m - (m - a) = a by omega, show m + (b - m) = b by omega] at he; exact he, HA.out⟩
  case round =>
    clear HA
    obtain ⟨i, j, d1, rfl, rfl, hi0, hj0, him, hjN, HG, HS, HK, HA⟩ := hrel
    obtain ⟨p, hp⟩ : ∃ p, m - i = p := ⟨_, rfl⟩
    have zp : (m : Int) - (i : Int) = (p : Int) := by omega
    have HZP := Lib.hid zp
    have HP := Lib.hid hp
    clear zp hp
    by_cases hij : i = j
    · subst hij
      have hb1 : ((i : Int) != (i : Int)) = false := by simp
      go_wp2_with fail
      rw [HZP.out]
      refine (srt_swapRange g c N d1 p m i F w0 _ HA.out HS.out (by have := HP.out; omega) (by omega) hsz).mono ?_
      rintro e w2 ⟨rfl, d2, hs2, ha2⟩
      have HR : Hid (Rot d d2 a m b) := HK.out d2 (rot_same (by rw [HP.out]; exact hs2) him (by rw [HS.out]; exact hjN))
      have HA2 := Lib.hid ha2
      clear hs2 ha2
      go_wp2
      go_end0
      exact ⟨rfl, d2, HR.out, HA2.out⟩
    · have hb1 : ((i : Int) != (j : Int)) = true := by rw [bne_iff_ne]; omega
      by_cases hgt : j < i
      · have hgt' : (j : Int) < (i : Int) := by omega
        go_wp2_with fail
        rw [HZP.out]
        refine (srt_swapRange g c N d1 p m j F w0 _ HA.out HS.out (by have := HP.out; omega) (by omega) hsz).mono ?_
        rintro e w2 ⟨rfl, d2, hs2, ha2⟩
        have HA2 := Lib.hid ha2
        have HS2 : Hid (d2.size = N) := by rw [hs2.size]; exact HS.out
        have HK2 : Hid (∀ e, Rot d2 e (m - (i - j)) m (m + j) → Rot d e a m b) := fun e he => HK.out e (rot_more (by rw [HP.out]; exact hs2) hgt him (by rw [HS.out]; exact hjN) he)
        have e1 : ((i - j : Nat) : Int) = (i : Int) - (j : Int) := by omega
        have HE1 := Lib.hid e1
        clear hs2 ha2 e1
        go_wp2_with fail
        go_roundg (i - j + j)
        case measure => have := HG.out; omega
        case rel => exact ⟨i - j, j, d2, by rw [HE1.out], rfl, by omega, hj0, by omega, hjN, rfl, HS2.out, HK2.out, HA2.out⟩
      · have hgt' : ¬ (j : Int) < (i : Int) := by omega
        have hlt : i < j := by omega
        have zq : (m : Int) + (j : Int) - (i : Int) = ((m + (j - i) : Nat) : Int) := by omega
        have HZQ := Lib.hid zq
        clear zq
        go_wp2_with fail
        rw [HZP.out, HZQ.out]
        refine (srt_swapRange g c N d1 p (m + (j - i)) i F w0 _ HA.out HS.out (by have := HP.out; omega) (by omega) hsz).mono ?_
        rintro e w2 ⟨rfl, d2, hs2, ha2⟩
        have HA2 := Lib.hid ha2
        have HS2 : Hid (d2.size = N) := by rw [hs2.size]; exact HS.out
        have HK2 : Hid (∀ e, Rot d2 e (m - i) m (m + (j - i)) → Rot d e a m b) := fun e he => HK.out e (rot_less (by rw [HP.out]; exact hs2) hlt him (by rw [HS.out]; exact hjN) he)
        have e1 : ((j - i : Nat) : Int) = (j : Int) - (i : Int) := by omega
        have HE1 := Lib.hid e1
        clear hs2 ha2 e1
        go_wp2_with fail
        go_roundg (i + (j - i))
        case measure => have := HG.out; omega
        case rel => exact ⟨i, j - i, d2, rfl, by rw [HE1.out], hi0, by omega, him, by omega, rfl, HS2.out, HK2.out, HA2.out⟩

end Go.Proofs.YtdcjibjldfjllaaGreat

/- slices.SortStableFunc on bars: the merge. -/
namespace Go.Proofs.YtdcjibjldfjllaaGreat
open Go.RowKit Go.Sort

def ltT (x y : TB) : Bool := ltB (TB.bar x) (TB.bar y)
def leT : TB → TB → Bool := tagged (fun x y : OB => ltB x.val y.val)
theorem ltT_pre (x y : TB) (h : tagPre x y) : ltT y x = leT y x := tagged_pre (lt := fun x y : OB => ltB x.val y.val) h
theorem ob_fit (x : TB) : (TB.bar x).fit := x.1.property.1

/-- The merge's own answer. -/
def MrgC (w0 : World) (g c N a m b : Nat) (d : Array TB) : Prop := ∀ w, Arr w0 w g c d →
  Calls Tryz.prog 241 #[.slice (some ⟨g, 0, none⟩) N c, .int .i64 a, .int .i64 m, .int .i64 b, .func (.func 86) #[] #[]] w fun e w' => e = .returned (.tuple #[]) ∧ ∃ d', PermIn a b d d' ∧ SortedIn leT a b d' ∧ Arr w0 w' g c d'

set_option maxRecDepth 100000 in
set_option maxHeartbeats 4000000 in
theorem mrg_left (hS : SWO leT) (w0 : World) (g c N a m b : Nat) (d : Array TB) (hN : d.size = N) (hm : m = a + 1) (hmb : m < b) (hb : b ≤ N) (hsz : N ≤ 1000000000) (hH : Halv leT tagPre d a m b) : MrgC w0 g c N a m b d := by
  intro w hA
  have HN := Lib.hid hN
  have HA := Lib.hid hA
  have HH := Lib.hid hH
  have HM := Lib.hid hm
  have hb1 : ((m : Int) - (a : Int) == 1) = true := by rw [beq_iff_eq]; omega
  have ham : a < m := by omega
  clear hN hA hH hm
  go_enter Tryz.func241, Tryz.ntmps241
  go_wp2_with fail
  go_loopg [10, 11] (b - m) (fun gg iv jv wr => ∃ (i j : Nat), iv = .int .i64 i ∧ jv = .int .i64 j ∧ m ≤ i ∧ i ≤ j ∧ j ≤ b ∧ Hid (gg = j - i) ∧ Hid (∀ x, m ≤ x → x < i → ltT d[x]! d[a]! = true) ∧ Hid (∀ x, j ≤ x → x < b → ltT d[x]! d[a]! = false) ∧ Hid (Arr w0 wr g c d))
  case atStart => exact ⟨m, b, rfl, rfl, Nat.le_refl _, by omega, Nat.le_refl _, rfl, fun x h1 h2 => by omega, fun x h1 h2 => by omega, HA.out⟩
  case round =>
    clear HA
    obtain ⟨i, j, rfl, rfl, hmi, hij, hjb, HG, HLO, HHI, HA⟩ := hrel
    by_cases hlt : i < j
    · have hlt' : (i : Int) < (j : Int) := by omega
      obtain ⟨h, hh⟩ : ∃ h, (i + j) / 2 = h := ⟨_, rfl⟩
      have h1 : i ≤ h := by omega
      have h2 : h < j := by omega
      have HZ : Hid (((i : Int) + (j : Int)) / 2 = (h : Int)) := by unfold Hid; omega
      clear hh
      have hq1 := HA.out.bar (i := h) (by rw [HN.out]; omega)
      have hq2 := HA.out.bar (i := a) (by rw [HN.out]; omega)
      have fx := ob_fit d[h]!
      have fy := ob_fit d[a]!
      have hlt0 : ltT d[h]! d[a]! = decide (cmpB (TB.bar d[h]!) (TB.bar d[a]!) < 0) := rfl
      obtain ⟨bx, hbx⟩ : ∃ x, TB.bar d[h]! = x := ⟨_, rfl⟩
      obtain ⟨by_, hby⟩ : ∃ x, TB.bar d[a]! = x := ⟨_, rfl⟩
      rw [hbx] at hq1 fx hlt0
      rw [hby] at hq2 fy hlt0
      obtain ⟨x0, x1, x2⟩ := bx
      obtain ⟨y0, y1, y2⟩ := by_
      have H6 : Hid (wr.cell? ⟨g, h * 3, none⟩ = some (.int .i64 x0) ∧ wr.cell? ⟨g, h * 3 + 1, none⟩ = some (.string x1) ∧ wr.cell? ⟨g, h * 3 + 2, none⟩ = some (.string x2) ∧ wr.cell? ⟨g, a * 3, none⟩ = some (.int .i64 y0) ∧ wr.cell? ⟨g, a * 3 + 1, none⟩ = some (.string y1) ∧ wr.cell? ⟨g, a * 3 + 2, none⟩ = some (.string y2)) := ⟨hq1.1.1, hq1.1.2.1, hq1.1.2.2, hq2.1.1, hq2.1.2.1, hq2.1.2.2⟩
      obtain ⟨cv, hcv⟩ : ∃ v, cmpB ⟨x0, x1, x2⟩ ⟨y0, y1, y2⟩ = v := ⟨_, rfl⟩
      rw [hcv] at hlt0
      have HLT := Lib.hid hlt0
      have HCV := Lib.hid hcv
      have HFX := Lib.hid fx
      have HFY := Lib.hid fy
      have PD : Hid (Past wr wr.drew) := (Past.refl wr).drew
      have u1 : (h : Int) < (N : Int) := by omega
      have u2 : (a : Int) < (N : Int) := by omega
      clear hq1 hq2 fx fy hbx hby hcv hlt0
      go_wp2_with fail
      rw [HZ.out]
      go_region_held3 (fun w' => w'.cell? ⟨g, h * 3, none⟩ = some (.int .i64 x0) ∧ w'.cell? ⟨g, h * 3 + 1, none⟩ = some (.string x1) ∧ w'.cell? ⟨g, h * 3 + 2, none⟩ = some (.string x2) ∧ w'.cell? ⟨g, a * 3, none⟩ = some (.int .i64 y0) ∧ w'.cell? ⟨g, a * 3 + 1, none⟩ = some (.string y1) ∧ w'.cell? ⟨g, a * 3 + 2, none⟩ = some (.string y2)) (first | (refine keep6 hp2 ?_; assumption) | (refine keep6 PD ?_; exact H6.out))
        (first
          | (go_at_call 86; ((with_reducible refine (bar_compare' x0 y0 x1 x2 y1 y2 _ HFX.out HFY.out).mono ?_)); rintro e w2 ⟨hp2, rfl⟩))
      rw [HCV.out]
      have HA2 := Lib.hid (HA.out.past (PD.out.trans hp2))
      clear H6 HA
      by_cases hlv : cv < 0
      · have HT : Hid (ltT d[h]! d[a]! = true) := by show _ = _; rw [HLT.out]; exact decide_eq_true hlv
        go_wp2
        go_roundg (j - (h + 1))
        case measure => have := HG.out; omega
        case rel => exact ⟨h + 1, j, by go_num, rfl, by omega, by omega, hjb, rfl, fun x hx1 hx2 => HH.out.mono hS ltT_pre (Nat.le_refl a) (Nat.le_refl a) ham hx1 (show x ≤ h by omega) (by omega) HT.out, HHI.out, HA2.out⟩
      · have HT : Hid (ltT d[h]! d[a]! = false) := by show _ = _; rw [HLT.out]; exact decide_eq_false hlv
        go_wp2
        go_roundg (h - i)
        case measure => have := HG.out; omega
        case rel =>
          refine ⟨i, h, rfl, rfl, hmi, h1, by omega, rfl, HLO.out, fun x hx1 hx2 => ?_, HA2.out⟩
          cases hx : ltT d[x]! d[a]! with
          | false => rfl
          | true =>
            have h3 := HH.out.mono hS ltT_pre (Nat.le_refl a) (Nat.le_refl a) ham (show m ≤ h by omega) hx1 hx2 hx
            rw [HT.out] at h3
            cases h3
    · have hij' : i = j := by omega
      subst hij'
      have e1 : ((a : Nat) : Int) + 1 = (m : Int) := by have := HM.out; omega
      go_wp2_with fail
      clear e1
      go_loopg [13] (i - a) (fun gg kv wr => ∃ (k : Nat) (c1 : Array TB), kv = .int .i64 k ∧ a ≤ k ∧ k + 1 ≤ i ∧ Hid (gg = i - k) ∧ Hid (c1.size = N) ∧ Hid (Rot d c1 a (a + 1) (k + 1)) ∧ Hid (Arr w0 wr g c c1))
      case atStart => exact ⟨a, d, rfl, Nat.le_refl _, by omega, rfl, HN.out, Rot.right d a (a + 1), HA.out⟩
      case round =>
        clear HA
        obtain ⟨k, c1, rfl, hak, hki, HG, HS1, HR, HA⟩ := hrel
        by_cases hlt : k + 1 < i
        · have hlt' : (k : Int) < (i : Int) - 1 := by omega
          have HST : Hid (Rot d (swp c1 k (k + 1)) a (a + 1) (k + 2)) := rot_up HR.out hak (by rw [HN.out]; omega)
          have HS2 : Hid ((swp c1 k (k + 1)).size = N) := by show _ = _; rw [swp_size]; exact HS1.out
          have hb1 := HA.out.bar (i := k) (by rw [HS1.out]; omega)
          have hb2 := HA.out.bar (i := k + 1) (by rw [HS1.out]; omega)
          have HAS := Lib.hid (HA.out.swap (i := k) (j := k + 1) (by rw [HS1.out]; omega) (by rw [HS1.out]; omega))
          obtain ⟨x, hx⟩ : ∃ x, TB.bar c1[k]! = x := ⟨_, rfl⟩
          obtain ⟨y, hy⟩ : ∃ x, TB.bar c1[k + 1]! = x := ⟨_, rfl⟩
          rw [hx] at hb1 HAS
          rw [hy] at hb2 HAS
          obtain ⟨x0, x1, x2⟩ := x
          obtain ⟨y0, y1, y2⟩ := y
          have e0 : wr.cell? ⟨g, (k) * 3, none⟩ = some (.int .i64 x0) := hb1.1.1
          have e1 : wr.cell? ⟨g, (k) * 3 + 1, none⟩ = some (.string x1) := hb1.1.2.1
          have e2 : wr.cell? ⟨g, (k) * 3 + 2, none⟩ = some (.string x2) := hb1.1.2.2
          have g0 : wr.cell? ⟨g, (k + 1) * 3, none⟩ = some (.int .i64 y0) := hb2.1.1
          have g1 : wr.cell? ⟨g, (k + 1) * 3 + 1, none⟩ = some (.string y1) := hb2.1.2.1
          have g2 : wr.cell? ⟨g, (k + 1) * 3 + 2, none⟩ = some (.string y2) := hb2.1.2.2
          have f0 := hb1.2 ((k) * 3)
          have f1 := hb1.2 ((k) * 3 + 1)
          have f2 := hb1.2 ((k) * 3 + 2)
          have f3 := hb1.2 ((k + 1) * 3)
          have f4 := hb1.2 ((k + 1) * 3 + 1)
          have f5 := hb1.2 ((k + 1) * 3 + 2)
          clear hx hy hb1 hb2
          have z1 : (k : Int) < (N : Int) := by omega
          have z3 : (k : Int) + 1 < (N : Int) := by omega
          have z4 : (0 : Int) ≤ (k : Int) + 1 := by omega
          have z5 : ((k : Int) + 1).toNat = k + 1 := by omega
          have z6 : IntKind.i64.wrap ((k : Int) + 1) = (k : Int) + 1 := by rw [IntKind.wrap_i64]; omega
          go_wp2_with fail
          go_region
          all_goals go_wp2_with fail
          go_roundg (i - (k + 1))
          case measure => have := HG.out; omega
          case rel => exact ⟨k + 1, _, by go_num, by omega, by omega, rfl, HS2.out, HST.out, HAS.out.past (Past.refl _).drew⟩
        · have hlt' : ¬ (k : Int) < (i : Int) - 1 := by omega
          have HRI : Hid (Rot d c1 a (a + 1) i) := by have := HR.out; rw [show k + 1 = i by omega] at this; exact this
          have HSO : Hid (SortedIn leT a b c1) := one_left hS ltT_pre (by rw [← HM.out]; exact HH.out) (by have := HM.out; omega) hjb (fun x h1 h2 => HLO.out x (by have := HM.out; omega) h2) HHI.out HRI.out
          have HPE : Hid (PermIn a b d c1) := permIn_mono _ _ _ _ _ _ (Nat.le_refl _) hjb (by rw [HN.out]; exact hb) HRI.out.perm
          go_wp2
          (try simp only [Exit.inBlock, Exit.then]); refine bodyPost_ret (results_none rfl _ _ _) rfl ?_
          exact ⟨rfl, c1, HPE.out, HSO.out, HA.out⟩

end Go.Proofs.YtdcjibjldfjllaaGreat

/- slices.SortStableFunc on bars: the merge of one element at the right. -/
namespace Go.Proofs.YtdcjibjldfjllaaGreat
open Go.RowKit Go.Sort

set_option maxRecDepth 100000 in
set_option maxHeartbeats 4000000 in
theorem mrg_right (hS : SWO leT) (w0 : World) (g c N a m b : Nat) (d : Array TB) (hN : d.size = N) (hm : b = m + 1) (ham : a < m) (hne : ¬ m = a + 1) (hb : b ≤ N) (hsz : N ≤ 1000000000) (hH : Halv leT tagPre d a m b) : MrgC w0 g c N a m b d := by
  intro w hA
  have HN := Lib.hid hN
  have HA := Lib.hid hA
  have HH := Lib.hid hH
  have HM := Lib.hid hm
  have hb0 : ((m : Int) - (a : Int) == 1) = false := by rw [beq_eq_false_iff_ne]; omega
  have hb1 : ((b : Int) - (m : Int) == 1) = true := by rw [beq_iff_eq]; omega
  have hmb : m < b := by omega
  clear hN hA hH hm hne
  go_enter Tryz.func241, Tryz.ntmps241
  go_wp2_with fail
  go_loopg [14, 15] (m - a) (fun gg iv jv wr => ∃ (i j : Nat), iv = .int .i64 i ∧ jv = .int .i64 j ∧ a ≤ i ∧ i ≤ j ∧ j ≤ m ∧ Hid (gg = j - i) ∧ Hid (∀ x, a ≤ x → x < i → ltT d[m]! d[x]! = false) ∧ Hid (∀ x, j ≤ x → x < m → ltT d[m]! d[x]! = true) ∧ Hid (Arr w0 wr g c d))
  case atStart => exact ⟨a, m, rfl, rfl, Nat.le_refl _, by omega, Nat.le_refl _, rfl, fun x h1 h2 => by omega, fun x h1 h2 => by omega, HA.out⟩
  case round =>
    clear HA
    obtain ⟨i, j, rfl, rfl, hmi, hij, hjb, HG, HLO, HHI, HA⟩ := hrel
    by_cases hlt : i < j
    · have hlt' : (i : Int) < (j : Int) := by omega
      obtain ⟨h, hh⟩ : ∃ h, (i + j) / 2 = h := ⟨_, rfl⟩
      have h1 : i ≤ h := by omega
      have h2 : h < j := by omega
      have HZ : Hid (((i : Int) + (j : Int)) / 2 = (h : Int)) := by unfold Hid; omega
      clear hh
      have hq1 := HA.out.bar (i := m) (by rw [HN.out]; omega)
      have hq2 := HA.out.bar (i := h) (by rw [HN.out]; omega)
      have fx := ob_fit d[m]!
      have fy := ob_fit d[h]!
      have hlt0 : ltT d[m]! d[h]! = decide (cmpB (TB.bar d[m]!) (TB.bar d[h]!) < 0) := rfl
      obtain ⟨bx, hbx⟩ : ∃ x, TB.bar d[m]! = x := ⟨_, rfl⟩
      obtain ⟨by_, hby⟩ : ∃ x, TB.bar d[h]! = x := ⟨_, rfl⟩
      rw [hbx] at hq1 fx hlt0
      rw [hby] at hq2 fy hlt0
      obtain ⟨x0, x1, x2⟩ := bx
      obtain ⟨y0, y1, y2⟩ := by_
      have H6 : Hid (wr.cell? ⟨g, m * 3, none⟩ = some (.int .i64 x0) ∧ wr.cell? ⟨g, m * 3 + 1, none⟩ = some (.string x1) ∧ wr.cell? ⟨g, m * 3 + 2, none⟩ = some (.string x2) ∧ wr.cell? ⟨g, h * 3, none⟩ = some (.int .i64 y0) ∧ wr.cell? ⟨g, h * 3 + 1, none⟩ = some (.string y1) ∧ wr.cell? ⟨g, h * 3 + 2, none⟩ = some (.string y2)) := ⟨hq1.1.1, hq1.1.2.1, hq1.1.2.2, hq2.1.1, hq2.1.2.1, hq2.1.2.2⟩
      obtain ⟨cv, hcv⟩ : ∃ v, cmpB ⟨x0, x1, x2⟩ ⟨y0, y1, y2⟩ = v := ⟨_, rfl⟩
      rw [hcv] at hlt0
      have HLT := Lib.hid hlt0
      have HCV := Lib.hid hcv
      have HFX := Lib.hid fx
      have HFY := Lib.hid fy
      have PD : Hid (Past wr wr.drew) := (Past.refl wr).drew
      have u1 : (m : Int) < (N : Int) := by omega
      have u2 : (h : Int) < (N : Int) := by omega
      clear hq1 hq2 fx fy hbx hby hcv hlt0
      go_wp2_with fail
      rw [HZ.out]
      go_region_held3 (fun w' => w'.cell? ⟨g, m * 3, none⟩ = some (.int .i64 x0) ∧ w'.cell? ⟨g, m * 3 + 1, none⟩ = some (.string x1) ∧ w'.cell? ⟨g, m * 3 + 2, none⟩ = some (.string x2) ∧ w'.cell? ⟨g, h * 3, none⟩ = some (.int .i64 y0) ∧ w'.cell? ⟨g, h * 3 + 1, none⟩ = some (.string y1) ∧ w'.cell? ⟨g, h * 3 + 2, none⟩ = some (.string y2)) (first | (refine keep6 hp2 ?_; assumption) | (refine keep6 PD ?_; exact H6.out))
        (first
          | (go_at_call 86; ((with_reducible refine (bar_compare' x0 y0 x1 x2 y1 y2 _ HFX.out HFY.out).mono ?_)); rintro e w2 ⟨hp2, rfl⟩))
      rw [HCV.out]
      have HA2 := Lib.hid (HA.out.past (PD.out.trans hp2))
      clear H6 HA
      obtain ⟨bv, hbv⟩ : ∃ b, (!decide (cv < 0)) = b := ⟨_, rfl⟩
      rw [hbv]
      have HBV := Lib.hid hbv
      clear hbv
      cases bv with
      | false =>
        have hlv : cv < 0 := by have := HBV.out; simpa using this
        have HT : Hid (ltT d[m]! d[h]! = true) := by show _ = _; rw [HLT.out]; exact decide_eq_true hlv
        clear hlv
        go_wp2
        go_roundg (h - i)
        case measure => have := HG.out; omega
        case rel => exact ⟨i, h, rfl, rfl, hmi, h1, by omega, rfl, HLO.out, fun x hx1 hx2 => HH.out.mono hS ltT_pre (show a ≤ h by omega) hx1 hx2 (Nat.le_refl m) (Nat.le_refl m) hmb HT.out, HA2.out⟩
      | true =>
        have hlv : ¬ cv < 0 := by have := HBV.out; simpa using this
        have HT : Hid (ltT d[m]! d[h]! = false) := by show _ = _; rw [HLT.out]; exact decide_eq_false hlv
        clear hlv
        go_wp2
        go_roundg (j - (h + 1))
        case measure => have := HG.out; omega
        case rel =>
          refine ⟨h + 1, j, by go_num, rfl, by omega, by omega, hjb, rfl, fun x hx1 hx2 => ?_, HHI.out, HA2.out⟩
          cases hx : ltT d[m]! d[x]! with
          | false => rfl
          | true =>
            have h3 := HH.out.mono hS ltT_pre hx1 (show x ≤ h by omega) (show h < m by omega) (Nat.le_refl m) (Nat.le_refl m) hmb hx
            rw [HT.out] at h3
            cases h3
    · have hij' : i = j := by omega
      subst hij'
      go_wp2_with fail
      go_loopg [17] (m - i) (fun gg kv wr => ∃ (k : Nat) (c1 : Array TB), kv = .int .i64 k ∧ i ≤ k ∧ k ≤ m ∧ Hid (gg = k - i) ∧ Hid (c1.size = N) ∧ Hid (Rot d c1 k m (m + 1)) ∧ Hid (Arr w0 wr g c c1))
      case atStart => exact ⟨m, d, rfl, hjb, Nat.le_refl _, by unfold Hid; omega, HN.out, Rot.left d m (m + 1), HA.out⟩
      case round =>
        clear HA
        obtain ⟨k0, c1, rfl, hik, hkm, HG, HS1, HR, HA⟩ := hrel
        by_cases hlt : i < k0
        · obtain ⟨k, rfl⟩ : ∃ k, k0 = k + 1 := ⟨k0 - 1, by omega⟩
          have hlt' : (i : Int) < (k : Int) + 1 := by omega
          have HST : Hid (Rot d (swp c1 (k + 1) k) k m (m + 1)) := rot_down HR.out hkm (by rw [HN.out]; omega)
          have HS2 : Hid ((swp c1 (k + 1) k).size = N) := by show _ = _; rw [swp_size]; exact HS1.out
          have hb1 := HA.out.bar (i := k + 1) (by rw [HS1.out]; omega)
          have hb2 := HA.out.bar (i := k) (by rw [HS1.out]; omega)
          have HAS := Lib.hid (HA.out.swap (i := k + 1) (j := k) (by rw [HS1.out]; omega) (by rw [HS1.out]; omega))
          obtain ⟨x, hx⟩ : ∃ x, TB.bar c1[k + 1]! = x := ⟨_, rfl⟩
          obtain ⟨y, hy⟩ : ∃ x, TB.bar c1[k]! = x := ⟨_, rfl⟩
          rw [hx] at hb1 HAS
          rw [hy] at hb2 HAS
          obtain ⟨x0, x1, x2⟩ := x
          obtain ⟨y0, y1, y2⟩ := y
          have e0 : wr.cell? ⟨g, (k + 1) * 3, none⟩ = some (.int .i64 x0) := hb1.1.1
          have e1 : wr.cell? ⟨g, (k + 1) * 3 + 1, none⟩ = some (.string x1) := hb1.1.2.1
          have e2 : wr.cell? ⟨g, (k + 1) * 3 + 2, none⟩ = some (.string x2) := hb1.1.2.2
          have g0 : wr.cell? ⟨g, (k) * 3, none⟩ = some (.int .i64 y0) := hb2.1.1
          have g1 : wr.cell? ⟨g, (k) * 3 + 1, none⟩ = some (.string y1) := hb2.1.2.1
          have g2 : wr.cell? ⟨g, (k) * 3 + 2, none⟩ = some (.string y2) := hb2.1.2.2
          have f0 := hb1.2 ((k + 1) * 3)
          have f1 := hb1.2 ((k + 1) * 3 + 1)
          have f2 := hb1.2 ((k + 1) * 3 + 2)
          have f3 := hb1.2 ((k) * 3)
          have f4 := hb1.2 ((k) * 3 + 1)
          have f5 := hb1.2 ((k) * 3 + 2)
          clear hx hy hb1 hb2
          have z1 : (k : Int) < (N : Int) := by omega
          have z3 : (k : Int) + 1 < (N : Int) := by omega
          have z4 : (0 : Int) ≤ (k : Int) + 1 := by omega
          have z5 : ((k : Int) + 1).toNat = k + 1 := by omega
          have z6 : IntKind.i64.wrap (k : Int) = (k : Int) := by rw [IntKind.wrap_i64]; omega
          go_wp2_with fail
          go_region
          all_goals go_wp2_with fail
          go_roundg (k - i)
          case measure => have := HG.out; omega
          case rel => exact ⟨k, _, rfl, by omega, by omega, rfl, HS2.out, HST.out, HAS.out.past (Past.refl _).drew⟩
        · have hlt' : ¬ (i : Int) < (k0 : Int) := by omega
          have HRI : Hid (Rot d c1 i m (m + 1)) := by have := HR.out; rw [show k0 = i by omega] at this; exact this
          have HSO : Hid (SortedIn leT a b c1) := by
            have := one_right hS ltT_pre (i := i) (by rw [← HM.out]; exact HH.out) hmi hjb HLO.out HHI.out HRI.out
            rw [← HM.out] at this
            exact this
          have HPE : Hid (PermIn a b d c1) := by
            have := HRI.out.perm
            rw [← HM.out] at this
            exact permIn_mono _ _ _ _ _ _ hmi (Nat.le_refl _) (by rw [HN.out]; exact hb) this
          go_wp2
          (try simp only [Exit.inBlock, Exit.then]); refine bodyPost_ret (results_none rfl _ _ _) rfl ?_
          exact ⟨rfl, c1, HPE.out, HSO.out, HA.out⟩

end Go.Proofs.YtdcjibjldfjllaaGreat
