/- Helpers of the proof, joined: Dg A Txt Row Srt Str1 Sh Rk. -/
import Derived.Test.YtdcjibjldfjllaaGreatProg
import Derived.WalkKit
import Derived.WalkSpells
import Derived.WalkLawsBesides
import Derived.Lib.Hide
import Derived.IntWalk
import Derived.OwnWalk
import Derived.Deep.LoopGhost
import Derived.Deep.QuietTactic
import Derived.BigQuiet
import Derived.Deep.RegionHeld3
import Derived.Deep.DeepCutAuto
import Derived.Deep.CutBlock
import Derived.StillTailTactics
import Derived.Laws.Rows
import Derived.Laws.IdiomStrings
import Derived.Lib.IndexBytes
import Derived.Lib.Bytealg
import Derived.Shelf.Strings.BuilderK
import Derived.Shelf.Strings.IndexAnyAll
set_option linter.unusedVariables false
set_option linter.unusedSimpArgs false
/- Digits of numbers in a base: values, canonical lists, uniqueness. -/
namespace Dg

/-- The value of digits, from the lowest one on. -/
def val (b : Int) : List Int → Int
  | [] => 0
  | x :: xs => x + b * val b xs

def Dig (b : Int) (l : List Int) : Prop := ∀ x ∈ l, 0 ≤ x ∧ x < b
def Can (l : List Int) : Prop := ∀ h : l ≠ [], l.getLast h ≠ 0

@[simp] theorem val_nil (b : Int) : val b [] = 0 := rfl
@[simp] theorem val_cons (b x : Int) (xs : List Int) : val b (x :: xs) = x + b * val b xs := rfl

theorem Dig.nil (b : Int) : Dig b [] := fun _ h => by cases h
theorem Dig.cons {b x : Int} {l : List Int} (h0 : 0 ≤ x) (h1 : x < b) (h : Dig b l) : Dig b (x :: l) := by
  intro y hy
  rcases List.mem_cons.1 hy with rfl | hy
  · exact ⟨h0, h1⟩
  · exact h y hy
theorem Dig.head {b x : Int} {l : List Int} (h : Dig b (x :: l)) : 0 ≤ x ∧ x < b := h x (by simp)
theorem Dig.tail {b x : Int} {l : List Int} (h : Dig b (x :: l)) : Dig b l := fun y hy => h y (by simp [hy])
theorem Dig.append {b : Int} {l m : List Int} (h : Dig b l) (h' : Dig b m) : Dig b (l ++ m) := by
  intro y hy
  rcases List.mem_append.1 hy with hy | hy
  · exact h y hy
  · exact h' y hy
theorem Dig.snoc {b x : Int} {l : List Int} (h : Dig b l) (h0 : 0 ≤ x) (h1 : x < b) : Dig b (l ++ [x]) :=
  h.append (Dig.cons h0 h1 (Dig.nil b))
theorem Dig.take {b : Int} {l : List Int} (h : Dig b l) (n : Nat) : Dig b (l.take n) := fun y hy => h y (List.mem_of_mem_take hy)
theorem Dig.drop {b : Int} {l : List Int} (h : Dig b l) (n : Nat) : Dig b (l.drop n) := fun y hy => h y (List.mem_of_mem_drop hy)
theorem Dig.getD {b : Int} {l : List Int} (h : Dig b l) (hb : 0 < b) (i : Nat) : 0 ≤ l.getD i 0 ∧ l.getD i 0 < b := by
  rcases Nat.lt_or_ge i l.length with hi | hi
  · rw [List.getD_eq_getElem?_getD, List.getElem?_eq_getElem hi]
    exact h _ (List.getElem_mem hi)
  · rw [List.getD_eq_getElem?_getD, List.getElem?_eq_none hi]
    exact ⟨Int.le_refl 0, hb⟩

theorem val_nonneg {b : Int} (hb : 0 ≤ b) : ∀ {l : List Int}, Dig b l → 0 ≤ val b l
  | [], _ => by simp
  | x :: xs, h => by
    have := val_nonneg hb h.tail
    have := h.head
    have := Int.mul_nonneg hb (val_nonneg hb h.tail)
    simp; omega

theorem val_append (b : Int) : ∀ (l m : List Int), val b (l ++ m) = val b l + b ^ l.length * val b m
  | [], m => by simp
  | x :: xs, m => by
    simp only [List.cons_append, val_cons, List.length_cons, val_append b xs m, Int.pow_succ]
    rw [Int.mul_add, Int.mul_comm (b ^ xs.length) b, Int.mul_assoc]
    omega

theorem val_snoc (b : Int) (l : List Int) (x : Int) : val b (l ++ [x]) = val b l + b ^ l.length * x := by
  rw [val_append]; simp

theorem val_lt {b : Int} (hb : 0 < b) : ∀ {l : List Int}, Dig b l → val b l < b ^ l.length
  | [], _ => by simp
  | x :: xs, h => by
    have h1 := val_lt hb h.tail
    have h2 := h.head
    simp only [val_cons, List.length_cons, Int.pow_succ]
    have h3 : b * (val b xs + 1) ≤ b * b ^ xs.length := Int.mul_le_mul_of_nonneg_left (by omega) (by omega)
    rw [Int.mul_add] at h3
    rw [Int.mul_comm (b ^ xs.length) b]
    omega

theorem val_replicate_zero (b : Int) : ∀ n : Nat, val b (List.replicate n 0) = 0
  | 0 => rfl
  | n + 1 => by simp [List.replicate_succ, val_replicate_zero b n]

/-! ### canonical digits of a natural number -/
def toD (b n : Nat) : List Int :=
  if _h : n = 0 ∨ b < 2 then [] else ((n % b : Nat) : Int) :: toD b (n / b)
termination_by n
decreasing_by exact Nat.div_lt_self (by omega) (by omega)

theorem toD_zero (b : Nat) : toD b 0 = [] := by unfold toD; simp
theorem toD_pos {b n : Nat} (hb : 2 ≤ b) (hn : 0 < n) : toD b n = ((n % b : Nat) : Int) :: toD b (n / b) := by
  rw [toD, dif_neg (by omega)]

theorem toD_dig (b : Nat) (hb : 2 ≤ b) (n : Nat) : Dig b (toD b n) := by
  induction n using Nat.strongRecOn with
  | _ n ih =>
    rcases Nat.eq_zero_or_pos n with rfl | hn
    · rw [toD_zero]; exact Dig.nil _
    · rw [toD_pos hb hn]
      have := Nat.mod_lt n (show 0 < b by omega)
      exact Dig.cons (by omega) (by omega) (ih _ (Nat.div_lt_self hn (by omega)))

theorem val_toD (b : Nat) (hb : 2 ≤ b) (n : Nat) : val b (toD b n) = n := by
  induction n using Nat.strongRecOn with
  | _ n ih =>
    rcases Nat.eq_zero_or_pos n with rfl | hn
    · rw [toD_zero]; rfl
    · rw [toD_pos hb hn, val_cons, ih _ (Nat.div_lt_self hn (by omega))]
      have h := Nat.mod_add_div n b
      have h' : ((n % b + b * (n / b) : Nat) : Int) = (n : Int) := by rw [h]
      rw [Int.natCast_add, Int.natCast_mul] at h'
      exact h'

theorem toD_ne_nil {b n : Nat} (hb : 2 ≤ b) (hn : 0 < n) : toD b n ≠ [] := by rw [toD_pos hb hn]; simp

theorem toD_can (b : Nat) (hb : 2 ≤ b) (n : Nat) : Can (toD b n) := by
  induction n using Nat.strongRecOn with
  | _ n ih =>
    rcases Nat.eq_zero_or_pos n with rfl | hn
    · rw [toD_zero]; intro h; exact absurd rfl h
    · intro h
      simp only [toD_pos hb hn] at h ⊢
      rcases Nat.eq_zero_or_pos (n / b) with h0 | h0
      · simp only [h0, toD_zero, List.getLast_singleton]
        have : n < b := by
          rcases Nat.lt_or_ge n b with h1 | h1
          · exact h1
          · have := Nat.div_pos h1 (by omega); omega
        rw [Nat.mod_eq_of_lt this]
        omega
      · rw [List.getLast_cons (toD_ne_nil hb h0)]
        exact ih _ (Nat.div_lt_self hn (by omega)) _

theorem Can.tail {x : Int} {l : List Int} (h : Can (x :: l)) : Can l := by
  intro hl
  have := h (by simp)
  rwa [List.getLast_cons hl] at this

/-- Canonical digits are those of their value. -/
theorem eq_toD {b : Nat} (hb : 2 ≤ b) : ∀ {l : List Int}, Dig b l → Can l → l = toD b (val b l).toNat
  | [], _, _ => by simp [toD_zero]
  | x :: xs, hd, hc => by
    have hv := val_nonneg (b := (b : Int)) (by omega) hd.tail
    have hx := hd.head
    have ih := eq_toD hb hd.tail hc.tail
    obtain ⟨v, hv'⟩ := Int.eq_ofNat_of_zero_le hv
    obtain ⟨y, rfl⟩ := Int.eq_ofNat_of_zero_le hx.1
    have e : (val (b : Int) ((y : Int) :: xs)).toNat = y + b * v := by
      rw [val_cons, hv', show (y : Int) + b * v = ((y + b * v : Nat) : Int) from by simp, Int.toNat_natCast]
    have hy : y < b := by omega
    rw [e]
    have hpos : 0 < y + b * v := by
      rcases Nat.eq_zero_or_pos v with rfl | h0
      · have hxs : xs = [] := by
          rw [ih, hv']; simp [toD_zero]
        subst hxs
        have := hc (by simp)
        simp at this
        omega
      · have := Nat.mul_pos (show 0 < b by omega) h0; omega
    rw [toD_pos hb hpos]
    have h1 : (y + b * v) % b = y := by rw [Nat.add_mul_mod_self_left, Nat.mod_eq_of_lt hy]
    have h2 : (y + b * v) / b = v := by
      rw [Nat.add_mul_div_left _ _ (by omega), Nat.div_eq_of_lt hy, Nat.zero_add]
    rw [h1, h2]
    rw [ih, hv']
    simp

theorem val_pos_of_can {b : Nat} (hb : 2 ≤ b) {l : List Int} (hd : Dig b l) (hc : Can l) (h : l ≠ []) : 0 < val b l := by
  have h1 := eq_toD hb hd hc
  have h2 := val_nonneg (b := (b : Int)) (by omega) hd
  rcases Int.lt_or_eq_of_le h2 with h3 | h3
  · exact h3
  · rw [← h3] at h1
    simp [toD_zero] at h1
    exact absurd h1 h

theorem pow_pos {b : Int} (hb : 0 < b) (n : Nat) : 0 < b ^ n := Int.pow_pos hb

/-- A canonical list that is not empty has a value of at least b to its length less one. -/
theorem pow_le_val {b : Int} (hb : 0 < b) : ∀ {l : List Int}, Dig b l → Can l → l ≠ [] → b ^ (l.length - 1) ≤ val b l
  | [], _, _, h => absurd rfl h
  | [x], hd, hc, _ => by
    have := hc (by simp)
    have := hd.head
    simp at *
    omega
  | x :: y :: ys, hd, hc, _ => by
    have ih := pow_le_val hb hd.tail hc.tail (by simp)
    have := hd.head
    have h3 : b * b ^ ((y :: ys).length - 1) ≤ b * val b (y :: ys) := Int.mul_le_mul_of_nonneg_left ih (by omega)
    rw [val_cons]
    have e : (x :: y :: ys).length - 1 = ((y :: ys).length - 1) + 1 := by simp
    rw [e, Int.pow_succ, Int.mul_comm _ b]
    omega

theorem pow_mono {b : Int} (hb : 1 ≤ b) {m n : Nat} (h : m ≤ n) : b ^ m ≤ b ^ n := by
  obtain ⟨k, rfl⟩ := Nat.le.dest h
  rw [Int.pow_add]
  have h1 : (1 : Int) ≤ b ^ k := Int.pow_pos (by omega)
  have h2 : (0 : Int) ≤ b ^ m := Int.le_of_lt (Int.pow_pos (by omega))
  calc b ^ m = b ^ m * 1 := by omega
    _ ≤ b ^ m * b ^ k := Int.mul_le_mul_of_nonneg_left h1 h2

/-- Of two canonical lists the shorter one has the lesser value. -/
theorem val_lt_of_length {b : Int} (hb : 1 < b) {l m : List Int} (hl : Dig b l) (hm : Dig b m) (hc : Can m) (h : l.length < m.length) : val b l < val b m := by
  have h1 := val_lt (b := b) (by omega) hl
  have h2 := pow_le_val (b := b) (by omega) hm hc (by intro h0; simp [h0] at h)
  have h3 : b ^ l.length ≤ b ^ (m.length - 1) := pow_mono (by omega) (by omega)
  omega

theorem length_le_of_val {b : Int} (hb : 1 < b) {l : List Int} {n : Nat} (hl : Dig b l) (hc : Can l) (h : val b l < b ^ n) : l.length ≤ n := by
  rcases Nat.lt_or_ge n l.length with h1 | h1
  · have h2 := pow_le_val (b := b) (by omega) hl hc (by intro h0; simp [h0] at h1)
    have h3 : b ^ n ≤ b ^ (l.length - 1) := pow_mono (by omega) (by omega)
    omega
  · exact h1

theorem toD_length_le {b n k : Nat} (hb : 2 ≤ b) (h : n < b ^ k) : (toD b n).length ≤ k := by
  refine length_le_of_val (b := (b : Int)) (by omega) (toD_dig b hb n) (toD_can b hb n) ?_
  rw [val_toD b hb, ← Int.natCast_pow]
  exact Int.ofNat_lt.2 h

theorem toD_eq_nil {b n : Nat} (hb : 2 ≤ b) : toD b n = [] ↔ n = 0 := by
  constructor
  · intro h
    rcases Nat.eq_zero_or_pos n with h0 | h0
    · exact h0
    · exact absurd h (toD_ne_nil hb h0)
  · rintro rfl; exact toD_zero b

/-! ### zeros at the end -/
def trim : List Int → List Int
  | [] => []
  | x :: xs => match trim xs with
    | [] => if x = 0 then [] else [x]
    | y :: ys => x :: y :: ys

theorem trim_can : ∀ l : List Int, Can (trim l)
  | [] => by simp [trim, Can]
  | x :: xs => by
    have ih := trim_can xs
    unfold trim
    split
    · split
      · simp [Can]
      · intro _; simpa using ‹¬ x = 0›
    · rename_i y ys h
      rw [h] at ih
      intro h1
      rw [List.getLast_cons (by simp)]
      exact ih (by simp)

theorem trim_dig {b : Int} : ∀ {l : List Int}, Dig b l → Dig b (trim l)
  | [], _ => Dig.nil b
  | x :: xs, h => by
    have ih := trim_dig h.tail
    unfold trim
    split
    · split
      · exact Dig.nil b
      · exact Dig.cons h.head.1 h.head.2 (Dig.nil b)
    · rename_i y ys e
      rw [e] at ih
      exact Dig.cons h.head.1 h.head.2 ih

theorem val_trim (b : Int) : ∀ l : List Int, val b (trim l) = val b l
  | [] => rfl
  | x :: xs => by
    have ih := val_trim b xs
    unfold trim
    split
    · rename_i e
      rw [e] at ih
      simp at ih
      split
      · simp [← ih]; omega
      · simp [← ih]
    · rename_i y ys e
      rw [e] at ih
      rw [val_cons, ih, val_cons]

theorem trim_eq_toD {b : Nat} (hb : 2 ≤ b) {l : List Int} (h : Dig b l) : trim l = toD b (val b l).toNat := by
  have := eq_toD hb (trim_dig h) (trim_can l)
  rwa [val_trim] at this

theorem trim_of_can : ∀ {l : List Int}, Can l → trim l = l
  | [], _ => rfl
  | x :: xs, h => by
    have ih := trim_of_can h.tail
    unfold trim
    rw [ih]
    cases xs with
    | nil =>
      have := h (by simp)
      simp at this
      simp [this]
    | cons y ys => rfl

theorem trim_snoc_zero : ∀ l : List Int, trim (l ++ [0]) = trim l
  | [] => by simp [trim]
  | x :: xs => by
    have ih := trim_snoc_zero xs
    show (match trim (xs ++ [0]) with | [] => if x = 0 then [] else [x] | y :: ys => x :: y :: ys) = _
    rw [ih]
    rfl

theorem trim_length_le : ∀ l : List Int, (trim l).length ≤ l.length
  | [] => by simp [trim]
  | x :: xs => by
    have ih := trim_length_le xs
    unfold trim
    split
    · split <;> simp
    · rename_i y ys e
      rw [e] at ih
      simp at ih ⊢
      omega

/-! ### comparing from the top -/
theorem val_take_drop (b : Int) (l : List Int) (n : Nat) (hn : n ≤ l.length) : val b l = val b (l.take n) + b ^ n * val b (l.drop n) := by
  have h := val_append b (l.take n) (l.drop n)
  rw [List.take_append_drop, List.length_take_of_le hn] at h
  exact h

theorem getD_eq {l : List Int} {i : Nat} (h : i < l.length) : l.getD i 0 = l[i] := by
  rw [List.getD_eq_getElem?_getD, List.getElem?_eq_getElem h]; rfl

theorem drop_cons_getD {l : List Int} {i : Nat} (h : i < l.length) : l.drop i = l.getD i 0 :: l.drop (i + 1) := by
  rw [getD_eq h, List.drop_eq_getElem_cons h]

theorem val_drop_succ (b : Int) {l : List Int} {i : Nat} (h : i < l.length) : val b (l.drop i) = l.getD i 0 + b * val b (l.drop (i + 1)) := by
  rw [drop_cons_getD h, val_cons]

theorem lt_of_top {b : Int} (hb : 0 < b) {l m : List Int} (hl : Dig b l) (hm : Dig b m) {i : Nat} (hi : i < l.length) (hi' : i < m.length)
    (heq : l.drop (i + 1) = m.drop (i + 1)) (hlt : l.getD i 0 < m.getD i 0) : val b l < val b m := by
  rw [val_take_drop b l i (by omega), val_take_drop b m i (by omega), val_drop_succ b hi, val_drop_succ b hi', heq]
  have h1 := val_lt hb (hl.take i)
  have h2 := val_nonneg (b := b) (by omega) (hm.take i)
  rw [List.length_take_of_le (by omega)] at h1
  have h3 : b ^ i * (l.getD i 0 + b * val b (m.drop (i + 1)) + 1) ≤ b ^ i * (m.getD i 0 + b * val b (m.drop (i + 1))) :=
    Int.mul_le_mul_of_nonneg_left (by omega) (Int.le_of_lt (pow_pos hb i))
  rw [Int.mul_add _ _ 1, Int.mul_one] at h3
  omega

theorem val_take_succ (b : Int) {l : List Int} {i : Nat} (h : i < l.length) : val b (l.take (i + 1)) = val b (l.take i) + b ^ i * l.getD i 0 := by
  have e : l.take (i + 1) = l.take i ++ [l.getD i 0] := by
    rw [List.take_succ_eq_append_getElem h, getD_eq h]
  rw [e, val_snoc, List.length_take_of_le (by omega)]

theorem val_take_all (b : Int) {l : List Int} {i : Nat} (h : l.length ≤ i) : val b (l.take i) = val b l := by
  rw [List.take_of_length_le h]

theorem getD_nil_of_le {l : List Int} {i : Nat} (h : l.length ≤ i) : l.getD i 0 = 0 := by
  rw [List.getD_eq_getElem?_getD, List.getElem?_eq_none h]; rfl

/-- the same with no bound on i -/
theorem val_take_succ' (b : Int) (l : List Int) (i : Nat) : val b (l.take (i + 1)) = val b (l.take i) + b ^ i * l.getD i 0 := by
  rcases Nat.lt_or_ge i l.length with h | h
  · exact val_take_succ b h
  · rw [val_take_all b (by omega), val_take_all b h, getD_nil_of_le h]; simp

theorem val_set (b : Int) : ∀ (l : List Int) (i : Nat) (v : Int), i < l.length → val b (l.set i v) = val b l + b ^ i * (v - l.getD i 0)
  | [], i, v, h => by simp at h
  | x :: xs, 0, v, _ => by simp; omega
  | x :: xs, i + 1, v, h => by
    have ih := val_set b xs i v (by simpa using h)
    simp only [List.set_cons_succ, val_cons, ih]
    rw [Int.mul_add, Int.pow_succ, Int.mul_comm (b ^ i) b, Int.mul_assoc]
    simp
    omega

theorem Dig.set {b : Int} {l : List Int} (h : Dig b l) (i : Nat) {v : Int} (h0 : 0 ≤ v) (h1 : v < b) : Dig b (l.set i v) := by
  intro y hy
  rcases List.mem_or_eq_of_mem_set hy with hy | rfl
  · exact h y hy
  · exact ⟨h0, h1⟩

theorem getD_set {l : List Int} {i j : Nat} {v : Int} (h : i < l.length) : (l.set i v).getD j 0 = if j = i then v else l.getD j 0 := by
  simp only [List.getD_eq_getElem?_getD, List.getElem?_set]
  split
  · rename_i h1; subst h1; simp
  · rename_i h1; rw [if_neg (fun e => h1 e.symm)]

theorem dig_replicate_zero {b : Int} (hb : 0 < b) (n : Nat) : Dig b (List.replicate n 0) := by
  intro y hy
  have := List.eq_of_mem_replicate hy
  subst this
  exact ⟨Int.le_refl 0, hb⟩

end Dg

/- Words for the walks: slices that are read, rows of the call's own. -/
namespace Go.Proofs.YtdcjibjldfjllaaGreat
open Go.RowKit

/-- An element of a list (not opened by simp). -/
def rd (xs : List Int) (i : Nat) : Int := xs.getD i 0

/-- The world is the old one, some orders having been drawn. -/
def Drew (w w' : World) : Prop := ∃ q, w' = w.drewN q
theorem Drew.refl (w : World) : Drew w w := ⟨0, rfl⟩
theorem Drew.step {w w' : World} (h : Drew w w') (n : Nat) : Drew w (w'.drewN n) := by
  obtain ⟨m, rfl⟩ := h
  exact ⟨m + n, World.drewN_drewN ..⟩
theorem Drew.trans {w w1 w2 : World} (h : Drew w w1) (k : Drew w1 w2) : Drew w w2 := by
  obtain ⟨m, rfl⟩ := h
  obtain ⟨n, rfl⟩ := k
  exact ⟨m + n, World.drewN_drewN ..⟩

/-- All that was there is as it was. -/
def Past (w w' : World) : Prop := Below w.heap.size w w'
theorem Past.refl (w : World) : Past w w := Below.refl _ _
theorem Past.trans {w w1 w2 : World} (h : Past w w1) (k : Past w1 w2) : Past w w2 :=
  Below.trans h (Below.mono k h.size)
theorem Past.alloc {w w1 : World} (h : Past w w1) (o : Obj) : Past w (w1.alloc o) := Below.alloc h h.size o
theorem Past.drewN {w w1 : World} (h : Past w w1) (n : Nat) : Past w (w1.drewN n) := ⟨h.os, h.tape, h.output, h.size, h.block⟩
theorem Past.drew {w w1 : World} (h : Past w w1) : Past w w1.drew := ⟨h.os, h.tape, h.output, h.size, h.block⟩
theorem Drew.past {w w' : World} (h : Drew w w') : Past w w' := by
  obtain ⟨n, rfl⟩ := h
  exact (Past.refl w).drewN n
theorem Past.setCell {w w1 : World} (h : Past w w1) {p : Addr} (hp : w.heap.size ≤ p.block) (u : Value) : Past w (w1.setCell p u) := Below.setCell h hp u
theorem Past.cell {w w1 : World} (h : Past w w1) {a : Addr} {v : Value} (hc : w.cell? a = some v) : w1.cell? a = some v :=
  (Below.cell h (World.block_lt_of_cell? w a hc)).trans hc
/-- Two rules for the walk: old cells and old marks read as before. -/
theorem Past.rules {W w1 : World} (hb : Past W w1) : (∀ b o, b < W.heap.size → w1.cell? ⟨b, o, none⟩ = W.cell? ⟨b, o, none⟩) ∧ (∀ b o, b < W.heap.size → w1.frozen? ⟨b, o, none⟩ = W.frozen? ⟨b, o, none⟩) :=
  ⟨fun b o h => Below.cell hb (p := ⟨b, o, none⟩) h, fun b o h => Below.frozen hb (p := ⟨b, o, none⟩) h⟩
/-- A cell that may be written. -/
theorem Past.free {w w1 : World} (h : Past w w1) {a : Addr} {v : Value} (hc : w.cell? a = some v) (hf : w.frozen? a = false) : w1.cell? a = some v ∧ w1.frozen? a = false :=
  ⟨h.cell hc, (Below.frozen h (World.block_lt_of_cell? w a hc)).trans hf⟩
theorem Past.size {w w1 : World} (h : Past w w1) : w.heap.size ≤ w1.heap.size := Below.size h
theorem Past.grown {w w1 w2 : World} {row : Option Nat} (h : Past w w1) (hg : w1.grownBy w2 row) (hr : ∀ k, row = some k → w.heap.size ≤ k) : Past w w2 := Below.grown h hg h.size hr
theorem Past.own {w w1 : World} (h : Past w w1) {base : Nat} {e : TypeId} {size n : Nat} {v : Value} {xs : List Value} (ho : w.ownsRow base e size v n xs) : w1.ownsRow base e size v n xs :=
  ho.kept (row := none) ⟨h.os, h.tape, h.output, h.size, fun i hi _ => h.block i hi⟩ (by cases v.ownBlock <;> simp)

/-- A slice of whole numbers that is read. -/
def RInts (w : World) (k : IntKind) (A : Option Addr) (n c : Nat) (xs : List Int) : Prop :=
  xs.length = n ∧ n ≤ c ∧ c ≤ 9223372036854775807 ∧ (0 < n → ∃ b off, A = some ⟨b, off, none⟩ ∧ ∀ j, j < n → w.cell? ⟨b, off + j, none⟩ = some (.int k (rd xs j)))

theorem RInts.len {w : World} {k : IntKind} {A : Option Addr} {n c : Nat} {xs : List Int} (h : RInts w k A n c xs) : xs.length = n := h.1
theorem RInts.cap {w : World} {k : IntKind} {A : Option Addr} {n c : Nat} {xs : List Int} (h : RInts w k A n c xs) : n ≤ c := h.2.1
theorem RInts.big {w : World} {k : IntKind} {A : Option Addr} {n c : Nat} {xs : List Int} (h : RInts w k A n c xs) : c ≤ 9223372036854775807 := h.2.2.1
theorem RInts.at_ {w : World} {k : IntKind} {A : Option Addr} {n c : Nat} {xs : List Int} (h : RInts w k A n c xs) (hn : 0 < n) :
    ∃ b off, A = some ⟨b, off, none⟩ ∧ ∀ j, j < n → w.cell? ⟨b, off + j, none⟩ = some (.int k (rd xs j)) := h.2.2.2 hn
theorem RInts.past {w w1 : World} {k : IntKind} {A : Option Addr} {n c : Nat} {xs : List Int} (h : RInts w k A n c xs) (hp : Past w w1) : RInts w1 k A n c xs :=
  ⟨h.1, h.2.1, h.2.2.1, fun hn => by
    obtain ⟨b, off, e, hc⟩ := h.2.2.2 hn
    exact ⟨b, off, e, fun j hj => hp.cell (hc j hj)⟩⟩
/-- A store into a cell that holds no such number. -/
theorem RInts.setCell {w : World} {k : IntKind} {A : Option Addr} {n c : Nat} {xs : List Int} (h : RInts w k A n c xs) {a : Addr} (hne : ∀ x, w.cell? a ≠ some (.int k x)) (v : Value) : RInts (w.setCell a v) k A n c xs :=
  ⟨h.1, h.2.1, h.2.2.1, fun hn => by
    obtain ⟨b, off, e, hc⟩ := h.2.2.2 hn
    exact ⟨b, off, e, fun j hj => by
      rw [World.cell?_setCell_other]
      · exact hc j hj
      · rintro rfl; exact hne _ (hc j hj)⟩⟩
theorem RInts.nil (w : World) (k : IntKind) (A : Option Addr) (c : Nat) (hc : c ≤ 9223372036854775807) : RInts w k A 0 c [] :=
  ⟨rfl, Nat.zero_le _, hc, fun h => absurd h (by omega)⟩

theorem rd_take {xs : List Int} {m j : Nat} (h : j < m) : rd (xs.take m) j = rd xs j := by
  unfold rd
  simp [List.getD_eq_getElem?_getD, List.getElem?_take, h]
theorem rd_drop (xs : List Int) (m j : Nat) : rd (xs.drop m) j = rd xs (m + j) := by
  unfold rd
  simp [List.getD_eq_getElem?_getD, List.getElem?_drop]
/-- The first elements. -/
theorem RInts.take {w : World} {k : IntKind} {A : Option Addr} {n c : Nat} {xs : List Int} (h : RInts w k A n c xs) (m : Nat) (hm : m ≤ n) : RInts w k A m c (xs.take m) :=
  ⟨by rw [List.length_take, h.1]; omega, by have := h.2.1; omega, h.2.2.1, fun hn => by
    obtain ⟨b, off, e, hc⟩ := h.2.2.2 (by omega)
    exact ⟨b, off, e, fun j hj => by rw [rd_take hj]; exact hc j (by omega)⟩⟩

theorem add_plain (g j : Nat) : (⟨g, 0, none⟩ : Addr).add j = ⟨g, j, none⟩ := by unfold Addr.add; split <;> simp_all

/-- A row of the call's own is read. -/
theorem RInts.of_own {w : World} {base n : Nat} {e : TypeId} {k : IntKind} {v : Value} {xs : List Int} (h : w.ownsRow base e 1 v n (xs.map (Value.int k))) :
    ∃ A c, v = .slice A n c ∧ RInts w k A n c xs := by
  have hl : xs.length = n := by have := h.1; simp at this; exact this
  rcases h.2 with ⟨rfl, h0⟩ | ⟨g, cap, cur, rfl, _, _, h1, h2, _, _⟩
  · subst h0
    exact ⟨none, 0, rfl, hl, by omega, by omega, fun hp => absurd hp (by omega)⟩
  · refine ⟨_, cap, rfl, hl, h1, by unfold maxLen at h2; omega, fun hp => ⟨g, 0, rfl, fun j hj => ?_⟩⟩
    have h3 := h.cells (g := g) rfl j (.int k (rd xs j)) ?_
    · rw [add_plain] at h3; simpa using h3
    · simp [rd, List.getElem?_eq_getElem (show j < xs.length by omega), List.getD_eq_getElem?_getD]

/-! ### rows of the call's own -/
/-- v is nil, or a row that was made since w0, and holds the numbers xs. -/
def Own (w0 w : World) (e : TypeId) (k : IntKind) (v : Value) (xs : List Int) : Prop :=
  w.ownsRow w0.heap.size e 1 v xs.length (xs.map (Value.int k)) ∧ Past w0 w

theorem Own.nil {w0 w : World} (h : Past w0 w) (e : TypeId) (k : IntKind) : Own w0 w e k (.slice none 0 0) [] := ⟨World.ownsRow_nil _ _ _ _, h⟩
theorem Own.alloc {w0 w : World} {e : TypeId} {k : IntKind} {v : Value} {xs : List Int} (h : Own w0 w e k v xs) (o : Obj) : Own w0 (w.alloc o) e k v xs := ⟨h.1.alloc o, h.2.alloc o⟩
theorem Own.past {w0 w w1 : World} {e : TypeId} {k : IntKind} {v : Value} {xs : List Int} (h : Own w0 w e k v xs) (hp : Past w w1) : Own w0 w1 e k v xs := ⟨hp.own h.1, h.2.trans hp⟩
theorem Own.drew {w0 w : World} {e : TypeId} {k : IntKind} {v : Value} {xs : List Int} (h : Own w0 w e k v xs) : Own w0 w.drew e k v xs := h.past (Past.refl w).drew
theorem Own.drewN {w0 w : World} {e : TypeId} {k : IntKind} {v : Value} {xs : List Int} (h : Own w0 w e k v xs) (n : Nat) : Own w0 (w.drewN n) e k v xs := h.past ((Past.refl w).drewN n)
theorem Own.reads {w0 w : World} {e : TypeId} {k : IntKind} {v : Value} {xs : List Int} (h : Own w0 w e k v xs) : ∃ A c, v = .slice A xs.length c ∧ RInts w k A xs.length c xs := RInts.of_own h.1
/-- An own row that is not empty: its block, its cells, that they may be written. -/
theorem Own.form {w0 w : World} {e : TypeId} {k : IntKind} {v : Value} {xs : List Int} (h : Own w0 w e k v xs) (hn : 0 < xs.length) :
    ∃ g c, v = .slice (some ⟨g, 0, none⟩) xs.length c ∧ xs.length ≤ c ∧ c ≤ 9223372036854775807 ∧ w0.heap.size ≤ g ∧ g < w.heap.size ∧ (∀ j, j < xs.length → w.cell? ⟨g, j, none⟩ = some (.int k (rd xs j))) ∧ (∀ j, w.frozen? ⟨g, j, none⟩ = false) := by
  rcases h.1.2 with ⟨_, h0⟩ | ⟨g, cap, cur, rfl, hb, hh, h1, h2, _, _⟩
  · omega
  · refine ⟨g, cap, rfl, h1, by unfold maxLen at h2; omega, hb, (Array.getElem?_eq_some_iff.1 hh).1, fun j hj => ?_, fun j => h.1.frozenAt j⟩
    rw [h.1.cellAt j (by omega)]
    simp [rd, List.getElem?_eq_getElem hj, List.getD_eq_getElem?_getD]
theorem Own.at_ {w0 w : World} {e : TypeId} {k : IntKind} {g n c : Nat} {xs : List Int} (h : Own w0 w e k (.slice (some ⟨g, 0, none⟩) n c) xs) (j : Nat) (hj : j < xs.length) :
    w.cell? ⟨g, j, none⟩ = some (.int k (rd xs j)) ∧ w.frozen? ⟨g, j, none⟩ = false := by
  obtain ⟨g', c', hgc, _, _, _, _, hc, hf⟩ := h.form (by omega)
  simp only [Value.slice.injEq, Option.some.injEq, Addr.mk.injEq, and_true, true_and] at hgc
  obtain ⟨rfl, _, _⟩ := hgc
  exact ⟨hc j hj, hf j⟩
theorem Own.set {w0 w : World} {e : TypeId} {k : IntKind} {g n c : Nat} {xs : List Int} (h : Own w0 w e k (.slice (some ⟨g, 0, none⟩) n c) xs) {j : Nat} (hj : j < xs.length) (u : Int) :
    Own w0 (w.setCell ⟨g, j, none⟩ (.int k u)) e k (.slice (some ⟨g, 0, none⟩) n c) (xs.set j u) := by
  have hn : n = xs.length := by
    rcases h.1.2 with ⟨h0, _⟩ | ⟨g', cap', cur, h0, _⟩
    · cases h0
    · injection h0
  subst hn
  have hb : w0.heap.size ≤ g := (h.1.lt g rfl).1
  refine ⟨?_, h.2.setCell hb _⟩
  have h1 := (h.1.stored j (.int k u)).1
  rw [List.length_set, List.map_set]
  exact h1

theorem cell_new1 (w : World) (v : Value) (t : TypeId) : (w.alloc (.cells #[v] t)).cell? ⟨w.heap.size, 0, none⟩ = some v := by
  rw [World.cell?_alloc_at _ _ _ _ rfl]; rfl

theorem RInts.one (w : World) (k : IntKind) (r : Int) (t : TypeId) : RInts (w.alloc (.cells #[.int k r] t)) k (some ⟨w.heap.size, 0, none⟩) 1 1 [r] :=
  ⟨rfl, Nat.le_refl _, by omega, fun _ => ⟨_, _, rfl, fun j hj => by
    obtain rfl : j = 0 := by omega
    rw [World.cell?_alloc_at _ _ _ _ rfl]; rfl⟩⟩

/-- What the program's table says of a slice type of whole numbers. -/
structure ElT (P : Program) (t e : TypeId) : Prop where
  t : P.underlying t = some (.slice e)
  i : ∃ i z, P.info? e = some i ∧ i.zero = some z ∧ i.size = 1 ∧ i.bytes ≤ 16 ∧ z.cells.size = 1

/-- 'append(out, y)'. -/
theorem wpList_app {P : Program} {w : World} {ops : Array Oper} {rest : List Oper} {o : Oper} {a : Act} {Q : Exit → Act → World → Prop} {w0 : World} {k : IntKind} {xs : List Int} {e : TypeId} {s x : Operand} {t : TypeId} (he : ElT P t e) {v : Value}
    (hown : Own w0 w e k v xs) (hgd : o.guard = none)
    (ho : o.op = .call { callee := .builtin .append, args := #[s, x], argTypes := #[t, t] })
    (hs : a.eval s = v) (ad : Addr) (c : Nat) (y : Int) (hx : a.eval x = .slice (some ad) 1 c) (hc : w.cell? ad = some (.int k y)) (hlen : xs.length < 1099511627776)
    (h : ∀ v' w', Own w0 w' e k v' (xs ++ [y]) → Past w0 w' → wpList P ops Q rest (a.put o.dst v') w') : wpList P ops Q (o :: rest) a w := by
  obtain ⟨i, z, hi, hz, hsize, hby, hzs⟩ := he.i
  have hb : (xs.length + 1) * i.bytes ≤ 140737488355328 :=
    Nat.le_trans (Nat.mul_le_mul_left _ hby) (by omega)
  refine wpList_append_own (P := P) w hgd s x t ho w0.heap.size e i z 1 i.bytes he.t hi hz hsize rfl hzs (by omega) v xs.length _ hs hown.1 ad 1 c [.int k y] hx rfl ?_ ?_ (by unfold maxLen; omega) hb hown.2.size ?_
  · intro j u hj
    match j, hj with
    | 0, hj =>
      simp at hj
      subst hj
      have : ad.add 0 = ad := by unfold Addr.add; simp
      rw [this]; exact hc
    | j + 1, hj => simp at hj
  · intro u hu
    simp at hu
    subst hu
    rfl
  · intro v' w' h1 h2 _
    have hp : Past w0 w' := hown.2.grown h2 (fun k hk => (hown.1.lt k hk).1)
    refine h v' w' ⟨?_, hp⟩ hp
    simpa using h1

/-- 'make([]T, 0, n)'. -/
theorem wpList_mk0 {P : Program} {w : World} {ops : Array Oper} {rest : List Oper} {o : Oper} {a : Act} {Q : Exit → Act → World → Prop} {w0 : World} {k : IntKind} {e : TypeId} {t : TypeId} (he : ElT P t e) {l c : Operand}
    (hp : Past w0 w) (hg : o.guard = none) (hop : o.op = Op.makeSlice t l c) (kl kc : IntKind) (n : Nat) (C : Int) (hl : a.eval l = .int kl 0) (hc : a.eval c = .int kc C) (hC : C = (n : Int)) (hn : n < 1099511627776)
    (hK : ∀ v' w', Own w0 w' e k v' [] → Past w0 w' → wpList P ops Q rest (a.put o.dst v') w') : wpList P ops Q (o :: rest) a w := by
  obtain ⟨i, z, hi, hz, hsize, hby, hzs⟩ := he.i
  have hb : i.bytes * n ≤ 281474976710656 := Nat.le_trans (Nat.mul_le_mul_right _ hby) (by omega)
  refine wpList_make_own (P := P) w hg l c t hop w0.heap.size e i z 1 he.t hi hz hsize kl kc C n hl hc hC hb (by unfold maxLen; omega) hp.size ?_
  intro w' h1 h2
  have hp' : Past w0 w' := hp.grown h2 (fun k hk => by cases hk)
  exact hK _ w' ⟨h1, hp'⟩ hp'

/-- 'make([]T, n)', the zero value being a number. -/
theorem wpList_mkn {P : Program} {w : World} {ops : Array Oper} {rest : List Oper} {o : Oper} {a : Act} {Q : Exit → Act → World → Prop} {w0 : World} {k : IntKind} {e : TypeId} {t : TypeId} (ht : P.underlying t = some (.slice e)) {i : TypeInfo} (hi : P.info? e = some i) (hz : i.zero = some (.int k 0)) (hsize : i.size = 1) (hby : i.bytes ≤ 16) {l c : Operand}
    (hp : Past w0 w) (hg : o.guard = none) (hop : o.op = Op.makeSlice t l c) (kl kc : IntKind) (n : Nat) (L C : Int) (hl : a.eval l = .int kl L) (hc : a.eval c = .int kc C) (hL : L = (n : Int)) (hC : C = (n : Int)) (hn : n < 1099511627776)
    (hK : ∀ g w', Own w0 w' e k (.slice (some ⟨g, 0, none⟩) n n) (List.replicate n 0) → Past w0 w' → w.heap.size ≤ g → Past w w' → wpList P ops Q rest (a.put o.dst (.slice (some ⟨g, 0, none⟩) n n)) w') : wpList P ops Q (o :: rest) a w := by
  have hb : i.bytes * n ≤ 281474976710656 := Nat.le_trans (Nat.mul_le_mul_right _ hby) (by omega)
  refine wpList_make_full (P := P) w hg l c t hop w0.heap.size e i (.int k 0) 1 ht hi hz hsize kl kc L C n hl hc hL hC hb (by unfold maxLen; omega) hp.size ?_
  intro w' h1 h2
  have hp' : Past w0 w' := hp.grown h2 (fun k hk => by cases hk)
  have h3 : (madeCells (Value.int k 0).cells (n * 1)).toList = List.replicate n (Value.int k 0) := by
    rw [Nat.mul_one]; exact toList_madeCells_one (Value.int k 0) n
  rw [h3] at h1
  exact hK _ w' ⟨by simpa using h1, hp'⟩ hp' (Nat.le_refl _) (Past.grown (Past.refl w) h2 (fun k hk => by cases hk))

/-- Cells that are held, over what leaves the old cells as they are. -/
theorem keep2 {w w1 : World} {a0 a1 : Addr} {v0 v1 : Value} (hp : Past w w1) (h : w.cell? a0 = some v0 ∧ w.cell? a1 = some v1) : w1.cell? a0 = some v0 ∧ w1.cell? a1 = some v1 :=
  ⟨hp.cell h.1, hp.cell h.2⟩
theorem keep3 {w w1 : World} {a0 a1 a2 : Addr} {v0 v1 v2 : Value} (hp : Past w w1) (h : w.cell? a0 = some v0 ∧ w.cell? a1 = some v1 ∧ w.cell? a2 = some v2) : w1.cell? a0 = some v0 ∧ w1.cell? a1 = some v1 ∧ w1.cell? a2 = some v2 :=
  ⟨hp.cell h.1, keep2 hp h.2⟩
theorem keep4 {w w1 : World} {a0 a1 a2 a3 : Addr} {v0 v1 v2 v3 : Value} (hp : Past w w1) (h : w.cell? a0 = some v0 ∧ w.cell? a1 = some v1 ∧ w.cell? a2 = some v2 ∧ w.cell? a3 = some v3) : w1.cell? a0 = some v0 ∧ w1.cell? a1 = some v1 ∧ w1.cell? a2 = some v2 ∧ w1.cell? a3 = some v3 :=
  ⟨hp.cell h.1, keep3 hp h.2⟩

/-- Cells that are held, over a store of two cells into another block. -/
theorem set2_cell {w : World} {b : Nat} {u0 u1 : Value} {a : Addr} {v : Value} (n : a.block ≠ b) (h : w.cell? a = some v) : ((w.setCell ⟨b, 0, none⟩ u0).setCell ⟨b, 1, none⟩ u1).cell? a = some v := by
  rw [World.cell?_setCell_other _ _ _ _ (by rintro rfl; exact n rfl), World.cell?_setCell_other _ _ _ _ (by rintro rfl; exact n rfl)]
  exact h
theorem keepst2 {w : World} {b : Nat} {u0 u1 : Value} {a0 a1 : Addr} {v0 v1 : Value} (n0 : a0.block ≠ b) (n1 : a1.block ≠ b) (h : w.cell? a0 = some v0 ∧ w.cell? a1 = some v1) :
    ((w.setCell ⟨b, 0, none⟩ u0).setCell ⟨b, 1, none⟩ u1).cell? a0 = some v0 ∧ ((w.setCell ⟨b, 0, none⟩ u0).setCell ⟨b, 1, none⟩ u1).cell? a1 = some v1 := ⟨set2_cell n0 h.1, set2_cell n1 h.2⟩
theorem keepst4 {w : World} {b : Nat} {u0 u1 : Value} {a0 a1 a2 a3 : Addr} {v0 v1 v2 v3 : Value} (n0 : a0.block ≠ b) (n1 : a1.block ≠ b) (n2 : a2.block ≠ b) (n3 : a3.block ≠ b) (h : w.cell? a0 = some v0 ∧ w.cell? a1 = some v1 ∧ w.cell? a2 = some v2 ∧ w.cell? a3 = some v3) :
    ((w.setCell ⟨b, 0, none⟩ u0).setCell ⟨b, 1, none⟩ u1).cell? a0 = some v0 ∧ ((w.setCell ⟨b, 0, none⟩ u0).setCell ⟨b, 1, none⟩ u1).cell? a1 = some v1 ∧ ((w.setCell ⟨b, 0, none⟩ u0).setCell ⟨b, 1, none⟩ u1).cell? a2 = some v2 ∧ ((w.setCell ⟨b, 0, none⟩ u0).setCell ⟨b, 1, none⟩ u1).cell? a3 = some v3 :=
  ⟨set2_cell n0 h.1, set2_cell n1 h.2.1, keepst2 n2 n3 h.2.2⟩

theorem ret_int {k : IntKind} {a b : Int} (h : a = b) : Ending.returned (.int k a) = .returned (.int k b) := by rw [h]
/-- -1, 0, 1 as x is less than, equal to, greater than y. -/
def cmpN (x y : Nat) : Int := if x < y then -1 else if y < x then 1 else 0
def cmpZ (x y : Int) : Int := if x < y then -1 else if y < x then 1 else 0

end Go.Proofs.YtdcjibjldfjllaaGreat

/- Texts as lists of byte values; decimal texts. -/
namespace Go.Proofs.YtdcjibjldfjllaaGreat
open Go.RowKit

/-- The text of byte values. -/
def txt (l : List Int) : ByteArray := ⟨(l.map fun x => UInt8.ofNat x.toNat).toArray⟩
def Byt (l : List Int) : Prop := ∀ x ∈ l, 0 ≤ x ∧ x < 256
/-- The byte values of a text. -/
def byt (s : ByteArray) : List Int := s.data.toList.map fun x => (x.toNat : Int)

theorem byt_length (s : ByteArray) : (byt s).length = s.size := by simp [byt]
theorem byt_byt (s : ByteArray) : Byt (byt s) := by
  intro x hx
  obtain ⟨b, _, rfl⟩ := List.mem_map.1 hx
  have := b.toNat_lt
  omega
theorem txt_byt (s : ByteArray) : txt (byt s) = s := by
  unfold txt byt
  rw [List.map_map]
  have : ((fun x : Int => UInt8.ofNat x.toNat) ∘ fun x : UInt8 => (x.toNat : Int)) = id := by
    funext b
    simp
  rw [this]
  simp
theorem byt_txt {l : List Int} (h : Byt l) : byt (txt l) = l := by
  unfold txt byt
  simp only [List.map_map]
  have : l.map ((fun x : UInt8 => (x.toNat : Int)) ∘ fun x : Int => UInt8.ofNat x.toNat) = l.map id := by
    refine List.map_congr_left fun x hx => ?_
    have h1 := h x hx
    simp only [Function.comp, id]
    have h2 : (UInt8.ofNat x.toNat).toNat = x.toNat := by
      simp [UInt8.toNat_ofNat']
      omega
    omega
  rw [this, List.map_id]
theorem byt_inj {s t : ByteArray} (h : byt s = byt t) : s = t := by
  rw [← txt_byt s, ← txt_byt t, h]
theorem txt_size (l : List Int) : (txt l).size = l.length := by simp [txt, ByteArray.size]
theorem Byt.append {l m : List Int} (hl : Byt l) (hm : Byt m) : Byt (l ++ m) := by
  intro x hx
  rcases List.mem_append.1 hx with h | h
  · exact hl x h
  · exact hm x h
theorem txt_append (l m : List Int) : txt (l ++ m) = txt l ++ txt m := by
  apply ByteArray.ext
  simp [txt]
/-! ### decimal texts -/
def dgt (n : Nat) : List Int := Dg.toD 10 n
/-- The decimal text of an integer. -/
def dtx (z : Int) : List Int := if z = 0 then [48] else (if z < 0 then [45] else []) ++ ((dgt z.natAbs).map (48 + ·)).reverse

theorem dgt_dig (n : Nat) : Dg.Dig 10 (dgt n) := Dg.toD_dig 10 (by omega) n
theorem dgt_val (n : Nat) : Dg.val 10 (dgt n) = n := Dg.val_toD 10 (by omega) n
theorem dgt_nil (n : Nat) : dgt n = [] ↔ n = 0 := Dg.toD_eq_nil (by omega)

theorem dtx_byt (z : Int) : Byt (dtx z) := by
  unfold dtx
  split
  · intro x hx; simp at hx; omega
  · refine Byt.append ?_ ?_
    · split
      · intro x hx; simp at hx; omega
      · intro x hx; cases hx
    · intro x hx
      rw [List.mem_reverse] at hx
      obtain ⟨d, hd, rfl⟩ := List.mem_map.1 hx
      have := dgt_dig z.natAbs d hd
      omega

/-- 'string(b)' where the cells of b are byte values. -/
theorem run_bytes_back {P : Program} (w : World) (src dst e : TypeId) (b off cap : Nat) (xs : List Int) (hs : P.underlying src = some (.slice e)) (he : P.underlying e = some (.int .u8)) (hd : P.underlying dst = some .string)
    (hb : Byt xs) (hc : ∀ j, j < xs.length → w.cell? ⟨b, off + j, none⟩ = some (.int .u8 (rd xs j))) :
    (convert src dst (.slice (some ⟨b, off, none⟩) xs.length cap)).run P w = .ok (.string (txt xs)) w := by
  have h := run_convert_bytes_back (P := P) w src dst e ⟨b, off, none⟩ cap (xs.map fun x => UInt8.ofNat x.toNat) hs he hd (fun j hj => by
    have hj' : j < xs.length := by simpa using hj
    have e1 : (⟨b, off, none⟩ : Addr).add j = ⟨b, off + j, none⟩ := by
      unfold Addr.add
      split <;> simp_all
    rw [e1, hc j hj']
    have h1 := hb xs[j] (List.getElem_mem hj')
    have h2 : rd xs j = xs[j] := Dg.getD_eq hj'
    have h3 : (UInt8.ofNat xs[j].toNat).toNat = xs[j].toNat := by
      simp [UInt8.toNat_ofNat']
      omega
    rw [h2, List.getElem_map, h3]
    have h4 : ((xs[j].toNat : Nat) : Int) = xs[j] := by omega
    rw [h4])
  rw [List.length_map] at h
  exact h

/-- A shorter cut of an own row. -/
theorem Own.cut {w0 w : World} {e : TypeId} {k : IntKind} {g n c : Nat} {xs : List Int} (h : Own w0 w e k (.slice (some ⟨g, 0, none⟩) n c) xs) (m : Nat) (hm : m ≤ n) :
    Own w0 w e k (.slice (some ⟨g, 0, none⟩) m c) (xs.take m) := by
  rcases h.1.2 with ⟨h0, _⟩ | ⟨g', cap', cur, h0, hb, hh, h1, h2, h3, h4⟩
  · cases h0
  · simp only [Value.slice.injEq, Option.some.injEq, Addr.mk.injEq, and_true, true_and] at h0
    obtain ⟨rfl, rfl, rfl⟩ := h0
    have hl : (xs.take m).length = m := by rw [List.length_take]; omega
    refine ⟨⟨by simp, .inr ⟨g, c, cur, by rw [hl], hb, hh, by omega, h2, h3, ?_⟩⟩, h.2⟩
    rw [hl, List.map_take, ← h4, List.take_take]
    congr 1
    omega

end Go.Proofs.YtdcjibjldfjllaaGreat

/- Rows of elements of several cells. -/
namespace Go.Proofs.YtdcjibjldfjllaaGreat
open Go.RowKit

/-- How a value lies in cells. -/
structure Rep (α : Type) where
  enc : α → List Value
  sz : Nat
  len : ∀ x, (enc x).length = sz
  one : ∀ x, ∀ u ∈ enc x, u.oneCell' = true
  pos : 0 < sz

theorem flat_at {α : Type} (R : Rep α) : ∀ (xs : List α) (j : Nat) (h : j < xs.length) (i : Nat), i < R.sz → (xs.flatMap R.enc)[j * R.sz + i]? = (R.enc xs[j])[i]?
  | x :: xs, 0, h, i, hi => by
    rw [List.flatMap_cons, List.getElem?_append_left (by rw [R.len]; omega)]
    simp
  | x :: xs, j + 1, h, i, hi => by
    rw [List.flatMap_cons, List.getElem?_append_right (by rw [R.len, Nat.succ_mul]; omega), R.len]
    have e : (j + 1) * R.sz + i - R.sz = j * R.sz + i := by rw [Nat.succ_mul]; omega
    rw [e, flat_at R xs j (by simpa using h) i hi]
    simp
/-- Elements that are read behind a slice. -/
def Rows {α : Type} (w : World) (R : Rep α) (A : Option Addr) (n c : Nat) (xs : List α) : Prop :=
  xs.length = n ∧ n ≤ c ∧ c ≤ 9223372036854775807 ∧ (0 < n → ∃ b off, A = some ⟨b, off, none⟩ ∧ ∀ j (h : j < xs.length) i u, (R.enc xs[j])[i]? = some u → w.cell? ⟨b, off + j * R.sz + i, none⟩ = some u)

theorem Rows.len {α : Type} {w : World} {R : Rep α} {A : Option Addr} {n c : Nat} {xs : List α} (h : Rows w R A n c xs) : xs.length = n := h.1
theorem Rows.cap {α : Type} {w : World} {R : Rep α} {A : Option Addr} {n c : Nat} {xs : List α} (h : Rows w R A n c xs) : n ≤ c := h.2.1
theorem Rows.big {α : Type} {w : World} {R : Rep α} {A : Option Addr} {n c : Nat} {xs : List α} (h : Rows w R A n c xs) : c ≤ 9223372036854775807 := h.2.2.1
theorem Rows.at_ {α : Type} {w : World} {R : Rep α} {A : Option Addr} {n c : Nat} {xs : List α} (h : Rows w R A n c xs) (hn : 0 < n) :
    ∃ b off, A = some ⟨b, off, none⟩ ∧ ∀ j (h : j < xs.length) i u, (R.enc xs[j])[i]? = some u → w.cell? ⟨b, off + j * R.sz + i, none⟩ = some u := h.2.2.2 hn
theorem Rows.past {α : Type} {w w1 : World} {R : Rep α} {A : Option Addr} {n c : Nat} {xs : List α} (h : Rows w R A n c xs) (hp : Past w w1) : Rows w1 R A n c xs :=
  ⟨h.1, h.2.1, h.2.2.1, fun hn => by
    obtain ⟨b, off, e, hc⟩ := h.2.2.2 hn
    exact ⟨b, off, e, fun j hj i u hu => hp.cell (hc j hj i u hu)⟩⟩
theorem Rows.nil {α : Type} (w : World) (R : Rep α) (A : Option Addr) (c : Nat) (hc : c ≤ 9223372036854775807) : Rows w R A 0 c [] :=
  ⟨rfl, Nat.zero_le _, hc, fun h => absurd h (by omega)⟩

/-- A row of the call's own. -/
def OwnS {α : Type} (w0 w : World) (R : Rep α) (e : TypeId) (v : Value) (xs : List α) : Prop :=
  w.ownsRow w0.heap.size e R.sz v xs.length (xs.flatMap R.enc) ∧ Past w0 w

section
variable {α : Type} {w0 w w1 : World} {R : Rep α} {e : TypeId} {v : Value} {xs : List α}
theorem OwnS.nil (h : Past w0 w) (R : Rep α) (e : TypeId) : OwnS w0 w R e (.slice none 0 0) [] := ⟨World.ownsRow_nil _ _ _ _, h⟩
theorem OwnS.alloc (h : OwnS w0 w R e v xs) (o : Obj) : OwnS w0 (w.alloc o) R e v xs := ⟨h.1.alloc o, h.2.alloc o⟩
theorem OwnS.past (h : OwnS w0 w R e v xs) (hp : Past w w1) : OwnS w0 w1 R e v xs := ⟨hp.own h.1, h.2.trans hp⟩
/-- An own row that is not empty. -/
theorem OwnS.form (h : OwnS w0 w R e v xs) (hn : 0 < xs.length) :
    ∃ g c, v = .slice (some ⟨g, 0, none⟩) xs.length c ∧ xs.length ≤ c ∧ c ≤ 9223372036854775807 ∧ w0.heap.size ≤ g ∧ g < w.heap.size ∧ (∀ j (h : j < xs.length) i u, (R.enc xs[j])[i]? = some u → w.cell? ⟨g, 0 + j * R.sz + i, none⟩ = some u) ∧ (∀ j, w.frozen? ⟨g, j, none⟩ = false) := by
  rcases h.1.2 with ⟨_, h0⟩ | ⟨g, cap, cur, rfl, hb, hh, h1, h2, _, _⟩
  · omega
  · refine ⟨g, cap, rfl, h1, by unfold maxLen at h2; omega, hb, (Array.getElem?_eq_some_iff.1 hh).1, fun j hj i u hu => ?_, fun j => h.1.frozenAt j⟩
    have hi : i < R.sz := by rw [← R.len xs[j]]; exact (List.getElem?_eq_some_iff.1 hu).1
    have hb : j * R.sz + i < xs.length * R.sz := Nat.lt_of_lt_of_le (show j * R.sz + i < (j + 1) * R.sz by rw [Nat.succ_mul]; omega) (Nat.mul_le_mul_right _ hj)
    rw [Nat.zero_add, h.1.cellAt _ hb, flat_at R xs j hj i hi]
    exact hu
theorem OwnS.reads (h : OwnS w0 w R e v xs) : ∃ A c, v = .slice A xs.length c ∧ Rows w R A xs.length c xs := by
  rcases h.1.2 with ⟨rfl, h0⟩ | ⟨g, cap, cur, rfl, hb, hh, h1, h2, _, _⟩
  · have : xs = [] := List.eq_nil_of_length_eq_zero h0
    subst this
    exact ⟨none, 0, rfl, Rows.nil _ _ _ _ (by omega)⟩
  · refine ⟨_, cap, rfl, rfl, h1, by unfold maxLen at h2; omega, fun hn => ?_⟩
    obtain ⟨g', c', hgc, _, _, _, _, hc, _⟩ := h.form hn
    simp only [Value.slice.injEq, Option.some.injEq, Addr.mk.injEq, and_true, true_and] at hgc
    obtain ⟨rfl, rfl⟩ := hgc
    exact ⟨g, 0, rfl, hc⟩
end

/-- What the program's table says of a slice type. -/
structure ElS (P : Program) {α : Type} (R : Rep α) (t e : TypeId) : Prop where
  t : P.underlying t = some (.slice e)
  i : ∃ i z, P.info? e = some i ∧ i.zero = some z ∧ i.size = R.sz ∧ i.bytes ≤ 128 ∧ z.cells.size = R.sz

/-- 'append(out, y)'. -/
theorem wpList_appS {P : Program} {w : World} {ops : Array Oper} {rest : List Oper} {o : Oper} {a : Act} {Q : Exit → Act → World → Prop} {w0 : World} {α : Type} {R : Rep α} {xs : List α} {e : TypeId} {s x : Operand} {t : TypeId} (he : ElS P R t e) {v : Value}
    (hown : OwnS w0 w R e v xs) (hgd : o.guard = none)
    (ho : o.op = .call { callee := .builtin .append, args := #[s, x], argTypes := #[t, t] })
    (hs : a.eval s = v) (ad : Addr) (c : Nat) (y : α) (hx : a.eval x = .slice (some ad) 1 c) (hc : ∀ i u, (R.enc y)[i]? = some u → w.cell? (ad.add i) = some u) (hlen : xs.length < 1000000000000)
    (h : ∀ v' w', OwnS w0 w' R e v' (xs ++ [y]) → Past w0 w' → wpList P ops Q rest (a.put o.dst v') w') : wpList P ops Q (o :: rest) a w := by
  obtain ⟨i, z, hi, hz, hsize, hby, hzs⟩ := he.i
  have hb : (xs.length + 1) * i.bytes ≤ 140737488355328 :=
    Nat.le_trans (Nat.mul_le_mul_left _ hby) (by omega)
  refine wpList_append_own (P := P) w hgd s x t ho w0.heap.size e i z R.sz i.bytes he.t hi hz hsize rfl hzs R.pos v xs.length _ hs hown.1 ad 1 c (R.enc y) hx (by rw [R.len, Nat.one_mul]) hc (R.one y) (by unfold maxLen; omega) hb hown.2.size ?_
  intro v' w' h1 h2 _
  have hp : Past w0 w' := hown.2.grown h2 (fun k hk => (hown.1.lt k hk).1)
  refine h v' w' ⟨?_, hp⟩ hp
  have e1 : (xs ++ [y]).length = xs.length + 1 := by simp
  have e2 : (xs ++ [y]).flatMap R.enc = xs.flatMap R.enc ++ R.enc y := by simp
  rw [e1, e2]
  exact h1

end Go.Proofs.YtdcjibjldfjllaaGreat

/- The order that an insertion sort makes. -/
namespace Go.Proofs.YtdcjibjldfjllaaGreat
section
variable {α : Type}
/-- Where an element goes that moves down from the end. -/
def slot (lt : α → α → Bool) (x : α) (l : List α) : Nat → Nat
  | 0 => 0
  | j + 1 => match l[j]? with
    | some y => if lt x y then slot lt x l j else j + 1
    | none => j + 1
def insR (lt : α → α → Bool) (x : α) (l : List α) : List α := l.take (slot lt x l l.length) ++ x :: l.drop (slot lt x l l.length)
/-- The order of an insertion sort. -/
def isort (lt : α → α → Bool) (l : List α) : List α := l.foldl (fun acc x => insR lt x acc) []

theorem slot_go {lt : α → α → Bool} {x : α} {l : List α} {j : Nat} (h : j < l.length) (hx : lt x l[j] = true) : slot lt x l (j + 1) = slot lt x l j := by
  rw [slot, List.getElem?_eq_getElem h]; simp [hx]
theorem slot_stop {lt : α → α → Bool} {x : α} {l : List α} {j : Nat} (h : j < l.length) (hx : lt x l[j] = false) : slot lt x l (j + 1) = j + 1 := by
  rw [slot, List.getElem?_eq_getElem h]; simp [hx]
theorem slot_le (lt : α → α → Bool) (x : α) (l : List α) : ∀ j, slot lt x l j ≤ j
  | 0 => Nat.le_refl _
  | j + 1 => by
    rw [slot]
    split
    · split
      · exact Nat.le_succ_of_le (slot_le lt x l j)
      · exact Nat.le_refl _
    · exact Nat.le_refl _
theorem slot_above (lt : α → α → Bool) (x : α) (l : List α) : ∀ j (k : Nat) (hk : k < l.length), slot lt x l j ≤ k → k < j → lt x l[k] = true
  | 0, k, _, _, h => absurd h (Nat.not_lt_zero _)
  | j + 1, k, hk, h, hj => by
    by_cases hjl : j < l.length
    · by_cases hx : lt x l[j] = true
      · rw [slot_go hjl hx] at h
        by_cases he : k = j
        · subst he; exact hx
        · exact slot_above lt x l j k hk h (by omega)
      · rw [slot_stop hjl (by simpa using hx)] at h
        omega
    · rw [slot, List.getElem?_eq_none (by omega)] at h
      simp at h; omega
theorem slot_below (lt : α → α → Bool) (x : α) (l : List α) : ∀ j, j ≤ l.length → slot lt x l j = 0 ∨ ∃ (h : slot lt x l j - 1 < l.length), 0 < slot lt x l j ∧ lt x l[slot lt x l j - 1] = false
  | 0, _ => Or.inl rfl
  | j + 1, hj => by
    have hjl : j < l.length := hj
    by_cases hx : lt x l[j] = true
    · rw [slot_go hjl hx]; exact slot_below lt x l j (by omega)
    · rw [slot_stop hjl (by simpa using hx)]
      exact Or.inr ⟨by simpa using hjl, by omega, by simpa using hx⟩
theorem insR_perm (lt : α → α → Bool) (x : α) (l : List α) : (insR lt x l).Perm (x :: l) := by
  unfold insR
  refine List.perm_middle.trans ?_
  rw [List.take_append_drop]
theorem foldl_perm (lt : α → α → Bool) : ∀ (l acc : List α), (l.foldl (fun acc x => insR lt x acc) acc).Perm (acc ++ l)
  | [], acc => by simp
  | x :: xs, acc => by
    rw [List.foldl_cons]
    refine (foldl_perm lt xs _).trans ?_
    refine ((insR_perm lt x acc).append_right xs).trans ?_
    exact List.perm_middle.symm
theorem isort_perm (lt : α → α → Bool) (l : List α) : (isort lt l).Perm l := by
  simpa [isort] using foldl_perm lt l []
theorem isort_length (lt : α → α → Bool) (l : List α) : (isort lt l).length = l.length := (isort_perm lt l).length_eq
theorem isort_snoc (lt : α → α → Bool) (l : List α) (x : α) : isort lt (l ++ [x]) = insR lt x (isort lt l) := by
  simp [isort]
/-- Nothing is less than what stands ahead of it. -/
def Asc (lt : α → α → Bool) (l : List α) : Prop := l.Pairwise (fun a b => lt b a = false)
theorem insR_ord {lt : α → α → Bool} (ht : ∀ a b c, lt b a = false → lt c b = false → lt c a = false) (hw : ∀ a b, lt a b = true → lt b a = false) {x : α} {l : List α} (h : Asc lt l) : Asc lt (insR lt x l) := by
  unfold insR Asc
  have hs := slot_le lt x l l.length
  rw [List.pairwise_append]
  refine ⟨h.sublist (List.take_sublist _ _), ?_, ?_⟩
  · rw [List.pairwise_cons]
    refine ⟨fun y hy => ?_, h.sublist (List.drop_sublist _ _)⟩
    obtain ⟨k, hk, rfl⟩ := List.getElem_of_mem hy
    rw [List.getElem_drop]
    rw [List.length_drop] at hk
    exact hw _ _ (slot_above lt x l l.length _ (by omega) (by omega) (by omega))
  · intro a ha b hb
    have hax : lt x a = false := by
      obtain ⟨k, hk, rfl⟩ := List.getElem_of_mem ha
      rw [List.length_take] at hk
      rw [List.getElem_take]
      rcases slot_below lt x l l.length (Nat.le_refl _) with h0 | ⟨h1, h2, h3⟩
      · omega
      · by_cases he : k = slot lt x l l.length - 1
        · simp only [he]; exact h3
        · exact ht _ _ _ (List.pairwise_iff_getElem.1 h k _ (by omega) h1 (by omega)) h3
    rcases List.mem_cons.1 hb with rfl | hb
    · exact hax
    · obtain ⟨k, hk, rfl⟩ := List.getElem_of_mem hb
      rw [List.getElem_drop]
      rw [List.length_drop] at hk
      have := hw _ _ (slot_above lt x l l.length _ (by omega) (Nat.le_add_right (slot lt x l l.length) k) (by omega))
      exact ht _ _ _ hax this
theorem isort_ord {lt : α → α → Bool} (ht : ∀ a b c, lt b a = false → lt c b = false → lt c a = false) (hw : ∀ a b, lt a b = true → lt b a = false) (l : List α) : Asc lt (isort lt l) := by
  suffices h : ∀ (l acc : List α), Asc lt acc → Asc lt (l.foldl (fun acc x => insR lt x acc) acc) from h l [] List.Pairwise.nil
  intro l
  induction l with
  | nil => intro acc h; exact h
  | cons x xs ih => intro acc h; exact ih _ (insR_ord ht hw h)
theorem insR_last {lt : α → α → Bool} {x : α} {l : List α} (h : ∀ y ∈ l, lt x y = false) : insR lt x l = l ++ [x] := by
  have e : slot lt x l l.length = l.length := by
    rcases Nat.lt_or_ge (slot lt x l l.length) l.length with h1 | h1
    · have := slot_above lt x l l.length _ h1 (Nat.le_refl _) h1
      rw [h _ (List.getElem_mem h1)] at this
      exact absurd this (by simp)
    · have := slot_le lt x l l.length; omega
  unfold insR
  rw [e, List.take_length, List.drop_length]
theorem isort_of_ord {lt : α → α → Bool} : ∀ {l : List α}, Asc lt l → isort lt l = l := by
  suffices h : ∀ (l acc : List α), Asc lt (acc ++ l) → l.foldl (fun acc x => insR lt x acc) acc = acc ++ l from fun {l} hl => by simpa [isort] using h l [] (by simpa using hl)
  intro l
  induction l with
  | nil => intro acc _; simp
  | cons x xs ih =>
    intro acc h
    rw [List.foldl_cons, insR_last (fun y hy => ?_)]
    · rw [ih _ (by simpa using h)]; simp
    · exact (List.pairwise_append.1 h).2.2 y hy x (by simp)
theorem slot_map {β : Type} {lt : α → α → Bool} {lt' : β → β → Bool} {f : β → α} (h : ∀ a b, lt (f a) (f b) = lt' a b) (x : β) (l : List β) : ∀ j, slot lt (f x) (l.map f) j = slot lt' x l j
  | 0 => rfl
  | j + 1 => by
    rw [slot, slot, List.getElem?_map]
    cases hj : l[j]? with
    | none => rfl
    | some y => simp only [Option.map_some, h, slot_map h x l j]
theorem insR_map {β : Type} {lt : α → α → Bool} {lt' : β → β → Bool} {f : β → α} (h : ∀ a b, lt (f a) (f b) = lt' a b) (x : β) (l : List β) : insR lt (f x) (l.map f) = (insR lt' x l).map f := by
  unfold insR
  rw [List.length_map, slot_map h]
  simp [List.map_take, List.map_drop]
theorem isort_map {β : Type} {lt : α → α → Bool} {lt' : β → β → Bool} {f : β → α} (h : ∀ a b, lt (f a) (f b) = lt' a b) (l : List β) : isort lt (l.map f) = (isort lt' l).map f := by
  suffices k : ∀ (l acc : List β), (l.map f).foldl (fun acc x => insR lt x acc) (acc.map f) = (l.foldl (fun acc x => insR lt' x acc) acc).map f from k l []
  intro l
  induction l with
  | nil => intro acc; rfl
  | cons x xs ih => intro acc; rw [List.map_cons, List.foldl_cons, List.foldl_cons, insR_map h, ih]

/-- What a round of the sort holds: the first i in order, an element on its way at j. -/
def onWay (P : List α) (x : α) (j : Nat) (rest : List α) : List α := (P.take j ++ x :: P.drop j) ++ rest
theorem onWay_start (P : List α) (x : α) (rest : List α) : onWay P x P.length rest = P ++ x :: rest := by
  unfold onWay; rw [List.take_length, List.drop_length]; simp
theorem onWay_length (P : List α) (x : α) (j : Nat) (rest : List α) (h : j ≤ P.length) : (onWay P x j rest).length = P.length + 1 + rest.length := by
  simp [onWay]; omega
theorem onWay_at {P : List α} {x : α} {j : Nat} {rest : List α} (h : j ≤ P.length) : (onWay P x j rest)[j]? = some x := by
  unfold onWay
  rw [List.append_assoc, List.getElem?_append_right (by simp; omega)]
  simp [Nat.min_eq_left h]
theorem onWay_before {P : List α} {x : α} {j : Nat} {rest : List α} (h : j < P.length) : (onWay P x (j + 1) rest)[j]? = some P[j] := by
  unfold onWay
  rw [List.append_assoc, List.getElem?_append_left (by simp; omega), List.getElem?_take, if_pos (by omega), List.getElem?_eq_getElem h]
theorem onWay_step {P : List α} {x : α} {j : Nat} {rest : List α} (h : j < P.length) : ((onWay P x (j + 1) rest).set (j + 1) P[j]).set j x = onWay P x j rest := by
  have e1 : P.take (j + 1) = P.take j ++ [P[j]] := by rw [List.take_add_one, List.getElem?_eq_getElem h]; rfl
  have e2 : P.drop j = P[j] :: P.drop (j + 1) := List.drop_eq_getElem_cons h
  have hl : (P.take j).length = j := by rw [List.length_take]; omega
  unfold onWay
  rw [e1, e2]
  simp only [List.append_assoc, List.cons_append, List.nil_append]
  rw [List.set_append_right _ _ (by omega), hl, show j + 1 - j = 1 by omega, List.set_append_right _ _ (by omega), hl, Nat.sub_self]
  rfl
theorem onWay_end (lt : α → α → Bool) (P : List α) (x : α) (j : Nat) (rest : List α) (h : slot lt x P j = slot lt x P P.length) (hs : slot lt x P j = j) : onWay P x j rest = insR lt x P ++ rest := by
  unfold onWay insR; rw [← h, hs]
end

end Go.Proofs.YtdcjibjldfjllaaGreat

/- strings.Cut, CutPrefix at one byte. -/
namespace Go.Proofs.YtdcjibjldfjllaaGreat
open Go.RowKit

/-- What stands ahead of the first c, and behind it. -/
def bef (c : Int) (l : List Int) : List Int := l.takeWhile (· != c)
def aft (c : Int) (l : List Int) : List Int := l.drop ((bef c l).length + 1)

theorem bef_le (c : Int) (l : List Int) : (bef c l).length ≤ l.length := List.Sublist.length_le (List.takeWhile_sublist _)
theorem bef_lt (c : Int) (l : List Int) : (bef c l).length < l.length ↔ c ∈ l := by
  induction l with
  | nil => simp [bef]
  | cons x xs ih =>
    unfold bef at *
    by_cases h : x = c
    · subst h; simp
    · simp only [List.takeWhile_cons, bne_iff_ne, ne_eq, h, not_false_eq_true, if_true, List.length_cons, List.mem_cons]
      constructor
      · intro h1; right; exact ih.1 (by omega)
      · rintro (h1 | h1)
        · exact absurd h1.symm h
        · have := ih.2 h1; omega
theorem bef_eq_take (c : Int) (l : List Int) : l.take (bef c l).length = bef c l := by
  induction l with
  | nil => rfl
  | cons x xs ih =>
    unfold bef at *
    by_cases h : x = c
    · subst h; simp
    · simp [List.takeWhile_cons, h, ih]

theorem indexByte_bef : ∀ (l : List UInt8) (c : UInt8), Lib.indexByte l c = if (c.toNat : Int) ∈ l.map (fun x => (x.toNat : Int)) then ((bef c.toNat (l.map fun x => (x.toNat : Int))).length : Int) else -1
  | [], c => by simp [Lib.indexByte]
  | b :: l, c => by
    have ih := indexByte_bef l c
    unfold Lib.indexByte
    by_cases h : b = c
    · subst h
      simp [bef]
    · have h1 : (b.toNat : Int) ≠ (c.toNat : Int) := fun e => h (UInt8.toNat_inj.1 (by omega))
      have h2 : (b == c) = false := by simpa using h
      rw [h2]
      simp only [Bool.false_eq_true, if_false, List.map_cons, List.mem_cons]
      rw [ih]
      by_cases hm : (c.toNat : Int) ∈ l.map (fun x => (x.toNat : Int))
      · have h3 : ((((bef c.toNat (l.map fun x => (x.toNat : Int))).length : Nat) : Int) == -1) = false := by
          rw [beq_eq_false_iff_ne]; omega
        rw [if_pos hm, h3, if_pos (Or.inr hm)]
        have h4 : bef (c.toNat : Int) ((b.toNat : Int) :: l.map fun x => (x.toNat : Int)) = (b.toNat : Int) :: bef c.toNat (l.map fun x => (x.toNat : Int)) := by
          unfold bef
          simp [List.takeWhile_cons, h1]
        rw [h4]
        simp
      · have h5 : ¬ ((c.toNat : Int) = (b.toNat : Int) ∨ (c.toNat : Int) ∈ l.map (fun x => (x.toNat : Int))) := fun e => e.elim (fun e => h1 e.symm) hm
        rw [if_neg hm, if_neg h5]
        rfl

theorem byt_extract (s : ByteArray) (a b : Nat) : byt (s.extract a b) = ((byt s).take b).drop a := by
  unfold byt
  simp [ByteArray.data_extract, List.extract_eq_take_drop, List.map_drop, List.map_take, List.take_drop]
  rcases Nat.le_total a b with h | h
  · rw [Nat.add_sub_cancel' h]
  · rw [Nat.sub_eq_zero_of_le h]
    simp [List.drop_take, Nat.sub_eq_zero_of_le h, h]

set_option maxRecDepth 100000 in
set_option maxHeartbeats 2000000 in
theorem sl_indexByte (s : ByteArray) (c : UInt8) (w : World) :
    Calls Tryz.prog 239 #[.string s, .int .u8 c.toNat] w fun e w' => Drew w w' ∧ e = .returned (.int .i64 (Lib.indexByte s.data.toList c)) := by
  go_enter Tryz.func239, Tryz.ntmps239
  go_wp2
  rw [run_callFunc_extern Tryz.func263 (by kernel_rfl) (by kernel_rfl) (by kernel_rfl) (e := Extern.BytealgIndexByte.indexByte) (by kernel_rfl), Lib.run_indexByteString]
  simp only [Result.andThen]
  rw [Oper.upon_value]
  go_wp2
  go_ret
  exact ⟨Drew.refl w, by simp⟩

set_option maxRecDepth 100000 in
set_option maxHeartbeats 2000000 in
/-- At one byte. -/
theorem sl_index (s : ByteArray) (c : UInt8) (w : World) :
    Calls Tryz.prog 265 #[.string s, .string ⟨#[c]⟩] w fun e w' => Drew w w' ∧ e = .returned (.int .i64 (Lib.indexByte s.data.toList c)) := by
  by_cases hs : ([c] == s.toList) = true
  · go_enter Tryz.func265, Tryz.ntmps265
    go_wp2
    go_ret
    have h : s.data.toList = [c] := by
      have := beq_iff_eq.1 hs
      rw [← Lib.toList_data]
      exact this.symm
    exact ⟨Drew.refl w, ret_int (by rw [h]; simp [Lib.indexByte])⟩
  · have hs' : ([c] == s.toList) = false := by simpa using hs
    clear hs
    go_enter Tryz.func265, Tryz.ntmps265
    go_wp2_with fail
    refine (sl_indexByte s _ w).mono ?_
    rintro e w' ⟨⟨q, rfl⟩, rfl⟩
    go_wp2
    go_ret
    exact ⟨⟨q, rfl⟩, rfl⟩

/-- What Cut answers at one byte. -/
def cutV (c : Int) (l : List Int) : Value :=
  if c ∈ l then .tuple #[.string (txt (bef c l)), .string (txt (aft c l)), .bool true] else .tuple #[.string (txt l), .string ⟨#[]⟩, .bool false]

theorem extract_txt (s : ByteArray) (a b : Nat) : s.extract a b = txt (((byt s).take b).drop a) := by
  rw [← byt_extract, txt_byt]

set_option maxRecDepth 100000 in
set_option maxHeartbeats 2000000 in
theorem sl_cut (s : ByteArray) (c : UInt8) (w : World) (hs : s.size ≤ 1000000000000000) :
    Calls Tryz.prog 242 #[.string s, .string ⟨#[c]⟩] w fun e w' => Drew w w' ∧ e = .returned (cutV c.toNat (byt s)) := by
  have hI : Lib.indexByte s.data.toList c = if (c.toNat : Int) ∈ byt s then ((bef c.toNat (byt s)).length : Int) else -1 := indexByte_bef s.data.toList c
  by_cases hm : (c.toNat : Int) ∈ byt s
  · have hlt := (bef_lt c.toNat (byt s)).2 hm
    rw [byt_length] at hlt
    rw [if_pos hm] at hI
    have HI := Lib.hid hI
    have HM := Lib.hid hm
    clear hI hm
    obtain ⟨i, hi⟩ : ∃ i, (bef c.toNat (byt s)).length = i := ⟨_, rfl⟩
    rw [hi] at hlt
    have HIE := Lib.hid hi
    have HII : Hid (Lib.indexByte s.data.toList c = (i : Int)) := by rw [HI.out]; exact congrArg _ hi
    clear hi HI
    go_enter Tryz.func242, Tryz.ntmps242
    go_wp2_with fail
    refine (sl_index s c w).mono ?_
    rintro e w' ⟨⟨q, rfl⟩, rfl⟩
    rw [HII.out]
    have h0 : (0 : Int) ≤ i := by omega
    have h1 : (i : Int) ≤ s.size := by omega
    have h2 : (i : Int) + 1 ≤ s.size := by omega
    go_wp2
    repeat (go_quiet (fail); try go_wp2)
    go_ret3
    refine ⟨by first | exact ⟨_, rfl⟩ | exact Drew.step ⟨_, rfl⟩ _, ?_⟩
    have hb : s.extract 0 i = txt (bef c.toNat (byt s)) := by
      rw [extract_txt, List.drop_zero, ← HIE.out, bef_eq_take]
    have ha : s.extract (i + 1) s.size = txt (aft c.toNat (byt s)) := by
      rw [extract_txt, List.take_of_length_le (by rw [byt_length]; exact Nat.le_refl _)]
      unfold aft
      rw [HIE.out]
    unfold cutV
    rw [if_pos HM.out, ← hb, ← ha]
    rfl
  · rw [if_neg hm] at hI
    have HI := Lib.hid hI
    have HM := Lib.hid hm
    clear hI hm
    go_enter Tryz.func242, Tryz.ntmps242
    go_wp2_with fail
    refine (sl_index s c w).mono ?_
    rintro e w' ⟨⟨q, rfl⟩, rfl⟩
    rw [HI.out]
    go_wp2
    go_ret3
    exact ⟨⟨q, rfl⟩, by unfold cutV; rw [if_neg HM.out, txt_byt]; rfl⟩

set_option maxRecDepth 100000 in
set_option maxHeartbeats 2000000 in
theorem str_cut (s : ByteArray) (c : UInt8) (w : World) (hs : s.size ≤ 1000000000000000) :
    Calls Tryz.prog 199 #[.string s, .string ⟨#[c]⟩] w fun e w' => Drew w w' ∧ e = .returned (cutV c.toNat (byt s)) := by
  by_cases hm : (c.toNat : Int) ∈ byt s
  · have hc : cutV c.toNat (byt s) = .tuple #[.string (txt (bef c.toNat (byt s))), .string (txt (aft c.toNat (byt s))), .bool true] := by unfold cutV; rw [if_pos hm]
    rw [hc]
    go_enter Tryz.func199, Tryz.ntmps199
    go_wp2_with fail
    refine (sl_cut s c w hs).mono ?_
    rintro e w' ⟨⟨q, rfl⟩, rfl⟩
    rw [hc]
    clear hc hs
    go_wp2
    go_ret3
    exact ⟨⟨q, rfl⟩, rfl⟩
  · have hc : cutV c.toNat (byt s) = .tuple #[.string s, .string ⟨#[]⟩, .bool false] := by unfold cutV; rw [if_neg hm, txt_byt]
    rw [hc]
    go_enter Tryz.func199, Tryz.ntmps199
    go_wp2_with fail
    refine (sl_cut s c w hs).mono ?_
    rintro e w' ⟨⟨q, rfl⟩, rfl⟩
    rw [hc]
    clear hc hs
    go_wp2
    go_ret3
    exact ⟨⟨q, rfl⟩, rfl⟩

set_option maxRecDepth 100000 in
set_option maxHeartbeats 2000000 in
/-- CutPrefix at one byte, both ways. -/
theorem str_cutPrefix_yes (s : ByteArray) (c : UInt8) (w : World) (h1 : 1 ≤ s.size) (h : ((s.extract 0 1).toList == [c]) = true) :
    Calls Tryz.prog 243 #[.string s, .string ⟨#[c]⟩] w fun e w' => Drew w w' ∧ e = .returned (.tuple #[.string (s.extract 1 s.size), .bool true]) := by
  go_enter Tryz.func243, Tryz.ntmps243
  go_wp2
  go_ret2
  exact ⟨Drew.refl w, rfl⟩

set_option maxRecDepth 100000 in
set_option maxHeartbeats 2000000 in
theorem str_cutPrefix_no (s : ByteArray) (c : UInt8) (w : World) (h1 : 1 ≤ s.size) (h : ((s.extract 0 1).toList == [c]) = false) :
    Calls Tryz.prog 243 #[.string s, .string ⟨#[c]⟩] w fun e w' => Drew w w' ∧ e = .returned (.tuple #[.string s, .bool false]) := by
  go_enter Tryz.func243, Tryz.ntmps243
  go_wp2
  go_ret2
  exact ⟨Drew.refl w, rfl⟩

set_option maxRecDepth 100000 in
set_option maxHeartbeats 2000000 in
theorem str_cutPrefix_nil (s : ByteArray) (c : UInt8) (w : World) (h1 : s.size = 0) :
    Calls Tryz.prog 243 #[.string s, .string ⟨#[c]⟩] w fun e w' => Drew w w' ∧ e = .returned (.tuple #[.string s, .bool false]) := by
  have h2 : ¬ 1 ≤ s.size := by omega
  clear h1
  go_enter Tryz.func243, Tryz.ntmps243
  go_wp2
  go_ret2
  exact ⟨Drew.refl w, rfl⟩

/-- CutPrefix at one byte, said of the byte values. -/
theorem str_cutPrefix (s : ByteArray) (c : UInt8) (w : World) :
    Calls Tryz.prog 243 #[.string s, .string ⟨#[c]⟩] w fun e w' => Drew w w' ∧ e = .returned (if (byt s).head? = some (c.toNat : Int) then .tuple #[.string (txt (byt s).tail), .bool true] else .tuple #[.string s, .bool false]) := by
  rcases Nat.eq_zero_or_pos s.size with h0 | h0
  · have hb : byt s = [] := List.eq_nil_of_length_eq_zero (by rw [byt_length]; exact h0)
    rw [hb]
    rw [List.head?_nil, if_neg (by simp)]
    exact str_cutPrefix_nil s c w h0
  · obtain ⟨x, xs, hx⟩ : ∃ x xs, s.data.toList = x :: xs := by
      cases h : s.data.toList with
      | nil =>
        have h3 : (byt s).length = 0 := by unfold byt; rw [h]; rfl
        rw [byt_length] at h3
        omega
      | cons x xs => exact ⟨x, xs, rfl⟩
    have hb : byt s = (x.toNat : Int) :: xs.map (fun x => (x.toNat : Int)) := by unfold byt; rw [hx]; rfl
    have he : (s.extract 0 1).toList = [x] := by
      rw [Lib.extract_toList, hx]; simp
    have ht : s.extract 1 s.size = txt (byt s).tail := by
      rw [extract_txt, List.take_of_length_le (by rw [byt_length]; exact Nat.le_refl _), List.drop_one]
    rw [← ht, hb]
    by_cases hc : x = c
    · subst hc
      rw [List.head?_cons, if_pos rfl]
      exact str_cutPrefix_yes s x w h0 (by rw [he]; exact beq_self_eq_true _)
    · have h2 : ¬ (x.toNat : Int) = (c.toNat : Int) := fun e => hc (UInt8.toNat_inj.1 (by omega))
      rw [List.head?_cons, if_neg (by simpa using h2)]
      exact str_cutPrefix_no s c w h0 (by rw [he, beq_eq_false_iff_ne]; intro e; injection e with e1 _; exact hc e1)

end Go.Proofs.YtdcjibjldfjllaaGreat

/- The shelf's contracts on strings.Builder and strings.IndexAny, laid at this program by hand: the numbers by name, each fact the kernel's. -/
namespace Go.Proofs.YtdcjibjldfjllaaGreat
open Go.Shelf Go.RowKit

def renB : Ren :=
  { f := fun x => match x with
      | 166 => 67 | 167 => 66 | 169 => 69 | 170 => 68 | 240 => 123 | 276 => 191
      | n => n
    t := fun x => match x with
      | 0 => 0 | 3 => 3 | 4 => 4 | 5 => 5 | 9 => 9 | 20 => 20 | 37 => 103 | 70 => 102 | 72 => 105 | 75 => 107 | 80 => 112 | 127 => 174 | 164 => 253
      | n => n
    g := fun n => n }

set_option maxRecDepth 100000 in
theorem lays166 : Lays.n166 Tryz.prog renB := by
  constructor <;> first | kernel_rfl | (intro w; kernel_rfl)
set_option maxRecDepth 100000 in
theorem lays167 : Lays.n167 Tryz.prog renB := by
  constructor <;> first | kernel_rfl | (intro w; kernel_rfl)
set_option maxRecDepth 100000 in
theorem lays169 : Lays.n169 Tryz.prog renB := by
  constructor <;> first | kernel_rfl | (intro w; kernel_rfl)
set_option maxRecDepth 100000 in
theorem lays170 : Lays.n170 Tryz.prog renB := by
  constructor <;> first | kernel_rfl | (intro w; kernel_rfl)
theorem extraB : Builder.Extra Tryz.prog renB where
  sizeBuilder := by kernel_rfl
  liesBuilder := by kernel_rfl
  t5 := by kernel_rfl
  a5 := fun w => by kernel_rfl
  z5 := fun w => by kernel_rfl
  v5 := fun w => by kernel_rfl
  infoByte := by kernel_rfl
  cellsByte := by kernel_rfl
  sizeByte := by kernel_rfl
  neB5 := by decide

theorem b_writeByte (B b : Nat) (bs : List Value) (c : Int) (w : World) (h : Lib.IsBuilderF 105 5 B b bs w) (hlen : bs.length + 1 ≤ 140737488355328) (hBw : B ≤ w.heap.size) :
    Calls Tryz.prog 66 #[.pointer (some ⟨b, 0, none⟩), .int .u8 c] w fun e w' => e = .returned .nilIface ∧ Lib.IsBuilderF 105 5 B b (bs ++ [.int .u8 c]) w' ∧ Below B w w' ∧ Lib.OthersKept 5 (some b) w w' :=
  (Any.Builder_WriteByte_k lays167 extraB B b bs c w h hlen hBw).mono fun _ _ ⟨h1, h2, h3⟩ => ⟨h1, .inr h2, h3⟩
theorem b_writeString (B b : Nat) (bs : List Value) (s : ByteArray) (w : World) (h : Lib.IsBuilderF 105 5 B b bs w) (hlen : bs.length + s.size ≤ 140737488355328) (hBw : B ≤ w.heap.size) :
    Calls Tryz.prog 67 #[.pointer (some ⟨b, 0, none⟩), .string s] w fun e w' => e = .returned (.tuple #[.int .i64 s.size, .nilIface]) ∧ Lib.IsBuilderF 105 5 B b (bs ++ Lib.strCells s) w' ∧ Below B w w' ∧ Lib.OthersKept 5 (some b) w w' :=
  (Any.Builder_WriteString_k lays166 extraB B b bs s w h hlen hBw).mono fun _ _ ⟨h1, h2, h3⟩ => ⟨h1, .inr h2, h3⟩
theorem b_len (B b : Nat) (bs : List Value) (w : World) (h : Lib.IsBuilderF 105 5 B b bs w) :
    Calls Tryz.prog 68 #[.pointer (some ⟨b, 0, none⟩)] w fun e w' => e = .returned (.int .i64 bs.length) ∧ w' = w :=
  Any.Builder_Len_f lays170 B b bs w h
theorem b_string (B b : Nat) (l : List UInt8) (w : World) (h : Lib.IsBuilderF 105 5 B b (Lib.byteCells l) w) (hBw : B ≤ w.heap.size) :
    Calls Tryz.prog 69 #[.pointer (some ⟨b, 0, none⟩)] w fun e w' => e = .returned (.string ⟨l.toArray⟩) ∧ Below B w w' :=
  (Any.Builder_String_any_k lays169 extraB B b l w h hBw).mono fun _ _ ⟨h1, _, h3, _⟩ => ⟨h1, h3⟩

def renI : Ren :=
  { f := fun x => match x with
      | 153 => 71 | 152 => 124 | 226 => 125 | 227 => 126 | 228 => 127 | 137 => 192 | 119 => 193 | 224 => 194 | 225 => 195 | 217 => 239 | 266 => 263
      | n => n
    t := fun x => match x with
      | 0 => 0 | 3 => 3 | 4 => 4 | 5 => 5 | 9 => 9 | 21 => 21 | 117 => 179 | 116 => 178 | 46 => 169 | 124 => 257
      | n => n
    g := fun n => n }

set_option maxRecDepth 100000 in
theorem lays153 : Lays.n153 Tryz.prog renI := by
  constructor <;> first | kernel_rfl | (intro w; kernel_rfl)
theorem ia_zero (w : World) : (zeroValue (renI.t 116)).run Tryz.prog w = .ok (.agg (Array.replicate 256 (.bool false))) w := by kernel_rfl
theorem ia_size : (Tryz.prog.info? (renI.t 116)).map (·.size) = some 256 := by kernel_rfl
theorem s_indexAny (s chars : ByteArray) (w : World) (hs : s.size < 4294967281) (hcs : chars.size < 4294967281) (has : ∀ (j : Nat) b, s.data.toList[j]? = some b → b.toNat < 128) (hac : ∀ (j : Nat) b, chars.data.toList[j]? = some b → b.toNat < 128) :
    Calls Tryz.prog 71 #[.string s, .string chars] w fun e w' => e = .returned (.int .i64 (Lib.indexAny s.data.toList chars.data.toList)) ∧ Past w w' :=
  Any.strings_IndexAny lays153 ia_zero ia_size s chars w hs hcs has hac

end Go.Proofs.YtdcjibjldfjllaaGreat

/- What a row's opened argument gives the walk. -/
namespace Go.Proofs.YtdcjibjldfjllaaGreat
open Go.RowKit

theorem ints_of_row {w : World} {a : Option Addr} {len cap : Nat} {zs : List Int}
    (h : (a = none ∧ len = 0 ∧ cap = 0 ∧ zs = []) ∨
      ∃ x, a = some x ∧ len ≤ cap ∧ cap ≤ maxLen ∧ zs.length = cap ∧ (∀ i, i < zs.length → w.cell? (x.add i) = some (.int .i64 (zs.getD i 0))) ∧ ∀ n ∈ zs, (Lit.int .i64 n).wf = true) :
    ∃ xs, RInts w .i64 a len cap xs ∧ ∀ x ∈ xs, -9223372036854775808 ≤ x ∧ x ≤ 9223372036854775807 := by
  rcases h with ⟨rfl, rfl, rfl, rfl⟩ | ⟨x, rfl, hl, hm, hz, hcell, hwz⟩
  · exact ⟨[], ⟨rfl, Nat.le_refl _, by omega, fun h => by omega⟩, by simp⟩
  · refine ⟨zs.take len, ⟨by simp; omega, hl, Nat.le_trans hm (by decide), fun h => ?_⟩, ?_⟩
    · obtain ⟨b, off, spot⟩ := x
      have hc := hcell 0 (by omega)
      have hspot : spot = none := by simpa [Addr.add] using World.cell?_spot hc
      subst hspot
      refine ⟨b, off, rfl, fun j hj => ?_⟩
      have := hcell j (by omega)
      rw [show rd (zs.take len) j = zs.getD j 0 by unfold rd; simp [List.getD_eq_getElem?_getD, List.getElem?_take, hj]]
      rw [← this]
      rcases Nat.eq_zero_or_pos j with rfl | hp
      · rfl
      · rw [show (⟨b, off, none⟩ : Addr).add j = ⟨b, off + j, none⟩ by simp [Addr.add]; omega]
    · intro n hn
      have := hwz n (List.mem_of_mem_take hn)
      have h2 : IntKind.min .i64 ≤ n ∧ n ≤ IntKind.max .i64 := by simpa [Lit.wf] using this
      have e1 : IntKind.min .i64 = -9223372036854775808 := by decide
      have e2 : IntKind.max .i64 = 9223372036854775807 := by decide
      omega

end Go.Proofs.YtdcjibjldfjllaaGreat
