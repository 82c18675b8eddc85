/- copy within a row of texts of the call's own; two texts in a block of their own beside it. -/
import Derived.Test.YtdcjibjldfjllaaGreatPZd
import Derived.Deep.RegionLaw
import Derived.Laws.CopyOwn
import Derived.Test.YtdcjibjldfjllaaGreatPZb
set_option linter.unusedVariables false
set_option linter.unusedSimpArgs false
namespace Go.Proofs.YtdcjibjldfjllaaGreat
open Go Go.RowKit

theorem rTx_flat (xs : List ByteArray) : xs.flatMap rTx.enc = xs.map Value.string := by
  induction xs with
  | nil => rfl
  | cons x xs ih => rw [List.flatMap_cons, ih]; rfl
theorem addr_add (g o j : Nat) : (⟨g, o, none⟩ : Addr).add j = ⟨g, o + j, none⟩ := by unfold Addr.add; split <;> simp_all

/-- The cells of an own row of texts. -/
theorem OwnS.txForm {w0 w : World} {e : TypeId} {g n c : Nat} {xs : List ByteArray} (h : OwnS w0 w rTx e (.slice (some ⟨g, 0, none⟩) n c) xs) :
    xs.length = n ∧ w0.heap.size ≤ g ∧ n ≤ c ∧ c ≤ maxLen ∧ ∃ cur : Array Value, w.heap[g]? = some (.cells cur e (0, 0)) ∧ cur.size = c ∧ cur.toList.take n = xs.map Value.string := by
  rcases h.1.2 with ⟨h0, _⟩ | ⟨g', cap, cur, h0, hb, hg, h1, h2, h3, h4⟩
  · cases h0
  · simp only [Value.slice.injEq, Option.some.injEq, Addr.mk.injEq, and_true] at h0
    obtain ⟨rfl, rfl, rfl⟩ := h0
    have e1 : rTx.sz = 1 := rfl
    rw [e1, Nat.mul_one] at h3 h4
    rw [rTx_flat] at h4
    exact ⟨rfl, hb, h1, h2, cur, hg, h3, h4⟩
theorem OwnS.txMade {w0 w : World} {e : TypeId} {g n c : Nat} {xs : List ByteArray} (hp : Past w0 w) (hl : xs.length = n) (hb : w0.heap.size ≤ g) (hn : n ≤ c) (hc : c ≤ maxLen) {cur : Array Value} (hg : w.heap[g]? = some (.cells cur e (0, 0))) (hs : cur.size = c) (ht : cur.toList.take n = xs.map Value.string) :
    OwnS w0 w rTx e (.slice (some ⟨g, 0, none⟩) n c) xs := by
  subst hl
  refine ⟨⟨by rw [rTx_flat, List.length_map]; show _ = _ * 1; omega, .inr ⟨g, c, cur, rfl, hb, hg, hn, hc, ?_, ?_⟩⟩, hp⟩
  · show _ = _ * 1; omega
  · rw [rTx_flat]
    show cur.toList.take (_ * 1) = _
    rw [Nat.mul_one]; exact ht
theorem OwnS.txCell {w0 w : World} {e : TypeId} {g n c : Nat} {xs : List ByteArray} (h : OwnS w0 w rTx e (.slice (some ⟨g, 0, none⟩) n c) xs) (j : Nat) (hj : j < xs.length) :
    w.cell? ⟨g, j, none⟩ = some (.string xs[j]) ∧ w.frozen? ⟨g, j, none⟩ = false := by
  obtain ⟨hl, _, _, _, cur, hg, hs, ht⟩ := h.txForm
  refine ⟨?_, Lib.frozen_of_heap hg j⟩
  have h1 : cur.toList[j]? = some (.string xs[j]) := by
    have : (cur.toList.take n)[j]? = some (.string xs[j]) := by rw [ht]; simp [hj]
    rw [List.getElem?_take] at this
    split at this
    · exact this
    · cases this
  rw [Lib.cell_of_heap hg]
  simpa using h1

theorem step_copy_shift {P : Program} {ops : Array Oper} {o : Oper} {a : Act} {w : World} {K : Act → World → Prop} {Q : Exit → Act → World → Prop} {E : Prop} (hgd : o.guard = none) (d s : Operand) (T : TypeId)
    (ho : o.op = .call { callee := .builtin .copy, args := #[d, s], argTypes := #[T, T] }) {e : TypeId} (he : ElS P rTx T e) {w0 : World} {g n c k : Nat} {xs : List ByteArray}
    (hown : OwnS w0 w rTx e (.slice (some ⟨g, 0, none⟩) n c) xs) (hk : k < n) (dp : Option Addr) (dl sl dc sc : Nat) (hd : a.eval d = .slice dp dl dc) (hdl : dl = n - (k + 1)) (hdp : k + 1 < n → dp = some ⟨g, k + 1, none⟩) (hs : a.eval s = .slice (some ⟨g, k, none⟩) sl sc) (hsl : sl = n - k)
    (h : ∀ v w', OwnS w0 w' rTx e (.slice (some ⟨g, 0, none⟩) n c) (xs.take (k + 1) ++ (xs.drop k).take (n - (k + 1))) → w.grownBy w' (some g) → K (a.put o.dst v) w') :
    if Region.wanted o (yielded ops a.tmps) = true then Oper.wp P o a w K Q else E := by
  have hw : Region.wanted o (yielded ops a.tmps) = true := by simp [Region.wanted, hgd]
  rw [if_pos hw]
  subst hdl hsl
  obtain ⟨i, z, hi, hz, hsize, hby, hzs⟩ := he.i
  have hsz : (P.info? e).map (·.size) = some 1 := by rw [hi]; exact congrArg some hsize
  obtain ⟨hl, hb, hn, hc, cur, hg, hcs, ht⟩ := hown.txForm
  by_cases h0 : k + 1 = n
  · have hrun := run_copy_none (P := P) w T T o.type e dp (some ⟨g, k, none⟩) (n - (k + 1)) dc (n - k) sc he.t hsz (by show min _ _ = 0; omega)
    have hx : xs.take (k + 1) ++ (xs.drop k).take (n - (k + 1)) = xs := by
      have : n - (k + 1) = 0 := by omega
      rw [this, List.take_zero, List.append_nil, List.take_of_length_le (by omega)]
    unfold Oper.wp
    simp [execOp, ho, resolve, invoke, builtin, hd, hs, hrun, Result.andThen]
    exact h _ w (by rw [hx]; exact hown) ⟨rfl, rfl, rfl, Nat.le_refl _, fun _ _ _ => rfl⟩
  · have hdp := hdp (by omega)
    subst hdp
    obtain ⟨cs, hcs1⟩ : ∃ cs : List Value, cs = ((xs.drop k).take (n - (k + 1))).map Value.string := ⟨_, rfl⟩
    have hcl : cs.length = n - (k + 1) := by rw [hcs1, List.length_map, List.length_take, List.length_drop]; omega
    have hsrc : ∀ j v, cs[j]? = some v → w.cell? ((⟨g, k, none⟩ : Addr).add j) = some v := by
      intro j v hj
      have hjl : j < cs.length := (List.getElem?_eq_some_iff.1 hj).1
      rw [addr_add]
      rw [hcs1, List.getElem?_map, List.getElem?_take, if_pos (by omega), List.getElem?_drop, List.getElem?_eq_getElem (by omega)] at hj
      simp only [Option.map_some, Option.some.injEq] at hj
      rw [← hj]
      exact (hown.txCell (k + j) (by omega)).1
    have hrun := run_copy_row (P := P) w T T o.type e g (k + 1) (n - (k + 1)) dc ⟨g, k, none⟩ (n - k) sc cur e cs he.t hsz hg (by rw [hcl]; show _ = min _ _; omega) hsrc (by omega) (by
      intro v hv
      rw [hcs1] at hv
      obtain ⟨y, _, rfl⟩ := List.mem_map.1 hv
      rfl)
    unfold Oper.wp
    simp [execOp, ho, resolve, invoke, builtin, hd, hs, hrun, Result.andThen]
    have hgr : w.grownBy (w.setRow g (cur.toList.take (k + 1) ++ cs ++ cur.toList.drop (k + 1 + cs.length)).toArray) (some g) :=
      ⟨rfl, rfl, rfl, by simp [World.setRow], fun q _ hq => setRow_other w g q _ (fun e => hq (by rw [e]))⟩
    have hp : Past w0 (w.setRow g (cur.toList.take (k + 1) ++ cs ++ cur.toList.drop (k + 1 + cs.length)).toArray) := hown.2.grown hgr (fun q hq => by injection hq with hq; omega)
    have hnew := setRow_heap w g cur (cur.toList.take (k + 1) ++ cs ++ cur.toList.drop (k + 1 + cs.length)).toArray e (0, 0) hg
    have hfin : OwnS w0 (w.setRow g (cur.toList.take (k + 1) ++ cs ++ cur.toList.drop (k + 1 + cs.length)).toArray) rTx e (.slice (some ⟨g, 0, none⟩) n c) (xs.take (k + 1) ++ (xs.drop k).take (n - (k + 1))) := by
      refine OwnS.txMade hp (by rw [List.length_append, List.length_take, List.length_take, List.length_drop]; omega) hb hn hc hnew ?_ ?_
      · simp only [List.size_toArray, List.length_append, List.length_take, List.length_drop, Array.length_toList, hcl]
        omega
      · have e1 : cur.toList.take (k + 1) = (xs.take (k + 1)).map Value.string := by
          rw [List.map_take, ← ht, List.take_take, Nat.min_eq_left (by omega)]
        rw [List.map_append, ← hcs1, ← e1]
        show ((cur.toList.take (k + 1) ++ cs ++ cur.toList.drop (k + 1 + cs.length)).toArray).toList.take n = _
        rw [List.toList_toArray, List.take_append_of_le_length (by simp only [List.length_append, List.length_take, Array.length_toList, hcl]; omega), List.take_of_length_le (by simp only [List.length_append, List.length_take, Array.length_toList, hcl]; omega)]
    have hh := h (goInt cs.length) _ hfin hgr
    simp only [List.append_assoc] at hh
    exact hh

theorem OwnS.txSet {w0 w : World} {e : TypeId} {g n c : Nat} {xs : List ByteArray} (h : OwnS w0 w rTx e (.slice (some ⟨g, 0, none⟩) n c) xs) (j : Nat) (hj : j < xs.length) (y : ByteArray) :
    OwnS w0 (w.setCell ⟨g, j, none⟩ (.string y)) rTx e (.slice (some ⟨g, 0, none⟩) n c) (xs.set j y) := by
  have hl := h.txForm.1
  subst hl
  have hb : w0.heap.size ≤ g := (h.1.lt g rfl).1
  refine ⟨?_, h.2.setCell hb _⟩
  have h1 := (h.1.stored j (.string y)).1
  rw [rTx_flat] at h1
  rw [rTx_flat, List.length_set, List.map_set]
  exact h1
theorem shift_set {xs : List ByteArray} (z y : ByteArray) {p : Nat} (hp : p ≤ xs.length) :
    (((xs ++ [z]).take (p + 1) ++ ((xs ++ [z]).drop p).take (xs.length + 1 - (p + 1))).set p y) = xs.take p ++ y :: xs.drop p := by
  have e1 : ((xs ++ [z]).drop p).take (xs.length + 1 - (p + 1)) = xs.drop p := by
    rw [List.drop_append_of_le_length hp, List.take_append_of_le_length (by rw [List.length_drop]; omega), List.take_of_length_le (by rw [List.length_drop]; omega)]
  obtain ⟨q, e2⟩ : ∃ q, (xs ++ [z]).take (p + 1) = xs.take p ++ [q] := by
    have hl : p < (xs ++ [z]).length := by rw [List.length_append, List.length_singleton]; omega
    refine ⟨(xs ++ [z])[p], ?_⟩
    rw [List.take_succ_eq_append_getElem hl, List.take_append_of_le_length hp]
  have hl : (xs.take p).length = p := by rw [List.length_take]; omega
  rw [e1, e2, List.append_assoc, List.set_append_right _ _ (by omega), hl, Nat.sub_self]
  rfl

/-- Two texts in a block, texts so far. -/
def TT (w0 w : World) (gb : Nat) (x y : ByteArray) (v : Value) (l : List ByteArray) : Prop :=
  w.heap[gb]? = some (.cells #[.string x, .string y] 36 (0, 0)) ∧ OwnS w0 w rTx 36 v l ∧ w0.heap.size ≤ gb ∧ v.ownBlock ≠ some gb
section
variable {w0 w w1 : World} {gb : Nat} {x y : ByteArray} {v v1 : Value} {l l1 : List ByteArray}
theorem TT.past (h : TT w0 w gb x y v l) (hp : Past w w1) : TT w0 w1 gb x y v l :=
  ⟨(hp.block gb (Array.getElem?_eq_some_iff.1 h.1).1).trans h.1, h.2.1.past hp, h.2.2⟩
theorem TT.box (h : OwnS w0 w rTx 36 v l) (x y : ByteArray) : TT w0 (w.alloc (.cells #[.string x, .string y] 36)) w.heap.size x y v l := by
  refine ⟨heap_new _ _, h.alloc _, h.2.size, ?_⟩
  intro hv
  have := (h.1.lt _ hv).2
  omega
theorem TT.grown (h : TT w0 w gb x y v l) (ho : OwnS w0 w1 rTx 36 v1 l1) (hg : w.grownBy w1 v.ownBlock) (hn : v1.ownBlock = v.ownBlock ∨ v1.ownBlock = some w.heap.size) : TT w0 w1 gb x y v1 l1 := by
  have hlt := (Array.getElem?_eq_some_iff.1 h.1).1
  refine ⟨(hg.block gb hlt (fun e => h.2.2.2 e.symm)).trans h.1, ho, h.2.2.1, ?_⟩
  rcases hn with hn | hn
  · rw [hn]; exact h.2.2.2
  · rw [hn]; intro e; injection e with e; omega
theorem TT.c0 (h : TT w0 w gb x y v l) : w.cell? ⟨gb, 0, none⟩ = some (.string x) := by rw [Lib.cell_of_heap h.1]; rfl
theorem TT.c1 (h : TT w0 w gb x y v l) : w.cell? ⟨gb, 1, none⟩ = some (.string y) := by rw [Lib.cell_of_heap h.1]; rfl
end

theorem run_append_B {P : Program} (w : World) (base : Nat) (t ty e : TypeId) (i : TypeInfo) (z : Value) (ht : P.underlying t = some (.slice e)) (hi : P.info? e = some i) (hz : i.zero = some z) (hzs : z.cells.size = i.size) (hsz : 0 < i.size)
    (v : Value) (n : Nat) (xs : List Value) (hown : w.ownsRow base e i.size v n xs)
    (a : Addr) (c : Nat) (news : List Value) (hl : news.length = 1 * i.size) (hnews : ∀ j u, news[j]? = some u → w.cell? (a.add j) = some u) (h1 : ∀ u ∈ news, u.oneCell' = true)
    (h63 : n + 1 ≤ maxLen) (hbytes : (n + 1) * i.bytes ≤ 140737488355328) (hbase : base ≤ w.heap.size) :
    ∃ v' w', (Builtin.append_ #[t, t] ty #[v, .slice (some a) 1 c]).run P w = .ok v' w' ∧ w'.ownsRow base e i.size v' (n + 1) (xs ++ news) ∧ w.grownBy w' v.ownBlock ∧ (v'.ownBlock = v.ownBlock ∨ v'.ownBlock = some w.heap.size) := by
  obtain ⟨v', w', hr, h2, h3, h4⟩ := run_append_own (P := P) w base t ty e i z i.size i.bytes ht hi hz rfl rfl hzs hsz v n xs hown a 1 c news hl hnews h1 h63 hbytes hbase
  have hsmall : n + 1 ≤ 9223372036854775807 := by simp only [maxLen] at h63; omega
  refine ⟨v', w', hr, h2, h3, ?_⟩
  rcases hown.2 with ⟨rfl, rfl⟩ | ⟨g, cap, cur, rfl, hbg, hg, hnc, hcm, hcs, htake⟩
  · have hr2 := run_append_nil (P := P) w t ty e i z ht hi hz a 1 c news hl hnews (by omega) (by omega) (by have hb := hbytes; simp only [Nat.zero_add] at hb; omega)
    rw [hr] at hr2
    injection hr2 with e1 e2
    exact .inr (by rw [e1]; rfl)
  · by_cases hroom : n + 1 ≤ cap
    · have hfit : n * i.size + news.length ≤ cur.size := by rw [hl, hcs, ← Nat.add_mul]; exact Nat.mul_le_mul_right _ hroom
      have hr2 := run_append_room (P := P) w t ty e i ht hi g n cap cur hg a 1 c news hl hnews h1 hroom hfit
      rw [hr] at hr2
      injection hr2 with e1 e2
      exact .inl (by rw [e1]; rfl)
    · have holds : ∀ j u, xs[j]? = some u → w.cell? ((⟨g, 0, none⟩ : Addr).add j) = some u := hown.cells (g := g) rfl
      have hr2 := run_append_grow (P := P) w t ty e i z ht hi hz ⟨g, 0, none⟩ n cap xs hown.1 holds a 1 c news hl hnews (by omega) (by omega) (growslice_fits (by omega) hbytes)
      rw [hr] at hr2
      injection hr2 with e1 e2
      exact .inr (by rw [e1]; rfl)

/-- 'append(out, y)' of a number, as one step of a region that draws. -/
theorem step_app_own {P : Program} {ops : Array Oper} {o : Oper} {a : Act} {w : World} {K : Act → World → Prop} {Q : Exit → Act → World → Prop} {E : Prop} (hgd : o.guard = none) {w0 : World} {k : IntKind} {xs : List Int} {e : TypeId} {s x : Operand} {t : TypeId} (he : ElT P t e) {v : Value}
    (ho : o.op = .call { callee := .builtin .append, args := #[s, x], argTypes := #[t, t] }) (hown : Own w0 w e k v xs)
    (hs : a.eval s = v) (ad : Addr) (c : Nat) (y : Int) (hx : a.eval x = .slice (some ad) 1 c) (hc : w.cell? ad = some (.int k y)) (hlen : xs.length < 1099511627776)
    (h : ∀ v' w', Own w0 w' e k v' (xs ++ [y]) → K (a.put o.dst v') w') :
    if Region.wanted o (yielded ops a.tmps) = true then Oper.wp P o a w K Q else E := by
  have hw : Region.wanted o (yielded ops a.tmps) = true := by simp [Region.wanted, hgd]
  rw [if_pos hw]
  obtain ⟨i, z, hi, hz, hsize, hby, hzs⟩ := he.i
  have hb : (xs.length + 1) * i.bytes ≤ 140737488355328 :=
    Nat.le_trans (Nat.mul_le_mul_left _ hby) (by omega)
  obtain ⟨v', w', hr, h2, h3, h4⟩ := run_append_own (P := P) w w0.heap.size t o.type e i z 1 i.bytes he.t hi hz hsize rfl hzs (by omega) v xs.length _ hown.1 ad 1 c [.int k y] rfl (by
    intro j u hj
    match j, hj with
    | 0, hj =>
      simp at hj
      subst hj
      have : ad.add 0 = ad := by unfold Addr.add; simp
      rw [this]; exact hc
    | j + 1, hj => simp at hj) (by
    intro u hu
    simp at hu
    subst hu
    rfl) (by unfold maxLen; omega) hb hown.2.size
  unfold Oper.wp execOp
  simp only [ho, resolve, invoke, builtin, Sem.run_bind, Sem.run_pure, Result.andThen_ok, List.map_toArray, List.map_cons, List.map_nil, hs, hx, hr]
  have hp : Past w0 w' := hown.2.grown h3 (fun k hk => (hown.1.lt k hk).1)
  exact h v' w' ⟨by simpa using h2, hp⟩

/-- 'append(out, y)'; what else has turned, and where the row lies then. -/
theorem wpList_appB {P : Program} {w : World} {ops : Array Oper} {rest : List Oper} {o : Oper} {a : Act} {Q : Exit → Act → World → Prop} {w0 : World} {α : Type} {R : Rep α} {xs : List α} {e : TypeId} {s x : Operand} {t : TypeId} (he : ElS P R t e) {v : Value}
    (hown : OwnS w0 w R e v xs) (hgd : o.guard = none)
    (ho : o.op = .call { callee := .builtin .append, args := #[s, x], argTypes := #[t, t] })
    (hs : a.eval s = v) (ad : Addr) (c : Nat) (y : α) (hx : a.eval x = .slice (some ad) 1 c) (hc : ∀ i u, (R.enc y)[i]? = some u → w.cell? (ad.add i) = some u) (hlen : xs.length < 1000000000000)
    (h : ∀ v' w', OwnS w0 w' R e v' (xs ++ [y]) → w.grownBy w' v.ownBlock → (v'.ownBlock = v.ownBlock ∨ v'.ownBlock = some w.heap.size) → wpList P ops Q rest (a.put o.dst v') w') : wpList P ops Q (o :: rest) a w := by
  obtain ⟨i, z, hi, hz, hsize, hby, hzs⟩ := he.i
  have hb : (xs.length + 1) * i.bytes ≤ 140737488355328 :=
    Nat.le_trans (Nat.mul_le_mul_left _ hby) (by omega)
  refine wpList_plain hgd fun K hK => ?_
  have hown1 := hown.1
  rw [← hsize] at hown1
  obtain ⟨v', w', hr, h2, h3, h4⟩ := run_append_B (P := P) w w0.heap.size t o.type e i z he.t hi hz (by rw [hzs, hsize]) (by rw [hsize]; exact R.pos) v xs.length _ hown1 ad c (R.enc y) (by rw [R.len, Nat.one_mul, hsize]) hc (R.one y) (by unfold maxLen; omega) hb hown.2.size
  unfold Oper.wp execOp
  simp only [ho, resolve, invoke, builtin, Sem.run_bind, Sem.run_pure, Result.andThen_ok, List.map_toArray, List.map_cons, List.map_nil, hs, hx, hr]
  have hp : Past w0 w' := hown.2.grown h3 (fun k hk => (hown.1.lt k hk).1)
  refine hK _ _ (h v' w' ⟨?_, hp⟩ h3 h4)
  have e1 : (xs ++ [y]).length = xs.length + 1 := by simp
  have e2 : (xs ++ [y]).flatMap R.enc = xs.flatMap R.enc ++ R.enc y := by simp
  rw [e1, e2, ← hsize]
  exact h2

end Go.Proofs.YtdcjibjldfjllaaGreat

namespace Go.Proofs.YtdcjibjldfjllaaGreat
open Go Go.RowKit

/-- One end put in, unless the bar is of another dimension or the end is none. -/
def oneE (c : Bool) (t : Option Rat) (l : List (Option Rat)) : List (Option Rat) := if c = true ∧ t ≠ none then insS t l else l
def stepC (d : Int) (l : List (Option Rat)) (v : VB) : List (Option Rat) := oneE (v.d == d) v.e (oneE (v.d == d) (some v.q) l)
theorem curD (d : Int) : ∀ (vs : List VB) (l : List (Option Rat)), vs.foldl (stepC d) l = (endsL (vs.filter fun v => v.d == d)).foldl (fun l e => insS e l) l
  | [], l => rfl
  | v :: vs, l => by
    rw [List.foldl_cons, curD d vs, List.filter_cons]
    unfold stepC oneE
    by_cases h : (v.d == d) = true
    · rw [if_pos h]
      have e1 : endsL (v :: vs.filter fun v => v.d == d) = endsV v ++ endsL (vs.filter fun v => v.d == d) := rfl
      rw [e1, List.foldl_append]
      unfold endsV
      cases v.e with
      | none => simp [h]
      | some r => simp [h]
    · rw [if_neg h]
      simp [h]
theorem oneE_len (c : Bool) (t : Option Rat) (l : List (Option Rat)) : (oneE c t l).length ≤ l.length + 1 := by
  unfold oneE
  have := insS_len t l
  split <;> omega
theorem oneE_all {P : Option Rat → Prop} (c : Bool) (t : Option Rat) (l : List (Option Rat)) (ht : P t) (hl : ∀ e ∈ l, P e) : ∀ e ∈ oneE c t l, P e := by
  unfold oneE
  intro e he
  split at he
  · rcases (insS_mem t e l).1 he with rfl | h
    · exact ht
    · exact hl e h
  · exact hl e he
theorem endsL_some {vs : List VB} {e : Option Rat} (h : e ∈ endsL vs) : ∃ r, e = some r := by
  obtain ⟨v, hv, h2⟩ := List.mem_flatMap.1 h
  unfold endsV at h2
  cases hve : v.e with
  | none => rw [hve] at h2; simp only [List.mem_singleton] at h2; exact ⟨_, h2⟩
  | some r =>
    rw [hve] at h2
    simp only [List.mem_cons, List.not_mem_nil, or_false] at h2
    rcases h2 with h2 | h2 <;> exact ⟨_, h2⟩
/-- How many bars of a dimension cover an end. -/
def rnkN (vs : List VB) (d : Int) (e : Option Rat) : Int := match e with | some r => ((vs.countP (rankV d r r) : Nat) : Int) | none => 0
theorem two_step {c : Bool} {a b : Option Rat} {l : List (Option Rat)} {j : Nat} (hj : j < 2) : ∃ t, t = (if j = 0 then a else b) ∧ ([a, b].take (j + 1)).foldl (fun l t => oneE c t l) l = oneE c t (([a, b].take j).foldl (fun l t => oneE c t l) l) := by
  match j, hj with
  | 0, _ => exact ⟨a, rfl, rfl⟩
  | 1, _ => exact ⟨b, rfl, rfl⟩
theorem TT.at_ {w0 w : World} {gb : Nat} {v : Value} {l : List ByteArray} {a b : Option Rat} (h : TT w0 w gb (tE a) (tE b) v l) {j : Nat} (hj : j < 2) : w.cell? ⟨gb, j, none⟩ = some (.string (tE (if j = 0 then a else b))) := by
  match j, hj with
  | 0, _ => exact h.c0
  | 1, _ => exact h.c1

set_option maxRecDepth 100000 in
set_option maxHeartbeats 8000000 in
theorem ref_curve (A : Option Addr) (n c : Nat) (vs : List VB) (d : Int) (w : World) (hx : Rows w rBar A n c (vs.map VB.enc)) (hok : ∀ v ∈ vs, v.okM) (hn : n ≤ 1000) :
    Calls Tryz.prog 55 #[.slice A n c, .int .i64 d] w fun e w' => Past w w' ∧ ∃ A2 c2 A3 c3, e = .returned (.tuple #[.slice A2 (curL (vs.filter fun v => v.d == d)).length c2, .slice A3 (curL (vs.filter fun v => v.d == d)).length c3]) ∧
      Rows w' rTx A2 (curL (vs.filter fun v => v.d == d)).length c2 ((curL (vs.filter fun v => v.d == d)).map tE) ∧ RInts w' .i64 A3 (curL (vs.filter fun v => v.d == d)).length c3 ((curL (vs.filter fun v => v.d == d)).map (rnkN vs d)) := by
  obtain ⟨LL, hLL⟩ : ∃ z, curL (vs.filter fun v => v.d == d) = z := ⟨_, rfl⟩
  obtain ⟨k, hkl⟩ : ∃ k, LL.length = k := ⟨_, rfl⟩
  rw [hLL, hkl]
  have HLX := Lib.hid hLL
  have HKL := Lib.hid hkl
  clear hLL hkl
  have HX := Lib.hid hx
  have HL : Hid (vs.length = n) := by have := hx.len; rw [List.length_map] at this; exact this
  have HOK := Lib.hid hok
  have HEL := Lib.hid el_tx
  have HEI := Lib.hid el_int
  clear hx hok
  go_enter Tryz.func55, Tryz.ntmps55
  go_wp2_with fail
  go_loopg [6, 7] n (fun gg av iv wr => ∃ (i : Nat) (va : Value) (L : List (Option Rat)), va = av ∧ iv = .int .i64 i ∧ i ≤ n ∧ Hid (gg = n - i) ∧ Hid (L = (vs.take i).foldl (stepC d) []) ∧ Hid (L.length ≤ 2 * i ∧ ∀ e ∈ L, tlE e ≤ 1000) ∧ Hid (OwnS w wr rTx 36 va (L.map tE)))
  case atStart => exact ⟨0, _, [], rfl, rfl, Nat.zero_le _, rfl, rfl, ⟨Nat.zero_le _, fun e he => by cases he⟩, OwnS.nil (Past.refl _) _ _⟩
  case round =>
    obtain ⟨i, va, L, hva, rfl, hi, HG, HLL, HLN, HO⟩ := hrel
    subst hva
    obtain ⟨wo, hwo⟩ : ∃ x, x = wr := ⟨_, rfl⟩
    subst hwo
    by_cases hin : i < n
    · have hil : i < vs.length := by have := HL.out; omega
      obtain ⟨v, hve⟩ : ∃ v, vs[i] = v := ⟨_, rfl⟩
      obtain ⟨b1, o1, rfl, hc1⟩ := HX.out.bar (by omega)
      have hbi := (hc1 i (by rw [List.length_map]; exact hil)).past HO.out.2
      have hb0 := hc1 i (by rw [List.length_map]; exact hil)
      rw [List.getElem_map, hve] at hbi hb0
      have HFT : Hid ((vs.take (i + 1)).foldl (stepC d) [] = stepC d L v) := by show _ = _; rw [foldl_take (stepC d) [] hil hve, ← HLL.out]
      have HVK : Hid v.okM := by rw [← hve]; exact HOK.out _ (List.getElem_mem hil)
      obtain ⟨dv, q, e⟩ := v
      have e0 : wo.cell? ⟨b1, o1 + i * 3, none⟩ = some (.int .i64 dv) := hbi.1
      have e1 : wo.cell? ⟨b1, o1 + i * 3 + 1, none⟩ = some (.string (tE (some q))) := hbi.2.1
      have e2 : wo.cell? ⟨b1, o1 + i * 3 + 2, none⟩ = some (.string (tE e)) := hbi.2.2
      have HD0 : Hid (w.cell? ⟨b1, o1 + i * 3, none⟩ = some (.int .i64 dv)) := hb0.1
      have HK1 : Hid (tlE (some q) ≤ 1000) := HVK.out.2.2.1
      have HK2 : Hid (tlE e ≤ 1000) := HVK.out.2.2.2
      have HST : Hid (∀ M : List (Option Rat), M = ([some q, e].take 2).foldl (fun l t => oneE (dv == d) t l) L → M = (vs.take (i + 1)).foldl (stepC d) []) := fun M hM => by rw [hM, HFT.out]; rfl
      clear hc1 hbi hb0 hve HFT HVK
      have z1 : (i : Int) < (n : Int) := by omega
      go_upto_region 5 with fail
      go_cut [29, 30, 31] (fun sv lv jv wx => ∃ g : Nat, sv = .slice (some ⟨g, 0, none⟩) 2 2 ∧ lv = .int .i64 2 ∧ jv = .int .i64 0 ∧ Hid (TT w wx g (tE (some q)) (tE e) va (L.map tE)))
      case first =>
        go_region
        all_goals
          go_wp2_with fail
          go_meet
          case rel => exact ⟨_, rfl, rfl, rfl, TT.box (HO.out.past ((Past.refl _).drewN _)) _ _⟩
      case rest =>
        obtain ⟨g, rfl, rfl, rfl, HT0⟩ := hcut
        obtain ⟨w5, hw5⟩ : ∃ x, x = wc := ⟨_, rfl⟩
        subst hw5
        clear e0 e1 e2
        go_wp2_with fail
        go_loopg [6, 31] 2 (fun hh bv jv wx => ∃ (j : Nat) (vb : Value) (M : List (Option Rat)), vb = bv ∧ jv = .int .i64 j ∧ j ≤ 2 ∧ Hid (hh = 2 - j) ∧ Hid (M = ([some q, e].take j).foldl (fun l t => oneE (dv == d) t l) L) ∧ Hid (M.length ≤ 2 * i + j ∧ ∀ x ∈ M, tlE x ≤ 1000) ∧ Hid (TT w wx g (tE (some q)) (tE e) vb (M.map tE)))
        case atStart => exact ⟨0, _, L, rfl, rfl, by omega, rfl, rfl, ⟨HLN.out.1, HLN.out.2⟩, HT0⟩
        case round =>
          obtain ⟨j, vb, M, hvb, rfl, hj, HH, HM, HML, HT⟩ := hrel
          subst hvb
          obtain ⟨wi, hwi⟩ : ∃ x, x = wr := ⟨_, rfl⟩
          subst hwi
          by_cases hj2 : j < 2
          · obtain ⟨t, htd, hts⟩ := two_step (c := dv == d) (a := some q) (b := e) (l := L) hj2
            have ft := HT.out.at_ hj2
            rw [← htd] at ft
            have HTK : Hid (tlE t ≤ 1000) := by
              show _ ≤ _
              rw [htd]
              split
              · exact HK1.out
              · exact HK2.out
            have HTS : Hid (([some q, e].take (j + 1)).foldl (fun l t => oneE (dv == d) t l) L = oneE (dv == d) t M) := by show _ = _; rw [hts, ← HM.out]
            clear htd hts
            have z2 : (j : Int) < 2 := by omega
            go_upto_block 3 with fail
            go_cut [6] (fun bv wy => ∃ vc, vc = bv ∧ Hid (TT w wy g (tE (some q)) (tE e) vc ((oneE (dv == d) t M).map tE)))
            case first =>
              have e0 := HT.out.2.1.2.cell HD0.out
              by_cases hd : dv = d
              · subst hd
                have hdb : (dv != dv) = false := by simp
                cases t with
                | none =>
                  have hi2 := inf_none
                  have HOE : Hid (oneE (dv == dv) none M = M) := by show _ = _; unfold oneE; rw [if_neg (by simp)]
                  go_wp2_with fail
                  go_meet
                  case rel => exact ⟨_, rfl, by rw [HOE.out]; exact HT.out⟩
                | some r =>
                  have hi2 := inf_some r
                  have HOE : Hid (oneE (dv == dv) (some r) M = insS (some r) M) := by show _ = _; unfold oneE; rw [if_pos ⟨by simp, by simp⟩]
                  obtain ⟨p, hp⟩ : ∃ p, posE (some r) M = p := ⟨_, rfl⟩
                  obtain ⟨mm, hmm⟩ : ∃ m, M.length = m := ⟨_, rfl⟩
                  have hpm : p ≤ mm := by rw [← hp, ← hmm]; exact posE_le _ _
                  have hmb : (mm : Int) ≤ 4000 := by have := HML.out.1; omega
                  obtain ⟨Ab, cb, rfl, hrb⟩ := HT.out.2.1.reads
                  rw [List.length_map, hmm] at hrb HT ⊢
                  have HP := Lib.hid hp
                  have HMM := Lib.hid hmm
                  have HRB := Lib.hid hrb
                  clear hp hmm hrb
                  go_upto_block 4 with fail
                  go_cut [10] (fun kv wz => kv = .int .i64 ((p : Nat) : Int) ∧ Hid (Past wi wz))
                  case first =>
                    go_wp2_with fail
                    go_loopg [10] p (fun hh kv wz => ∃ k : Nat, kv = .int .i64 k ∧ k ≤ p ∧ Hid (hh = p - k) ∧ Hid (Past wi wz))
                    case atStart => exact ⟨0, rfl, Nat.zero_le _, rfl, Past.refl _⟩
                    case round =>
                      obtain ⟨k, rfl, hk, HK, HPZ⟩ := hrel
                      by_cases hkm : k < mm
                      · obtain ⟨b6, o6, rfl, hc6⟩ := HRB.out.tx (by omega)
                        have hkl : k < M.length := by have := HMM.out; omega
                        have f6 := HPZ.out.cell (hc6 k (by rw [List.length_map]; exact hkl))
                        rw [List.getElem_map] at f6
                        have C1 := Lib.hid (fun w => fr_compare M[k] (some r) w (Nat.le_trans (HML.out.2 _ (List.getElem_mem hkl)) (by decide)) (Nat.le_trans HTK.out (by decide)))
                        have hlt : k < p → cmpE M[k] (some r) < 0 := fun h => posE_lt (some r) M k (by rw [HP.out]; exact h) hkl
                        have hge : k = p → ¬ cmpE M[k] (some r) < 0 := fun h => by
                          have h1 := posE_at (some r) M (by rw [HP.out, ← h]; exact hkl)
                          simp only [HP.out, ← h] at h1
                          omega
                        have z5 : (k : Int) < (mm : Int) := by omega
                        generalize cmpE M[k] (some r) = x1 at C1 hlt hge
                        generalize M[k] = mk at C1 f6
                        clear hc6
                        by_cases hkp : k < p
                        · have hx1 := hlt hkp
                          clear hlt hge
                          go_wp2_with fail
                          refine (C1.out _).mono ?_
                          rintro e' w7 ⟨hp7, rfl⟩
                          have P7 := Lib.hid hp7
                          clear hp7
                          go_wp2_with fail
                          go_roundg (p - (k + 1))
                          case measure => have := HK.out; omega
                          case rel => exact ⟨k + 1, by go_num, by omega, rfl, HPZ.out.trans P7.out⟩
                        · have hke : k = p := by omega
                          have hx1 := hge hke
                          clear hlt hge
                          subst hke
                          go_wp2_with fail
                          refine (C1.out _).mono ?_
                          rintro e' w7 ⟨hp7, rfl⟩
                          have P7 := Lib.hid hp7
                          clear hp7
                          go_wp2_with fail
                          go_meet
                          case rel => exact ⟨rfl, HPZ.out.trans P7.out⟩
                      · have hke : k = p := by omega
                        subst hke
                        have z5 : ¬ (k : Int) < (mm : Int) := by omega
                        go_wp2_with fail
                        go_meet
                        case rel => exact ⟨rfl, HPZ.out⟩
                  case rest =>
                    obtain ⟨rfl, HPZ⟩ := hcut
                    obtain ⟨wz, hwz⟩ : ∃ x, x = wc := ⟨_, rfl⟩
                    subst hwz
                    have HTZ := Lib.hid (HT.out.past HPZ.out)
                    by_cases hpl : p < mm
                    · have hplM : p < M.length := by have := HMM.out; omega
                      obtain ⟨b6, o6, rfl, hc6⟩ := HRB.out.tx (by omega)
                      have f6 := HPZ.out.cell (hc6 p (by rw [List.length_map]; exact hplM))
                      rw [List.getElem_map] at f6
                      obtain ⟨a, ha⟩ : ∃ a, M[p] = a := ⟨_, rfl⟩
                      rw [ha] at f6
                      have HA : Hid (M[p]? = some a) := by show _ = _; rw [List.getElem?_eq_getElem hplM, ha]
                      clear hc6 ha
                      have z5 : (p : Int) < (mm : Int) := by omega
                      by_cases heq : a = some r
                      · subst heq
                        have HIS : Hid (insS (some r) M = M) := by show _ = _; unfold insS; rw [HP.out, if_pos HA.out]
                        go_wp2_with fail
                        go_meet
                        case rel => exact ⟨_, rfl, by rw [HOE.out, HIS.out]; exact HTZ.out⟩
                      · have hq : ((tE a).toList == (tE (some r)).toList) = false := beq_eq_false_iff_ne.2 fun h => heq (tE_inj (toList_inj h))
                        have HIS : Hid ((insS (some r) M).map tE = (M.map tE).take p ++ tE (some r) :: (M.map tE).drop p) := by
                          show _ = _
                          unfold insS
                          rw [HP.out, if_neg (by rw [HA.out]; intro h; exact heq (Option.some.inj h)), List.map_append, List.map_cons, List.map_take, List.map_drop]
                        clear heq
                        go_upto_region 14 with (first | (at_builtin; refine wpList_appB HEL.out (HTZ.out.2.1.alloc _) rfl rfl rfl ⟨_, 0, none⟩ _ (⟨#[]⟩ : ByteArray) rfl (cell_newS rTx _ _ _ _ _ (by simp [go_sem]) rfl) ?_ ?_; (rw [List.length_map]; have := HML.out.1; omega); intro v3 w3 hown3 hg3 hb3; have ht3 := (HTZ.out.past ((Past.refl _).alloc _)).grown hown3 hg3 hb3; have HT3 := Lib.hid ht3; clear hown3 hg3 hb3 ht3))
                        obtain ⟨g3, c3, rfl, h31, h32, h33, h34, -, -⟩ := HT3.out.2.1.form (by rw [List.length_append]; simp)
                        have hl3 : (M.map tE ++ [(⟨#[]⟩ : ByteArray)]).length = mm + 1 := by rw [List.length_append, List.length_map, List.length_singleton, HMM.out]
                        rw [hl3] at h31 HT3 ⊢
                        have HT4 := Lib.hid (HT3.out.past (Past.refl w3).drew)
                        have HO4 := Lib.hid HT4.out.2.1
                        have zw1 : IntKind.i64.wrap ((p : Int) + 1) = (p : Int) + 1 := by rw [IntKind.wrap_i64]; omega
                        have z02 : (0 : Int) ≤ (p : Int) + 1 := by omega
                        have zt : ((p : Int) + 1).toNat = p + 1 := by omega
                        have zle : (p : Int) + 1 ≤ (mm : Int) + 1 := by omega
                        have zle2 : (p : Int) ≤ (mm : Int) + 1 := by omega
                        have zlt : (p : Int) < (mm : Int) + 1 := by omega
                        by_cases hc3 : c3 = p + 1
                        · exfalso; omega
                        · have hcp : ¬ c3 = p := by omega
                          go_region_law (refine step_copy_shift rfl (.tmp 79) (.tmp 82) 83 rfl HEL.out (k := p) HO4.out (by omega) (some ⟨g3, p + 1, none⟩) (mm - p) (mm + 1 - p) (c3 - (p + 1)) (c3 - p) (by simp [Act.eval, Act.put]) (by omega) (fun h => rfl) (by simp [Act.eval, Act.put]) rfl ?_; intro v4 w4 h4 hg4)
                          all_goals
                            have f4 := h4.txCell p (by rw [List.length_append, List.length_take, List.length_take, List.length_drop, hl3]; omega)
                            have T4 := HT4.out.grown h4 hg4 (.inl rfl)
                            have T5 := T4.grown (h4.txSet p (by rw [List.length_append, List.length_take, List.length_take, List.length_drop, hl3]; omega) (tE (some r))) (grown_set (Past.refl w4) g3 p _) (.inl rfl)
                            have e7 : ((M.map tE ++ [(⟨#[]⟩ : ByteArray)]).take (p + 1) ++ ((M.map tE ++ [(⟨#[]⟩ : ByteArray)]).drop p).take (mm + 1 - (p + 1))).set p (tE (some r)) = (M.map tE).take p ++ tE (some r) :: (M.map tE).drop p := by
                              have h := shift_set (xs := M.map tE) ⟨#[]⟩ (tE (some r)) (p := p) (by rw [List.length_map, HMM.out]; omega)
                              rw [List.length_map, HMM.out] at h
                              exact h
                            rw [e7] at T5
                            have HT5 := Lib.hid T5
                            obtain ⟨zz, f41⟩ : ∃ z, w4.cell? ⟨g3, p, none⟩ = some (.string z) := ⟨_, f4.1⟩
                            have f42 := f4.2
                            clear T4 T5 e7 f4 h4 hg4
                            go_wp2_with fail
                            go_meet
                            case rel => exact ⟨_, rfl, by rw [HOE.out, HIS.out]; exact HT5.out⟩
                    · have hpe : p = mm := by omega
                      have z5 : ¬ (p : Int) < (mm : Int) := by omega
                      have HIS : Hid ((insS (some r) M).map tE = (M.map tE).take p ++ tE (some r) :: (M.map tE).drop p) := by
                        show _ = _
                        unfold insS
                        rw [HP.out, if_neg (by rw [List.getElem?_eq_none (by have := HMM.out; omega)]; simp), List.map_append, List.map_cons, List.map_take, List.map_drop]
                      clear hpe
                      go_upto_region 14 with (first | (at_builtin; refine wpList_appB HEL.out (HTZ.out.2.1.alloc _) rfl rfl rfl ⟨_, 0, none⟩ _ (⟨#[]⟩ : ByteArray) rfl (cell_newS rTx _ _ _ _ _ (by simp [go_sem]) rfl) ?_ ?_; (rw [List.length_map]; have := HML.out.1; omega); intro v3 w3 hown3 hg3 hb3; have ht3 := (HTZ.out.past ((Past.refl _).alloc _)).grown hown3 hg3 hb3; have HT3 := Lib.hid ht3; clear hown3 hg3 hb3 ht3))
                      obtain ⟨g3, c3, rfl, h31, h32, h33, h34, -, -⟩ := HT3.out.2.1.form (by rw [List.length_append]; simp)
                      have hl3 : (M.map tE ++ [(⟨#[]⟩ : ByteArray)]).length = mm + 1 := by rw [List.length_append, List.length_map, List.length_singleton, HMM.out]
                      rw [hl3] at h31 HT3 ⊢
                      have HT4 := Lib.hid (HT3.out.past (Past.refl w3).drew)
                      have HO4 := Lib.hid HT4.out.2.1
                      have zw1 : IntKind.i64.wrap ((p : Int) + 1) = (p : Int) + 1 := by rw [IntKind.wrap_i64]; omega
                      have z02 : (0 : Int) ≤ (p : Int) + 1 := by omega
                      have zt : ((p : Int) + 1).toNat = p + 1 := by omega
                      have zle : (p : Int) + 1 ≤ (mm : Int) + 1 := by omega
                      have zle2 : (p : Int) ≤ (mm : Int) + 1 := by omega
                      have zlt : (p : Int) < (mm : Int) + 1 := by omega
                      by_cases hc3 : c3 = p + 1
                      · subst hc3
                        go_region_law (refine step_copy_shift rfl (.tmp 79) (.tmp 82) 83 rfl HEL.out (k := p) HO4.out (by omega) (some ⟨g3, 0, none⟩) 0 (mm + 1 - p) 0 1 (by simp [Act.eval, Act.put]) (by omega) (fun h => by omega) (by simp [Act.eval, Act.put]) rfl ?_; intro v4 w4 h4 hg4)
                        all_goals
                          have f4 := h4.txCell p (by rw [List.length_append, List.length_take, List.length_take, List.length_drop, hl3]; omega)
                          have T4 := HT4.out.grown h4 hg4 (.inl rfl)
                          have T5 := T4.grown (h4.txSet p (by rw [List.length_append, List.length_take, List.length_take, List.length_drop, hl3]; omega) (tE (some r))) (grown_set (Past.refl w4) g3 p _) (.inl rfl)
                          have e7 : ((M.map tE ++ [(⟨#[]⟩ : ByteArray)]).take (p + 1) ++ ((M.map tE ++ [(⟨#[]⟩ : ByteArray)]).drop p).take (mm + 1 - (p + 1))).set p (tE (some r)) = (M.map tE).take p ++ tE (some r) :: (M.map tE).drop p := by
                            have h := shift_set (xs := M.map tE) ⟨#[]⟩ (tE (some r)) (p := p) (by rw [List.length_map, HMM.out]; omega)
                            rw [List.length_map, HMM.out] at h
                            exact h
                          rw [e7] at T5
                          have HT5 := Lib.hid T5
                          obtain ⟨zz, f41⟩ : ∃ z, w4.cell? ⟨g3, p, none⟩ = some (.string z) := ⟨_, f4.1⟩
                          have f42 := f4.2
                          clear T4 T5 e7 f4 h4 hg4
                          go_wp2_with fail
                          go_meet
                          case rel => exact ⟨_, rfl, by rw [HOE.out, HIS.out]; exact HT5.out⟩
                      · have hcp : ¬ c3 = p := by omega
                        go_region_law (refine step_copy_shift rfl (.tmp 79) (.tmp 82) 83 rfl HEL.out (k := p) HO4.out (by omega) (some ⟨g3, p + 1, none⟩) (mm - p) (mm + 1 - p) (c3 - (p + 1)) (c3 - p) (by simp [Act.eval, Act.put]) (by omega) (fun h => rfl) (by simp [Act.eval, Act.put]) rfl ?_; intro v4 w4 h4 hg4)
                        all_goals
                          have f4 := h4.txCell p (by rw [List.length_append, List.length_take, List.length_take, List.length_drop, hl3]; omega)
                          have T4 := HT4.out.grown h4 hg4 (.inl rfl)
                          have T5 := T4.grown (h4.txSet p (by rw [List.length_append, List.length_take, List.length_take, List.length_drop, hl3]; omega) (tE (some r))) (grown_set (Past.refl w4) g3 p _) (.inl rfl)
                          have e7 : ((M.map tE ++ [(⟨#[]⟩ : ByteArray)]).take (p + 1) ++ ((M.map tE ++ [(⟨#[]⟩ : ByteArray)]).drop p).take (mm + 1 - (p + 1))).set p (tE (some r)) = (M.map tE).take p ++ tE (some r) :: (M.map tE).drop p := by
                            have h := shift_set (xs := M.map tE) ⟨#[]⟩ (tE (some r)) (p := p) (by rw [List.length_map, HMM.out]; omega)
                            rw [List.length_map, HMM.out] at h
                            exact h
                          rw [e7] at T5
                          have HT5 := Lib.hid T5
                          obtain ⟨zz, f41⟩ : ∃ z, w4.cell? ⟨g3, p, none⟩ = some (.string z) := ⟨_, f4.1⟩
                          have f42 := f4.2
                          clear T4 T5 e7 f4 h4 hg4
                          go_wp2_with fail
                          go_meet
                          case rel => exact ⟨_, rfl, by rw [HOE.out, HIS.out]; exact HT5.out⟩
              · have hdb : (dv != d) = true := by simp [hd]
                have HOE : Hid (oneE (dv == d) t M = M) := by show _ = _; unfold oneE; rw [if_neg (by simp [hd])]
                go_wp2_with fail
                go_meet
                case rel => exact ⟨_, rfl, by rw [HOE.out]; exact HT.out⟩
            case rest =>
              obtain ⟨vc, hvc, HTR⟩ := hcut
              subst hvc
              go_wp2_with fail
              go_roundg (2 - (j + 1))
              case measure => have := HH.out; omega
              case rel => exact ⟨j + 1, _, _, rfl, by go_num, by omega, rfl, HTS.out.symm, ⟨by have := oneE_len (dv == d) t M; have := HML.out.1; omega, oneE_all _ _ _ HTK.out HML.out.2⟩, HTR.out⟩
          · have hje : 2 = j := by omega
            subst hje
            go_wp2_with fail
            go_roundg (n - (i + 1))
            case measure => have := HG.out; omega
            case rel => exact ⟨i + 1, _, M, rfl, by go_num, by omega, rfl, HST.out M HM.out, ⟨by have := HML.out.1; omega, HML.out.2⟩, HT.out.2.1⟩
    · have hie : n = i := by omega
      subst hie
      have HLC : Hid (curL (vs.filter fun v => v.d == d) = L) := by
        show _ = _
        rw [HLL.out, List.take_of_length_le (by have := HL.out; omega), curD]; rfl
      have HSM : Hid (∀ e ∈ L, ∃ r, e = some r) := fun e he => endsL_some (curL_mem.1 (by rw [HLC.out]; exact he))
      have HOL : Hid (∀ v ∈ vs, v.okL) := fun v hv => (HOK.out v hv).L
      obtain ⟨A4, c4, rfl, hr4⟩ := HO.out.reads
      have hLe : L = LL := HLC.out.symm.trans HLX.out
      subst hLe
      rw [List.length_map] at hr4 ⊢
      have hk9 : (k : Int) ≤ 2000 := by have := HLN.out.1; have := HKL.out; omega
      rw [HKL.out] at hr4 ⊢
      have HR4 := Lib.hid hr4
      have HP4 := Lib.hid HO.out.2
      clear hr4
      go_wp2_with fail
      go_loopg [11, 12] k (fun hh nv jv wx => ∃ (j : Nat) (vn : Value), vn = nv ∧ jv = .int .i64 j ∧ j ≤ k ∧ Hid (hh = k - j) ∧ Hid (Own wo wx 3 .i64 vn ((L.take j).map (rnkN vs d))))
      case atStart => exact ⟨0, _, rfl, rfl, Nat.zero_le _, rfl, Own.nil (Past.refl _) _ _⟩
      case round =>
        obtain ⟨j, vn, hvn, rfl, hj, HH, HON⟩ := hrel
        subst hvn
        obtain ⟨wi, hwi⟩ : ∃ x, x = wr := ⟨_, rfl⟩
        subst hwi
        by_cases hjn : j < k
        · have hjl : j < L.length := by have := HKL.out; omega
          obtain ⟨u, hue⟩ : ∃ u, L[j] = u := ⟨_, rfl⟩
          obtain ⟨r, rfl⟩ := HSM.out u (by rw [← hue]; exact List.getElem_mem hjl)
          have HUT : Hid (tlQ r ≤ 1000000) := Nat.le_trans (show tlE (some r) ≤ 1000 from HLN.out.2 _ (by rw [← hue]; exact List.getElem_mem hjl)) (by decide)
          obtain ⟨b6, o6, rfl, hc6⟩ := HR4.out.tx (by omega)
          have f0 := HON.out.2.cell (hc6 j (by rw [List.length_map]; exact hjl))
          rw [List.getElem_map, hue] at f0
          have HTK : Hid ((L.take (j + 1)).map (rnkN vs d) = (L.take j).map (rnkN vs d) ++ [rnkN vs d (some r)]) := by
            show _ = _
            rw [List.take_succ_eq_append_getElem hjl, hue, List.map_append]; rfl
          have HLL2 : Hid (((L.take j).map (rnkN vs d)).length ≤ 2000) := by
            show _ ≤ _
            rw [List.length_map, List.length_take]; omega
          have HCV : Hid (((vs.countP (rankV d r r) : Nat) : Int) = rnkN vs d (some r)) := rfl
          have HPW : Hid (Past w wi) := HP4.out.trans HON.out.2
          have HXW : Hid (Rows wi.drew rBar A n c (vs.map VB.enc)) := HX.out.past (HPW.out.trans (Past.refl wi).drew)
          have HN6 : Hid (n ≤ 1000000) := Nat.le_trans hn (by decide)
          have HPD : Hid (Past wi wi.drew) := (Past.refl wi).drew
          clear hc6 hue
          have z1 : (j : Int) < (k : Int) := by omega
          go_upto_block 7 with fail
          go_cut [11] (fun nv wx => ∃ vm, vm = nv ∧ Hid (Own wo wx 3 .i64 vm ((L.take (j + 1)).map (rnkN vs d))))
          case first =>
            go_wp2_with fail
            go_region_law (first
              | (refine step_app_own rfl HEI.out rfl (HON2.out.alloc _) rfl ⟨_, 0, none⟩ _ (rnkN vs d (some r)) rfl (cell_new1 _ _ _) (by have := HLL2.out; omega) ?_; intro v8 w8 hown8)
              | (go_simp; go_at_call 59; (with_reducible refine (ref_rank A n c vs d r r _ HXW.out HOL.out HUT.out HUT.out HN6.out).mono ?_); rintro e' w7 ⟨hp7, rfl⟩; rw [HCV.out]; have HON2 := Lib.hid (HON.out.past (HPD.out.trans hp7)); clear hp7))
            all_goals
              go_wp2_with fail
              go_meet
              case rel => exact ⟨_, rfl, by rw [HTK.out]; exact hown8⟩
          case rest =>
            obtain ⟨vm, hvm, HOM⟩ := hcut
            subst hvm
            go_wp2_with fail
            go_roundg (k - (j + 1))
            case measure => have := HH.out; omega
            case rel => exact ⟨j + 1, _, rfl, by go_num, by omega, rfl, HOM.out⟩
        · have hje : k = j := by omega
          subst hje
          have ho8 : Own wo wi 3 .i64 vn (L.map (rnkN vs d)) := by
            have h := HON.out
            rw [List.take_of_length_le (by have := HKL.out; omega)] at h
            exact h
          obtain ⟨A9, c9, rfl, hr9⟩ := ho8.reads
          have hl9 : (L.map (rnkN vs d)).length = k := by rw [List.length_map]; exact HKL.out
          rw [hl9] at hr9 ⊢
          have HR9 := Lib.hid hr9
          have HP9 := Lib.hid ho8.2
          clear hr9 ho8 hl9
          go_wp2
          go_ret2
          exact ⟨HP4.out.trans HP9.out, _, _, _, _, rfl, HR4.out.past HP9.out, HR9.out⟩

end Go.Proofs.YtdcjibjldfjllaaGreat
