/- Helpers of the proof, joined: Rat3 Rat4 Rat5 Rat6 Ve. -/
import Derived.Test.YtdcjibjldfjllaaGreatPGj
import Derived.Test.YtdcjibjldfjllaaGreatPGe
set_option linter.unusedVariables false
set_option linter.unusedSimpArgs false
/- ratio: ends; their comparison; the ends of texts. -/
namespace Go.Proofs.YtdcjibjldfjllaaGreat
open Go.RowKit

def cmpQ (q r : Rat) : Int := cmpZ (q.num * r.den) (r.num * q.den)
/-- Ends: none is infinity. -/
def cmpE : Option Rat → Option Rat → Int
  | none, none => 0
  | none, some _ => 1
  | some _, none => -1
  | some q, some r => cmpQ q r
def eV (l : List Int) : Option Rat := if isInf l then none else some (valR l)

/-- An end in memory. -/
structure EC where
  s : Bool
  A : Option Addr
  n : Nat
  c : Nat
  t : Bool
  B : Option Addr
  m : Nat
  d : Nat
  i : Bool
def RE (w : World) (x : EC) : Option Rat → Prop
  | none => x.i = true
  | some q => x.i = false ∧ RQ w x.s x.A x.n x.c x.t x.B x.m x.d q ∧ lenQ q < 8589934592
theorem RE.past {w w1 : World} {x : EC} {e : Option Rat} (h : RE w x e) (hp : Past w w1) : RE w1 x e := by
  cases e with
  | none => exact h
  | some q => exact ⟨h.1, h.2.1.past hp, h.2.2⟩
theorem RQ.keepU {w w1 : World} {s : Bool} {A : Option Addr} {n c : Nat} {t : Bool} {B : Option Addr} {m d : Nat} {q : Rat} (h : RQ w s A n c t B m d q) (hp : KeepU w w1) : RQ w1 s A n c t B m d q :=
  ⟨h.1.keepU hp, h.2.elim (fun h => .inl (h.keepU hp)) (fun h => .inr ⟨h.1, h.2.keepU hp⟩)⟩
theorem RE.keepU {w w1 : World} {x : EC} {e : Option Rat} (h : RE w x e) (hp : KeepU w w1) : RE w1 x e := by
  cases e with
  | none => exact h
  | some q => exact ⟨h.1, h.2.1.keepU hp, h.2.2⟩
def rEC : Rep EC := ⟨fun x => [.bool x.s, .slice x.A x.n x.c, .bool x.t, .slice x.B x.m x.d, .bool x.i], 5, fun _ => rfl, by intro x u hu; simp at hu; rcases hu with rfl | rfl | rfl | rfl | rfl <;> rfl, by decide⟩
@[reducible] def EC.val (x : EC) : Value := .agg #[.bool x.s, .slice x.A x.n x.c, .bool x.t, .slice x.B x.m x.d, .bool x.i]

theorem cell_newS {α : Type} (R : Rep α) (w : World) (arr : Array Value) (t : TypeId) (y : α) (b : Nat) (hb : w.heap.size = b) (h : arr.toList = R.enc y) : ∀ i u, (R.enc y)[i]? = some u → (w.alloc (.cells arr t)).cell? ((⟨b, 0, none⟩ : Addr).add i) = some u := by
  intro i u hu
  subst hb
  rw [add_plain, World.cell?_alloc_at _ _ _ _ rfl]
  rw [← h] at hu
  simpa using hu

set_option maxRecDepth 100000 in
set_option maxHeartbeats 4000000 in
theorem end_cmp (x y : EC) (e f : Option Rat) (w : World) (hx : RE w x e) (hy : RE w y f) :
    Calls Tryz.prog 135 #[x.val, y.val] w fun r w' => Past w w' ∧ r = .returned (.int .i64 (cmpE e f)) := by
  have HX := Lib.hid hx
  have HY := Lib.hid hy
  clear hx hy
  obtain ⟨s, A, n, c, t, B, m, d, i⟩ := x
  obtain ⟨s', A', n', c', t', B', m', d', i'⟩ := y
  unfold EC.val
  dsimp only
  obtain ⟨wb, hwb⟩ : ∃ wb, ((w.alloc (.cells #[.bool s, .slice A n c, .bool t, .slice B m d, .bool i] 195)).alloc (.cells #[.bool s', .slice A' n' c', .bool t', .slice B' m' d', .bool i'] 195)) = wb := ⟨_, rfl⟩
  have HPB : Hid (Past w wb) := by rw [← hwb]; exact ((Past.refl _).alloc _).alloc _
  have HB : Hid ((wb.cell? ⟨w.heap.size, 0, none⟩ = some (.bool s) ∧ wb.cell? ⟨w.heap.size, 1, none⟩ = some (.slice A n c) ∧ wb.cell? ⟨w.heap.size, 2, none⟩ = some (.bool t) ∧ wb.cell? ⟨w.heap.size, 3, none⟩ = some (.slice B m d)) ∧
      (wb.cell? ⟨w.heap.size + 1, 0, none⟩ = some (.bool s') ∧ wb.cell? ⟨w.heap.size + 1, 1, none⟩ = some (.slice A' n' c') ∧ wb.cell? ⟨w.heap.size + 1, 2, none⟩ = some (.bool t') ∧ wb.cell? ⟨w.heap.size + 1, 3, none⟩ = some (.slice B' m' d'))) := by rw [← hwb]; simp [go_sem, Hid]
  have HWB := Lib.hid hwb
  clear hwb
  cases e with
  | none =>
    have hi : i = true := HX.out
    subst hi
    cases f with
    | none =>
      have hi : i' = true := HY.out
      subst hi
      go_enter Tryz.func135, Tryz.ntmps135
      go_wp2
      go_ret
      exact ⟨((Past.refl w).alloc _).alloc _, rfl⟩
    | some r =>
      have hi : i' = false := HY.out.1
      subst hi
      go_enter Tryz.func135, Tryz.ntmps135
      go_wp2
      go_ret
      exact ⟨((Past.refl w).alloc _).alloc _, rfl⟩
  | some q =>
    have hi : i = false := HX.out.1
    subst hi
    cases f with
    | none =>
      have hi : i' = true := HY.out
      subst hi
      go_enter Tryz.func135, Tryz.ntmps135
      go_wp2
      go_ret
      exact ⟨((Past.refl w).alloc _).alloc _, rfl⟩
    | some r =>
      have hi : i' = false := HY.out.1
      subst hi
      go_enter Tryz.func135, Tryz.ntmps135
      go_wp2_with fail
      rw [HWB.out]
      refine (ratio_cmp _ _ _ _ _ _ _ _ _ _ _ _ _ _ _ _ q r _ (HX.out.2.1.past HPB.out) (HY.out.2.1.past HPB.out) ⟨HX.out.2.2, HY.out.2.2⟩).mono ?_
      rintro e w1 ⟨hp1, rfl⟩
      go_wp2
      go_ret
      exact ⟨HPB.out.trans hp1, rfl⟩

theorem info_end : (Tryz.prog.info? 195).map (fun i => (i.zero, i.size, i.bytes)) = some (some (.agg #[.bool false, .slice none 0 0, .bool false, .slice none 0 0, .bool false]), 5, 72) := by kernel_rfl
theorem el_end : ElU Tryz.prog rEC 191 195 := by
  refine ⟨Tryz.underlying191, ?_, ?_⟩
  · obtain ⟨i, h1, h2, h3, h4⟩ := info_parts info_end
    exact ⟨i, _, h1, h2, h3, by omega, rfl, by intro u hu; simp [Value.cells] at hu; rcases hu with rfl | rfl | rfl | rfl | rfl <;> rfl⟩
  · intro y u hu
    simp [rEC] at hu
    rcases hu with rfl | rfl | rfl | rfl | rfl <;> rfl

/-- The ends of texts. -/
def AnsE (ts : List ByteArray) (w : World) (e : Ending) (w' : World) : Prop :=
  Past w w' ∧ (if ts.all (fun s => okE (byt s)) then ∃ (A : Option Addr) (c : Nat) (xs : List EC), e = .returned (.tuple #[.slice A ts.length c, .bool true]) ∧ Rows w' rEC A ts.length c xs ∧ (∀ j (h : j < xs.length) (h' : j < ts.length), RE w' xs[j] (eV (byt ts[j]))) else e = .returned (.tuple #[.slice none 0 0, .bool false]))

/-- Texts and their ends. -/
def REs (w : World) (ts : List ByteArray) (xs : List EC) : Prop := ∀ j (h : j < xs.length) (h' : j < ts.length), RE w xs[j] (eV (byt ts[j]))
theorem REs.keepU {w w1 : World} {ts : List ByteArray} {xs : List EC} (h : REs w ts xs) (hp : KeepU w w1) : REs w1 ts xs := fun j h1 h2 => (h j h1 h2).keepU hp
theorem REs.snoc {w : World} {ts : List ByteArray} {xs : List EC} {i : Nat} (h : REs w ts xs) (hi : xs.length = i) {x : EC} {s : ByteArray} (hit : i < ts.length) (hs : ts[i] = s) (hx : RE w x (eV (byt s))) : REs w ts (xs ++ [x]) := by
  intro j h1 h2
  by_cases hj : j < xs.length
  · rw [List.getElem_append_left hj]
    exact h j hj h2
  · have hj2 : j = xs.length := by simp at h1; omega
    subst hj2
    rw [List.getElem_append_right (Nat.le_refl _)]
    simp only [Nat.sub_self, List.getElem_singleton]
    subst hi
    rw [hs]
    exact hx
theorem all_no {ts : List ByteArray} {i : Nat} {s : ByteArray} (hit : i < ts.length) (hs : ts[i] = s) (h : okE (byt s) = false) : ts.all (fun s => okE (byt s)) = false := by
  rw [List.all_eq_false]
  exact ⟨ts[i], List.getElem_mem hit, by rw [hs, h]; simp⟩
set_option maxRecDepth 100000 in
set_option maxHeartbeats 4000000 in
theorem ratio_reads (b off c : Nat) (ts : List ByteArray) (w : World) (hc : ∀ j (h : j < ts.length), w.cell? ⟨b, off + j, none⟩ = some (.string ts[j])) (hsz : ∀ s ∈ ts, s.size ≤ 100000000) (hl : ts.length ≤ 1000000000) (hcap : ts.length ≤ c ∧ c ≤ 9223372036854775807) :
    Calls Tryz.prog 134 #[.slice (some ⟨b, off, none⟩) ts.length c] w (AnsE ts w) := by
  have HC := Lib.hid hc
  have HSZ := Lib.hid hsz
  clear hc hsz
  obtain ⟨hc1, hc2⟩ := hcap
  obtain ⟨n, hn⟩ : ∃ n, ts.length = n := ⟨_, rfl⟩
  have HN := Lib.hid hn
  rw [hn] at hl hc1 ⊢
  clear hn
  go_enter Tryz.func134, Tryz.ntmps134
  go_wp2
  go_loopw [4, 11] (fun v iv wr => ∃ (i : Nat) (xs : List EC), i ≤ n ∧ iv = .int .i64 i ∧ Hid (xs.length = i) ∧ Hid (OwnU w wr rEC 195 v xs) ∧ Hid (REs wr ts xs) ∧ Hid ((ts.take i).all (fun s => okE (byt s)) = true)) (fun _ iv _ => n - (intOf iv).toNat)
  case atStart => exact ⟨0, [], Nat.zero_le _, rfl, rfl, OwnU.nil (Past.refl w) _ _, fun j h => absurd h (by simp), rfl⟩
  case round =>
    obtain ⟨i, xs, hi, rfl, HLX, HO, HRE, HALL⟩ := hrel
    by_cases hin : i < n
    · have hit : i < ts.length := by have := HN.out; omega
      obtain ⟨s, hs⟩ : ∃ s, ts[i] = s := ⟨_, rfl⟩
      have e0 := HC.out i hit
      rw [hs] at e0
      have e1 := HO.out.1.2.cell e0
      clear e0
      have HS := Lib.hid hs
      have HSS : Hid (s.size ≤ 100000000) := by rw [← hs]; exact HSZ.out _ (List.getElem_mem hit)
      have HTK : Hid ((ts.take (i + 1)) = ts.take i ++ [s]) := by rw [← hs]; exact List.take_succ_eq_append_getElem hit
      clear hs
      have HI := inf_eq s
      obtain ⟨bi, hb⟩ : ∃ bi, isInf (byt s) = bi := ⟨_, rfl⟩
      rw [hb] at HI
      have HB := Lib.hid hb
      clear hb
      cases bi with
      | true =>
        have HEV : Hid (eV (byt s) = none) := by unfold eV; rw [HB.out]; rfl
        have HOK : Hid (okE (byt s) = true) := by unfold okE; rw [HB.out]; rfl
        go_wp2_with (first | (at_builtin; refine wpList_appU el_end (HO.out.alloc _) rfl rfl rfl ⟨_, 0, none⟩ _ (EC.mk false none 0 0 false none 0 0 true) rfl (cell_newS rEC _ _ _ _ _ (by simp [go_sem]) rfl) ?_ ?_; (have := HLX.out; omega); intro v1 w1 hown1 hp1 hku))
        go_roundw
        case rel =>
          refine ⟨i + 1, xs ++ [EC.mk false none 0 0 false none 0 0 true], by omega, by go_num, by simp [Hid, HLX.out], hown1, ?_, by rw [HTK.out, List.all_append, HALL.out]; simp [HOK.out, Hid]⟩
          exact (HRE.out.keepU (((Past.refl _).alloc _).keepU.trans hku)).snoc HLX.out hit HS.out (by rw [HEV.out]; rfl)
        case measure => simp [intOf]; omega
      | false =>
        have HEV : Hid (eV (byt s) = some (valR (byt s))) := by unfold eV; rw [HB.out]; rfl
        have HOK : Hid (okE (byt s) = okV (byt s)) := by unfold okE; rw [HB.out]; rfl
        have HLQ : Hid (lenQ (valR (byt s)) < 8589934592) := by
          have h := lenQ_valR (byt s)
          rw [byt_length] at h
          have := HSS.out
          unfold Hid
          omega
        obtain ⟨o, ho⟩ : ∃ o, okV (byt s) = o := ⟨_, rfl⟩
        have HV := Lib.hid ho
        clear ho
        go_wp2_with fail
        refine (ratio_read s _ HSS.out).mono ?_
        rintro e w1 ⟨v1, rfl, hp1, s1, A1, n1, c1, t1, B1, m1, d1, hv, hr1⟩
        injection hv with hv
        subst hv
        rw [HV.out]
        have HR1 := Lib.hid hr1
        have HO1 := Lib.hid (HO.out.past hp1)
        have HRE1 := Lib.hid (HRE.out.keepU hp1.keepU)
        clear hr1
        cases o with
        | true =>
          go_wp2_with (first | (at_builtin; refine wpList_appU el_end ((HO1.out.alloc _).alloc _) rfl rfl rfl ⟨_, 0, none⟩ _ (EC.mk s1 A1 n1 c1 t1 B1 m1 d1 false) rfl (cell_newS rEC _ _ _ _ _ (by simp [go_sem]) rfl) ?_ ?_; (have := HLX.out; omega); intro v2 w2 hown2 hp2 hku))
          go_roundw
          case rel =>
            refine ⟨i + 1, xs ++ [EC.mk s1 A1 n1 c1 t1 B1 m1 d1 false], by omega, by go_num, by simp [Hid, HLX.out], hown2, ?_, by rw [HTK.out, List.all_append, HALL.out]; simp [HOK.out, HV.out, Hid]⟩
            have hk := (((Past.refl w1).alloc _).alloc _).keepU.trans hku
            exact (HRE1.out.keepU hk).snoc HLX.out hit HS.out (by rw [HEV.out]; exact ⟨rfl, HR1.out.keepU hk, HLQ.out⟩)
          case measure => simp [intOf]; omega
        | false =>
          have HNO : Hid (ts.all (fun s => okE (byt s)) = false) := all_no hit HS.out (by rw [HOK.out, HV.out])
          go_wp2
          go_ret2
          exact ⟨(HO.out.1.2.trans hp1).alloc _, by rw [HNO.out, if_neg (by simp)]; rfl⟩
    · have hin2 : i = n := by omega
      subst hin2
      have HYES : Hid (ts.all (fun s => okE (byt s)) = true) := by
        have h := HALL.out
        rw [List.take_of_length_le (by have := HN.out; omega)] at h
        exact h
      obtain ⟨A2, c2, rfl, hrows⟩ := HO.out.1.reads
      have HROW := Lib.hid hrows
      clear hrows
      go_wp2
      go_ret2
      refine ⟨HO.out.1.2, ?_⟩
      rw [HYES.out, if_pos rfl]
      have hle : ts.length = xs.length := by rw [HN.out, HLX.out]
      refine ⟨A2, c2, xs, ?_, ?_, HRE.out⟩
      · rw [hle]; rfl
      · rw [hle]; exact HROW.out

end Go.Proofs.YtdcjibjldfjllaaGreat

/- ratio.Cmp. -/
namespace Go.Proofs.YtdcjibjldfjllaaGreat
open Go.RowKit

/-- An end in cells. -/
def Cells5 (w : World) (b o : Nat) (x : EC) : Prop :=
  w.cell? ⟨b, o, none⟩ = some (.bool x.s) ∧ w.cell? ⟨b, o + 1, none⟩ = some (.slice x.A x.n x.c) ∧ w.cell? ⟨b, o + 2, none⟩ = some (.bool x.t) ∧ w.cell? ⟨b, o + 3, none⟩ = some (.slice x.B x.m x.d) ∧ w.cell? ⟨b, o + 4, none⟩ = some (.bool x.i)
theorem Cells5.past {w w1 : World} {b o : Nat} {x : EC} (h : Cells5 w b o x) (hp : Past w w1) : Cells5 w1 b o x :=
  ⟨hp.cell h.1, hp.cell h.2.1, hp.cell h.2.2.1, hp.cell h.2.2.2.1, hp.cell h.2.2.2.2⟩

def Cells10 (w' : World) (g o : Nat) (x y : EC) : Prop := w'.cell? ⟨g, o, none⟩ = some (.bool x.s) ∧ w'.cell? ⟨g, o + 1, none⟩ = some (.slice x.A x.n x.c) ∧ w'.cell? ⟨g, o + 2, none⟩ = some (.bool x.t) ∧ w'.cell? ⟨g, o + 3, none⟩ = some (.slice x.B x.m x.d) ∧ w'.cell? ⟨g, o + 4, none⟩ = some (.bool x.i) ∧ w'.cell? ⟨g, o + 5, none⟩ = some (.bool y.s) ∧ w'.cell? ⟨g, o + 5 + 1, none⟩ = some (.slice y.A y.n y.c) ∧ w'.cell? ⟨g, o + 5 + 2, none⟩ = some (.bool y.t) ∧ w'.cell? ⟨g, o + 5 + 3, none⟩ = some (.slice y.B y.m y.d) ∧ w'.cell? ⟨g, o + 5 + 4, none⟩ = some (.bool y.i)
theorem cells10 {w : World} {g o : Nat} {x y : EC} (h : Cells5 w g o x) (k : Cells5 w g (o + 5) y) : Cells10 w g o x y :=
  ⟨h.1, h.2.1, h.2.2.1, h.2.2.2.1, h.2.2.2.2, k.1, k.2.1, k.2.2.1, k.2.2.2.1, k.2.2.2.2⟩
theorem Cells10.past {w w1 : World} {g o : Nat} {x y : EC} (h : Cells10 w g o x y) (hp : Past w w1) : Cells10 w1 g o x y := by
  obtain ⟨a0, a1, a2, a3, a4, b0, b1, b2, b3, b4⟩ := h
  exact ⟨hp.cell a0, hp.cell a1, hp.cell a2, hp.cell a3, hp.cell a4, hp.cell b0, hp.cell b1, hp.cell b2, hp.cell b3, hp.cell b4⟩

theorem ends_two {a b : ByteArray} {w : World} {e : Ending} {w' : World} (h : AnsE [a, b] w e w') :
    Past w w' ∧ ((okE (byt a) && okE (byt b)) = false ∧ e = .returned (.tuple #[.slice none 0 0, .bool false]) ∨
      (okE (byt a) && okE (byt b)) = true ∧ ∃ g o c x y, e = .returned (.tuple #[.slice (some ⟨g, o, none⟩) 2 c, .bool true]) ∧ 2 ≤ c ∧ c ≤ 9223372036854775807 ∧ Cells5 w' g o x ∧ Cells5 w' g (o + 5) y ∧ RE w' x (eV (byt a)) ∧ RE w' y (eV (byt b))) := by
  refine ⟨h.1, ?_⟩
  have h2 := h.2
  have e0 : ([a, b].all fun s => okE (byt s)) = (okE (byt a) && okE (byt b)) := by simp
  rw [e0] at h2
  cases hk : (okE (byt a) && okE (byt b)) with
  | false =>
    rw [hk, if_neg (by simp)] at h2
    exact .inl ⟨rfl, h2⟩
  | true =>
    rw [hk, if_pos rfl] at h2
    obtain ⟨A, c, xs, he, hr, hre⟩ := h2
    have hl : xs.length = 2 := hr.len
    obtain ⟨g, o, rfl, hc⟩ := hr.at_ (by simp)
    match xs, hl, hr, hre, hc with
    | [x, y], _, hr, hre, hc =>
      refine .inr ⟨rfl, g, o, c, x, y, he, hr.cap, hr.big, ?_, ?_, hre 0 (by simp) (by simp), hre 1 (by simp) (by simp)⟩
      · have h0 := hc 0 (by simp)
        exact ⟨by simpa using h0 0 _ rfl, by simpa using h0 1 _ rfl, by simpa using h0 2 _ rfl, by simpa using h0 3 _ rfl, by simpa using h0 4 _ rfl⟩
      · have h0 := hc 1 (by simp)
        have e5 : o + 1 * rEC.sz = o + 5 := rfl
        rw [e5] at h0
        exact ⟨h0 0 _ rfl, h0 1 _ rfl, h0 2 _ rfl, h0 3 _ rfl, h0 4 _ rfl⟩

/-- What ratio.Cmp answers. -/
def cmpT (a b : List Int) : Int := if okE a && okE b then cmpE (eV a) (eV b) else 0

set_option maxRecDepth 100000 in
set_option maxHeartbeats 4000000 in
theorem ratio_Cmp (a b : ByteArray) (w : World) (ha : a.size ≤ 100000000) (hb : b.size ≤ 100000000) :
    Calls Tryz.prog 79 #[.string a, .string b] w fun e w' => Past w w' ∧ e = .returned (.int .i64 (cmpT (byt a) (byt b))) := by
  have HSZ := Lib.hid (And.intro ha hb)
  clear ha hb
  obtain ⟨wb, hwb⟩ : ∃ wb, (w.alloc (.cells #[.string a, .string b] 36)) = wb := ⟨_, rfl⟩
  have HPB : Hid (Past w wb) := by rw [← hwb]; exact (Past.refl _).alloc _
  have HB : Hid (∀ j (h : j < [a, b].length), wb.cell? ⟨w.heap.size, 0 + j, none⟩ = some (.string [a, b][j])) := by
    intro j h
    match j, h with
    | 0, _ => rw [← hwb]; simp [go_sem]
    | 1, _ => rw [← hwb]; simp [go_sem]
  have HWB := Lib.hid hwb
  clear hwb
  go_enter Tryz.func79, Tryz.ntmps79
  go_wp2_with fail
  rw [HWB.out]
  refine (ratio_reads w.heap.size 0 2 [a, b] _ HB.out (by intro s hs; simp at hs; have := HSZ.out; rcases hs with rfl | rfl <;> omega) (by simp) (by simp)).mono ?_
  intro e w1 hans
  obtain ⟨hp1, h1⟩ := ends_two hans
  clear hans
  rcases h1 with ⟨hno, rfl⟩ | ⟨hyes, g, o, c, x, y, rfl, hc2, hcm, hx, hy, hrx, hry⟩
  · have HNO := Lib.hid hno
    clear hno
    go_wp2
    go_ret
    exact ⟨HPB.out.trans hp1, by unfold cmpT; rw [HNO.out]; rfl⟩
  · have HYES := Lib.hid hyes
    have HRX := Lib.hid hrx
    have HRY := Lib.hid hry
    have HX := Lib.hid hx
    have HY := Lib.hid hy
    have HP1 := Lib.hid (HPB.out.trans hp1)
    clear hyes hrx hry hx hy hp1
    have PD : Hid (Past w1 w1.drew) := (Past.refl w1).drew
    have HXY : Hid (Cells10 w1 g o x y) := cells10 HX.out HY.out
    go_wp2
    go_region_held3 (fun w' => w'.cell? ⟨g, o, none⟩ = some (.bool x.s) ∧ w'.cell? ⟨g, o + 1, none⟩ = some (.slice x.A x.n x.c) ∧ w'.cell? ⟨g, o + 2, none⟩ = some (.bool x.t) ∧ w'.cell? ⟨g, o + 3, none⟩ = some (.slice x.B x.m x.d) ∧ w'.cell? ⟨g, o + 4, none⟩ = some (.bool x.i) ∧ w'.cell? ⟨g, o + 5, none⟩ = some (.bool y.s) ∧ w'.cell? ⟨g, o + 5 + 1, none⟩ = some (.slice y.A y.n y.c) ∧ w'.cell? ⟨g, o + 5 + 2, none⟩ = some (.bool y.t) ∧ w'.cell? ⟨g, o + 5 + 3, none⟩ = some (.slice y.B y.m y.d) ∧ w'.cell? ⟨g, o + 5 + 4, none⟩ = some (.bool y.i)) (first | (refine Cells10.past ?_ hp2; assumption) | (refine Cells10.past ?_ PD; exact HXY.out))
      (first
        | (go_at_call 135; ((with_reducible refine (end_cmp x y (eV (byt a)) (eV (byt b)) _ (HRX.out.past PD.out) (HRY.out.past PD.out)).mono ?_)); rintro e w2 ⟨hp2, rfl⟩))
    go_wp2
    go_ret
    exact ⟨(HP1.out.trans PD.out).trans hp2, by unfold cmpT; rw [HYES.out]; rfl⟩

end Go.Proofs.YtdcjibjldfjllaaGreat

/- ratio: the text of an end, the lesser end. -/
namespace Go.Proofs.YtdcjibjldfjllaaGreat
open Go.RowKit

def etx : Option Rat → List Int
  | none => [105, 110, 102]
  | some q => rtx q
def minE (e f : Option Rat) : Option Rat := if cmpE f e < 0 then f else e

set_option maxRecDepth 100000 in
set_option maxHeartbeats 4000000 in
theorem end_text (x : EC) (e : Option Rat) (w : World) (hx : RE w x e) :
    Calls Tryz.prog 138 #[x.val] w fun r w' => Past w w' ∧ r = .returned (.string (txt (etx e))) := by
  have HX := Lib.hid hx
  clear hx
  obtain ⟨s, A, n, c, t, B, m, d, i⟩ := x
  obtain ⟨wb, hwb⟩ : ∃ wb, (w.alloc (.cells #[.bool s, .slice A n c, .bool t, .slice B m d, .bool i] 195)) = wb := ⟨_, rfl⟩
  have HPB : Hid (Past w wb) := by rw [← hwb]; exact (Past.refl _).alloc _
  have HWB := Lib.hid hwb
  clear hwb
  cases e with
  | none =>
    have hi : i = true := HX.out
    subst hi
    go_enter Tryz.func138, Tryz.ntmps138
    go_wp2
    go_ret
    exact ⟨(Past.refl w).alloc _, rfl⟩
  | some q =>
    have hi : i = false := HX.out.1
    subst hi
    go_enter Tryz.func138, Tryz.ntmps138
    go_wp2_with fail
    rw [HWB.out]
    refine (ratio_text _ _ _ _ _ _ _ _ q _ (HX.out.2.1.past HPB.out) HX.out.2.2).mono ?_
    rintro e w1 ⟨hp1, rfl⟩
    go_wp2
    go_ret
    exact ⟨HPB.out.trans hp1, rfl⟩

theorem KeepU.setCell {w w1 : World} (h : KeepU w w1) {a : Addr} (ha : ∀ u, w1.cell? a = some u → isU u = false) (v : Value) : KeepU w (w1.setCell a v) := by
  intro b o u hu hc
  have h1 := h b o u hu hc
  rw [World.cell?_setCell_other]
  · exact h1
  · intro e
    subst e
    rw [ha u h1] at hu
    cases hu
/-- A call that answers an end. -/
def AnsEnd (e : Option Rat) (w : World) (r : Ending) (w' : World) : Prop := Past w w' ∧ ∃ x : EC, r = .returned x.val ∧ RE w' x e

theorem method_cmp (n : Nat) (v : Value) (w : World) : (Go.method (n + 1) 195 v "Cmp").run Tryz.prog w = .ok (135, v) w := by kernel_rfl
attribute [local go_sem] method_cmp

set_option maxRecDepth 100000 in
set_option maxHeartbeats 4000000 in
theorem end_least (x y : EC) (e f : Option Rat) (w : World) (hx : RE w x e) (hy : RE w y f) :
    Calls Tryz.prog 137 #[x.val, y.val] w (AnsEnd (minE e f) w) := by
  have HX := Lib.hid hx
  have HY := Lib.hid hy
  clear hx hy
  obtain ⟨wb, hwb⟩ : ∃ wb, (((w.alloc (.cells #[.bool x.s, .slice x.A x.n x.c, .bool x.t, .slice x.B x.m x.d, .bool x.i] 195)).alloc (.cells #[.bool y.s, .slice y.A y.n y.c, .bool y.t, .slice y.B y.m y.d, .bool y.i] 195)).alloc (.cells #[.bool false, .slice none 0 0, .bool false, .slice none 0 0, .bool false] 195)) = wb := ⟨_, rfl⟩
  have HPB : Hid (Past w wb) := by rw [← hwb]; exact (((Past.refl _).alloc _).alloc _).alloc _
  have HB : Hid (Cells5 wb w.heap.size 0 x ∧ Cells5 wb (w.heap.size + 1) 0 y ∧ Cells5 wb (w.heap.size + 1 + 1) 0 (EC.mk false none 0 0 false none 0 0 false)) := by rw [← hwb]; simp [go_sem, Hid, Cells5]
  have HF : Hid (∀ j, wb.frozen? ⟨w.heap.size + 1 + 1, j, none⟩ = false) := by rw [← hwb]; intro j; simp [go_sem]
  have HWB := Lib.hid hwb
  clear hwb
  obtain ⟨b0, b1, b2, b3, b4⟩ := HB.out.1
  obtain ⟨c0, c1, c2, c3, c4⟩ := HB.out.2.1
  unfold EC.val
  go_enter Tryz.func137, Tryz.ntmps137
  go_wp2_with fail
  rw [HWB.out]
  refine (end_cmp y x f e _ (HY.out.past HPB.out) (HX.out.past HPB.out)).mono ?_
  rintro e' w1 ⟨hp1, rfl⟩
  have HX1 := Lib.hid ((HX.out.past HPB.out).past hp1)
  have HY1 := Lib.hid ((HY.out.past HPB.out).past hp1)
  have HP1 := Lib.hid hp1
  clear b0 b1 b2 b3 b4 c0 c1 c2 c3 c4
  obtain ⟨b0, b1, b2, b3, b4⟩ := HB.out.1.past hp1
  obtain ⟨c0, c1, c2, c3, c4⟩ := HB.out.2.1.past hp1
  obtain ⟨r0, f0⟩ := hp1.free HB.out.2.2.1 (HF.out 0)
  obtain ⟨r1, f1⟩ := hp1.free HB.out.2.2.2.1 (HF.out 1)
  obtain ⟨r2, f2⟩ := hp1.free HB.out.2.2.2.2.1 (HF.out 2)
  obtain ⟨r3, f3⟩ := hp1.free HB.out.2.2.2.2.2.1 (HF.out 3)
  obtain ⟨r4, f4⟩ := hp1.free HB.out.2.2.2.2.2.2 (HF.out 4)
  clear hp1
  simp only [Nat.zero_add] at b0 b1 b2 b3 b4 c0 c1 c2 c3 c4 r0 r1 r2 r3 r4 f0 f1 f2 f3 f4
  have fin : ∀ v0 v1 v2 v3 v4, Past w (((((w1.setCell ⟨w.heap.size + 1 + 1, 0, none⟩ v0).setCell ⟨w.heap.size + 1 + 1, 1, none⟩ v1).setCell ⟨w.heap.size + 1 + 1, 2, none⟩ v2).setCell ⟨w.heap.size + 1 + 1, 3, none⟩ v3).setCell ⟨w.heap.size + 1 + 1, 4, none⟩ v4) ∧
      KeepU w1 (((((w1.setCell ⟨w.heap.size + 1 + 1, 0, none⟩ v0).setCell ⟨w.heap.size + 1 + 1, 1, none⟩ v1).setCell ⟨w.heap.size + 1 + 1, 2, none⟩ v2).setCell ⟨w.heap.size + 1 + 1, 3, none⟩ v3).setCell ⟨w.heap.size + 1 + 1, 4, none⟩ v4) := by
    intro v0 v1 v2 v3 v4
    have hw : Past w w1 := HPB.out.trans HP1.out
    refine ⟨((((hw.setCell (by dsimp only; omega) _).setCell (by dsimp only; omega) _).setCell (by dsimp only; omega) _).setCell (by dsimp only; omega) _).setCell (by dsimp only; omega) _, ?_⟩
    refine ((((KeepU.setCell ?_ ?_ _).setCell ?_ _).setCell ?_ _).setCell ?_ _).setCell ?_ _
    · exact (Past.refl w1).keepU
    · intro u hu; simp [go_sem, r0] at hu; subst hu; rfl
    · intro u hu; simp [go_sem, r1] at hu; subst hu; rfl
    · intro u hu; simp [go_sem, r2] at hu; subst hu; rfl
    · intro u hu; simp [go_sem, r3] at hu; subst hu; rfl
    · intro u hu; simp [go_sem, r4] at hu; subst hu; rfl
  have FIN := Lib.hid fin
  clear fin
  by_cases hlt : cmpE f e < 0
  · have hb : decide (cmpE f e < 0) = true := decide_eq_true hlt
    have HM : Hid (minE e f = f) := by unfold minE; rw [if_pos hlt]; exact rfl
    clear hlt
    go_wp2
    exact bodyPost_ret (v := y.val) (by simp [results, Tryz.results137, go_sem, r0, r1, r2, r3, r4, EC.val]) rfl ⟨(FIN.out _ _ _ _ _).1, y, rfl, by rw [HM.out]; exact HY1.out.keepU (FIN.out _ _ _ _ _).2⟩
  · have hb : decide (cmpE f e < 0) = false := decide_eq_false hlt
    have HM : Hid (minE e f = e) := by unfold minE; rw [if_neg hlt]; exact rfl
    clear hlt
    go_wp2
    exact bodyPost_ret (v := x.val) (by simp [results, Tryz.results137, go_sem, r0, r1, r2, r3, r4, EC.val]) rfl ⟨(FIN.out _ _ _ _ _).1, x, rfl, by rw [HM.out]; exact HX1.out.keepU (FIN.out _ _ _ _ _).2⟩

end Go.Proofs.YtdcjibjldfjllaaGreat

/- ratio.Min, ratio.Max. -/
namespace Go.Proofs.YtdcjibjldfjllaaGreat
open Go.RowKit

/-- What ratio.Min and ratio.Max answer. -/
def minT (a b : List Int) : List Int := if okE a && okE b then etx (minE (eV a) (eV b)) else []
def maxT (a b : List Int) : List Int := if okE a && okE b then (if cmpE (eV a) (eV b) < 0 then b else a) else []

set_option maxRecDepth 100000 in
set_option maxHeartbeats 4000000 in
theorem ratio_Min (a b : ByteArray) (w : World) (ha : a.size ≤ 100000000) (hb : b.size ≤ 100000000) :
    Calls Tryz.prog 84 #[.string a, .string b] w fun e w' => Past w w' ∧ e = .returned (.string (txt (minT (byt a) (byt b)))) := by
  have HSZ := Lib.hid (And.intro ha hb)
  clear ha hb
  obtain ⟨wb, hwb⟩ : ∃ wb, (w.alloc (.cells #[.string a, .string b] 36)) = wb := ⟨_, rfl⟩
  have HPB : Hid (Past w wb) := by rw [← hwb]; exact (Past.refl _).alloc _
  have HB : Hid (∀ j (h : j < [a, b].length), wb.cell? ⟨w.heap.size, 0 + j, none⟩ = some (.string [a, b][j])) := by
    intro j h
    match j, h with
    | 0, _ => rw [← hwb]; simp [go_sem]
    | 1, _ => rw [← hwb]; simp [go_sem]
  have HWB := Lib.hid hwb
  clear hwb
  go_enter Tryz.func84, Tryz.ntmps84
  go_wp2_with fail
  rw [HWB.out]
  refine (ratio_reads w.heap.size 0 2 [a, b] _ HB.out (by intro s hs; simp at hs; have := HSZ.out; rcases hs with rfl | rfl <;> omega) (by simp) (by simp)).mono ?_
  intro e w1 hans
  obtain ⟨hp1, h1⟩ := ends_two hans
  clear hans
  rcases h1 with ⟨hno, rfl⟩ | ⟨hyes, g, o, c, x, y, rfl, hc2, hcm, hx, hy, hrx, hry⟩
  · have HNO := Lib.hid hno
    clear hno
    go_wp2
    go_ret
    exact ⟨HPB.out.trans hp1, by unfold minT; rw [HNO.out]; rfl⟩
  · have HYES := Lib.hid hyes
    have HRX := Lib.hid hrx
    have HRY := Lib.hid hry
    have HX := Lib.hid hx
    have HY := Lib.hid hy
    have HP1 := Lib.hid (HPB.out.trans hp1)
    clear hyes hrx hry hx hy hp1
    have PD : Hid (Past w1 w1.drew) := (Past.refl w1).drew
    have HXY : Hid (Cells10 w1 g o x y) := cells10 HX.out HY.out
    go_wp2
    go_region_held3 (fun w' => w'.cell? ⟨g, o, none⟩ = some (.bool x.s) ∧ w'.cell? ⟨g, o + 1, none⟩ = some (.slice x.A x.n x.c) ∧ w'.cell? ⟨g, o + 2, none⟩ = some (.bool x.t) ∧ w'.cell? ⟨g, o + 3, none⟩ = some (.slice x.B x.m x.d) ∧ w'.cell? ⟨g, o + 4, none⟩ = some (.bool x.i) ∧ w'.cell? ⟨g, o + 5, none⟩ = some (.bool y.s) ∧ w'.cell? ⟨g, o + 5 + 1, none⟩ = some (.slice y.A y.n y.c) ∧ w'.cell? ⟨g, o + 5 + 2, none⟩ = some (.bool y.t) ∧ w'.cell? ⟨g, o + 5 + 3, none⟩ = some (.slice y.B y.m y.d) ∧ w'.cell? ⟨g, o + 5 + 4, none⟩ = some (.bool y.i)) (first | (refine Cells10.past ?_ hp3; assumption) | (refine Cells10.past ?_ hp2; assumption) | (refine Cells10.past ?_ PD; exact HXY.out))
      (first
        | (go_at_call 138; ((with_reducible refine (end_text z (minE (eV (byt a)) (eV (byt b))) _ HRZ.out).mono ?_)); rintro e w3 ⟨hp3, rfl⟩)
        | (go_at_call 137; ((with_reducible refine (end_least x y (eV (byt a)) (eV (byt b)) _ (HRX.out.past PD.out) (HRY.out.past PD.out)).mono ?_)); rintro e w2 ⟨hp2, z, rfl, hrz⟩; have HRZ := Lib.hid hrz; clear hrz))
    go_wp2
    go_ret
    exact ⟨((HP1.out.trans PD.out).trans hp2).trans hp3, by unfold minT; rw [HYES.out]; rfl⟩

set_option maxRecDepth 100000 in
set_option maxHeartbeats 4000000 in
theorem ratio_Max (a b : ByteArray) (w : World) (ha : a.size ≤ 100000000) (hb : b.size ≤ 100000000) :
    Calls Tryz.prog 82 #[.string a, .string b] w fun e w' => Past w w' ∧ e = .returned (.string (txt (maxT (byt a) (byt b)))) := by
  have HSZ := Lib.hid (And.intro ha hb)
  clear ha hb
  obtain ⟨wb, hwb⟩ : ∃ wb, (w.alloc (.cells #[.string a, .string b] 36)) = wb := ⟨_, rfl⟩
  have HPB : Hid (Past w wb) := by rw [← hwb]; exact (Past.refl _).alloc _
  have HB : Hid (∀ j (h : j < [a, b].length), wb.cell? ⟨w.heap.size, 0 + j, none⟩ = some (.string [a, b][j])) := by
    intro j h
    match j, h with
    | 0, _ => rw [← hwb]; simp [go_sem]
    | 1, _ => rw [← hwb]; simp [go_sem]
  have HWB := Lib.hid hwb
  clear hwb
  go_enter Tryz.func82, Tryz.ntmps82
  go_wp2_with fail
  rw [HWB.out]
  refine (ratio_reads w.heap.size 0 2 [a, b] _ HB.out (by intro s hs; simp at hs; have := HSZ.out; rcases hs with rfl | rfl <;> omega) (by simp) (by simp)).mono ?_
  intro e w1 hans
  obtain ⟨hp1, h1⟩ := ends_two hans
  clear hans
  rcases h1 with ⟨hno, rfl⟩ | ⟨hyes, g, o, c, x, y, rfl, hc2, hcm, hx, hy, hrx, hry⟩
  · have HNO := Lib.hid hno
    clear hno
    go_wp2
    go_ret
    exact ⟨HPB.out.trans hp1, by unfold maxT; rw [HNO.out]; rfl⟩
  · have HYES := Lib.hid hyes
    have HRX := Lib.hid hrx
    have HRY := Lib.hid hry
    have HX := Lib.hid hx
    have HY := Lib.hid hy
    have HP1 := Lib.hid (HPB.out.trans hp1)
    clear hyes hrx hry hx hy hp1
    have PD : Hid (Past w1 w1.drew) := (Past.refl w1).drew
    have HXY : Hid (Cells10 w1 g o x y) := cells10 HX.out HY.out
    by_cases hlt : cmpE (eV (byt a)) (eV (byt b)) < 0
    · have hb : decide (cmpE (eV (byt a)) (eV (byt b)) < 0) = true := decide_eq_true hlt
      have HR : Hid (maxT (byt a) (byt b) = byt b) := by unfold maxT; rw [HYES.out, if_pos rfl, if_pos hlt]; exact rfl
      clear hlt
      go_wp2
      go_region_held3 (fun w' => w'.cell? ⟨g, o, none⟩ = some (.bool x.s) ∧ w'.cell? ⟨g, o + 1, none⟩ = some (.slice x.A x.n x.c) ∧ w'.cell? ⟨g, o + 2, none⟩ = some (.bool x.t) ∧ w'.cell? ⟨g, o + 3, none⟩ = some (.slice x.B x.m x.d) ∧ w'.cell? ⟨g, o + 4, none⟩ = some (.bool x.i) ∧ w'.cell? ⟨g, o + 5, none⟩ = some (.bool y.s) ∧ w'.cell? ⟨g, o + 5 + 1, none⟩ = some (.slice y.A y.n y.c) ∧ w'.cell? ⟨g, o + 5 + 2, none⟩ = some (.bool y.t) ∧ w'.cell? ⟨g, o + 5 + 3, none⟩ = some (.slice y.B y.m y.d) ∧ w'.cell? ⟨g, o + 5 + 4, none⟩ = some (.bool y.i)) (first | (refine Cells10.past ?_ hp2; assumption) | (refine Cells10.past ?_ PD; exact HXY.out))
        (first
          | (go_at_call 135; ((with_reducible refine (end_cmp x y (eV (byt a)) (eV (byt b)) _ (HRX.out.past PD.out) (HRY.out.past PD.out)).mono ?_)); rintro e w2 ⟨hp2, rfl⟩))
      go_wp2
      go_ret
      exact ⟨(HP1.out.trans PD.out).trans hp2, by rw [HR.out, txt_byt]; rfl⟩
    · have hb : decide (cmpE (eV (byt a)) (eV (byt b)) < 0) = false := decide_eq_false hlt
      have HR : Hid (maxT (byt a) (byt b) = byt a) := by unfold maxT; rw [HYES.out, if_pos rfl, if_neg hlt]; exact rfl
      clear hlt
      go_wp2
      go_region_held3 (fun w' => w'.cell? ⟨g, o, none⟩ = some (.bool x.s) ∧ w'.cell? ⟨g, o + 1, none⟩ = some (.slice x.A x.n x.c) ∧ w'.cell? ⟨g, o + 2, none⟩ = some (.bool x.t) ∧ w'.cell? ⟨g, o + 3, none⟩ = some (.slice x.B x.m x.d) ∧ w'.cell? ⟨g, o + 4, none⟩ = some (.bool x.i) ∧ w'.cell? ⟨g, o + 5, none⟩ = some (.bool y.s) ∧ w'.cell? ⟨g, o + 5 + 1, none⟩ = some (.slice y.A y.n y.c) ∧ w'.cell? ⟨g, o + 5 + 2, none⟩ = some (.bool y.t) ∧ w'.cell? ⟨g, o + 5 + 3, none⟩ = some (.slice y.B y.m y.d) ∧ w'.cell? ⟨g, o + 5 + 4, none⟩ = some (.bool y.i)) (first | (refine Cells10.past ?_ hp2; assumption) | (refine Cells10.past ?_ PD; exact HXY.out))
        (first
          | (go_at_call 135; ((with_reducible refine (end_cmp x y (eV (byt a)) (eV (byt b)) _ (HRX.out.past PD.out) (HRY.out.past PD.out)).mono ?_)); rintro e w2 ⟨hp2, rfl⟩))
      go_wp2
      go_ret
      exact ⟨(HP1.out.trans PD.out).trans hp2, by rw [HR.out, txt_byt]; rfl⟩

end Go.Proofs.YtdcjibjldfjllaaGreat

/- The order of ends. -/
namespace Go.Proofs.YtdcjibjldfjllaaGreat
open Go.RowKit

theorem cmpQ_lt (q r : Rat) : cmpQ q r < 0 ↔ q < r := by
  unfold cmpQ cmpZ
  rw [Rat.lt_iff]
  split
  · simp [*]
  · split <;> simp [*]
theorem cmpQ_gt (q r : Rat) : 0 < cmpQ q r ↔ r < q := by
  unfold cmpQ cmpZ
  rw [Rat.lt_iff]
  split
  · constructor
    · intro h; omega
    · intro h; omega
  · split <;> simp [*]
theorem cmpQ_eq (q r : Rat) : cmpQ q r = 0 ↔ q = r := by
  have h1 := cmpQ_lt q r
  have h2 := cmpQ_gt q r
  constructor
  · intro h
    have a : ¬ q < r := fun x => by have := h1.2 x; omega
    have b : ¬ r < q := fun x => by have := h2.2 x; omega
    exact Rat.le_antisymm (Rat.not_lt.1 b) (Rat.not_lt.1 a)
  · rintro rfl
    unfold cmpQ cmpZ; simp
theorem cmpE_self (e : Option Rat) : cmpE e e = 0 := by
  cases e with
  | none => rfl
  | some q => exact (cmpQ_eq q q).2 rfl
theorem cmpE_eq {e f : Option Rat} : cmpE e f = 0 ↔ e = f := by
  cases e <;> cases f <;> simp [cmpE, cmpQ_eq]
theorem cmpQ_neg (q r : Rat) : cmpQ r q = - cmpQ q r := by
  unfold cmpQ cmpZ
  repeat' split
  all_goals omega
theorem cmpE_neg (e f : Option Rat) : cmpE f e = - cmpE e f := by
  cases e with
  | none => cases f <;> rfl
  | some q => cases f with
    | none => rfl
    | some r => exact cmpQ_neg q r
theorem cmpQ_le (q r : Rat) : cmpQ q r ≤ 0 ↔ q ≤ r := by
  rw [← Rat.not_lt, ← cmpQ_gt]; omega
theorem cmpE_trans {e f g : Option Rat} (h : cmpE e f ≤ 0) (k : cmpE f g ≤ 0) : cmpE e g ≤ 0 := by
  cases e <;> cases f <;> cases g <;> simp only [cmpE, cmpQ_le] at * <;> first | omega | exact Rat.le_trans h k

end Go.Proofs.YtdcjibjldfjllaaGreat
