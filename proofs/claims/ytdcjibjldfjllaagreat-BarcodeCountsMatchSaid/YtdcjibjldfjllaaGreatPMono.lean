/- A run only draws on: the count of draws never goes back, from step to step. -/
import Derived.Test.YtdcjibjldfjllaaGreatPGa
import Derived.Listen
import Derived.StepT
set_option linter.unusedVariables false
set_option linter.unusedSimpArgs false
namespace Go.Proofs.YtdcjibjldfjllaaGreat
open Go

def resW {α : Type} : Result α → World | .ok _ w => w | .halt _ w => w

theorem ask_drawn {α : Type} (a : Ask α) (w : World) : w.drawn ≤ (w.ask a).2.drawn := by
  induction a generalizing w with
  | done a => exact Nat.le_refl _
  | ask what range k ih =>
    simp only [World.ask]
    split
    · exact ih _ _
    · exact Nat.le_trans (Nat.le_succ w.drawn) (ih _ { w with drawn := w.drawn + 1 })
theorem sys_drawn (c : Sys) (w : World) : w.drawn ≤ (w.sys c).2.drawn := by
  have h := ask_drawn (Kernel.perform c w.os) w
  unfold World.sys
  generalize w.ask (Kernel.perform c w.os) = r at h
  obtain ⟨⟨r1, r2⟩, w1⟩ := r
  cases r1 <;> first | exact h | exact Nat.le_refl _

theorem viewStore_drawn {p : Program} {w w' : World} {at_ : Addr} {u : TypeId} {k : Addr} {v : Value} {b : Bool} {l : List Addr} (h : w.viewStore p at_ u k v b = .ok (w', l)) : w'.drawn = w.drawn := by
  unfold World.viewStore at h
  simp only [bind, Except.bind, pure, Except.pure] at h
  repeat' split at h
  all_goals first
    | (cases h; done)
    | (injection h with h; injection h with h1 h2; rw [← h1])
theorem farStore_drawn {p : Program} {w w' : World} {a : Addr} {v : Value} {b : Bool} {l : List Addr} (h : w.farStore p a v b = .ok (w', l)) : w'.drawn = w.drawn := by
  unfold World.farStore at h
  split at h
  · split at h
    · rename_i r hr
      injection h with h
      subst h
      exact viewStore_drawn hr
    · cases h
  · cases h

theorem freeze_drawn (w : World) (a : Addr) (n : Nat) : (w.freeze a n).drawn = w.drawn := by
  unfold World.freeze
  split <;> rfl

theorem run_drawn {α : Type} (p : Program) (s : Sem α) (w : World) : w.drawn ≤ (resW (s.run p w)).drawn := by
  induction s generalizing w with
  | pure a => exact Nat.le_refl _
  | load m a k ih =>
    simp only [Sem.run]
    split
    · exact ih _ _
    · split
      · exact ih _ _
      · exact Nat.le_refl _
  | store m a v k ih =>
    have key : ∀ v, w.drawn ≤ (resW (match w.cell? a with
        | some _ => if w.frozen? a then .halt (.unsupported (.unsafePointer "a write to bytes that a string shares")) w else k.run p (w.setCell a v)
        | none => match w.farStore p a v (m == .atomic) with
          | .ok (w, _) => k.run p w
          | .error h => .halt h w)).drawn := by
      intro v
      split
      · split
        · exact Nat.le_refl _
        · have := ih (w.setCell a v)
          exact this
      · split
        · rename_i w' l h
          have := ih w'
          rw [farStore_drawn h] at this
          exact this
        · exact Nat.le_refl _
    cases v <;> simp only [Sem.run] <;> first | exact Nat.le_refl _ | exact key _
  | new o k ih => exact ih _ { w with heap := w.heap.push o }
  | shape r k ih => exact ih _ w
  | freeze a n k ih => have := ih (w.freeze a n); rw [freeze_drawn] at this; exact this
  | frozen a k ih => exact ih _ w
  | getObj r k ih =>
    simp only [Sem.run]
    split
    · exact Nat.le_refl _
    · exact ih _ _
    · exact Nat.le_refl _
  | setObj r o k ih =>
    simp only [Sem.run]
    split
    · exact Nat.le_refl _
    · exact ih { w with heap := w.heap.setIfInBounds r o }
    · exact Nat.le_refl _
  | choose q k ih =>
    simp only [Sem.run]
    split
    · exact ih _ _
    · exact Nat.le_trans (Nat.le_succ w.drawn) (ih _ { w with drawn := w.drawn + 1 })
  | sys c k ih => exact Nat.le_trans (sys_drawn c w) (ih _ _)
  | program k ih => exact ih _ w
  | mark m k ih => exact ih w
  | halt h => exact Nat.le_refl _
theorem run_ok_drawn {α : Type} {p : Program} {s : Sem α} {w w' : World} {a : α} (h : s.run p w = .ok a w') : w.drawn ≤ w'.drawn := by
  have := run_drawn p s w
  rw [h] at this
  exact this
theorem run_halt_drawn {α : Type} {p : Program} {s : Sem α} {w w' : World} {a : Halt} (h : s.run p w = .halt a w') : w.drawn ≤ w'.drawn := by
  have := run_drawn p s w
  rw [h] at this
  exact this

def gW : GStep → World
  | .go _ w _ => w
  | .comm _ _ _ _ w _ => w
  | .spawn _ _ w _ => w
  | .count _ w _ => w
  | .timer _ _ w _ => w
  | .alone _ _ w _ => w
  | .newcoro _ _ _ w _ => w
  | .coroswitch _ _ _ w _ => w
  | .collect _ w _ => w
  | .watch _ w _ => w
  | .ended _ w _ => w
/-- The step draws on. -/
def On (w : World) (g : GStep) : Prop := w.drawn ≤ (gW g).drawn
theorem On.here {w : World} {g : GStep} (h : gW g = w) : On w g := by unfold On; rw [h]; exact Nat.le_refl _
theorem On.trans {w w' : World} {g : GStep} (h : w.drawn ≤ w'.drawn) (k : On w' g) : On w g := Nat.le_trans h k
theorem gW_after (es : Array Event) (g : GStep) : gW (GStep.after es g) = gW g := by cases g <;> rfl
theorem On.after {w : World} {es : Array Event} {g : GStep} (h : On w g) : On w (GStep.after es g) := by unfold On; rw [gW_after]; exact h

theorem On.ite {c : Prop} [Decidable c] {w : World} {a b : GStep} (h : On w a) (k : On w b) : On w (if c then a else b) := by
  split
  · exact h
  · exact k
theorem on_doReturn (p : Program) (main : Bool) (fr : Frame) (cs : List Frame) (d : Option Dying) (v : Value) (w : World) : On w (doReturn p main fr cs d v w) := by
  apply On.here
  unfold doReturn
  repeat' split
  all_goals rfl
theorem on_dieOf (fr : Frame) (l : List ByteArray) (m : String) (b : Bool) (w : World) : On w (dieOf fr l m b w) := On.here rfl
theorem on_endThrow (fr : Frame) (m : String) (w : World) : On w (endThrow fr m w) := On.here rfl
theorem on_endWith (w : World) (fd : Nat) (t : ByteArray) (o : Outcome) : On w (endWith w fd t o) := by
  have h := sys_drawn (.write fd t) w
  unfold On endWith
  simp only
  generalize w.sys (.write fd t) = r at h
  obtain ⟨r1, w1⟩ := r
  repeat' split
  all_goals first | exact h | (injections; subst_vars; exact h)
theorem on_endPrinting (p : Program) (fr : Frame) (v : Value) (w : World) : On w (endPrinting p fr v w) := by
  unfold endPrinting
  simp only
  split
  · exact on_endThrow _ _ _
  · exact On.here rfl
theorem on_endFatal (p : Program) (fr : Frame) (cs : List Frame) (d : Option Dying) (m : String) (w : World) : On w (endFatal p fr cs d m w) := by
  unfold endFatal
  simp only
  split
  · rename_i h; exact On.trans (run_ok_drawn h) (on_dieOf _ _ _ _ _)
  · rename_i h; exact On.trans (run_halt_drawn h) (On.here rfl)
  · rename_i h; exact On.trans (run_halt_drawn h) (On.here rfl)
theorem on_writeOn (p : Program) (fr : Frame) (d : Dying) (f : Fatal) (w : World) : On w (writeOn p fr d f w) := by
  unfold writeOn
  simp only [Sem.runT_eq]
  split
  · exact On.here rfl
  · split
    all_goals
      rename_i h
      injection h with h1 h2
      first | exact On.trans (run_ok_drawn h1) (On.here rfl) | exact On.trans (run_halt_drawn h1) (On.here rfl)
theorem on_die (p : Program) (fr : Frame) (d : Dying) (w : World) : On w (die p fr d w) := by
  unfold die
  split
  · exact on_writeOn _ _ _ _ _
  · split
    · split
      · exact On.here rfl
      · exact on_endWith _ _ _ _
    · simp only [Sem.runT_eq]
      split
      · exact On.here rfl
      · split
        all_goals rename_i h; first | exact On.trans (run_ok_drawn h) (On.here rfl) | exact On.trans (run_halt_drawn h) (On.here rfl)
      · apply On.after
        split
        all_goals first | (rename_i h; exact On.trans (run_ok_drawn h) (On.here rfl)) | (rename_i h; exact On.trans (run_halt_drawn h) (On.here rfl)) | (rename_i h; exact On.trans (run_halt_drawn h) (on_endPrinting _ _ _ _)) | exact On.here rfl
      · exact On.here rfl

theorem on_callDeferred (p : Program) (fr : Frame) (cs : List Frame) (d : Option Dying) (x : Deferred) (w : World) : On w (callDeferred p fr cs d x w) := by
  unfold callDeferred
  refine On.ite (On.here rfl) ?_
  · simp only [Sem.runT_eq]
    apply On.after
    have hr := run_drawn p (invoke x.target x.args) w
    generalize Sem.run p (invoke x.target x.args) w = r at hr
    refine On.trans hr ?_
    clear hr
    split
    all_goals first
      | exact On.here rfl
      | exact on_endFatal _ _ _ _ _ _
      | exact on_endThrow _ _ _
      | (split <;> exact On.here rfl)
theorem on_unwind (p : Program) (main : Bool) (fr : Frame) (cs : List Frame) (d : Option Dying) (w : World) : On w (unwind p main fr cs d w) := by
  unfold unwind
  split
  · rename_i block _ ds _
    simp only [Sem.runT_eq]
    apply On.after
    split
    all_goals rename_i h; first | exact On.trans (run_ok_drawn h) (On.here rfl) | exact On.trans (run_halt_drawn h) (On.here rfl)
  · exact on_callDeferred _ _ _ _ _ _
  · split
    · exact On.here rfl
    · split
      · exact On.here rfl
      · split
        · exact On.here rfl
        · split
          · split
            · exact On.here rfl
            · split
              all_goals rename_i h; first | exact On.trans (run_ok_drawn h) (On.here rfl) | exact On.trans (run_halt_drawn h) (On.here rfl)
          · split
            · exact on_endPrinting _ _ _ _
            · exact On.here rfl
    · split
      · exact on_doReturn _ _ _ _ _ _ _
      · simp only [Sem.runT_eq]
        apply On.after
        split
        all_goals rename_i h; first | exact On.trans (run_ok_drawn h) (on_doReturn _ _ _ _ _ _ _) | exact On.trans (run_halt_drawn h) (On.here rfl)
theorem on_early (p : Program) (fr : Frame) (cs : List Frame) (d : Option Dying) (g : Nat) (w : World) : On w (early p fr cs d g w) := by
  unfold early
  simp only
  repeat' split
  all_goals first
    | exact Nat.le_refl w.drawn
    | (rename Sem.run p _ w = Result.ok _ _ => h; have h2 := run_ok_drawn h; exact h2)
    | (rename Sem.run p _ w = Result.halt _ _ => h; have h2 := run_halt_drawn h; exact h2)
    | skip
theorem on_apply (p : Program) (main : Bool) (l : Bool) (fr : Frame) (cs : List Frame) (d : Option Dying) (s : Sem Next) (w : World) : On w (stepG.apply p l fr cs d s w) := by
  unfold stepG.apply
  have e : ∀ b : Bool, (if b then Sem.runT p s w #[] else (Sem.run p s w, #[])).1 = Sem.run p s w := by
    intro b; cases b <;> simp [Sem.runT_eq]
  simp only
  have hr := run_drawn p s w
  rw [← e l] at hr
  generalize (if l = true then Sem.runT p s w #[] else (Sem.run p s w, #[])) = r at hr
  clear e
  obtain ⟨r, es⟩ := r
  apply On.after
  refine On.trans hr ?_
  clear hr
  dsimp only
  split
  all_goals first
    | exact On.here rfl
    | exact on_endFatal _ _ _ _ _ _
    | exact on_endThrow _ _ _
    | exact on_early _ _ _ _ _ _
    | (split <;> first | exact On.here rfl | exact on_endThrow _ _ _)
    | exact On.ite (on_endThrow _ _ _) (On.here rfl)
theorem on_oper (p : Program) (main : Bool) (l : Bool) (fr : Frame) (cs : List Frame) (d : Option Dying) (w : World) : On w (stepG.oper p l fr cs d w) := by
  unfold stepG.oper
  split
  · exact On.here rfl
  · split
    · exact on_apply p main l _ _ _ _ _
    · exact on_apply p main l _ _ _ _ _
set_option maxHeartbeats 2000000 in
theorem on_exec (p : Program) (main : Bool) (l : Bool) (fr : Frame) (cs : List Frame) (d : Option Dying) (w : World) : On w (stepG.exec p main l fr cs d w) := by
  unfold stepG.exec
  simp only [Sem.runT_eq]
  have hl : ∀ (x : Nat) (jump : Option Code), On w (GStep.after (seen p fr.fn (Sem.events p (Instr.endRound x jump) w #[])) (match Sem.run p (Instr.endRound x jump) w with
        | .ok v w => doReturn p main fr cs d v w
        | .halt _ w => .ended (.stuck "range over a function: no such loop" (fr.pos p)) w)) := by
    intro x jump
    apply On.after
    split
    all_goals rename_i h; first | exact On.trans (run_ok_drawn h) (on_doReturn _ _ _ _ _ _ _) | exact On.trans (run_halt_drawn h) (On.here rfl)
  split
  all_goals with_reducible first
    | exact on_apply p main l _ _ _ _ _
    | exact on_oper p main l _ _ _ _
    | (split <;> first | exact hl _ _ | exact On.ite (On.here rfl) (On.here rfl) | (exact On.here rfl))
    | exact On.here rfl
    | skip
  case h_1 => split <;> first | exact On.ite (On.here rfl) (On.here rfl) | exact hl _ _
  case h_2 => split <;> first | exact On.ite (On.here rfl) (On.here rfl) | exact hl _ _
  case h_13 id k _ =>
    generalize exitTo id k = o
    cases o with
    | none => simp only [Option.elim]; split <;> first | exact On.ite (On.here rfl) (On.here rfl) | exact hl _ _
    | some k => exact On.here rfl
  case h_14 id k _ =>
    generalize gotoIn id k = o
    cases o with
    | none => simp only [Option.elim]; split <;> first | exact On.ite (On.here rfl) (On.here rfl) | exact hl _ _
    | some k => exact On.here rfl
  case h_15 =>
    apply On.after
    split
    · rename_i h; exact On.trans (run_ok_drawn h) (on_apply p main l _ _ _ _ _)
    · rename_i h; exact On.trans (run_halt_drawn h) (On.here rfl)
  case h_18 =>
    apply On.after
    split
    all_goals rename_i h; first | exact On.trans (run_ok_drawn h) (On.here rfl) | exact On.trans (run_halt_drawn h) (On.here rfl)
  case h_21 row args _ _ =>
    generalize Extern.next row = o
    cases o with
    | none => exact On.here rfl
    | some e => exact on_apply p main l _ _ _ _ _
  case h_22 =>
    refine On.ite (On.here rfl) ?_
    split
    all_goals rename_i h; first | exact On.trans (run_ok_drawn h) (On.here rfl) | exact On.trans (run_halt_drawn h) (On.here rfl)
  case h_24 => exact On.ite (on_oper p main l _ _ _ _) (On.here rfl)
theorem on_stepG (p : Program) (main : Bool) (g : Goroutine) (w : World) (l : Bool) : On w (stepG p main g w l) := by
  unfold stepG
  simp only
  split
  · exact on_die _ _ _ _
  · exact on_exec _ _ _ _ _ _ _
  · exact on_unwind _ _ _ _ _ _

/-- What a step leads to. -/
def mW : Stepped → World → World
  | .next m, _ => m.world
  | .ended _ _, w => w
def OnM (w : World) (s : Stepped) : Prop := w.drawn ≤ (mW s w).drawn
theorem OnM.ended {w : World} {o : Outcome} {w' : World} : OnM w (.ended o w') := Nat.le_refl _
theorem OnM.trans {w w' : World} {s : Stepped} (h : w.drawn ≤ w'.drawn) (k : OnM w' s) : OnM w s := by
  unfold OnM at *
  cases s with
  | next m => exact Nat.le_trans h k
  | ended o x => exact Nat.le_refl _
theorem on_look (p : Program) (gs : Array Goroutine) (r : Rest) (w : World) : OnM w (look p gs r w) := by
  unfold look
  split
  · simp only
    split
    · exact OnM.ended
    · split
      · exact OnM.ended
      · split
        · rename_i h
          have h2 := run_ok_drawn h
          exact h2
        · exact OnM.ended
        · exact OnM.ended
  · exact OnM.ended
theorem waitingAt_drawn {r : Rest} {c : Array CommCase} {w w' : World} (h : waitingAt r c w = some w') : w'.drawn = w.drawn := by
  unfold waitingAt at h
  split at h
  · split at h
    · injection h with h; rw [← h]
    · cases h
  · injection h with h; rw [← h]
set_option maxHeartbeats 2000000 in
theorem on_communicate (p : Program) (r : Rest) (gs : Array Goroutine) (i : Nat) (g : Goroutine) (cases : Array CommCase) (b : Bool) (sh : CommShape) (w : World) : OnM w (communicate p r gs i g cases b sh w).1 := by
  unfold communicate
  simp only
  split
  · exact OnM.ended
  · split
    · split
      · split
        · rename_i h
          exact Nat.le_of_eq (waitingAt_drawn h).symm
        · exact OnM.ended
      · exact Nat.le_refl _
    · split
      · exact OnM.ended
      · rename_i h
        refine OnM.trans (run_ok_drawn h) ?_
        clear h
        split
        · split
          · rename_i h
            have h2 := run_halt_drawn h
            exact h2
          · exact OnM.ended
        · exact Nat.le_refl _
        · exact Nat.le_refl _
        · split
          · exact Nat.le_refl _
          · split
            · rename_i h
              have h2 := run_ok_drawn h
              exact h2
            · exact OnM.ended
        · exact Nat.le_refl _
        · exact Nat.le_refl _
        · exact OnM.ended

theorem drain_drawn (w : World) (c : Nat) : (drain w c).2.drawn = w.drawn := by
  unfold drain
  split <;> rfl
theorem retime_drawn (m : Machine) (k : Nat) (t : Timer) (a b : Nat) : (retime m k t a b).2.world.drawn = m.world.drawn := by
  unfold retime
  simp only
  split
  · exact drain_drawn _ _
  · rfl
theorem timerOp_drawn {m m' : Machine} {op : TimerOp} {v : Value} (h : timerOp m op = .ok (v, m')) : m'.world.drawn = m.world.drawn := by
  have hnamed : ∀ (m : Machine) (var : Addr) (f : Nat → Timer → Value × Machine), (∀ k t, (f k t).2.world.drawn = m.world.drawn) → ∀ {v m'}, timerOp.named m var f = .ok (v, m') → m'.world.drawn = m.world.drawn := by
    intro m var f hf v m' h
    unfold timerOp.named at h
    split at h
    · injection h with h
      have := hf (by assumption) (m.rest.timers.getD (by assumption) default)
      rename_i k _
      have := hf k (m.rest.timers.getD k default)
      rw [h] at this
      exact this
    · cases h
  cases op with
  | new t =>
    simp only [timerOp] at h
    split at h
    · injection h with h; injection h with h1 h2; rw [← h2]; rfl
    · split at h
      · split at h
        · cases h
        · injection h with h; injection h with h1 h2; rw [← h2]
      · cases h
  | stop var => exact hnamed m var _ (fun k t => retime_drawn m k t _ _) h
  | reset var when period =>
    simp only [timerOp] at h
    split at h
    · rename_i m1 ho
      have h2 : m1.world.drawn = m.world.drawn := by
        unfold timerOp.opened at ho
        split at ho
        · split at ho
          · injection ho with ho; rw [← ho]
          · cases ho
        · injection ho with ho; rw [← ho]
      exact hnamed m var _ (fun k t => (retime_drawn m1 k t _ _).trans h2) h
    · cases h
  | deadline ctx r w when =>
    simp only [timerOp] at h
    injection h with h; injection h with h1 h2; rw [← h2]; rfl
theorem on_serve (p : Program) (m : Machine) (k : Nat) : OnM m.world (serve p m k) := by
  unfold serve
  simp only
  repeat' split
  all_goals exact Nat.le_refl _

set_option maxHeartbeats 2000000 in
theorem on_runT (p : Program) (m : Machine) (i : Nat) (l : Bool) : OnM m.world (runT p m i l).1 := by
  unfold runT
  simp only
  generalize m.gs.swapAt! i { (default : Goroutine) with status := .finished } = gg
  obtain ⟨g, gs⟩ := gg
  have hs := on_stepG p (i == 0) g m.world l
  generalize stepG p (i == 0) g m.world l = s at hs
  unfold On at hs
  simp only
  cases s with
  | ended o w es => exact OnM.ended
  | comm g cases b sh w es => exact OnM.trans hs (on_communicate p m.rest gs i g cases b sh w)
  | go g w es => exact hs
  | spawn g c w es => exact hs
  | count g w es =>
    simp only
    split
    · exact OnM.ended
    · exact hs
  | alone g on w es => exact hs
  | collect g w es => exact OnM.trans hs (on_look p _ _ w)
  | watch g w es => exact hs
  | newcoro g c d w es => exact hs
  | coroswitch g c e w es =>
    simp only
    split
    · exact hs
    · split
      · rename_i h
        have h2 := on_endThrow g.frame "coroswitch on exited coro" w
        rw [h] at h2
        exact Nat.le_trans hs h2
      · exact OnM.ended
    · exact OnM.ended
  | timer g op w es =>
    simp only
    split
    · rename_i h
      have h2 := timerOp_drawn h
      exact Nat.le_trans hs (Nat.le_of_eq h2.symm)
    · split
      · rename_i h
        have h2 := on_endThrow g.frame (by assumption) w
        rw [h] at h2
        exact Nat.le_trans hs h2
      · exact OnM.ended
    · exact OnM.ended
    · exact OnM.ended

def OnV (w : World) : Move → Prop
  | .goroutine m _ => w.drawn ≤ m.world.drawn
  | .machine s _ => OnM w s
theorem OnV.trans {w w' : World} {v : Move} (h : w.drawn ≤ w'.drawn) (k : OnV w' v) : OnV w v := by
  cases v with
  | goroutine m i => exact Nat.le_trans h k
  | machine s o => exact OnM.trans h k
theorem on_pick (p : Program) (m : Machine) (rs : List Nat) : OnV m.world (match (choose (.sched rs.length)).run p m.world with
      | .halt _ w => .machine (.ended (.stuck "sched" "") w)
      | .ok k world =>
        if rs.length ≤ 1 then .goroutine { m with world } (rs.getD k 0) else
        match (choose (.extern "sched.slice" 65536)).run p world with
        | .halt _ w => .machine (.ended (.stuck "sched.slice" "") w)
        | .ok n world => .goroutine { m with world, rest := { m.rest with slice := if n = 0 then none else some (rs.getD k 0, n) } } (rs.getD k 0)) := by
  split
  · exact OnM.ended
  · rename_i h
    split
    · exact run_ok_drawn h
    · split
      · exact OnM.ended
      · rename_i h2
        exact Nat.le_trans (run_ok_drawn h) (run_ok_drawn h2)
theorem on_askOn (p : Program) (m : Machine) : OnV m.world (askOn p m) := by
  unfold askOn
  simp only
  split
  · exact OnM.ended
  · rename_i h
    refine OnV.trans (run_ok_drawn h) ?_
    split
    · exact on_serve p { m with world := _ } _
    · split
      · split
        · exact Nat.le_refl _
        · split
          · exact Nat.le_refl _
          · split
            · exact OnM.ended
            · exact OnM.ended
      · split
        · exact on_pick p { m with world := _ } _
        · split
          · exact OnM.ended
          · rename_i h2
            exact OnV.trans (run_ok_drawn h2) (on_pick p { m with world := _ } _)
          · rename_i h2
            have h3 := run_ok_drawn h2
            exact h3
          · rename_i t _ _ k w4 h2
            refine OnV.trans (run_ok_drawn h2) (OnV.trans (w' := { w4 with os := w4.os.advanceTo (t - (k + 1)) }) (Nat.le_refl _) ?_)
            exact on_pick p (Machine.advanceTo { m with world := w4 } (t - (k + 1))) _
theorem on_ask (p : Program) (m : Machine) : OnV m.world (ask p m) := by
  unfold ask
  split
  · split
    · exact OnM.ended
    · rename_i h
      refine OnV.trans (run_ok_drawn h) ?_
      split
      · rename_i m2 h2
        have h3 := on_look p m.gs m.rest (by assumption)
        rw [h2] at h3
        exact OnV.trans h3 (on_askOn p m2)
      · exact on_look p m.gs m.rest _
    · rename_i h
      exact OnV.trans (run_ok_drawn h) (on_askOn p _)
  · exact on_askOn p m
theorem on_move (p : Program) (m : Machine) : OnV m.world (move p m) := by
  unfold move
  split
  · split
    · exact Nat.le_refl _
    · exact OnM.ended
  · split
    · split
      · exact Nat.le_refl _
      · exact on_ask p _
    · exact on_ask p m
theorem on_step (p : Program) (m : Machine) : OnM m.world (step p m) := by
  have h := on_move p m
  unfold step stepT
  generalize move p m = v at h
  cases v with
  | goroutine m2 i => exact OnM.trans h (on_runT p m2 i true)
  | machine s o => exact h
theorem steps_drawn {p : Program} {m m' : Machine} (h : Steps p m m') : m.world.drawn ≤ m'.world.drawn := by
  obtain ⟨n, hn⟩ := h
  induction n generalizing m with
  | zero => injection hn with hn; rw [hn]; exact Nat.le_refl _
  | succ n ih =>
    unfold runN at hn
    split at hn
    · rename_i m1 h1
      have h2 := on_step p m
      rw [h1] at h2
      exact Nat.le_trans h2 (ih hn)
    · rename_i h1
      exact absurd hn (h1 m')
theorem calls_drawn {P : Program} {f : FuncId} {args : Array Value} {w : World} {R : Ending → World → Prop} (h : Calls P f args w R) (ho : ∀ w', ¬ R .outgrown w') : Calls P f args w fun e w' => R e w' ∧ w.drawn ≤ w'.drawn := by
  intro cs
  obtain ⟨e, w', fr, hR, hc, h1, h2⟩ := h cs
  refine ⟨e, w', fr, ⟨hR, ?_⟩, hc, h1, h2⟩
  cases e with
  | outgrown => exact absurd hR (ho w')
  | returned v => exact steps_drawn hc
  | panicked c => exact steps_drawn hc

end Go.Proofs.YtdcjibjldfjllaaGreat
