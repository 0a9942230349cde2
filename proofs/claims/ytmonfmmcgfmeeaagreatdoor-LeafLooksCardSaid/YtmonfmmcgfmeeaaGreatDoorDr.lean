/- How often the tape has been asked never goes down: of a computation, of a step, of any run. No program in sight. -/
import Derived.Shelf.SlSortCmp.Kit1
import Derived.Calls
import Derived.RunT
import Derived.Listen
namespace Go.Proofs.YtmonfmmcgfmeeaaGreatDoor.Dr
open Go
set_option linter.unusedVariables false
set_option linter.unusedSimpArgs false

def rw_ {α : Type} : Result α → World
  | .ok _ w => w
  | .halt _ w => w

theorem ask_dl {α : Type} : ∀ (a : Ask α) (w : World), w.drawn ≤ (w.ask a).2.drawn
  | .done a, w => Nat.le_refl _
  | .ask what range k, w => by
    simp only [World.ask]
    split
    · exact ask_dl (k _) w
    · exact Nat.le_trans (Nat.le_succ _) (ask_dl (k _) { w with drawn := w.drawn + 1 })

theorem sys_dl (w : World) (c : Sys) : w.drawn ≤ (w.sys c).2.drawn := by
  have h := ask_dl (Kernel.perform c w.os) w
  unfold World.sys
  split
  · exact Nat.le_refl _
  · rename_i r os w1 _ e
    rw [e] at h
    exact h

theorem farStore_dl {p : Program} {w w' : World} {a : Addr} {v : Value} {b : Bool} {l : List Addr} (h : w.farStore p a v b = .ok (w', l)) : w'.drawn = w.drawn := by
  unfold World.farStore at h
  split at h
  · rename_i at_ u _
    split at h
    · rename_i r e
      cases h
      unfold World.viewStore at e
      simp only [bind, Except.bind, pure, Except.pure, throw, throwThe, MonadExceptOf.throw] at e
      repeat' (split at e)
      all_goals (first | (cases e; done) | (cases e; rfl) | skip)
    · cases h
  · cases h

theorem run_dl {α : Type} (p : Program) : ∀ (s : Sem α) (w : World), w.drawn ≤ (rw_ (s.run p w)).drawn := by
  intro s
  induction s with
  | pure a => intro w; exact Nat.le_refl _
  | load m a k ih =>
    intro w
    simp only [Sem.run]
    split
    · exact ih _ w
    · split
      · exact ih _ w
      · exact Nat.le_refl _
  | store m a v k ih =>
    intro w
    unfold Sem.run
    split
    all_goals first
      | exact Nat.le_refl _
      | (rename_i e; cases e; done)
      | skip
    rename_i heq
    cases heq
    split
    · split
      · exact Nat.le_refl _
      · exact ih (World.setCell _ _ _)
    · split
      · rename_i w2 _ e
        have h := ih w2
        rw [farStore_dl e] at h
        exact h
      · exact Nat.le_refl _
  | new o k ih => intro w; exact ih _ { w with heap := w.heap.push o }
  | shape r k ih => intro w; exact ih _ w
  | freeze a n k ih =>
    intro w
    have h := ih (w.freeze a n)
    have e : (w.freeze a n).drawn = w.drawn := by unfold World.freeze; split <;> rfl
    rw [e] at h
    exact h
  | frozen a k ih => intro w; exact ih _ w
  | getObj r k ih =>
    intro w
    simp only [Sem.run]
    split
    · exact Nat.le_refl _
    · exact ih _ w
    · exact Nat.le_refl _
  | setObj r o k ih =>
    intro w
    simp only [Sem.run]
    split
    · exact Nat.le_refl _
    · exact ih { w with heap := w.heap.setIfInBounds r o }
    · exact Nat.le_refl _
  | choose q k ih =>
    intro w
    simp only [Sem.run]
    split
    · exact ih _ w
    · exact Nat.le_trans (Nat.le_succ _) (ih _ { w with drawn := w.drawn + 1 })
  | sys c k ih =>
    intro w
    simp only [Sem.run]
    exact Nat.le_trans (sys_dl w c) (ih _ _)
  | program k ih => intro w; exact ih _ w
  | mark m k ih => intro w; exact ih w
  | halt h => intro w; exact Nat.le_refl _

theorem run_ok {α : Type} {p : Program} {s : Sem α} {w w' : World} {a : α} (h : s.run p w = .ok a w') : w.drawn ≤ w'.drawn := by
  have := run_dl p s w
  rwa [h] at this
theorem run_halt {α : Type} {p : Program} {s : Sem α} {w w' : World} {x : Halt} (h : s.run p w = .halt x w') : w.drawn ≤ w'.drawn := by
  have := run_dl p s w
  rwa [h] at this
theorem runT_ok {α : Type} {p : Program} {s : Sem α} {w w' : World} {a : α} {es : Array Event} (h : (s.runT p w es).1 = .ok a w') : w.drawn ≤ w'.drawn := by
  rw [Sem.runT_fst] at h
  exact run_ok h
theorem runT_halt {α : Type} {p : Program} {s : Sem α} {w w' : World} {x : Halt} {es : Array Event} (h : (s.runT p w es).1 = .halt x w') : w.drawn ≤ w'.drawn := by
  rw [Sem.runT_fst] at h
  exact run_halt h

/-- The world that a step leaves has been asked no less. -/
def GOk (d : Nat) : GStep → Prop
  | .go _ w _ => d ≤ w.drawn
  | .comm _ _ _ _ w _ => d ≤ w.drawn
  | .spawn _ _ w _ => d ≤ w.drawn
  | .count _ w _ => d ≤ w.drawn
  | .timer _ _ w _ => d ≤ w.drawn
  | .alone _ _ w _ => d ≤ w.drawn
  | .newcoro _ _ _ w _ => d ≤ w.drawn
  | .coroswitch _ _ _ w _ => d ≤ w.drawn
  | .collect _ w _ => d ≤ w.drawn
  | .watch _ w _ => d ≤ w.drawn
  | .ended _ _ _ => True

theorem gok_after {d : Nat} (es : Array Event) {s : GStep} (h : GOk d s) : GOk d (GStep.after es s) := by cases s <;> exact h
theorem gok_ite {d : Nat} {c : Prop} [Decidable c] {a b : GStep} (ha : GOk d a) (hb : GOk d b) : GOk d (if c then a else b) := by split <;> assumption
theorem gok_elim {d : Nat} {α : Type} {o : Option α} {a : GStep} {f : α → GStep} (ha : GOk d a) (hb : ∀ k, GOk d (f k)) : GOk d (o.elim a f) := by
  cases o
  · exact ha
  · exact hb _
theorem gok_endWith (d : Nat) (w : World) (fd : Nat) (text : ByteArray) (o : Outcome) : GOk d (endWith w fd text o) := by
  unfold endWith
  simp only
  split
  · split <;> trivial
  · trivial
  · trivial
theorem gok_dieOf {d : Nat} {w : World} (h : d ≤ w.drawn) (fr : Frame) (ahead : List ByteArray) (m : String) (b : Bool) : GOk d (dieOf fr ahead m b w) := h
theorem gok_endThrow {d : Nat} {w : World} (h : d ≤ w.drawn) (fr : Frame) (m : String) : GOk d (endThrow fr m w) := h
theorem gok_endPrinting {d : Nat} {w : World} (h : d ≤ w.drawn) (p : Program) (fr : Frame) (v : Value) : GOk d (endPrinting p fr v w) := by
  unfold endPrinting
  simp only
  split
  · exact gok_endThrow h _ _
  · trivial
theorem gok_endFatal {d : Nat} {w : World} (h : d ≤ w.drawn) (p : Program) (fr : Frame) (callers : List Frame) (dying : Option Dying) (m : String) : GOk d (endFatal p fr callers dying m w) := by
  unfold endFatal
  simp only
  split
  · rename_i e
    exact gok_dieOf (Nat.le_trans h (run_ok e)) _ _ _ _
  · trivial
  · trivial
theorem gok_writeOn {d : Nat} {w : World} (h : d ≤ w.drawn) (p : Program) (fr : Frame) (dy : Dying) (f : Fatal) : GOk d (writeOn p fr dy f w) := by
  unfold writeOn
  simp only
  split
  · trivial
  · split
    · rename_i e
      exact Nat.le_trans h (runT_ok (congrArg Prod.fst e))
    · rename_i e
      exact Nat.le_trans h (runT_halt (congrArg Prod.fst e))
    · trivial
    · trivial
theorem gok_die {d : Nat} {w : World} (h : d ≤ w.drawn) (p : Program) (fr : Frame) (dy : Dying) : GOk d (die p fr dy w) := by
  unfold die
  split
  · exact gok_writeOn h _ _ _ _
  · split
    · split
      · exact h
      · exact gok_endWith _ _ _ _ _
    · simp only
      split
      · exact h
      · split
        · rename_i e
          exact Nat.le_trans h (run_ok e)
        · trivial
      · refine gok_after _ ?_
        split
        · rename_i e
          exact Nat.le_trans h (runT_ok e)
        · rename_i e
          exact Nat.le_trans h (runT_ok e)
        · trivial
        · rename_i e
          exact gok_endPrinting (Nat.le_trans h (runT_halt e)) _ _ _
        · trivial
      · trivial
theorem gok_doReturn {d : Nat} {w : World} (h : d ≤ w.drawn) (p : Program) (main : Bool) (fr : Frame) (callers : List Frame) (dying : Option Dying) (v : Value) : GOk d (doReturn p main fr callers dying v w) := by
  unfold doReturn
  repeat' split
  all_goals first | exact h | trivial
theorem gok_callDeferred {d : Nat} {w : World} (h : d ≤ w.drawn) (p : Program) (fr : Frame) (callers : List Frame) (dying : Option Dying) (de : Deferred) : GOk d (callDeferred p fr callers dying de w) := by
  unfold callDeferred
  simp only
  refine gok_ite trivial (gok_after _ ?_)
  · split
    all_goals (rename_i e; first
      | trivial
      | (exact Nat.le_trans h (runT_ok e))
      | (exact Nat.le_trans h (runT_halt e))
      | (exact gok_endFatal (Nat.le_trans h (runT_halt e)) _ _ _ _ _)
      | (exact gok_endThrow (Nat.le_trans h (runT_halt e)) _ _)
      | (split <;> exact Nat.le_trans h (runT_ok e))
      | skip)
theorem gok_unwind {d : Nat} {w : World} (h : d ≤ w.drawn) (p : Program) (main : Bool) (fr : Frame) (callers : List Frame) (dying : Option Dying) : GOk d (unwind p main fr callers dying w) := by
  unfold unwind
  split
  · simp only
    refine gok_after _ ?_
    split
    · rename_i e
      exact Nat.le_trans h (runT_ok e)
    · trivial
  · exact gok_callDeferred h _ _ _ _ _
  · split
    · trivial
    · refine gok_ite trivial ?_
      split
      · exact h
      · split
        · refine gok_ite h ?_
          split
          · rename_i e
            exact Nat.le_trans h (run_ok e)
          · trivial
          · trivial
        · split
          · exact gok_endPrinting h _ _ _
          · trivial
    · split
      · exact gok_doReturn h _ _ _ _ _ _
      · simp only
        refine gok_after _ ?_
        split
        · rename_i e
          exact gok_doReturn (Nat.le_trans h (runT_ok e)) _ _ _ _ _ _
        · trivial
        · trivial
theorem gok_early {d : Nat} {w : World} (h : d ≤ w.drawn) (p : Program) (fr : Frame) (callers : List Frame) (dying : Option Dying) (g : Nat) : GOk d (early p fr callers dying g w) := by
  have notYet : ∀ w : World, d ≤ w.drawn → GOk d (match w.heap[g]? with
    | some (.pending c elem) => .go { frame := fr, callers, status := .running, dying } { w with heap := w.heap.setIfInBounds g (.cells c elem) }
    | _ => .ended (.stuck "early: the variable does not wait" (fr.pos p)) w) := by
    intro w hw
    split
    · exact hw
    · trivial
  unfold early
  simp only
  refine gok_ite (notYet w h) ?_
  split
  · trivial
  · refine gok_ite (notYet w h) (gok_ite (notYet w h) ?_)
    split
    · trivial
    · exact h
    · trivial
    · exact notYet w h
    · refine gok_ite h (gok_ite (notYet w h) ?_)
      split
      · rename_i e
        exact notYet _ (Nat.le_trans h (run_ok e))
      · rename_i e
        exact (Nat.le_trans h (run_ok e))
      · trivial
theorem gok_apply {d : Nat} {w : World} (h : d ≤ w.drawn) (p : Program) (listen : Bool) (fr : Frame) (callers : List Frame) (dying : Option Dying) (s : Sem Next) : GOk d (stepG.apply p listen fr callers dying s w) := by
  unfold stepG.apply
  simp only
  refine gok_after _ ?_
  have hok : ∀ (x : Next) (w' : World), (if listen then s.runT p w #[] else (s.run p w, #[])).1 = .ok x w' → d ≤ w'.drawn := by
    intro x w' e
    split at e
    · exact Nat.le_trans h (runT_ok e)
    · exact Nat.le_trans h (run_ok e)
  have hhalt : ∀ (x : Halt) (w' : World), (if listen then s.runT p w #[] else (s.run p w, #[])).1 = .halt x w' → d ≤ w'.drawn := by
    intro x w' e
    split at e
    · exact Nat.le_trans h (runT_halt e)
    · exact Nat.le_trans h (run_halt e)
  split
  all_goals (rename_i e; first
    | trivial
    | exact hok _ _ e
    | exact hhalt _ _ e
    | exact gok_endFatal (hhalt _ _ e) _ _ _ _ _
    | exact gok_endThrow (hhalt _ _ e) _ _
    | exact gok_early (hhalt _ _ e) _ _ _ _ _
    | exact gok_ite (gok_endThrow (hok _ _ e) _ _) (hok _ _ e)
    | skip)
  all_goals (rename_i w' e; have hw := hok _ _ e; repeat' split)
  all_goals first | exact hw | trivial
theorem gok_oper {d : Nat} {w : World} (h : d ≤ w.drawn) (p : Program) (listen : Bool) (fr : Frame) (callers : List Frame) (dying : Option Dying) : GOk d (stepG.oper p listen fr callers dying w) := by
  unfold stepG.oper
  split
  · trivial
  · split
    · exact gok_apply h _ _ _ _ _ _
    · exact gok_apply h _ _ _ _ _ _
theorem gok_exec {d : Nat} {w : World} (h : d ≤ w.drawn) (p : Program) (main listen : Bool) (fr : Frame) (callers : List Frame) (dying : Option Dying) : GOk d (stepG.exec p main listen fr callers dying w) := by
  unfold stepG.exec
  simp only
  repeat' split
  all_goals first
    | trivial
    | exact h
    | exact gok_apply h _ _ _ _ _ _
    | exact gok_oper h _ _ _ _ _
    | skip
  all_goals try (refine gok_elim ?_ (fun _ => h))
  all_goals first
    | trivial
    | (refine gok_after _ ?_; first
        | trivial
        | (rename_i e; exact gok_doReturn (Nat.le_trans h (runT_ok e)) _ _ _ _ _ _)
        | (rename_i e; exact gok_apply (Nat.le_trans h (runT_ok e)) _ _ _ _ _ _)
        | (rename_i e; exact (Nat.le_trans h (runT_ok e)))
        | (rename_i e; exact (Nat.le_trans h (runT_halt e))))
    | (rename_i e; exact (Nat.le_trans h (run_ok e)))
    | exact gok_elim trivial (fun _ => gok_apply h _ _ _ _ _ _)
theorem gok_stepG {d : Nat} {w : World} (h : d ≤ w.drawn) (p : Program) (main listen : Bool) (g : Goroutine) : GOk d (stepG p main g w listen) := by
  unfold stepG
  simp only
  split
  · exact gok_die h _ _ _
  · exact gok_exec h _ _ _ _ _ _
  · exact gok_unwind h _ _ _ _ _

def SOk (d : Nat) : Stepped → Prop
  | .next m => d ≤ m.world.drawn
  | .ended _ _ => True

theorem waitingAt_dl {rest : Rest} {cs : Array CommCase} {w w' : World} (h : waitingAt rest cs w = some w') : w.drawn ≤ w'.drawn := by
  unfold waitingAt at h
  split at h
  · split at h
    · cases h; exact Nat.le_refl _
    · cases h
  · cases h; exact Nat.le_refl _
theorem sok_communicate {d : Nat} {w : World} (h : d ≤ w.drawn) (p : Program) (rest : Rest) (gs : Array Goroutine) (i : Nat) (g : Goroutine) (cases_ : Array CommCase) (blocking : Bool) (shape : CommShape) :
    SOk d (communicate p rest gs i g cases_ blocking shape w).1 := by
  unfold communicate
  simp only
  repeat' split
  all_goals dsimp only [SOk]
  all_goals first
    | trivial
    | exact h
    | exact Nat.le_trans h (waitingAt_dl (by assumption))
    | exact Nat.le_trans h (run_ok (by assumption))
    | exact Nat.le_trans h (Nat.le_trans (run_ok (by assumption)) (run_halt (by assumption)))
    | exact Nat.le_trans h (Nat.le_trans (run_ok (by assumption)) (run_ok (by assumption)))
theorem sok_look {d : Nat} {w : World} (h : d ≤ w.drawn) (p : Program) (gs : Array Goroutine) (rest : Rest) : SOk d (look p gs rest w) := by
  unfold look
  simp only
  repeat' split
  all_goals dsimp only [SOk]
  all_goals first
    | trivial
    | exact Nat.le_trans h (run_ok (by assumption))
theorem sok_serve {d : Nat} {m : Machine} (h : d ≤ m.world.drawn) (p : Program) (k : Nat) : SOk d (serve p m k) := by
  unfold serve
  simp only
  repeat' split
  all_goals first
    | trivial
    | exact h
theorem drain_dl (w : World) (c : Nat) : (drain w c).2.drawn = w.drawn := by
  unfold drain
  split <;> rfl
theorem retime_dl (m : Machine) (k : Nat) (t : Timer) (a b : Nat) : (retime m k t a b).2.world.drawn = m.world.drawn := by
  unfold retime
  simp only
  split
  · exact drain_dl _ _
  · rfl
theorem timerOp_dl {m m' : Machine} {op : TimerOp} {v : Value} (h : timerOp m op = .ok (v, m')) : m'.world.drawn = m.world.drawn := by
  have named : ∀ (m m0 : Machine) (var : Addr) (f : Nat → Timer → Value × Machine), (∀ k t, (f k t).2.world.drawn = m0.world.drawn) → timerOp.named m var f = .ok (v, m') → m'.world.drawn = m0.world.drawn := by
    intro m m0 var f hf h
    unfold timerOp.named at h
    split at h
    · rename_i k _
      injection h with h
      have := hf k (m.rest.timers.getD k default)
      rw [h] at this
      exact this
    · cases h
  cases op with
  | new t =>
    simp only [timerOp] at h
    split at h
    · cases h; rfl
    · split at h
      · split at h
        · cases h
        · cases h; rfl
      · cases h
  | stop var =>
    simp only [timerOp] at h
    exact named m m var _ (fun k t => retime_dl _ _ _ _ _) h
  | reset var a b =>
    simp only [timerOp] at h
    split at h
    · rename_i m2 e
      have e2 : m2.world.drawn = m.world.drawn := by
        unfold timerOp.opened at e
        split at e
        · split at e
          · cases e; rfl
          · cases e
        · cases e; rfl
      rw [← e2]
      exact named m m2 var _ (fun k t => retime_dl _ _ _ _ _) h
    · cases h
  | deadline ctx r w b =>
    simp only [timerOp] at h
    cases h
    rfl
theorem sok_of_gok {d : Nat} (p : Program) (rest : Rest) (gs : Array Goroutine) (i : Nat) {g : Goroutine} {op : TimerOp} {w : World} (h : d ≤ w.drawn) :
    SOk d (match timerOp { world := w, gs, rest } op with
    | .ok (v, m) => .next { m with gs := gs.setIfInBounds i { g with frame := g.frame.finish v } }
    | .error (.throw msg) => match endThrow g.frame msg w with
      | .go g w _ => .next { world := w, gs := gs.setIfInBounds i g, rest }
      | _ => .ended (.stuck "" "") w
    | .error (.unsupported u) => .ended (.unsupported u (g.frame.pos p)) w
    | .error _ => .ended (.stuck "timer" (g.frame.pos p)) w) := by
  split
  · rename_i e
    have := timerOp_dl e
    simp only [SOk]
    rw [this]
    exact h
  · exact h
  · trivial
  · trivial
theorem sok_runT {d : Nat} {m : Machine} (h : d ≤ m.world.drawn) (p : Program) (i : Nat) (listen : Bool) : SOk d (runT p m i listen).1 := by
  unfold runT
  simp only
  have hk := gok_stepG h p (i == 0) listen (m.gs.swapAt! i { (default : Goroutine) with status := .finished }).1
  generalize stepG p (i == 0) (m.gs.swapAt! i { (default : Goroutine) with status := .finished }).1 m.world listen = s at hk ⊢
  cases s with
  | go g w es => exact hk
  | comm g cs b sh w es => exact sok_communicate hk _ _ _ _ _ _ _ _
  | spawn g c w es => exact hk
  | count g w es =>
    dsimp only
    split
    · trivial
    · exact hk
  | timer g op w es => exact sok_of_gok _ _ _ _ hk
  | alone g on w es => exact hk
  | newcoro g c dd w es => exact hk
  | coroswitch g c ex w es =>
    dsimp only
    repeat' split
    all_goals first
      | trivial
      | exact hk
      | (rename_i e; rw [endThrow, dieOf] at e; cases e; exact hk)
  | collect g w es => exact sok_look hk _ _ _
  | watch g w es => exact hk
  | ended o w es => trivial

/-- A move: what it hands on has been asked no less. -/
def MOk (d : Nat) : Move → Prop
  | .goroutine m _ => d ≤ m.world.drawn
  | .machine s _ => SOk d s
theorem mok_ite {d : Nat} {c : Prop} [Decidable c] {a b : Move} (ha : MOk d a) (hb : MOk d b) : MOk d (if c then a else b) := by split <;> assumption
theorem mok_pick {d : Nat} {m : Machine} (h : d ≤ m.world.drawn) (p : Program) (rs : List Nat) : MOk d (match (choose (.sched rs.length)).run p m.world with
      | .halt _ w => .machine (.ended (.stuck "sched" "") w)
      | .ok k world =>
        if rs.length ≤ 1 then .goroutine { m with world } (rs.getD k 0) else
        match (choose (.extern "sched.slice" 65536)).run p world with
        | .halt _ w => .machine (.ended (.stuck "sched.slice" "") w)
        | .ok n world => .goroutine { m with world, rest := { m.rest with slice := if n = 0 then none else some (rs.getD k 0, n) } } (rs.getD k 0)) := by
  split
  · trivial
  · rename_i e
    have h1 := Nat.le_trans h (run_ok e)
    refine mok_ite h1 ?_
    split
    · trivial
    · rename_i e2
      exact Nat.le_trans h1 (run_ok e2)
theorem mok_askOn {d : Nat} {m : Machine} (h : d ≤ m.world.drawn) (p : Program) : MOk d (askOn p m) := by
  unfold askOn
  simp only
  split
  · trivial
  · rename_i e
    have h1 := Nat.le_trans h (run_ok e)
    refine mok_ite (sok_serve h1 _ _) ?_
    split
    · split
      · exact h1
      · refine mok_ite h1 ?_
        split <;> trivial
    · split
      · exact mok_pick (m := { m with world := _ }) h1 p _
      · split
        · trivial
        · rename_i e2
          have h2 := Nat.le_trans h1 (run_ok e2)
          exact mok_pick (m := { m with world := _ }) h2 p _
        · rename_i e2
          have h2 := Nat.le_trans h1 (run_ok e2)
          exact h2
        · rename_i e2
          have h2 := Nat.le_trans h1 (run_ok e2)
          exact mok_pick (m := Machine.advanceTo { m with world := _ } _) h2 p _
theorem mok_ask {d : Nat} {m : Machine} (h : d ≤ m.world.drawn) (p : Program) : MOk d (ask p m) := by
  unfold ask
  refine mok_ite ?_ (mok_askOn h p)
  split
  · trivial
  · rename_i e
    have h1 := sok_look (Nat.le_trans h (run_ok e)) p m.gs m.rest
    split
    · rename_i e2
      rw [e2] at h1
      exact mok_askOn h1 p
    · exact h1
  · rename_i e
    exact mok_askOn (Nat.le_trans h (run_ok e)) p
theorem mok_move {d : Nat} {m : Machine} (h : d ≤ m.world.drawn) (p : Program) : MOk d (move p m) := by
  unfold move
  split
  · exact mok_ite h trivial
  · split
    · exact mok_ite h (mok_ask (m := { m with rest := { m.rest with slice := none } }) h p)
    · exact mok_ask h p
theorem step_dl {p : Program} {m m' : Machine} (h : step p m = .next m') : m.world.drawn ≤ m'.world.drawn := by
  have hm := mok_move (Nat.le_refl m.world.drawn) p
  unfold step stepT at h
  split at h
  · rename_i e
    rw [e] at hm
    have := sok_runT hm p
    rename_i mm i
    have h2 := this i true
    rw [h] at h2
    exact h2
  · rename_i e
    rw [e] at hm
    simp only at h
    subst h
    exact hm
theorem runN_dl {p : Program} : ∀ (n : Nat) {m m' : Machine}, runN p n m = .next m' → m.world.drawn ≤ m'.world.drawn
  | 0, m, m', h => by simp only [runN] at h; cases h; exact Nat.le_refl _
  | n + 1, m, m', h => by
    simp only [runN] at h
    split at h
    · rename_i e
      exact Nat.le_trans (step_dl e) (runN_dl n h)
    · rename_i e hne
      exact absurd h (hne _)
theorem steps_dl {p : Program} {m m' : Machine} (h : Steps p m m') : m.world.drawn ≤ m'.world.drawn := by
  obtain ⟨n, hn⟩ := h
  exact runN_dl n hn

/-- What a call leaves has been asked no less. -/
theorem calls_dl {p : Program} {f : FuncId} {args : Array Value} {w : World} {R : Ending → World → Prop} (h : Calls p f args w R) (ho : ∀ w', ¬ R .outgrown w') :
    Calls p f args w fun e w' => R e w' ∧ w.drawn ≤ w'.drawn := by
  intro cs
  obtain ⟨e, w', fr, hR, hc, h1, h2⟩ := h cs
  refine ⟨e, w', fr, ⟨hR, ?_⟩, hc, h1, h2⟩
  cases e with
  | returned v => exact steps_dl (p := p) hc
  | panicked ch => exact steps_dl (p := p) hc
  | outgrown => exact absurd hR (ho w')
end Go.Proofs.YtmonfmmcgfmeeaaGreatDoor.Dr

namespace Go.Proofs.YtmonfmmcgfmeeaaGreatDoor.Dr
open Go Go.RowKit Go.Sort

theorem grow_of_below {w w' : World} (h : Below w.heap.size w w') (hd : w.drawn ≤ w'.drawn) : ∃ q os, w' = grow (w.drewN q) os := by
  refine ⟨w'.drawn - w.drawn, w'.heap.extract w.heap.size w'.heap.size, ?_⟩
  have hh : w'.heap = w.heap ++ w'.heap.extract w.heap.size w'.heap.size := by
    apply Array.ext_getElem?
    intro k
    rw [Array.getElem?_append]
    split
    · rename_i hk; exact h.block k hk
    · rename_i hk
      rw [Array.getElem?_extract]
      have := h.size
      split
      · congr 1; omega
      · exact Array.getElem?_eq_none (by omega)
  have hdr : w.drawn + (w'.drawn - w.drawn) = w'.drawn := by omega
  cases w'
  simp only [grow, World.drewN] at *
  have h1 := h.os; have h2 := h.tape; have h3 := h.output
  simp only at h1 h2 h3
  subst h1 h2 h3
  rw [hdr]
  congr 1

theorem calls_grow {p : Program} {f : FuncId} {args : Array Value} {w : World} {v : Value} (h : Calls p f args w fun e w' => e = .returned v ∧ Below w.heap.size w w') :
    Calls p f args w fun e w' => e = .returned v ∧ ∃ q os, w' = grow (w.drewN q) os :=
  (calls_dl h (fun w' h => by cases h.1)).mono fun e w' ⟨⟨he, hb⟩, hd⟩ => ⟨he, grow_of_below hb hd⟩
end Go.Proofs.YtmonfmmcgfmeeaaGreatDoor.Dr
