/- Texts of the proof, part 7: Mon, Rk6, PlX, Al1, Al2, SlV, SameT, Rc1, Al3, Vo2, ShS, Vo3, Ix2, Eng49, LawRg. -/
import Derived.WalkKit
import Derived.Calls
import Derived.KernelRfl
import Derived.Shelf.SlSortCmp.Whole1
import Derived.Test.YtpijeomnplmakaaGreatDoorRG6
/- The tape is never given back: what runs has asked it no less behind than ahead. -/
namespace Go.Proofs.YtpijeomnplmakaaGreatDoor
open Go Go.RowKit

def Rw' {α : Type} : Result α → World
  | .ok _ w => w
  | .halt _ w => w
theorem ask_drawn {α : Type} (m : Ask α) : ∀ (w : World), w.drawn ≤ (w.ask m).2.drawn := by
  induction m with
  | done a => intro w; exact Nat.le_refl _
  | ask what range k ih =>
    intro w
    simp only [World.ask]
    split
    · exact ih _ w
    · exact Nat.le_trans (Nat.le_succ _) (ih ((Question.extern what range).cut (w.tape w.drawn (Question.extern what range))) { w with drawn := w.drawn + 1 })
theorem sys_drawn (w : World) (c : Sys) : w.drawn ≤ (w.sys c).2.drawn := by
  unfold World.sys
  have := ask_drawn (Kernel.perform c w.os) w
  split
  · exact Nat.le_refl _
  · rename_i h; rw [h] at this; exact this
theorem view_drawn {P : Program} {w w' : World} {x : Addr} {y : TypeId} {a : Addr} {v : Value} {t : Bool} {l : List Addr} (h : World.viewStore P w x y a v t = .ok (w', l)) : w'.drawn = w.drawn := by
  unfold World.viewStore at h
  simp only [bind, Except.bind, pure, Except.pure] at h
  (repeat' split at h) <;> simp_all
  obtain ⟨h1, _⟩ := h
  rw [← h1]
theorem far_drawn {P : Program} {w w' : World} {a : Addr} {v : Value} {t : Bool} {l : List Addr} (h : w.farStore P a v t = .ok (w', l)) : w'.drawn = w.drawn := by
  unfold World.farStore at h
  (repeat' split at h) <;> simp_all
  rename_i h1
  exact view_drawn h1
theorem frz_drawn (w : World) (a : Addr) (n : Nat) : (w.freeze a n).drawn = w.drawn := by unfold World.freeze; (repeat' split) <;> rfl
theorem runT_drawn {α : Type} {P : Program} (m : Sem α) : ∀ (w : World) (es : Array Event), w.drawn ≤ (Rw' (m.runT P w es).1).drawn := by
  induction m with
  | pure a => intro w es; exact Nat.le_refl _
  | load m a k ih => intro w es; simp only [Sem.runT]; (repeat' split) <;> first | exact ih _ _ _ | exact Nat.le_refl _
  | store m a v k ih =>
    intro w es
    cases v <;> simp only [Sem.runT] <;> (repeat' split) <;> first
      | exact Nat.le_refl _
      | exact ih (w.setCell a _) _
      | (rename_i hf; have := far_drawn hf; rw [← this]; exact ih _ _)
  | new o k ih => intro w es; exact ih w.heap.size { w with heap := w.heap.push o } es
  | shape r k ih => intro w es; exact ih _ _ _
  | freeze a n k ih => intro w es; have := ih (w.freeze a n) es; rw [frz_drawn] at this; exact this
  | frozen a k ih => intro w es; exact ih _ _ _
  | getObj r k ih => intro w es; simp only [Sem.runT]; (repeat' split) <;> first | exact ih _ _ _ | exact Nat.le_refl _
  | setObj r o k ih => intro w es; simp only [Sem.runT]; (repeat' split) <;> first | exact ih { w with heap := w.heap.setIfInBounds r o } _ | exact Nat.le_refl _
  | choose q k ih =>
    intro w es
    simp only [Sem.runT]
    split
    · exact ih _ _ _
    · exact Nat.le_trans (Nat.le_succ _) (ih (q.cut (w.tape w.drawn q)) { w with drawn := w.drawn + 1 } es)
  | sys c k ih => intro w es; exact Nat.le_trans (sys_drawn w c) (ih _ _ _)
  | program k ih => intro w es; exact ih _ _ _
  | mark m k ih => intro w es; exact ih _ _
  | halt h => intro w es; exact Nat.le_refl _
theorem run_drawn {α : Type} {P : Program} (m : Sem α) : ∀ (w : World), w.drawn ≤ (Rw' (m.run P w)).drawn := by
  induction m with
  | pure a => intro w; exact Nat.le_refl _
  | load m a k ih => intro w; simp only [Sem.run]; (repeat' split) <;> first | exact ih _ _ | exact Nat.le_refl _
  | store m a v k ih =>
    intro w
    cases v <;> simp only [Sem.run] <;> (repeat' split) <;> first
      | exact Nat.le_refl _
      | exact ih (w.setCell a _)
      | (rename_i hf; have := far_drawn hf; rw [← this]; exact ih _)
  | new o k ih => intro w; exact ih w.heap.size { w with heap := w.heap.push o }
  | shape r k ih => intro w; exact ih _ _
  | freeze a n k ih => intro w; have := ih (w.freeze a n); rw [frz_drawn] at this; exact this
  | frozen a k ih => intro w; exact ih _ _
  | getObj r k ih => intro w; simp only [Sem.run]; (repeat' split) <;> first | exact ih _ _ | exact Nat.le_refl _
  | setObj r o k ih => intro w; simp only [Sem.run]; (repeat' split) <;> first | exact ih { w with heap := w.heap.setIfInBounds r o } | exact Nat.le_refl _
  | choose q k ih =>
    intro w
    simp only [Sem.run]
    split
    · exact ih _ _
    · exact Nat.le_trans (Nat.le_succ _) (ih (q.cut (w.tape w.drawn q)) { w with drawn := w.drawn + 1 })
  | sys c k ih => intro w; exact Nat.le_trans (sys_drawn w c) (ih _ _)
  | program k ih => intro w; exact ih _ _
  | mark m k ih => intro w; exact ih _
  | halt h => intro w; exact Nat.le_refl _

theorem run_ok {α : Type} {P : Program} {m : Sem α} {w w' : World} {v : α} (h : m.run P w = .ok v w') : w.drawn ≤ w'.drawn := by
  have := run_drawn (P := P) m w
  rwa [h] at this
theorem run_halt {α : Type} {P : Program} {m : Sem α} {w w' : World} {e : Halt} (h : m.run P w = .halt e w') : w.drawn ≤ w'.drawn := by
  have := run_drawn (P := P) m w
  rwa [h] at this
theorem runT_eq {α : Type} {P : Program} {m : Sem α} {w : World} {es es' : Array Event} {r : Result α} (h : m.runT P w es = (r, es')) : w.drawn ≤ (Rw' r).drawn := by
  have := runT_drawn (P := P) m w es
  rwa [h] at this
def GOk (n : Nat) : GStep → Prop
  | .go _ w _ | .comm _ _ _ _ w _ | .spawn _ _ w _ | .count _ w _ | .timer _ _ w _ | .alone _ _ w _ | .newcoro _ _ _ w _ | .coroswitch _ _ _ w _ | .collect _ w _ | .watch _ w _ => n ≤ w.drawn
  | .ended .. => True
theorem GOk.after {n : Nat} {es : Array Event} {s : GStep} (h : GOk n s) : GOk n (GStep.after es s) := by cases s <;> exact h
theorem GOk.le {n m : Nat} {s : GStep} (h : GOk n s) (hm : m ≤ n) : GOk m s := by cases s <;> first | exact Nat.le_trans hm h | trivial
theorem endWith_ok (w : World) (fd : Nat) (t : ByteArray) (o : Outcome) (n : Nat) : GOk n (endWith w fd t o) := by
  unfold endWith
  dsimp only
  (repeat' split) <;> trivial
theorem endThrow_ok (fr : Frame) (m : String) (w : World) : GOk w.drawn (endThrow fr m w) := Nat.le_refl _
theorem endPrinting_ok (p : Program) (fr : Frame) (v : Value) (w : World) : GOk w.drawn (endPrinting p fr v w) := by
  unfold endPrinting
  dsimp only
  split
  · exact Nat.le_refl _
  · trivial
theorem endFatal_ok (p : Program) (fr : Frame) (cs : List Frame) (dy : Option Dying) (m : String) (w : World) : GOk w.drawn (endFatal p fr cs dy m w) := by
  unfold endFatal
  dsimp only
  split
  · rename_i h
    exact run_ok h
  · trivial
  · trivial
theorem writeOn_ok (p : Program) (fr : Frame) (d : Dying) (f : Fatal) (w : World) : GOk w.drawn (writeOn p fr d f w) := by
  unfold writeOn
  dsimp only
  split
  · trivial
  · rename_i piece rest _
    split
    · rename_i h
      exact runT_eq h
    · rename_i h
      exact runT_eq h
    · trivial
    · trivial
theorem die_ok (p : Program) (fr : Frame) (d : Dying) (w : World) : GOk w.drawn (die p fr d w) := by
  unfold die
  dsimp only
  split
  · exact writeOn_ok _ _ _ _ _
  · split
    · split
      · exact Nat.le_refl _
      · exact endWith_ok _ _ _ _ _
    · split
      · exact Nat.le_refl _
      · split
        · rename_i h; exact run_ok h
        · trivial
      · rename_i t recv name _
        have hr := runT_drawn (P := p) (invoke (.fn (.method name) #[]) #[.iface t recv]) w #[]
        generalize (invoke (.fn (.method name) #[]) #[.iface t recv]).runT p w #[] = x at *
        obtain ⟨r, es⟩ := x
        refine GOk.after ?_
        dsimp only at hr ⊢
        split
        · exact hr
        · exact hr
        · trivial
        · exact GOk.le (endPrinting_ok _ _ _ _) hr
        · trivial
      · trivial
theorem doReturn_ok (p : Program) (main : Bool) (fr : Frame) (cs : List Frame) (dy : Option Dying) (v : Value) (w : World) : GOk w.drawn (doReturn p main fr cs dy v w) := by
  unfold doReturn
  (repeat' split) <;> first | exact Nat.le_refl _ | trivial
theorem callDeferred_ok (p : Program) (fr : Frame) (cs : List Frame) (dy : Option Dying) (d : Deferred) (w : World) : GOk w.drawn (callDeferred p fr cs dy d w) := by
  unfold callDeferred
  have hr := runT_drawn (P := p) (invoke d.target d.args) w #[]
  generalize (invoke d.target d.args).runT p w #[] = x at *
  obtain ⟨r, es⟩ := x
  dsimp only at hr ⊢
  generalize hc : ((match d.target with | .nil => true | _ => false) && (match fr.mode with | .panicking _ => true | _ => false)) = c
  cases c with
  | true => trivial
  | false =>
    refine GOk.after ?_
    (repeat' split) <;> first | exact hr | trivial | exact GOk.le (endFatal_ok _ _ _ _ _ _) hr | exact GOk.le (endThrow_ok _ _ _) hr
theorem unwind_ok (p : Program) (main : Bool) (fr : Frame) (cs : List Frame) (dy : Option Dying) (w : World) : GOk w.drawn (unwind p main fr cs dy w) := by
  unfold unwind
  split
  · rename_i block _ ds _
    have hr := runT_drawn (P := p) (Instr.takeDeferred block) w #[]
    generalize (Instr.takeDeferred block).runT p w #[] = x at *
    obtain ⟨r, es⟩ := x
    dsimp only at hr ⊢
    refine GOk.after ?_
    split <;> first | exact hr | trivial
  · exact callDeferred_ok _ _ _ _ _ _
  · split
    · trivial
    · split
      · trivial
      · split
        · exact Nat.le_refl _
        · split
          · split
            · exact Nat.le_refl _
            · split
              · rename_i h; exact run_ok h
              · trivial
              · trivial
          · split
            · exact endPrinting_ok _ _ _ _
            · trivial
    · split
      · exact doReturn_ok _ _ _ _ _ _ _
      · rename_i fn _
        have hr := runT_drawn (P := p) (results fn fr.tmps) w #[]
        generalize (results fn fr.tmps).runT p w #[] = x at *
        obtain ⟨r, es⟩ := x
        dsimp only at hr ⊢
        refine GOk.after ?_
        split
        · exact GOk.le (doReturn_ok _ _ _ _ _ _ _) hr
        · trivial
        · trivial
theorem early_ok (p : Program) (fr : Frame) (cs : List Frame) (dy : Option Dying) (g : Nat) (w : World) : GOk w.drawn (early p fr cs dy g w) := by
  unfold early
  dsimp only
  (repeat' split) <;> first | exact Nat.le_refl _ | trivial | (have h1 := ‹Sem.run p (choose _) w = Result.ok _ _›; have h2 := run_ok h1; exact h2)
theorem apply_ok (p : Program) (li : Bool) (fr : Frame) (cs : List Frame) (dy : Option Dying) (s : Sem Next) (w : World) : GOk w.drawn (stepG.apply p li fr cs dy s w) := by
  unfold stepG.apply
  dsimp only
  have hr : w.drawn ≤ (Rw' (if li then s.runT p w #[] else (s.run p w, #[])).1).drawn := by
    split
    · exact runT_drawn s w #[]
    · exact run_drawn s w
  generalize (if li then s.runT p w #[] else (s.run p w, #[])) = x at *
  obtain ⟨r, es⟩ := x
  dsimp only at hr ⊢
  refine GOk.after ?_
  (repeat' split) <;> first | exact hr | trivial | exact GOk.le (endFatal_ok _ _ _ _ _ _) hr | exact GOk.le (endThrow_ok _ _ _) hr | exact GOk.le (early_ok _ _ _ _ _ _) hr
theorem oper_ok (p : Program) (li : Bool) (fr : Frame) (cs : List Frame) (dy : Option Dying) (w : World) : GOk w.drawn (stepG.oper p li fr cs dy w) := by
  unfold stepG.oper
  (repeat' split) <;> first | trivial | exact apply_ok _ _ _ _ _ _ _
theorem exec_ok (p : Program) (main li : Bool) (fr : Frame) (cs : List Frame) (dy : Option Dying) (w : World) : GOk w.drawn (stepG.exec p main li fr cs dy w) := by
  have hl : ∀ jump : Option Code, GOk w.drawn (match fr.roundOf with
      | none => if (match jump with | none | some .ret => true | _ => false) then GStep.go { frame := { fr with mode := .returning }, callers := cs, status := .running, dying := dy } w else .ended (.stuck "exit, goto: no such block or label" (fr.pos p)) w
      | some l =>
        let (r, es) := (Instr.endRound l jump).runT p w #[]
        GStep.after (seen p fr.fn es) <| match r with
        | .ok v w => doReturn p main fr cs dy v w
        | .halt _ w => .ended (.stuck "range over a function: no such loop" (fr.pos p)) w) := fun jump => by
    split
    · (repeat' split) <;> first | exact Nat.le_refl _ | trivial
    · rename_i l _
      have hr := runT_drawn (P := p) (Instr.endRound l jump) w #[]
      generalize (Instr.endRound l jump).runT p w #[] = x at *
      obtain ⟨r, es⟩ := x
      dsimp only at hr ⊢
      refine GOk.after ?_
      split
      · exact GOk.le (doReturn_ok _ _ _ _ _ _ _) hr
      · trivial
  unfold stepG.exec
  dsimp only
  split
  · exact hl none
  · exact hl (some .ret)
  · exact Nat.le_refl _
  · exact Nat.le_refl _
  · exact Nat.le_refl _
  · exact Nat.le_refl _
  · exact Nat.le_refl _
  · split
    · exact Nat.le_refl _
    · trivial
  · exact Nat.le_refl _
  · exact Nat.le_refl _
  · exact Nat.le_refl _
  · exact Nat.le_refl _
  · rename_i id k _
    cases exitTo id k with
    | none => exact hl (some (.exit id))
    | some _ => exact Nat.le_refl _
  · rename_i l k _
    cases gotoIn l k with
    | none => exact hl (some (.goto l))
    | some _ => exact Nat.le_refl _
  · rename_i f params assign body k _
    have hr := runT_drawn (P := p) (Instr.enterLoop fr.fn fr.tmps params assign body fr.roundOf) w #[]
    generalize (Instr.enterLoop fr.fn fr.tmps params assign body fr.roundOf).runT p w #[] = x at *
    obtain ⟨r, es⟩ := x
    dsimp only at hr ⊢
    refine GOk.after ?_
    split
    · exact GOk.le (apply_ok _ _ _ _ _ _ _) hr
    · trivial
  · trivial
  · exact apply_ok _ _ _ _ _ _ _
  · rename_i l k _
    have hr := runT_drawn (P := p) (Instr.endLoop l) w #[]
    generalize (Instr.endLoop l).runT p w #[] = x at *
    obtain ⟨r, es⟩ := x
    dsimp only at hr ⊢
    refine GOk.after ?_
    split
    · exact hr
    · exact hr
    · trivial
  · trivial
  · exact apply_ok _ _ _ _ _ _ _
  · rename_i row args _ _
    cases Extern.next row with
    | none => trivial
    | some e => exact apply_ok _ _ _ _ _ _ _
  · split
    · exact Nat.le_refl _
    · split
      · rename_i h; exact run_ok h
      · trivial
  · exact Nat.le_refl _
  · split
    · exact oper_ok _ _ _ _ _ _
    · exact Nat.le_refl _
theorem stepG_ok (p : Program) (main : Bool) (g : Goroutine) (w : World) (li : Bool) : GOk w.drawn (stepG p main g w li) := by
  unfold stepG
  dsimp only
  split
  · exact die_ok _ _ _ _
  · exact exec_ok _ _ _ _ _ _ _
  · exact unwind_ok _ _ _ _ _ _

def SOk (n : Nat) : Stepped → Prop
  | .next m => n ≤ m.world.drawn
  | .ended .. => True
theorem SOk.le {n m : Nat} {s : Stepped} (h : SOk n s) (hm : m ≤ n) : SOk m s := by cases s <;> first | exact Nat.le_trans hm h | trivial
theorem wait_ok {rest : Rest} {cases : Array CommCase} {w w' : World} (h : waitingAt rest cases w = some w') : w'.drawn = w.drawn := by
  unfold waitingAt at h
  (repeat' split at h) <;> first | cases h | skip
  all_goals first | rfl | (cases h; rfl)
theorem communicate_ok (p : Program) (rest : Rest) (gs : Array Goroutine) (i : Nat) (g : Goroutine) (cases : Array CommCase) (bl : Bool) (sh : CommShape) (w : World) : SOk w.drawn (communicate p rest gs i g cases bl sh w).1 := by
  unfold communicate
  dsimp only
  split
  · trivial
  · split
    · split
      · split
        · rename_i h; exact Nat.le_of_eq (wait_ok h).symm
        · trivial
      · exact Nat.le_refl _
    · split
      · trivial
      · rename_i h
        have h1 := run_ok h
        clear h
        split
        · split
          · rename_i h; exact Nat.le_trans h1 (run_halt h)
          · trivial
        · exact h1
        · exact h1
        · split
          · exact h1
          · split
            · rename_i h; have h2 := run_ok h; exact Nat.le_trans h1 h2
            · trivial
        · exact h1
        · exact h1
        · trivial
theorem look_ok (p : Program) (gs : Array Goroutine) (rest : Rest) (w : World) : SOk w.drawn (look p gs rest w) := by
  unfold look
  dsimp only
  split
  · split
    · trivial
    · split
      · trivial
      · split
        · rename_i h; have h1 := run_ok h; exact h1
        · trivial
        · trivial
  · trivial
theorem drain_ok (w : World) (c : Nat) : (drain w c).2.drawn = w.drawn := by
  unfold drain
  split <;> rfl
theorem retime_ok (m : Machine) (k : Nat) (t : Timer) (a b : Nat) : (retime m k t a b).2.world.drawn = m.world.drawn := by
  unfold retime
  dsimp only
  cases t.chan with
  | none => rfl
  | some c => exact drain_ok _ _
theorem named_ok {m : Machine} {var : Addr} {f : Nat → Timer → Value × Machine} {v : Value} {m' : Machine} {n : Nat} (hf : ∀ k t, (f k t).2.world.drawn = n) (h : timerOp.named m var f = .ok (v, m')) : m'.world.drawn = n := by
  unfold timerOp.named at h
  split at h
  · rename_i k _
    have := hf k (m.rest.timers.getD k default)
    simp only [Except.ok.injEq] at h
    rw [h] at this
    exact this
  · cases h
theorem opened_ok {m m' : Machine} {var : Addr} (h : timerOp.opened m var = some m') : m'.world.drawn = m.world.drawn := by
  unfold timerOp.opened at h
  (repeat' split at h) <;> first | (cases h; rfl) | cases h
theorem timerOp_ok {m m' : Machine} {op : TimerOp} {v : Value} (h : timerOp m op = .ok (v, m')) : m'.world.drawn = m.world.drawn := by
  cases op with
  | new t =>
    simp only [timerOp] at h
    (repeat' split at h) <;> first | (cases h; rfl) | cases h
  | stop var =>
    simp only [timerOp] at h
    exact named_ok (fun k t => retime_ok m k t 0 t.period) h
  | reset var a b =>
    simp only [timerOp] at h
    split at h
    · rename_i m1 h1
      rw [← opened_ok h1]
      exact named_ok (fun k t => retime_ok m1 k t a b) h
    · cases h
  | deadline ctx a b c =>
    simp only [timerOp] at h
    cases h
    rfl
theorem serve_ok (p : Program) (m : Machine) (k : Nat) : SOk m.world.drawn (serve p m k) := by
  unfold serve
  split
  · trivial
  · exact Nat.le_refl _
  · dsimp only
    split
    · trivial
    · exact Nat.le_refl _
theorem runT_ok (p : Program) (m : Machine) (i : Nat) (li : Bool) : SOk m.world.drawn (runT p m i li).1 := by
  unfold runT
  dsimp only
  generalize m.gs.swapAt! i { (default : Goroutine) with status := .finished } = x
  obtain ⟨g, gs⟩ := x
  dsimp only
  have hg := stepG_ok p (i == 0) g m.world li
  generalize stepG p (i == 0) g m.world li = s at *
  cases s with
  | ended o w es => trivial
  | comm g cases bl sh w es => exact SOk.le (communicate_ok _ _ _ _ _ _ _ _ _) hg
  | go g w es => exact hg
  | spawn g c w es => exact hg
  | count g w es =>
    dsimp only
    split
    · trivial
    · exact hg
  | alone g on w es => exact hg
  | collect g w es => exact SOk.le (look_ok _ _ _ _) hg
  | watch g w es => exact hg
  | newcoro g c d w es => exact hg
  | coroswitch g c ex w es =>
    dsimp only
    split
    · exact hg
    · exact hg
    · trivial
  | timer g op w es =>
    dsimp only
    split
    · rename_i h
      have h1 := timerOp_ok h
      exact Nat.le_trans hg (Nat.le_of_eq h1.symm)
    · exact hg
    · trivial
    · trivial

def MOk (n : Nat) : Move → Prop
  | .goroutine m _ => n ≤ m.world.drawn
  | .machine s _ => SOk n s
theorem MOk.le {n m : Nat} {s : Move} (h : MOk n s) (hm : m ≤ n) : MOk m s := by
  cases s with
  | goroutine m' i => exact Nat.le_trans hm h
  | machine s ops => exact SOk.le h hm
theorem askOn_ok (p : Program) (m : Machine) : MOk m.world.drawn (askOn p m) := by
  have hp : ∀ m : Machine, MOk m.world.drawn (
      match (choose (.sched (runnable m.gs m.world.os.mono).length)).run p m.world with
      | .halt _ w => .machine (.ended (.stuck "sched" "") w)
      | .ok k world => .goroutine m 0) := fun m => by
    split
    · trivial
    · exact Nat.le_refl _
  unfold askOn
  dsimp only
  split
  · trivial
  · rename_i h
    have h1 := run_ok h
    clear h
    split
    · exact SOk.le (serve_ok p _ _) h1
    · split
      · split
        · exact h1
        · split
          · exact h1
          · split <;> trivial
      · split
        · split
          · trivial
          · rename_i h; have h2 := run_ok h
            split
            · exact Nat.le_trans h1 h2
            · split
              · trivial
              · rename_i h; have h3 := run_ok h; exact Nat.le_trans h1 (Nat.le_trans h2 h3)
        · split
          · trivial
          · rename_i h
            have h2 := run_ok h
            clear h
            split
            · trivial
            · rename_i h; have h3 := run_ok h
              split
              · exact Nat.le_trans h1 (Nat.le_trans h2 h3)
              · split
                · trivial
                · rename_i h; have h4 := run_ok h; exact Nat.le_trans h1 (Nat.le_trans h2 (Nat.le_trans h3 h4))
          · rename_i h
            have h2 := run_ok h
            exact Nat.le_trans h1 h2
          · rename_i h
            have h2 := run_ok h
            clear h
            split
            · trivial
            · rename_i h; have h3 := run_ok h
              split
              · exact Nat.le_trans h1 (Nat.le_trans h2 h3)
              · split
                · trivial
                · rename_i h; have h4 := run_ok h; exact Nat.le_trans h1 (Nat.le_trans h2 (Nat.le_trans h3 h4))
theorem ask_ok (p : Program) (m : Machine) : MOk m.world.drawn (ask p m) := by
  unfold ask
  split
  · split
    · trivial
    · rename_i h
      have h1 := run_ok h
      split
      · rename_i h2
        have h3 := look_ok p m.gs m.rest ‹World›
        rw [h2] at h3
        exact MOk.le (askOn_ok _ _) (Nat.le_trans h1 h3)
      · exact SOk.le (look_ok _ _ _ _) h1
    · rename_i h
      have h1 := run_ok h
      exact MOk.le (askOn_ok _ _) h1
  · exact askOn_ok _ _
theorem move_ok (p : Program) (m : Machine) : MOk m.world.drawn (move p m) := by
  unfold move
  split
  · split
    · exact Nat.le_refl _
    · trivial
  · split
    · split
      · exact Nat.le_refl _
      · exact ask_ok p { m with rest := { m.rest with slice := none } }
    · exact ask_ok _ _
theorem step_ok (p : Program) (m : Machine) : SOk m.world.drawn (step p m) := by
  have := move_ok p m
  unfold step stepT
  split
  · rename_i h
    rw [h] at this
    exact SOk.le (runT_ok _ _ _ _) this
  · rename_i h
    rw [h] at this
    exact this
theorem runN_drawn {p : Program} : ∀ (n : Nat) {m m' : Machine}, runN p n m = .next m' → m.world.drawn ≤ m'.world.drawn
  | 0, m, m', h => by
    simp only [runN] at h
    cases h
    exact Nat.le_refl _
  | n + 1, m, m', h => by
    simp only [runN] at h
    have h1 := step_ok p m
    split at h
    · rename_i h2
      rw [h2] at h1
      exact Nat.le_trans h1 (runN_drawn n h)
    · rename_i h2
      exact absurd h (h2 _)
theorem steps_drawn {p : Program} {m m' : Machine} (h : Steps p m m') : m.world.drawn ≤ m'.world.drawn := by
  obtain ⟨n, h⟩ := h
  exact runN_drawn n h
/-- What a call draws it does not give back. -/
theorem calls_drawn {P : Program} {f : FuncId} {args : Array Value} {w : World} {R : Ending → World → Prop} (h : Calls P f args w R) : Calls P f args w fun e w' => R e w' ∧ (e ≠ .outgrown → w.drawn ≤ w'.drawn) := fun cs => by
  obtain ⟨e, w', fr, hR, hC, hf, hl⟩ := h cs
  refine ⟨e, w', fr, ⟨hR, fun he => ?_⟩, hC, hf, hl⟩
  cases e with
  | returned v => exact steps_drawn hC
  | panicked c => exact steps_drawn hC
  | outgrown => exact absurd rfl he
end Go.Proofs.YtpijeomnplmakaaGreatDoor
namespace Go.Proofs.YtpijeomnplmakaaGreatDoor
open Go.RowKit

set_option maxHeartbeats 1000000 in
theorem by1_calls (x y : Slp) (w : World) (hmx : MxI w) (hx : GdS x) (hy : GdS y) : Calls Tryz.prog 224 [encSl x, encSl y].toArray w fun e w' => e = .returned (.int .i64 (cmpBy 1 x y)) ∧ Ext w w' := by
  refine Calls.ofW (by simp) ?_
  (refine jjB (jjC ?_))
  (refine jy rfl ?_; intro b3 w_b3 hb_b3 hs_b3 hS_b3 hk_b3; have hA_b3 := At.ofBlock hk_b3)
  (refine jy rfl ?_; intro b4 w_b4 hb_b4 hs_b4 hS_b4 hk_b4; have hA_b4 := At.ofBlock hk_b4)
  (refine jJ (eI rfl) (jz (jjB (jjC (jO rfl rfl rfl rfl (jO rfl rfl rfl rfl ?_))))))
  refine jjQ (Order_slip _ x y hx.2 hy.2) rfl rfl ?_
  rintro _ w6 hS6 rfl
  (refine jI (eU rfl) (ju rfl rfl (ju rfl rfl (jJ (eI rfl) (jJ (eI rfl) (jz ?_))))); refine jjB (jjC (jI (eI rfl) (jJ (eI rfl) (jz (jjF ?_))))))
  refine jB rfl rfl ⟨?_, inferInstance⟩
  show Ending.returned (Value.int .i64 (ordR x y).1) = _
  rw [show cmpBy 1 x y = ordS x y from rfl, show (ordR x y).1 = ordS x y by simp [ordR, hx.1, hy.1]]
theorem by1_slip : CmpQ 224 (cmpBy 1) := fun x y w hmx hx hy =>
  (calls_drawn (by1_calls x y w hmx hx hy)).mono fun e w' ⟨⟨h1, h2⟩, h3⟩ => ⟨h1, h2, h3 (by rw [h1]; exact fun h => by cases h)⟩

abbrev wA : ByteArray := ⟨#[97]⟩


section
variable (w : World) [hgs : At w 1 0 sidesC]
end




theorem small_of_right {x : Slp} (h : slipB x = true) : SmallS x := by
  simp only [slipB, wordsB, wordB, Bool.and_eq_true, Bool.or_eq_true, decide_eq_true_eq] at h
  exact ⟨by omega, by omega, by omega⟩

theorem str_one (s : ByteArray) : ([s].map strV).all (fun v => v.cells.toList.all (·.oneCell')) = true := rfl
set_option maxHeartbeats 2000000 in
theorem AppendSeq_strH (xs : List ByteArray) (gf kb : Nat) (lb : List Value) (Fct I : World → Prop) (w : World) (hit : IterH Tryz.prog gf lb xs (fun s => [.string s]) kb Fct I) [he : Enters Tryz.prog gf] (hkb : kb < w.heap.size) (hkd : KbD kb w) (hF : ∀ V, Only kb w V → Fct V) (hI : ∀ V, Ext w V → I V) (hlen : xs.length ≤ 1000000) :
    Calls Tryz.prog 167 [.slice none 0 0, .func (.func gf) #[] lb.toArray].toArray w fun e w' => ∃ v, e = .returned v ∧ Only kb w w' ∧ OwnL w' w.heap.size 9 false 1 v (xs.map strV) := by
  refine Calls.ofWM (by simp) ?_
  (refine jjB (jjC ?_))
  (refine jy rfl ?_; intro b2 w_b2 hb_b2 hs_b2 hS_b2 hk_b2; have hA_b2 := At.ofBlock hk_b2)
  have hBk := Bk.of (cs := [.slice none 0 0]) hk_b2
  (refine jJ (eS rfl) (jz (jjB (jjB (jjC (jI (eF rfl) ?_))))); refine jz (jjD ?_))
  have hsz := hS_b2.size
  have hbk : b2 ≠ kb := by omega
  refine W.rangeH w.heap.size kb xs (fun s => [.string s]) hit (by omega) rfl (fun _ => rfl) trivial inferInstance hsz
    (fun i V => Only kb w V ∧ KbD kb V ∧ w_b2.heap.size ≤ V.heap.size ∧ ∃ v, Bk V b2 [v] 90 ∧ OwnL V w_b2.heap.size 9 false 1 v ((xs.take i).map strV))
    (fun _ _ _ => False) ?hJ (fun _ _ _ _ h _ => h) (fun i V h => hF V h.1) (fun V e => hI V (hS_b2.ext.trans e)) (fun i V h => h.2.1) (fun _ _ _ h => h.elim) ⟨.ofExt hS_b2.ext, let ⟨o, h1, h2⟩ := hkd; ⟨o, hS_b2.ext.block' h1, h2⟩, Nat.le_refl _, _, hBk, OwnL.nil _ _ _ _ _⟩
    (MOb b2) ?hM1 ?hM2 (fun x s' V => s' 2 = .pointer (some ⟨b2, 0, none⟩) ∧ s' 5 = .string x) (fun x s V V' h g => h) ?hassign ?hbody ?hdone (fun _ _ _ _ _ _ h => h.elim)
  case hJ =>
    rintro i V V' ⟨h1, h2, h3, v, h4, h5⟩ g
    exact ⟨h1.growB g hsz, g.kd h2, Nat.le_trans h3 g.size, v, h4.growB g hbk, h5.growB g fun e => by have := (h5.block _ e).1; omega⟩
  case hM1 => exact fun i V k ⟨h1, h2, h3, v, h4, h5⟩ h => MOb.lt h4 h5 hbk (by omega) h
  case hM2 => exact fun i V V' k ⟨h1, h2, h3, v, h4, h5⟩ g h => MOb.back h4 g hbk h
  case hassign =>
    rintro l i x V hx h hl hr
    (refine jjC (jJ (eT rfl) (jz ?_)))
    exact ⟨rfl, Tr.refl _, Fr.refl _ _, h, rfl, rfl⟩
  case hbody =>
    rintro l i x s' V hx ⟨h1, h2, h3, v, h4, h5⟩ ⟨ha2, ha5⟩ hl hr
    have hlt := (List.getElem?_eq_some_iff.1 hx).1
    refine W.fix (d := 2) ha2 (W.fix (d := 5) ha5 ?_)
    (refine jjD (jjC (jN rfl rfl rfl (jI (eT rfl) ?_))))
    (refine jjP (v := .string _) rfl (by exact rfl) (by exact rfl) (by exact rfl) (by exact rfl) ?_; intro b10 w_b10 hb_b10 hs_b10 hS_b10 hk_b10; have hR_b10 := RowV.one (agg := false) (k := 1) rfl hk_b10)
    have e10 := hS_b10.ext
    have hz10 := e10.size
    have hR1 : RowV w_b10 false 1 (.slice (some ⟨b10, 0, none⟩) 1 1) ([x].map strV) := hR_b10
    refine Ops.appendL (h5.ext e10) (by omega) hR1 rfl rfl rfl rfl (str_one x) (by simp; omega) (by simp; omega) ?_
    intro v2 V2 hA hO _ hown2
    obtain ⟨a2, c2, rfl⟩ := hO.slice
    have hb2 : ∀ g, v.ownBlock = some g → w_b2.heap.size ≤ g := fun g hg => (h5.block g hg).1
    have hne : v.ownBlock ≠ some b2 := fun e => by have := hb2 b2 e; omega
    have hnk : v.ownBlock ≠ some kb := fun e => by have := hb2 kb e; omega
    have hB2 : Bk V2 b2 [v] 90 := hA.bk (h4.ext e10) hne
    skip
    refine Ops.store rfl rfl rfl rfl rfl ?_
    intro V3 hp3
    (refine jz ?_)
    have hB3 : Bk V3 b2 [.slice a2 (List.map strV (xs.take i) ++ List.map strV [x]).length c2] 90 := ⟨hp3.new⟩
    have hne2 : (Value.slice a2 (List.map strV (xs.take i) ++ List.map strV [x]).length c2).ownBlock ≠ some b2 := fun e => by rcases hown2 with h | h <;> rw [h] at e; exact hne e; cases e; omega
    have hkV : KbD kb V3 := by
      obtain ⟨o, q1, q2⟩ := h2
      exact ⟨o, (hp3.other kb (fun e => hbk e.symm)).trans (hA.other (e10.block' q1) hnk), q2⟩
    refine ⟨(e10.tr.trans hA.tr).trans (hp3.tr ⟨_, hB2.h, rfl⟩), (Fr.ofExt e10 fun k hk => .inl (MOb.same h4 (h4.ext e10) hk)).trans (MOb.append (h4.ext e10) hA hp3 hB3 hown2), ?_, hkV, ?_, _, hB3, ?_⟩
    · have hO1 : Only kb w_b2 V3 → Only kb w V3 := fun h => (Only.ofExt hS_b2.ext).trans h
      refine ⟨hp3.os.trans (hA.g.os.trans (e10.b.os.trans h1.os)), hp3.tape.trans (hA.g.tape.trans (e10.b.tape.trans h1.tape)), hp3.output.trans (hA.g.output.trans (e10.b.output.trans h1.output)), ?_, fun k hk hn => ?_⟩
      · have := hA.g.size; have := h1.size; rw [hp3.size]; omega
      · have hkV' : k < V.heap.size := by have := h1.size; omega
        refine (hp3.other k (by omega)).trans ((hA.g.block k (by omega) (fun e => by have := hb2 k e.symm; omega)).trans ((e10.block hkV').trans (h1.other k hk hn)))
    · have := hA.g.size; rw [hp3.size]; omega
    · rw [take_snoc_get hx, List.map_append]
      exact hO.put hp3 hne2
  case hdone =>
    rintro ds' V hmk ⟨h1, h2, h3, v, h4, h5⟩
    have := h4
    (refine jjB (jjC (jN rfl rfl rfl (jJ rfl (jz (jjF ?_))))))
    refine fin1M rfl rfl hmk fun w' g => ⟨_, rfl, h1.growB (g.toB (kb := kb)) (Nat.le_refl _), ?_⟩
    rw [List.take_length] at h5
    exact (h5.grow g).mono hsz
theorem Collect_strH (xs : List ByteArray) (gf kb : Nat) (lb : List Value) (Fct I : World → Prop) (w : World) (hit : IterH Tryz.prog gf lb xs (fun s => [.string s]) kb Fct I) [he : Enters Tryz.prog gf] (hkb : kb < w.heap.size) (hkd : KbD kb w) (hF : ∀ V, Only kb w V → Fct V) (hI : ∀ V, Ext w V → I V) (hlen : xs.length ≤ 1000000) :
    Calls Tryz.prog 149 [.func (.func gf) #[] lb.toArray].toArray w fun e w' => ∃ v, e = .returned v ∧ Only kb w w' ∧ OwnL w' w.heap.size 9 false 1 v (xs.map strV) := by
  refine Calls.ofW (by simp) ?_
  (refine jjB (jjC (jJ (eS rfl) (jz (jjB (jjC ?_))))); refine jI (eF rfl) ?_)
  refine Ops.callR rfl (Enters.h (P := Tryz.prog) (g := 167)) rfl (AppendSeq_strH xs gf kb lb Fct I w hit hkb hkd hF hI hlen) ?_
  rintro e w' ⟨v, rfl, hO, hL⟩
  refine ⟨v, rfl, ?_⟩
  (refine jJ rfl (jz (jjF ?_)))
  refine jB rfl rfl ⟨_, rfl, hO, hL⟩
end Go.Proofs.YtpijeomnplmakaaGreatDoor

/- slices.SortFunc of texts by cmp.Compare: the contract of the library's shelf at this program. -/
namespace Go.Proofs.YtpijeomnplmakaaGreatDoor
open Go.Shelf Go.RowKit Go.Lib Go.Sort
def sh_laysSlF6_f150_ren : Go.Shelf.Ren := ⟨fun | 6 => 150 | 15 => 99 | 14 => 168 | 28 => 136 | 29 => 137 | 20 => 178 | 21 => 179 | 22 => 180 | 23 => 181 | 24 => 182 | 25 => 183 | 26 => 184 | 27 => 185 | 46 => 192 | 47 => 156 | 48 => 157 | 49 => 193 | 50 => 194 | 57 => 202 | n => n, fun | 22 => 90 | 24 => 9 | 25 => 138 | 3 => 3 | 39 => 158 | 0 => 0 | 53 => 129 | 55 => 192 | 4 => 4 | 46 => 185 | 45 => 184 | 50 => 71 | 5 => 5 | 9 => 9 | 66 => 205 | 70 => 209 | 76 => 225 | 77 => 102 | n => n, fun | n => n⟩

theorem sh_laysSlF6_f150 : Go.Proofs.SlLaysF.n6 Tryz.prog sh_laysSlF6_f150_ren := {
  mixed := by kernel_rfl
  f6 := ⟨Tryz.f150.name, by decide, Tryz.func150.trans (congrArg some (by kernel_rfl))⟩
  f14 := ⟨Tryz.f168.name, by decide, Tryz.func168.trans (congrArg some (by kernel_rfl))⟩
  f15 := Tryz.func99.trans (congrArg some (by kernel_rfl))
  f20 := ⟨Tryz.f178.name, by decide, Tryz.func178.trans (congrArg some (by kernel_rfl))⟩
  f21 := ⟨Tryz.f179.name, by decide, Tryz.func179.trans (congrArg some (by kernel_rfl))⟩
  f22 := ⟨Tryz.f180.name, by decide, Tryz.func180.trans (congrArg some (by kernel_rfl))⟩
  f23 := ⟨Tryz.f181.name, by decide, Tryz.func181.trans (congrArg some (by kernel_rfl))⟩
  f24 := ⟨Tryz.f182.name, by decide, Tryz.func182.trans (congrArg some (by kernel_rfl))⟩
  f25 := ⟨Tryz.f183.name, by decide, Tryz.func183.trans (congrArg some (by kernel_rfl))⟩
  f26 := ⟨Tryz.f184.name, by decide, Tryz.func184.trans (congrArg some (by kernel_rfl))⟩
  f27 := ⟨Tryz.f185.name, by decide, Tryz.func185.trans (congrArg some (by kernel_rfl))⟩
  f28 := Tryz.func136.trans (congrArg some (by kernel_rfl))
  f29 := Tryz.func137.trans (congrArg some (by kernel_rfl))
  f46 := ⟨Tryz.f192.name, by decide, Tryz.func192.trans (congrArg some (by kernel_rfl))⟩
  f47 := Tryz.func156.trans (congrArg some (by kernel_rfl))
  f48 := Tryz.func157.trans (congrArg some (by kernel_rfl))
  f49 := ⟨Tryz.f193.name, by decide, Tryz.func193.trans (congrArg some (by kernel_rfl))⟩
  f50 := ⟨Tryz.f194.name, by decide, Tryz.func194.trans (congrArg some (by kernel_rfl))⟩
  f57 := ⟨Tryz.f202.name, by decide, Tryz.func202.trans (congrArg some (by kernel_rfl))⟩
  t0 := Tryz.underlying0
  a0 := Tryz.isAgg0
  z0 := Tryz.sizeOf0
  v0 := Tryz.zeroValue0
  t3 := Tryz.underlying3
  a3 := Tryz.isAgg3
  z3 := Tryz.sizeOf3
  v3 := Tryz.zeroValue3
  t4 := Tryz.underlying4
  a4 := Tryz.isAgg4
  z4 := Tryz.sizeOf4
  v4 := Tryz.zeroValue4
  t5 := Tryz.underlying5
  a5 := Tryz.isAgg5
  z5 := Tryz.sizeOf5
  v5 := Tryz.zeroValue5
  t9 := Tryz.underlying9
  a9 := Tryz.isAgg9
  z9 := Tryz.sizeOf9
  v9 := Tryz.zeroValue9
  t22 := Tryz.underlying90
  a22 := Tryz.isAgg90
  z22 := Tryz.sizeOf90
  v22 := Tryz.zeroValue90
  a24 := Tryz.isAgg9
  z24 := Tryz.sizeOf9
  t25 := Tryz.underlying138
  a25 := Tryz.isAgg138
  z25 := Tryz.sizeOf138
  v25 := Tryz.zeroValue138
  t39 := Tryz.underlying158
  a39 := Tryz.isAgg158
  z39 := Tryz.sizeOf158
  v39 := Tryz.zeroValue158
  t45 := Tryz.underlying184
  a45 := Tryz.isAgg184
  z45 := Tryz.sizeOf184
  v45 := Tryz.zeroValue184
  t46 := Tryz.underlying185
  a46 := Tryz.isAgg185
  z46 := Tryz.sizeOf185
  v46 := Tryz.zeroValue185
  t50 := Tryz.underlying71
  a50 := Tryz.isAgg71
  z50 := Tryz.sizeOf71
  v50 := Tryz.zeroValue71
  t53 := Tryz.underlying129
  a53 := Tryz.isAgg129
  z53 := Tryz.sizeOf129
  v53 := Tryz.zeroValue129
  t55 := Tryz.underlying192
  a55 := Tryz.isAgg192
  z55 := Tryz.sizeOf192
  v55 := Tryz.zeroValue192
  t66 := Tryz.underlying205
  a66 := Tryz.isAgg205
  z66 := Tryz.sizeOf205
  v66 := Tryz.zeroValue205
  t70 := Tryz.underlying209
  a70 := Tryz.isAgg209
  z70 := Tryz.sizeOf209
  v70 := Tryz.zeroValue209
  t76 := Tryz.underlying225
  a76 := Tryz.isAgg225
  z76 := Tryz.sizeOf225
  v76 := Tryz.zeroValue225
  t77 := Tryz.underlying102
  a77 := Tryz.isAgg102
  z77 := Tryz.sizeOf102
  v77 := Tryz.zeroValue102 }

theorem sh_slices_SortFunc_f150 {α : Type} [Inhabited α] (enc : α → Value) (h1 : OneCell enc) (cf : α → α → Int) (hO : SWO (ltOf cf)) (g : Nat) (cb : Array Value) (blk off cap : Nat) (d : Array α) (w : World) (eg : ∀ args w, (callFunc g args).run Tryz.prog w = .ok (.enter g args) w) (hcmp : CmpLays1 Tryz.prog g cb enc cf blk off d.size w) (hH : Holds enc w blk off d) (hblk : blk < w.heap.size) (hsz : d.size < 4611686018427387904) :
    Calls Tryz.prog 150 #[.slice (some ⟨blk, off, none⟩) d.size cap, .func (.func g) #[] cb] w fun e w' =>
      e = .returned (.tuple #[]) ∧ ∃ d' n os, PermIn 0 d.size d d' ∧ SortedIn (ltOf cf) 0 d.size d' ∧ w' = sortWorld enc w blk off n d' os := Any.slices_SortFunc sh_laysSlF6_f150 enc h1 cf hO g cb blk off cap d w eg hcmp hH hblk hsz
theorem isNaN_strX (x : ByteArray) (w : World) : Calls Tryz.prog 115 [Value.string x].toArray w fun e w' => e = .returned (.bool false) ∧ w' = w := by
  refine Calls.ofW (by simp) ?_
  (refine jjB (jjC (jJ (eB rfl) (jz (jjB (jjC ?_))))); refine jI (eT rfl) (jI (eT rfl) ?_))
  refine Ops.neqS rfl rfl ?_
  (refine jJ (eB rfl) (jz (jjF ?_)))
  exact jB rfl rfl ⟨congrArg Ending.returned (congrArg Value.bool (by simp)), rfl⟩
theorem Compare_strX (x y : ByteArray) (w : World) : Calls Tryz.prog 81 [Value.string x, Value.string y].toArray w fun e w' => e = .returned (.int .i64 (cmpS x y)) ∧ w' = w := by
  refine Calls.ofW (by simp) ?_
  (refine jjB (jjC (jJ (eI rfl) (jz (jjB (jjC ?_))))); refine jI (eT rfl) ?_)
  refine Ops.callR rfl (Enters.h (P := Tryz.prog) (g := 115)) rfl (isNaN_strX x _) ?_
  rintro e w2 ⟨rfl, rfl⟩
  refine ⟨_, rfl, ?_⟩
  (refine jJ (eB rfl) (jz (jjB (jjC (jI (eT rfl) ?_)))))
  refine Ops.callR rfl (Enters.h (P := Tryz.prog) (g := 115)) rfl (isNaN_strX y _) ?_
  rintro e w3 ⟨rfl, rfl⟩
  refine ⟨_, rfl, ?_⟩
  (refine jJ (eB rfl) (jz (jjB (jjB (jjC (jI (eB rfl) ?_))))); refine jz (jjK rfl (jjG (jjB (jjB (jjC ?_))))); refine jI (eB rfl) (jz (jjK rfl (jjG (jjB (jjB ?_))))); refine jjC (jI (eT rfl) (jI (eT rfl) ?_)))
  refine Ops.lssS rfl rfl ?_
  obtain ⟨B, hB⟩ : ∃ B, Op.bytesLess x.toList y.toList = B := ⟨_, rfl⟩
  rw [cmpS, hB]
  cases B
  · (refine jz (jjK rfl (jjG (jjB (jjB (jjC ?_))))); refine jI (eT rfl) (jI (eT rfl) ?_))
    refine Ops.gtrS rfl rfl ?_
    rw [hB, beqS, Bool.false_or]
    by_cases e : x = y
    · rw [decide_eq_true e, if_pos e]
      (refine jz (jjK rfl (jjG (jjB (jjC (jJ (eI rfl) ?_))))); refine jz (jjF ?_))
      exact jB rfl rfl ⟨rfl, rfl⟩
    · rw [decide_eq_false e, if_neg e]
      (refine jz (jjJ rfl (jjB (jjC (jJ (eI rfl) (jz ?_))))); refine jjF ?_)
      exact jB rfl rfl ⟨rfl, rfl⟩
  · (refine jz (jjJ rfl (jjB (jjC (jJ (eI rfl) (jz ?_))))); refine jjF ?_)
    exact jB rfl rfl ⟨rfl, rfl⟩
theorem swo_str : SWO (ltOf cmpS) where
  irrefl x := by rw [ltOf, cmpS_self]; rfl
  trans x y z h1 h2 := by
    simp only [ltOf, decide_eq_true_eq] at h1 h2 ⊢
    have r1 := ord_cmpS.r x y
    have r2 := ord_cmpS.r y z
    have := ord_cmpS.tr x y z (by omega) (by omega)
    omega
  ntrans x y z h1 h2 := by
    simp only [ltOf, decide_eq_false_iff_not] at h1 h2 ⊢
    intro h3
    have r1 := ord_cmpS.r x y
    have r3 := ord_cmpS.r x z
    have a1 := ord_cmpS.anti x y
    by_cases e : cmpS x y = 0
    · obtain rfl := (ord_cmpS.z _ _).1 e
      omega
    · have := ord_cmpS.tr y x z (by omega) (by omega)
      omega
theorem Only.sorted {α : Type} [Inhabited α] {enc : α → Value} {w : World} {g m : Nat} {d : Array α} {os : Array Obj} : Only g w (sortWorld enc w g 0 m d os) := by
  refine ⟨rfl, rfl, rfl, by simp [sortWorld, grow, putRow, mapBlock, Go.Sort.ahead], fun k hk hn => ?_⟩
  have h1 : k < (putRow enc (Go.Sort.ahead w m) g 0 d).heap.size := by simpa [putRow, mapBlock, Go.Sort.ahead] using hk
  rw [sortWorld, heap_grow_old _ _ h1]
  simp only [putRow, mapBlock, Go.Sort.ahead, Array.getElem?_modify]
  rw [if_neg (fun e => hn e.symm)]
set_option maxHeartbeats 1000000 in
theorem SortFunc_str (g n c : Nat) (l : List ByteArray) (w : World) {B : Nat} (hO : OwnL w B 9 false 1 (.slice (some ⟨g, 0, none⟩) n c) (l.map strV)) (hn : n ≤ 1000000) :
    Calls Tryz.prog 150 [.slice (some ⟨g, 0, none⟩) n c, .func (.func 81) #[] #[]].toArray w fun e w' => (∃ v, e = .returned v) ∧ Only g w w' ∧ ∃ r : List ByteArray, r.Perm l ∧ r.Pairwise (fun a b => cmpS b a ≠ -1) ∧ OwnL w' g 9 false 1 (.slice (some ⟨g, 0, none⟩) n c) (r.map strV) := by
  obtain ⟨cs, hB, hcl, hnc, hcm, hln, htk, hBg⟩ := hO.cells
  rw [List.length_map] at hln
  have hsz : l.toArray.size = n := by simpa using hln
  have hcell : ∀ j, j < n → ∃ (h : j < l.length), cs[j]? = some (strV l[j]) := fun j hj => by
    have h1 : j < l.length := by omega
    refine ⟨h1, ?_⟩
    have h2 : (cs.take n)[j]? = some (strV l[j]) := by rw [htk, List.getElem?_map, List.getElem?_eq_getElem h1]; rfl
    rwa [List.getElem?_take, if_pos hj] at h2
  have hH : Holds strV w g 0 l.toArray := fun j hj => by
    rw [hsz] at hj
    obtain ⟨h1, h2⟩ := hcell j hj
    have e1 : l.toArray[j]! = l[j] := by rw [getElem!_pos _ j (by simpa using h1)]; rfl
    rw [e1, Nat.zero_add]
    constructor
    · simp only [World.cell?, hB.h]
      simpa using h2
    · simp [World.frozen?, hB.h]
  have hc := sh_slices_SortFunc_f150 strV (fun _ => rfl) cmpS swo_str 81 #[] g 0 c l.toArray w (Enters.h (P := Tryz.prog) (g := 81)) (fun m os dk _ x y => by
    refine (Compare_strX x y _).mono fun e w' ⟨h1, h2⟩ => ⟨h1, 0, #[], ?_⟩
    rw [h2, grow_empty]; rfl) hH hB.lt (by omega)
  rw [hsz] at hc
  refine Calls.mono hc fun e w' ⟨he, d', m, os, hp, hs, hw⟩ => ⟨⟨_, he⟩, by rw [hw]; exact Only.sorted, d'.toList, ?_, ?_, ?_⟩
  · obtain ⟨h1, _, h2⟩ := hp
    have ex : ∀ (x : Array ByteArray), x.size = n → x.extract 0 n = x := fun x hx => by subst hx; simp
    have e1 := ex d' (h1.trans hsz)
    have e2 := ex l.toArray hsz
    rw [e1, e2] at h2
    simpa using h2
  · have h1 : d'.size = n := hp.1.trans hsz
    rw [List.pairwise_iff_getElem]
    intro i j hi hj hij
    have := hs i j (Nat.zero_le _) hij (by simpa [h1] using hj)
    rw [getElem!_pos _ j (by simpa using hj), getElem!_pos _ i (by simpa using hi)] at this
    simp only [ltOf, decide_eq_false_iff_not] at this
    simp only [Array.getElem_toList]
    omega
  · have h1 : d'.size = n := hp.1.trans hsz
    have hBk : Bk w' g (putCells strV 0 d' cs.toArray).toList 9 := by
      refine ⟨?_⟩
      rw [hw, sortWorld, heap_grow_old _ _ (by simpa [putRow, mapBlock, Go.Sort.ahead] using hB.lt)]
      simp [putRow, mapBlock, Go.Sort.ahead, Array.getElem?_modify, hB.h, onCells]
    refine OwnL.ofCells hBk (by simp [putCells, hcl]) hnc hcm ?_ (by omega) (Nat.le_refl _) fun x hx => by obtain ⟨y, _, rfl⟩ := List.mem_map.1 hx; rfl
    apply List.ext_getElem?
    intro j
    rw [List.getElem?_take]
    by_cases hj : j < n
    · rw [if_pos hj]
      have hjc : j < cs.length := by omega
      have hjd : j < d'.size := by omega
      simp [putCells, hjc, h1, hj, getElem!_pos d' j hjd]
    · rw [if_neg hj, List.getElem?_eq_none (by simp; omega)]
end Go.Proofs.YtpijeomnplmakaaGreatDoor
namespace Go.Proofs.YtpijeomnplmakaaGreatDoor
open Go.RowKit

theorem SortedFunc_strH (xs : List ByteArray) (gf kb : Nat) (lb : List Value) (Fct I : World → Prop) (w : World) (hit : IterH Tryz.prog gf lb xs (fun s => [.string s]) kb Fct I) [he : Enters Tryz.prog gf] (hkb : kb < w.heap.size) (hkd : KbD kb w) (hF : ∀ V, Only kb w V → Fct V) (hI : ∀ V, Ext w V → I V) (hlen : xs.length ≤ 1000000) (h0 : 0 < xs.length) :
    Calls Tryz.prog 121 [.func (.func gf) #[] lb.toArray, .func (.func 81) #[] #[]].toArray w fun e w' => ∃ (v : Value) (r : List ByteArray), e = .returned v ∧ Only kb w w' ∧ r.Perm xs ∧ r.Pairwise (fun a b => cmpS b a ≠ -1) ∧ OwnL w' w.heap.size 9 false 1 v (r.map strV) := by
  refine Calls.ofW (by simp) ?_
  (refine jjB (jjC (jJ (eS rfl) (jz (jjB (jjC ?_))))); refine jI (eF rfl) ?_)
  refine Ops.callR rfl (Enters.h (P := Tryz.prog) (g := 149)) rfl (Collect_strH xs gf kb lb Fct I w hit hkb hkd hF hI hlen) ?_
  rintro e w1 ⟨v, rfl, hOn, hO⟩
  obtain ⟨a, c, ev⟩ := hO.slice
  rw [List.length_map] at ev
  subst ev
  obtain ⟨g, rfl, hg, hOg⟩ := hO.self (by rw [List.length_map]; exact h0)
  refine ⟨_, rfl, ?_⟩
  (refine jJ (eS rfl) (jz (jjB (jjC (jI (eS rfl) (jI (eF rfl) ?_))))))
  refine Ops.callR rfl (Enters.h (P := Tryz.prog) (g := 150)) rfl (SortFunc_str g xs.length c xs w1 hOg (by omega)) ?_
  rintro e w2 ⟨⟨v2, rfl⟩, hOn2, r, hp, hs, hO2⟩
  refine ⟨_, rfl, ?_⟩
  have hOn3 : Only kb w w2 := ⟨hOn2.os.trans hOn.os, hOn2.tape.trans hOn.tape, hOn2.output.trans hOn.output, Nat.le_trans hOn.size hOn2.size, fun k hk hn => (hOn2.other k (by have := hOn.size; omega) (by omega)).trans (hOn.other k hk hn)⟩
  (refine jz (jjB (jjC (jI (eS rfl) (jJ (eS rfl) (jz ?_))))); refine jjF ?_)
  exact jB rfl rfl ⟨_, r, rfl, hOn3, hp, hs, hO2.mono hg⟩
theorem sorted_strH (xs : List ByteArray) (gf kb : Nat) (lb : List Value) (Fct I : World → Prop) (w : World) (hit : IterH Tryz.prog gf lb xs (fun s => [.string s]) kb Fct I) [he : Enters Tryz.prog gf] (hkb : kb < w.heap.size) (hkd : KbD kb w) (hF : ∀ V, Only kb w V → Fct V) (hI : ∀ V, Ext w V → I V) (hlen : xs.length ≤ 1000000) (h0 : 0 < xs.length) :
    Calls Tryz.prog 89 [.func (.func gf) #[] lb.toArray, .func (.func 81) #[] #[]].toArray w fun e w' => ∃ (v : Value) (r : List ByteArray), e = .returned v ∧ Only kb w w' ∧ r.Perm xs ∧ r.Pairwise (fun a b => cmpS b a ≠ -1) ∧ OwnL w' w.heap.size 9 false 1 v (r.map strV) := by
  refine Calls.ofW (by simp) ?_
  (refine jjB (jjC (jJ (eS rfl) (jz (jjB (jjC ?_))))); refine jI (eF rfl) (jI (eF rfl) ?_))
  refine Ops.callR rfl (Enters.h (P := Tryz.prog) (g := 121)) rfl (SortedFunc_strH xs gf kb lb Fct I w hit hkb hkd hF hI hlen h0) ?_
  rintro e w1 ⟨v, r, rfl, hOn, hp, hs, hO⟩
  refine ⟨_, rfl, ?_⟩
  (refine jJ rfl (jz (jjF ?_)))
  exact jB rfl rfl ⟨_, r, rfl, hOn, hp, hs, hO⟩
/-- The words of a text in order, or the error. -/
def vocR (t : Tx) : List ByteArray × Int := if textB t then (vocL (wsOf t), 0) else ([], 10)
section
variable (a : Option Addr) (c : Nat) (cs : List Ch) (w : World) [hrow : RowI w (.slice a cs.length c) true 2 (cs.map encCh)] [hT : TextI w cs]
set_option maxHeartbeats 4000000 in
theorem Vocabulary_leaf (hs : SmallT cs) : Ct Tryz.prog 49 [.agg #[.slice a cs.length c]] w fun v w' => ∃ sv, v = .tuple #[sv, .int .i64 (vocR (txF cs)).2] ∧ OwnL w' w.heap.size 9 false 1 sv ((vocR (txF cs)).1.map strV) := by
  refine Ct.ofW (by simp) ?_
  (refine jjB (jjC ?_))
  (refine jy rfl ?_; intro b1 w_b1 hb_b1 hs_b1 hS_b1 hk_b1; have hA_b1 := At.ofBlock hk_b1)
  (refine jJ (eS rfl) (jJ (eI rfl) (jz (jjB (jjC (jO rfl rfl rfl rfl ?_))))))
  obtain ⟨B, hB⟩ : ∃ B, textB (txF cs) = B := ⟨_, rfl⟩
  refine jjQ ((open_leaf a c cs _ hs).mono fun v _ _ h => by rw [hB] at h; exact h) rfl rfl ?_
  rintro _ w2 hS2 ⟨o, rfl, ho⟩
  rw [vocR, hB]
  cases B with
  | false =>
    (refine jI (eU rfl) (ju rfl rfl (ju rfl rfl ?_)))
    (apply jjR rfl; (intro _; first|exact eI rfl|exact eB rfl|exact eP rfl|exact eS rfl|exact eT rfl|exact eA rfl|exact eU rfl|exact eF rfl|exact eM rfl|exact eN rfl|exact rfl); exact rfl; exact rfl; exact rfl; exact rfl; intro b4 w_b4 hb_b4 hs_b4 hS_b4 hk_b4; have hA_b4 := Bk.of hk_b4)
    (refine jJ (eI rfl) (jz (jjB (jjB (jjC (jI (eI rfl) ?_))))); refine jc rfl rfl (jz (jjJ rfl (jjB (jjC (jI (eI rfl) ?_))))); refine jJ (eS rfl) (jJ (eI rfl) (jz (jjF ?_))); refine jC rfl rfl rfl ⟨inferInstance, ?_⟩)
    exact ⟨_, rfl, OwnL.nil _ _ _ _ _⟩
  | true =>
  obtain ⟨bk, hbk, rfl, hAk⟩ := ho rfl
  rw [if_pos rfl]
  (refine jI (eU rfl) (ju rfl rfl (ju rfl rfl ?_)))
  (apply jjR rfl; (intro _; first|exact eI rfl|exact eB rfl|exact eP rfl|exact eS rfl|exact eT rfl|exact eA rfl|exact eU rfl|exact eF rfl|exact eM rfl|exact eN rfl|exact rfl); exact rfl; exact rfl; exact rfl; exact rfl; intro b4 w_b4 hb_b4 hs_b4 hS_b4 hk_b4; have hA_b4 := Bk.of hk_b4)
  have hAk4 : At w_b4 bk 0 [.slice a cs.length c] := hAk.ext hS_b4.ext
  (refine jJ (eI rfl) (jz (jjB (jjB (jjC (jI (eI rfl) ?_))))); refine jc rfl rfl (jz (jjK rfl (jjG (jjB (jjC ?_))))); refine jN rfl rfl rfl ?_)
  refine jjQ (index_leaf a c cs _ hs hB bk) rfl rfl ?_
  rintro _ w4 hS4 ⟨mb, m, rfl, hmb, hM, hnd, hO⟩
  skip
  (apply jjR rfl; (intro _; first|exact eI rfl|exact eB rfl|exact eP rfl|exact eS rfl|exact eT rfl|exact eA rfl|exact eU rfl|exact eF rfl|exact eM rfl|exact eN rfl|exact rfl); exact rfl; exact rfl; exact rfl; exact rfl; intro b6 w_b6 hb_b6 hs_b6 hS_b6 hk_b6; have hA_b6 := Bk.of hk_b6)
  (refine jz (jjB (jjC (jv (jJ (eF rfl) (jz ?_))))); refine jjB (jjC (jI (eF rfl) ?_)))
  have hE6 : Ext w w_b6 := inferInstance
  have z4 := hS_b4.size
  have z6 := hS4.size
  have hMl := hM.lt
  have hM6 : MapE Value.string w_b6 mb m := hM.ext hS_b6.ext
  have hA4 : At w_b6 b4 0 [.pointer (some ⟨bk, 0, none⟩)] := inferInstance
  have hA6 : At w_b6 b6 0 [.map (some mb)] := inferInstance
  have hAk6 : At w_b6 bk 0 [.slice a cs.length c] := inferInstance
  have hwm : w.heap.size ≤ mb := by
    have := (show Ext w w_b4 from inferInstance).size
    omega
  have n4 : b4 ≠ mb := by omega
  have n6 : b6 ≠ mb := by omega
  have hlk := hAk.lt
  have nk : bk ≠ mb := by omega
  have hws : (wsOf (txF cs)).length = (allW (txF cs) (txF cs).length).length := by rw [wsOf, List.length_map]
  have hal := allW_small hB
  have hdl := dstL_len (ws := wsOf (txF cs)) (wsOf (txF cs)).length
  have hd0 : 0 < (dstL (wsOf (txF cs)) (wsOf (txF cs)).length).length := by
    have hpos := allP_pos hB
    rw [← allW_len] at hpos
    obtain ⟨x, hx⟩ : ∃ x, (allW (txF cs) (txF cs).length)[0]? = some x := ⟨_, List.getElem?_eq_getElem hpos⟩
    have := dstL_at (wsOf_get hx) (by simp)
    exact Nat.lt_of_le_of_lt (Nat.zero_le _) (List.getElem?_eq_some_iff.1 this).1
  refine Ops.callR rfl (Enters.h (P := Tryz.prog) (g := 89)) rfl (sorted_strH (dstL (wsOf (txF cs)) (wsOf (txF cs)).length) 88 mb [.pointer (some ⟨b4, 0, none⟩), .pointer (some ⟨b6, 0, none⟩)] _ _ _ (each1_leaf b4 b6 bk mb a c cs hs) (by omega) hM6.loopy (fun V hV => ?hF) (fun V hV => ?hI) (by omega) hd0) ?_
  case hF =>
    have e := hV.ext hE6 hwm
    exact ⟨hV.at_ hA4 n4, hV.at_ hA6 n6, hV.at_ hAk6 nk, hrow.h.ext e, hT.ext e⟩
  case hI =>
    refine ⟨m, hM6.ext hV, hnd, fun s => ?_⟩
    obtain ⟨qa, qc, e⟩ := (hO s).slice
    exact ⟨qa, qc, by rw [e, List.length_map]; rfl⟩
  rintro e w7 ⟨v, r, rfl, hOn, hp, hs', hOr⟩
  refine ⟨_, rfl, ?_⟩
  have hr := voc_sort hp hs'
  rw [hr] at hOr
  obtain ⟨va, vl, vc, rfl⟩ := hOr.slice3
  (refine jJ (eS rfl) (jJ (eI rfl) (jz (jjF ?_))))
  exact jC rfl rfl rfl ⟨hOn.ext hE6 hwm, _, rfl, hOr.mono hE6.size⟩
end

theorem plsN_all (t : Tx) (s : ByteArray) : plsN t (allW t t.length).length s = placesF t s := by rw [plsN, List.take_length, placesF]
/-- The places of a word, or the error. -/
def placesR (t : Tx) (s : ByteArray) : List Pl × Int := if textB t then (if wordB s then (placesF t s, 0) else ([], 2)) else ([], 10)
section
variable (a : Option Addr) (c : Nat) (cs : List Ch) (w : World) [hrow : RowI w (.slice a cs.length c) true 2 (cs.map encCh)] [hT : TextI w cs]
set_option maxHeartbeats 4000000 in
theorem Places_leaf (hs : SmallT cs) (s : ByteArray) (hss : s.size ≤ 1000) : Ct Tryz.prog 50 [.agg #[.slice a cs.length c], .string s] w fun v w' => ∃ sv, v = .tuple #[sv, .int .i64 (placesR (txF cs) s).2] ∧ OwnL w' w.heap.size 47 true 3 sv ((placesR (txF cs) s).1.map encPl) := by
  refine Ct.ofW (by simp) ?_
  (refine jjB (jjC ?_))
  (refine jy rfl ?_; intro b2 w_b2 hb_b2 hs_b2 hS_b2 hk_b2; have hA_b2 := At.ofBlock hk_b2)
  (refine jJ (eS rfl) (jJ (eI rfl) (jz (jjB (jjC (jO rfl rfl rfl rfl ?_))))))
  obtain ⟨B, hB⟩ : ∃ B, textB (txF cs) = B := ⟨_, rfl⟩
  refine jjQ ((open_leaf a c cs _ hs).mono fun v _ _ h => by rw [hB] at h; exact h) rfl rfl ?_
  rintro _ w2 hS2 ⟨o, rfl, ho⟩
  rw [placesR, hB]
  cases B with
  | false =>
    (refine jI (eU rfl) (ju rfl rfl (ju rfl rfl (jJ rfl (jJ (eI rfl) (jz ?_))))); refine jjB (jjB (jjC (jI (eI rfl) (jc rfl rfl (jz ?_))))); refine jjJ rfl (jjB (jjC (jI (eI rfl) (jJ (eS rfl) (jJ (eI rfl) ?_))))); refine jz (jjF ?_); refine jC rfl rfl rfl ⟨inferInstance, ?_⟩)
    exact ⟨_, rfl, OwnL.nil _ _ _ _ _⟩
  | true =>
  obtain ⟨bk, hbk, rfl, hAk⟩ := ho rfl
  obtain ⟨B2, hB2⟩ : ∃ B, wordB s = B := ⟨_, rfl⟩
  rw [if_pos rfl, if_pos rfl, hB2]
  (refine jI (eU rfl) (ju rfl rfl (ju rfl rfl (jJ (eP rfl) (jJ (eI rfl) (jz ?_))))); refine jjB (jjB (jjC (jI (eI rfl) (jjk rfl rfl (by omega) (jz ?_))))); refine jjK rfl (jjG (jjB (jjB (jjC (jI (eT rfl) ?_))))))
  refine jjQ ((word_leaf s _ (by omega)).mono fun v _ _ h => h.trans (by rw [hB2])) rfl rfl ?_
  rintro _ w3 hS3 rfl
  cases B2 with
  | false =>
    (refine jq rfl (jz (jjJ rfl (jjB (jjC (jJ (eS rfl) ?_))))); refine jJ (eI rfl) (jz (jjF ?_)); refine jC rfl rfl rfl ⟨inferInstance, ?_⟩)
    exact ⟨_, rfl, OwnL.nil _ _ _ _ _⟩
  | true =>
  have hAk3 : At w3 bk 0 [.slice a cs.length c] := hAk.ext hS3.ext
  have zE : w.heap.size ≤ w3.heap.size := Ext.size inferInstance
  (refine jp rfl (jz (jjK rfl (jjG (jjB (jjC ?_))))); refine jI (eP rfl) ?_)
  refine jjQ (index_leaf a c cs _ hs hB bk) rfl rfl ?_
  rintro _ w4 hS4 ⟨mb, m, rfl, hmb, hM, hnd, hO⟩
  have hO4 := (hO s).mono (B' := w.heap.size) (by omega)
  rw [plsN_all] at hO4
  obtain ⟨v0, hv0⟩ : ∃ v0, (mget m s).getD nilV = v0 := ⟨_, rfl⟩
  rw [hv0] at hO4
  obtain ⟨va, vl, vc, rfl⟩ := hO4.slice3
  (apply jI; exact eT rfl)
  refine Ops.lookupV (k := s) hv0 hM rfl rfl ?_
  (refine jJ (eS rfl) (jJ (eI rfl) (jz (jjF ?_))); refine jC rfl rfl rfl ⟨inferInstance, ?_⟩)
  exact ⟨_, rfl, hO4⟩
end

section rules
variable {P : Program} {ro : Option Nat} {n : Nat} {all rest : List Oper} {K : Sl → World → Prop} {s : Sl} {w : World} {d t t' : Nat} {ty : Nat} {pos : String} {af : Array Edge} {x y : Operand}
theorem Ops.neqSV {a b : ByteArray} {v : Bool} (hv : decide (¬ a = b) = v) (hx : ev n s x = .string a) (hy : ev n s y = .string b) (h : Ops P ro n all rest K (upd s d (.bool v)) w) :
    Ops P ro n all (⟨some d, .binOp .neq t x y t', ty, pos, af, none⟩ :: rest) K s w := by
  subst hv
  exact Ops.neqS hx hy h
end rules

section
variable (a : Option Addr) (c : Nat) (cs : List Ch) (wd side : Int) (boxes : Int) (ba : Option Addr) (bc : Nat) (by_ : List Int) (w : World) [hrow : RowI w (.slice a cs.length c) true 2 (cs.map encCh)] [hT : TextI w cs] [hgs : At w 1 0 sidesC] [hgb : At w 0 0 bysC] [hmx : MxI w] [hby : RowI w (.slice ba by_.length bc) false 1 (by_.map u32V)]
set_option maxHeartbeats 16000000 in
theorem RackWords_law (hd : 0 ≤ side ∧ side ≤ 255) (hu : U32s by_) : Ct Tryz.prog 12 [.agg #[.slice a cs.length c], encCut wd side, .int .i64 boxes, .slice ba by_.length bc] w fun v _ => v = .bool true := by
  refine Ct.ofW (by simp) ?_
  (refine jjB (jjC ?_))
  (refine jy rfl ?_; intro b4 w_b4 hb_b4 hs_b4 hS_b4 hk_b4; have hA_b4 := At.ofBlock hk_b4)
  skip
  (refine jy rfl ?_; intro b5 w_b5 hb_b5 hs_b5 hS_b5 hk_b5; have hA_b5 := At.ofBlock hk_b5)
  (refine jJ (eB rfl) (jz (jjB (jjC ?_))))
  refine jjQ (alive_law6 _) rfl rfl ?_
  rintro _ w6 hS6 rfl
  obtain ⟨G, hG⟩ : ∃ G, greatT (txF cs) = G := ⟨_, rfl⟩
  (refine jJ (eB rfl) (jz (jjB (jjB (jjC (jO rfl rfl rfl rfl ?_))))))
  refine jjQ ((Great_ref1 a c cs _).mono fun v _ _ h => h.trans (by rw [hG])) rfl rfl ?_
  rintro _ w7 hS7 rfl
  cases G with
  | true =>
    (refine jI (eB rfl) (jU rfl rfl rfl rfl (jU rfl rfl rfl rfl (jU rfl rfl rfl rfl (jK rfl (eB rfl) (jI (eB rfl) ?_))))); refine jU rfl rfl rfl rfl (jU rfl rfl rfl rfl (jU rfl rfl rfl rfl (jK rfl (eB rfl) (jI (eB rfl) (jU rfl rfl rfl rfl ?_))))); refine jU rfl rfl rfl rfl (jK rfl (eB rfl) (jI (eB rfl) (jU rfl rfl rfl rfl (jU rfl rfl rfl rfl (jK rfl (eB rfl) ?_))))); refine jI (eB rfl) (jU rfl rfl rfl rfl (jU rfl rfl rfl rfl (jK rfl (eB rfl) (jz (jjJ rfl ?_))))); refine jjB (jjC (jI (eB rfl) (jJ (eB rfl) (jz (jjF ?_))))); refine jB rfl rfl ⟨inferInstance, ?_⟩)
    exact rfl
  | false =>
  have hs := small_of_great hG
  obtain ⟨T, hTT⟩ : ∃ T, textB (txF cs) = T := ⟨_, rfl⟩
  (refine jI (eB rfl) (jT rfl rfl rfl (jO rfl rfl rfl rfl (jT rfl rfl rfl ?_))))
  refine jjQ ((Check_ref1 a c cs _ hs).mono fun v _ _ h => h.trans (by rw [hTT])) rfl rfl ?_
  rintro _ w8 hS8 rfl
  cases T with
  | false =>
    (refine jT rfl rfl rfl (jc rfl rfl (jL rfl (eB rfl) (jI (eB rfl) (jU rfl rfl rfl rfl (jU rfl rfl rfl rfl ?_))))); refine jU rfl rfl rfl rfl (jK rfl (eB rfl) (jI (eB rfl) (jU rfl rfl rfl rfl (jU rfl rfl rfl rfl (jK rfl (eB rfl) ?_))))); refine jI (eB rfl) (jU rfl rfl rfl rfl (jU rfl rfl rfl rfl (jK rfl (eB rfl) (jI (eB rfl) (jU rfl rfl rfl rfl ?_))))); refine jU rfl rfl rfl rfl (jK rfl (eB rfl) (jz (jjJ rfl (jjB (jjC ?_))))); refine jI (eB rfl) (jJ (eB rfl) (jz (jjF ?_))); refine jB rfl rfl ⟨inferInstance, ?_⟩)
    exact rfl
  | true =>
  obtain ⟨C, hC⟩ : ∃ C, cutB wd side = C := ⟨_, rfl⟩
  (refine jT rfl rfl rfl (jc rfl rfl (jL rfl (eB rfl) (jI (eB rfl) (jT rfl rfl rfl (jO rfl rfl rfl rfl ?_))))); refine jT rfl rfl rfl ?_)
  refine jjQ ((Cut_ref3 wd side hd _).mono fun v _ _ h => h.trans (by rw [hC])) rfl rfl ?_
  rintro _ w9 hS9 rfl
  cases C with
  | false =>
    (refine jT rfl rfl rfl (jq rfl (jL rfl (eB rfl) (jI (eB rfl) (jU rfl rfl rfl rfl (jU rfl rfl rfl rfl ?_))))); refine jK rfl (eB rfl) (jI (eB rfl) (jU rfl rfl rfl rfl (jU rfl rfl rfl rfl (jK rfl (eB rfl) (jI (eB rfl) ?_))))); refine jU rfl rfl rfl rfl (jU rfl rfl rfl rfl (jK rfl (eB rfl) (jz (jjJ rfl (jjB ?_))))); refine jjC (jI (eB rfl) (jJ (eB rfl) (jz (jjF ?_)))); refine jB rfl rfl ⟨inferInstance, ?_⟩)
    exact rfl
  | true =>
  by_cases hb2 : boxes < 2
  · (refine jT rfl rfl rfl (jp rfl (jL rfl (eB rfl) (jI (eB rfl) (jT rfl rfl rfl (jI (eI rfl) ?_))))); refine jT rfl rfl rfl (jjZ rfl rfl (by omega) (jL rfl (eB rfl) (jI (eB rfl) (jU rfl rfl rfl rfl (jU rfl rfl rfl rfl ?_))))); refine jK rfl (eB rfl) (jI (eB rfl) (jU rfl rfl rfl rfl (jU rfl rfl rfl rfl (jK rfl (eB rfl) (jz ?_))))); refine jjJ rfl (jjB (jjC (jI (eB rfl) (jJ (eB rfl) (jz ?_))))); refine jjF ?_; refine jB rfl rfl ⟨inferInstance, ?_⟩)
    exact rfl
  by_cases hb20 : 20 < boxes
  · (refine jT rfl rfl rfl (jp rfl (jL rfl (eB rfl) (jI (eB rfl) (jT rfl rfl rfl (jI (eI rfl) ?_))))); refine jT rfl rfl rfl (jja rfl rfl (by omega) (jL rfl (eB rfl) (jI (eB rfl) (jT rfl rfl rfl (jI (eI rfl) ?_))))); refine jT rfl rfl rfl (jjd rfl rfl (by omega) (jL rfl (eB rfl) (jI (eB rfl) (jU rfl rfl rfl rfl (jU rfl rfl rfl rfl ?_))))); refine jK rfl (eB rfl) (jz (jjJ rfl (jjB (jjC (jI (eB rfl) ?_))))); refine jJ (eB rfl) (jz (jjF ?_)); refine jB rfl rfl ⟨inferInstance, ?_⟩)
    exact rfl
  have hb : 2 ≤ boxes ∧ boxes ≤ 20 := by omega
  (refine jT rfl rfl rfl (jp rfl (jL rfl (eB rfl) (jI (eB rfl) (jT rfl rfl rfl (jI (eI rfl) ?_))))); refine jT rfl rfl rfl (jja rfl rfl (by omega) (jL rfl (eB rfl) (jI (eB rfl) (jT rfl rfl rfl (jI (eI rfl) ?_))))); refine jT rfl rfl rfl (jje rfl rfl (by omega) (jL rfl (eB rfl) (jI (eB rfl) (jT rfl rfl rfl (jI (eB rfl) ?_))))); refine jT rfl rfl rfl (jp rfl (jL rfl (eB rfl) (jz (jjK rfl (jjG ?_))))); refine jjB (jjC (jO rfl rfl rfl rfl (jO rfl rfl rfl rfl (jI (eS rfl) ?_)))))
  refine jjQ (mixed_law6 a c cs wd side ba bc by_ _ hs hd hTT hC hu) rfl rfl ?_
  rintro _ w10 hS10 ⟨L0, va, vc, rfl, hp, hO⟩
  have F0 := allF (wd := wd) (side := side) hTT hC
  have hll := allW_len (txF cs) (txF cs).length
  have hlS := allS_lenP (txF cs) side wd
  have hpl := hp.length_eq
  (refine jJ (eS rfl) (jz (jjB (jjC (jO rfl rfl rfl rfl ?_)))))
  refine jjQ ((Words_leaf a c cs _ hs).mono fun v _ _ h => h.trans (by rw [wordsR, if_pos hTT, hll, ← hlS, ← hpl])) rfl rfl ?_
  rintro _ w11 hS11 rfl
  (refine jI (eU rfl) (ju rfl rfl (ju rfl rfl (jJ (eI rfl) (jJ (eI rfl) (jz ?_))))); refine jjB (jjC (jO rfl rfl rfl rfl ?_)))
  refine jjQ ((Vocabulary_leaf a c cs _ hs).mono fun v _ _ h => by rw [vocR, if_pos hTT] at h; exact h) rfl rfl ?_
  rintro _ w12 hS12 ⟨sv, rfl, hOv⟩
  simp only at hOv
  obtain ⟨wa, wc, rfl⟩ := hOv.slice
  rw [List.length_map] at hOv ⊢
  have hn6 := F0.len
  by_cases h60 : 60 < L0.length
  · (refine jI (eU rfl) (ju rfl rfl (ju rfl rfl (jJ (eS rfl) (jJ (eI rfl) (jz ?_))))); refine jjB (jjB (jjC (jI (eI rfl) (jjk rfl rfl (by omega) (jI (eB rfl) ?_))))); refine jT rfl rfl rfl (jI (eI rfl) (jT rfl rfl rfl (jjk rfl rfl (by omega) (jL rfl (eB rfl) (jI (eB rfl) ?_))))); refine jT rfl rfl rfl (jI (eI rfl) (jT rfl rfl rfl (jjd rfl rfl (by omega) (jL rfl (eB rfl) (jz ?_))))); refine jjJ rfl (jjB (jjC (jI (eB rfl) (jI (eB rfl) (jT rfl rfl rfl ?_))))); refine jI (eI rfl) (jT rfl rfl rfl (jjh rfl rfl (by omega) (jK rfl (eB rfl) (jI (eB rfl) (jT rfl rfl rfl ?_))))); refine jI (eI rfl) (jT rfl rfl rfl (jjh rfl rfl (by omega) (jK rfl (eB rfl) (jJ (eB rfl) (jz ?_))))); refine jjF ?_; refine jB rfl rfl ⟨inferInstance, ?_⟩)
    exact rfl
  have hl60 : L0.length ≤ 60 := by omega
  have hFW := filed_words hTT hC hp hl60 hb
  have hwp := fun w => places_all (wd := wd) (side := side) hTT hC w
  have htk : L0.take 60 = L0 := List.take_of_length_le hl60
  rw [htk] at hO ⊢
  have hall : L0.all slipB = true := List.all_eq_true.2 fun x hx => F0.rt x (hp.mem_iff.1 hx)
  have hsm : ∀ x ∈ L0, SmallS x := fun x hx => small_of_right (List.all_eq_true.1 hall x hx)
  have e1 := file_ok (n := 1) hl60 hall (by omega) hb
  have e2 := file_ok (n := 2) hl60 hall (by omega) hb
  have p1 := (file_perm (n := 1) hl60 hall (by omega) hb).length_eq
  have p2 := (file_perm (n := 2) hl60 hall (by omega) hb).length_eq
  have i10 : RowI w10 (.slice va L0.length vc) true 6 (L0.map encSl) := ⟨hO.row⟩
  (refine jI (eU rfl) (ju rfl rfl (ju rfl rfl (jJ (eS rfl) (jJ (eI rfl) (jz ?_))))); refine jjB (jjB (jjC (jI (eI rfl) (jjk rfl rfl (by omega) (jI (eB rfl) ?_))))); refine jT rfl rfl rfl (jI (eI rfl) (jT rfl rfl rfl (jjk rfl rfl (by omega) (jL rfl (eB rfl) (jI (eB rfl) ?_))))); refine jT rfl rfl rfl (jI (eI rfl) (jT rfl rfl rfl (jje rfl rfl (by omega) (jL rfl (eB rfl) (jz ?_))))); refine jjK rfl (jjG (jjB (jjC (jI (eS rfl) (jI (eI rfl) ?_))))))
  refine jjQ (File_rack va vc L0 1 boxes _ (fun _ => by1_slip) hsm ⟨by omega, by omega⟩) rfl rfl ?_
  rintro _ w13 hS13 ⟨x1, fa, fc, -, rfl, hO1⟩
  rw [e1]
  (refine jI (eU rfl) (ju rfl rfl (ju rfl rfl (ju rfl rfl (jJ (eS rfl) (jJ (eI rfl) ?_))))); refine jJ (eI rfl) (jz (jjB (jjC (jI (eS rfl) (jI (eI rfl) ?_))))))
  refine jjQ (File_rack va vc L0 2 boxes _ (fun h => absurd h (by decide)) hsm ⟨by omega, by omega⟩) rfl rfl ?_
  rintro _ w14 hS14 ⟨x2, ga, gc, -, rfl, hO2⟩
  rw [e2]
  have hww : ∀ w ∈ vocL (wsOf (txF cs)), wordB w = true ∧ w.size ≤ 1000 := fun w hw => by
    have h1 := ((vocL_facts (wsOf (txF cs))).2 w).1 hw
    rw [← all_words (wd := wd) (side := side) hTT hC] at h1
    obtain ⟨x, hx, rfl⟩ := List.mem_map.1 h1
    have h2 := F0.rt x hx
    refine ⟨?_, (small_of_right h2).1⟩
    simp only [slipB, Bool.and_eq_true] at h2
    exact h2.2.2
  generalize fileL L0 1 boxes = F1 at *
  generalize fileL L0 2 boxes = F2 at *
  generalize vocL (wsOf (txF cs)) = ws at *
  generalize allS (txF cs) side wd = S at *
  have hsz1 : F1 = ws.flatMap fun w => S.filter (isW w) := hFW.one_
  have hsz2 : F2 = ws.flatMap fun w => L0.filter (isW w) := hFW.two_
  have hsame := hFW.same
  have i12 : RowI w12 (.slice wa ws.length wc) false 1 (ws.map strV) := ⟨hOv.row⟩
  have i13 : RowI w14 (.slice fa F1.length fc) true 6 (F1.map encSl) := ⟨(hO1.ext hS14.ext).row⟩
  have i14 : RowI w14 (.slice ga F2.length gc) true 6 (F2.map encSl) := ⟨hO2.row⟩
  have iL : RowI w14 (.slice va L0.length vc) true 6 (L0.map encSl) := inferInstance
  have iW : RowI w14 (.slice wa ws.length wc) false 1 (ws.map strV) := inferInstance
  have hAt : At w14 b4 0 [.slice a cs.length c] := inferInstance
  have hTw : TextI w14 cs := inferInstance
  have hRw : RowI w14 (.slice a cs.length c) true 2 (cs.map encCh) := inferInstance
  have hwl : ws.length ≤ 140737488355328 := by have := hOv.len; rwa [List.length_map] at this
  clear hFW hO hO1 hO2 hOv hp F0
  (refine jI (eU rfl) (ju rfl rfl (ju rfl rfl (ju rfl rfl (jJ (eS rfl) (jJ (eI rfl) ?_))))); refine jJ (eI rfl) (jz (jjB (jjB (jjC (jI (eI rfl) ?_))))); refine jjk rfl rfl (by omega) (jI (eB rfl) (jT rfl rfl rfl (jI (eI rfl) (jT rfl rfl rfl (jjk rfl rfl (by omega) ?_))))); refine jL rfl (eB rfl) (jI (eB rfl) (jT rfl rfl rfl (jI (eS rfl) (jT rfl rfl rfl (jh rfl ?_))))); refine jT rfl rfl rfl (jI (eI rfl) (jT rfl rfl rfl (jjk rfl rfl (by omega) (jL rfl (eB rfl) (jI (eB rfl) ?_))))); refine jT rfl rfl rfl (jI (eS rfl) (jT rfl rfl rfl (jh rfl (jT rfl rfl rfl (jI (eI rfl) ?_))))); refine jT rfl rfl rfl (jjk rfl rfl (by omega) (jL rfl (eB rfl) (jI (eB rfl) (jT rfl rfl rfl (jI (eS rfl) ?_))))); refine jT rfl rfl rfl (jh rfl (jT rfl rfl rfl (jI (eI rfl) (jT rfl rfl rfl (jjk rfl rfl (by omega) ?_))))); refine jL rfl (eB rfl) (jz (jjK rfl (jjG (jjB (jjC ?_))))); refine jJ (eI rfl) (jz (jjB (jjB (jjC (jI (eS rfl) ?_))))); refine jh rfl (jI (eI rfl) (jz (jjD ?_))))
  refine W.keep0 [(4, .pointer (some ⟨b4, 0, none⟩)), (9, .bool true), (10, .slice va L0.length vc), (11, .int .i64 (L0.length : Int)), (15, .slice fa F1.length fc), (18, .slice ga F2.length gc), (21, .int .i64 ((0 : Nat) : Int)), (126, .slice wa ws.length wc), (127, .int .i64 (ws.length : Int)), (128, .int .i64 ((0 : Nat) : Int))] ⟨eP rfl, eB rfl, eS rfl, eI rfl, eS rfl, eS rfl, eI rfl, eS rfl, eI rfl, eI rfl, trivial⟩ fun s0 => ?_
  refine W.loopG (129 :: 130 :: 131 :: 23 :: 133 :: 134 :: 135 :: 132 :: 136 :: 137 :: 24 :: 25 :: 138 :: 139 :: 8 :: 26 :: 140 :: 141 :: 142 :: 143 :: 144 :: 145 :: 28 :: 146 :: 147 :: 148 :: 149 :: 150 :: 151 :: 152 :: 153 :: 154 :: 155 :: 156 :: 157 :: 158 :: 159 :: 160 :: 161 :: 162 :: 163 :: 164 :: 165 :: 166 :: 167 :: 168 :: 169 :: 170 :: 171 :: 172 :: 173 :: 174 :: 175 :: 176 :: 177 :: 178 :: 179 :: 180 :: 181 :: 182 :: 183 :: 184 :: 185 :: 186 :: 187 :: 188 :: 189 :: 190 :: 191 :: 192 :: 193 :: 194 :: 195 :: 196 :: 197 :: 198 :: 199 :: 200 :: 201 :: 202 :: 203 :: 204 :: 205 :: 206 :: 207 :: 208 :: 209 :: 21 :: 210 :: 211 :: 128 :: []) (fun g s' V => ∃ (i t : Nat), s' 128 = .int .i64 (i : Int) ∧ s' 21 = .int .i64 (t : Int) ∧ g = ws.length - i ∧ i ≤ ws.length ∧ t = ((ws.take i).flatMap fun w => S.filter (isW w)).length ∧ Ext w14 V) ws.length ⟨0, 0, rfl, rfl, rfl, Nat.zero_le _, by simp, .refl _⟩ ?_
  rintro _ sd V ⟨i, t, h128, h21, rfl, hi, ht, hEV⟩
  refine W.fix h128 (W.fix (d := 21) h21 ?_)
  clear h128 h21
  have hEV' := hEV.toStep
  by_cases hi1 : i < ws.length
  rotate_left
  · obtain rfl : i = ws.length := by omega
    rw [List.take_length, ← hsz1] at ht
    subst ht
    (refine jjB (jjC (jja rfl rfl (by omega) (jz (jjB (jjK rfl ?_))))); refine jjE (jjB (jjC (jI (eB rfl) (jI (eB rfl) (jT rfl rfl rfl ?_))))); refine jI (eI rfl) (jT rfl rfl rfl (jI (eI rfl) (jT rfl rfl rfl (jjh rfl rfl (by omega) (jK rfl (eB rfl) ?_))))); refine jJ (eB rfl) (jz (jjF ?_)); refine jB rfl rfl ⟨inferInstance, ?_⟩)
    exact rfl
  have gW : (ws.map strV)[i]? = some (strV ws[i]) := by rw [List.getElem?_map, List.getElem?_eq_getElem hi1]; rfl
  obtain ⟨ub, uo, rfl, -⟩ := iW.h.place' gW
  obtain ⟨hwb, hwsz⟩ := hww ws[i] (List.getElem_mem hi1)
  have hpl := hwp ws[i]
  (refine jjB (jjC (jjZ rfl rfl (by omega) (jz (jjB (jjJ rfl ?_))))); refine jjG (jjB (jjD (jjB (jjC ?_)))); refine jF rfl rfl rfl (map_get (by omega)) ?_; intro _ _ _; refine jQ rfl rfl (jJ (eT rfl) (jz (jjB (jjC (jO rfl rfl rfl rfl ?_))))); refine jI (eT rfl) ?_)
  refine jjQ ((Places_leaf a c cs _ hs ws[i] hwsz).mono fun v _ _ h => by rw [placesR, if_pos hTT, if_pos hwb, hpl] at h; exact h) rfl rfl ?_
  rintro _ w15 hS15 ⟨pv, rfl, hOp⟩
  simp only at hOp
  obtain ⟨pa, pc, rfl⟩ := hOp.slice
  have hat := fun j (hj : j < (S.filter (isW ws[i])).length) => flatW_pos (F := fun w => S.filter (isW w)) hi1 hj
  have hbt := fun j (hj : j < (L0.filter (isW ws[i])).length) => flatW_pos (F := fun w => L0.filter (isW w)) hi1 hj
  have hnx := flatW_next (F := fun w => S.filter (isW w)) hi1
  have htt : ((ws.take i).flatMap fun w => L0.filter (isW w)).length = t := by
    rw [ht, List.length_flatMap, List.length_flatMap]
    congr 1
    exact List.map_congr_left fun w _ => (hsame w).symm
  rw [htt, ← hsz2] at hbt
  rw [← ht, ← hsz1] at hat
  rw [← ht] at hnx
  have hsm' := hsame ws[i]
  have hlw : ∀ x ∈ S.filter (isW ws[i]), x.2.1 = ws[i] := fun x hx => by simpa using (List.mem_filter.1 hx).2
  have hlw2 : ∀ x ∈ L0.filter (isW ws[i]), x.2.1 = ws[i] := fun x hx => by simpa using (List.mem_filter.1 hx).2
  have hdr0 : (L0.drop 0).filter (isW ws[i]) = (L0.filter (isW ws[i])).drop 0 := rfl
  have hcame := @came_skip ws[i] L0
  have hcamh := @came_hit ws[i] L0
  have hcami := @came_in ws[i] L0
  rw [List.length_map, List.length_map] at hOp ⊢
  generalize S.filter (isW ws[i]) = X at *
  generalize L0.filter (isW ws[i]) = Y at *
  have hE15 : Ext w14 w15 := inferInstance
  have iP : RowI w15 (.slice pa X.length pc) true 3 ((X.map (·.1)).map encPl) := ⟨hOp.row⟩
  have hz := hE15.size
  (refine jI (eU rfl) (ju rfl rfl (ju rfl rfl (jJ (eS rfl) (jJ (eI rfl) (jz ?_))))); refine jjB (jjB (jjC (jI (eI rfl) (jjk rfl rfl (by omega) (jz ?_))))); refine jjK rfl (jjG (jjB (jjC (jJ (eI rfl) (jz ?_))))); refine jjB (jjC (jI (eS rfl) (jh rfl (jI (eI rfl) (jz ?_))))); refine jjD ?_)
  refine W.keep [(4, .pointer (some ⟨b4, 0, none⟩)), (9, .bool true), (10, .slice va L0.length vc), (11, .int .i64 (L0.length : Int)), (15, .slice fa F1.length fc), (18, .slice ga F2.length gc), (21, .int .i64 (t : Int)), (23, .string ws[i]), (26, .int .i64 ((0 : Nat) : Int)), (126, .slice (some ⟨ub, uo, none⟩) ws.length wc), (127, .int .i64 (ws.length : Int)), (128, .int .i64 (i : Int)), (140, .slice pa X.length pc), (141, .int .i64 (X.length : Int)), (142, .int .i64 ((0 : Nat) : Int))] (D := (129 :: 130 :: 131 :: 23 :: 133 :: 134 :: 135 :: 132 :: 136 :: 137 :: 24 :: 25 :: 138 :: 139 :: 8 :: 26 :: 140 :: 141 :: 142 :: 143 :: 144 :: 145 :: 28 :: 146 :: 147 :: 148 :: 149 :: 150 :: 151 :: 152 :: 153 :: 154 :: 155 :: 156 :: 157 :: 158 :: 159 :: 160 :: 161 :: 162 :: 163 :: 164 :: 165 :: 166 :: 167 :: 168 :: 169 :: 170 :: 171 :: 172 :: 173 :: 174 :: 175 :: 176 :: 177 :: 178 :: 179 :: 180 :: 181 :: 182 :: 183 :: 184 :: 185 :: 186 :: 187 :: 188 :: 189 :: 190 :: 191 :: 192 :: 193 :: 194 :: 195 :: 196 :: 197 :: 198 :: 199 :: 200 :: 201 :: 202 :: 203 :: 204 :: 205 :: 206 :: 207 :: 208 :: 209 :: 21 :: 210 :: 211 :: 128 :: [])) (sO := upds s0 _) (by (((iterate 20 refine Same.upd rfl ?_); exact Same.ovN))) ⟨eP rfl, eB rfl, eS rfl, eI rfl, eS rfl, eS rfl, eI rfl, eT rfl, eI rfl, eS rfl, eI rfl, eI rfl, eS rfl, eI rfl, eI rfl, trivial⟩ fun s1 hs1 => ?_
  refine W.loopG (143 :: 144 :: 145 :: 28 :: 146 :: 147 :: 148 :: 149 :: 150 :: 151 :: 152 :: 153 :: 154 :: 155 :: 156 :: 157 :: 158 :: 159 :: 160 :: 161 :: 162 :: 163 :: 164 :: 165 :: 166 :: 167 :: 168 :: 169 :: 170 :: 171 :: 172 :: 173 :: 174 :: 175 :: 8 :: 176 :: 177 :: 178 :: 179 :: 180 :: 181 :: 182 :: 183 :: 184 :: 185 :: 186 :: 187 :: 188 :: 189 :: 190 :: 26 :: 191 :: 192 :: 193 :: 194 :: 195 :: 196 :: 197 :: 198 :: 199 :: 200 :: 201 :: 202 :: 203 :: 204 :: 205 :: 206 :: 207 :: 208 :: 209 :: 21 :: 210 :: 142 :: []) (fun g s' V => ∃ (j cm : Nat), s' 142 = .int .i64 (j : Int) ∧ s' 21 = .int .i64 ((t + j : Nat) : Int) ∧ s' 26 = .int .i64 (cm : Int) ∧ g = X.length - j ∧ j ≤ X.length ∧ cm ≤ L0.length ∧ (L0.drop cm).filter (isW ws[i]) = Y.drop j ∧ Ext w15 V) X.length ⟨0, 0, rfl, rfl, rfl, rfl, Nat.zero_le _, Nat.zero_le _, hdr0, .refl _⟩ ?_
  rintro _ sd2 V2 ⟨j, cm, h142, h21, h26, rfl, hj, hcm, hdr, hEV2⟩
  refine W.fix h142 (W.fix (d := 21) h21 (W.fix (d := 26) h26 ?_))
  clear h142 h21 h26
  have hEV2' := hEV2.toStep
  by_cases hj1 : j < X.length
  rotate_left
  · obtain rfl : j = X.length := by omega
    (refine jjB (jjC (jja rfl rfl (by omega) (jz (jjB (jjK rfl ?_))))); refine jjE (jjC (jY rfl rfl (by omega) (jI (eI rfl) (jz ?_)))))
    exact ⟨rfl, by (((iterate 6 refine Same.upd rfl ?_); refine Same.ovN' rfl ?_; assumption)), ws.length - (i + 1), by omega, i + 1, t + X.length, congrArg (Value.int .i64) (by omega), rfl, rfl, by omega, hnx.symm, hE15.trans hEV2⟩
  have hY1 : j < Y.length := by omega
  have gat := hat j hj1
  have gbt := hbt j hY1
  have lat := (List.getElem?_eq_some_iff.1 gat).1
  have lbt := (List.getElem?_eq_some_iff.1 gbt).1
  have gF1 : (F1.map encSl)[t + j]? = some (encSl X[j]) := by rw [List.getElem?_map, gat]; rfl
  have gF2 : (F2.map encSl)[t + j]? = some (encSl Y[j]) := by rw [List.getElem?_map, gbt]; rfl
  have gP : ((X.map (·.1)).map encPl)[j]? = some (encPl X[j].1) := by rw [List.getElem?_map, List.getElem?_map, List.getElem?_eq_getElem hj1]; rfl
  obtain ⟨qb, qo, rfl, -⟩ := i13.h.place' gF1
  obtain ⟨rb, ro, rfl, -⟩ := i14.h.place' gF2
  obtain ⟨pb, po, rfl, -⟩ := iP.h.place' gP
  have hE2 : Ext w14 V2 := hE15.trans hEV2
  have hwX := hlw X[j] (List.getElem_mem hj1)
  have hwY := hlw2 Y[j] (List.getElem_mem hY1)
  (refine jjB (jjC (jjZ rfl rfl (by omega) (jz (jjB (jjJ rfl ?_))))); refine jjG (jjB (jjD (jjB (jjC ?_)))))
  refine jH j rfl rfl rfl (by omega) ?_
  refine Ops.loadOA (off := 0) (place_k (iP.h.ext hEV2) gP) rfl rfl rfl rfl ?_
  (apply jjR rfl; (intro _; first|exact eI rfl|exact eB rfl|exact eP rfl|exact eS rfl|exact eT rfl|exact eA rfl|exact eU rfl|exact eF rfl|exact eM rfl|exact eN rfl|exact rfl); exact rfl; exact rfl; exact rfl; exact rfl; intro b28 w_b28 hb_b28 hs_b28 hS_b28 hk_b28; have hA_b28 := Bk.of hk_b28)
  have hA28 : At w_b28 b28 0 (encPl X[j].1).cells.toList := Bk.toAt (h := hA_b28)
  have hE28 : Ext w14 w_b28 := hE2.trans hS_b28.ext
  have hnw : decide (¬ ws[i] = ws[i]) = false := by simp
  have A1 : ∀ V, Ext w14 V → At V qb (qo + (t + j) * 6) [.int .i64 X[j].1.1, .int .i64 X[j].1.2.1, .int .i64 X[j].1.2.2, .string ws[i], .string X[j].2.2.1, .string X[j].2.2.2] := fun V hE => by
    have := place_k (i13.h.ext hE) gF1
    rw [← hwX]; exact this
  have A2 : ∀ V, Ext w14 V → At V rb (ro + (t + j) * 6) [.int .i64 Y[j].1.1, .int .i64 Y[j].1.2.1, .int .i64 Y[j].1.2.2, .string ws[i], .string Y[j].2.2.1, .string Y[j].2.2.2] := fun V hE => by
    have := place_k (i14.h.ext hE) gF2
    rw [← hwY]; exact this
  (refine jz (jjB (jjB ?_)))
  refine W.draw (fun w' => Ext w_b28 w') ?_
  intro w16 hS16
  refine jjV [0, 1, 2, 3, 4, 5] (by decide +kernel) hS16.ext ?_
  (((apply jjT; exact rfl; rintro w' hq; have := hq.toStep; refine jI (eI rfl) (jz ?_); exact ⟨rfl, rfl⟩; apply jjT; exact rfl; rintro w' hq; have := hq.toStep; refine jI (eI rfl) (jz ?_); exact ⟨rfl, rfl⟩; apply jjT; exact rfl; rintro w' hq; have := hq.toStep; refine jjg rfl rfl (by omega) (jz ?_); exact ⟨rfl, rfl⟩; apply jjT; exact rfl; rintro w' hq; have := hq.toStep; refine jI (eB rfl) (jz ?_); exact ⟨rfl, rfl⟩; apply jjT; exact rfl; rintro w' hq; have := hq.toStep; refine jT rfl rfl rfl (jI (eS rfl) (jz ?_)); exact ⟨rfl, rfl⟩; apply jjT; exact rfl; rintro w' hq; have := hq.toStep; refine jT rfl rfl rfl (jI (eI rfl) (jz ?_)); exact ⟨rfl, rfl⟩; refine jjU ?_)))
  refine jjV [6] (by decide +kernel) hS16.ext (jjT (v := .pointer (some ⟨qb, qo + (t + j) * 6, none⟩)) rfl (fun w' q1 => ?_) (jjU ?_)); (refine jT rfl rfl rfl ?_; refine jH (t + j) rfl rfl rfl (by omega) ?_; refine jz ?_; exact ⟨rfl, rfl⟩)
  refine jjV [7] (by decide +kernel) hS16.ext ?_
  (((apply jjT; exact rfl; rintro w' hq; have := hq.toStep; refine jT rfl rfl rfl (jm (jn rfl (jz ?_))); exact ⟨rfl, rfl⟩; refine jjU ?_)))
  refine jjV [8] (by decide +kernel) hS16.ext (jjT (v := .string ws[i]) rfl (fun w' q1 => ?_) (jjU ?_)); (refine jT rfl rfl rfl ?_; refine jR ((A1 _ (hE28.trans q1)).get (i := 3) rfl) rfl rfl ?_; refine jz ?_; exact ⟨rfl, rfl⟩)
  refine jjV [9] (by decide +kernel) hS16.ext ?_
  (((apply jjT; exact rfl; rintro w' hq; have := hq.toStep; refine jT rfl rfl rfl (jI (eT rfl) (jz ?_)); exact ⟨rfl, rfl⟩; refine jjU ?_)))
  refine jjV [10] (by decide +kernel) hS16.ext (jjT (v := .bool false) rfl (fun w' q1 => ?_) (jjU ?_)); (refine jT rfl rfl rfl ?_; refine Ops.neqSV hnw rfl rfl ?_; refine jz ?_; exact ⟨rfl, rfl⟩)
  refine jjV [11, 12, 13, 14] (by decide +kernel) hS16.ext ?_
  (((apply jjT; exact rfl; rintro w' hq; have := hq.toStep; refine jL rfl (eB rfl) (jz ?_); exact ⟨rfl, rfl⟩; apply jjT; exact rfl; rintro w' hq; have := hq.toStep; refine jI (eB rfl) (jz ?_); exact ⟨rfl, rfl⟩; apply jjT; exact rfl; rintro w' hq; have := hq.toStep; refine jT rfl rfl rfl (jI (eS rfl) (jz ?_)); exact ⟨rfl, rfl⟩; apply jjT; exact rfl; rintro w' hq; have := hq.toStep; refine jT rfl rfl rfl (jI (eI rfl) (jz ?_)); exact ⟨rfl, rfl⟩; refine jjU ?_)))
  refine jjV [15] (by decide +kernel) hS16.ext (jjT (v := .pointer (some ⟨qb, qo + (t + j) * 6, none⟩)) rfl (fun w' q1 => ?_) (jjU ?_)); (refine jT rfl rfl rfl ?_; refine jH (t + j) rfl rfl rfl (by omega) ?_; refine jz ?_; exact ⟨rfl, rfl⟩)
  refine jjV [16] (by decide +kernel) hS16.ext ?_
  (((apply jjT; exact rfl; rintro w' hq; have := hq.toStep; refine jT rfl rfl rfl (jm (jn rfl (jz ?_))); exact ⟨rfl, rfl⟩; refine jjU ?_)))
  refine jjV [17] (by decide +kernel) hS16.ext (jjT (v := encPl X[j].1) rfl (fun w' q1 => ?_) (jjU ?_)); (refine jT rfl rfl rfl ?_; refine Ops.loadOA (off := 0) (A1 _ (hE28.trans q1)) rfl rfl rfl rfl ?_; refine jz ?_; exact ⟨rfl, rfl⟩)
  refine jjV [18] (by decide +kernel) hS16.ext (jjT (v := encPl X[j].1) rfl (fun w' q1 => ?_) (jjU ?_)); (refine jT rfl rfl rfl ?_; refine Ops.loadOA (off := 0) (hA28.ext q1) rfl rfl rfl rfl ?_; refine jz ?_; exact ⟨rfl, rfl⟩)
  refine jjV [19] (by decide +kernel) hS16.ext (jjT (v := .bool false) rfl (fun w' q1 => ?_) (jjU ?_)); (refine jT rfl rfl rfl ?_; refine Ops.neqTN (enc := encPl) X[j].1 rfl rfl ?_; refine jz ?_; exact ⟨rfl, rfl⟩)
  refine jjV [20, 21, 22, 23] (by decide +kernel) hS16.ext ?_
  (((apply jjT; exact rfl; rintro w' hq; have := hq.toStep; refine jL rfl (eB rfl) (jz ?_); exact ⟨rfl, rfl⟩; apply jjT; exact rfl; rintro w' hq; have := hq.toStep; refine jI (eB rfl) (jz ?_); exact ⟨rfl, rfl⟩; apply jjT; exact rfl; rintro w' hq; have := hq.toStep; refine jT rfl rfl rfl (jI (eS rfl) (jz ?_)); exact ⟨rfl, rfl⟩; apply jjT; exact rfl; rintro w' hq; have := hq.toStep; refine jT rfl rfl rfl (jI (eI rfl) (jz ?_)); exact ⟨rfl, rfl⟩; refine jjU ?_)))
  refine jjV [24] (by decide +kernel) hS16.ext (jjT (v := .pointer (some ⟨rb, ro + (t + j) * 6, none⟩)) rfl (fun w' q1 => ?_) (jjU ?_)); (refine jT rfl rfl rfl ?_; refine jH (t + j) rfl rfl rfl (by omega) ?_; refine jz ?_; exact ⟨rfl, rfl⟩)
  refine jjV [25] (by decide +kernel) hS16.ext ?_
  (((apply jjT; exact rfl; rintro w' hq; have := hq.toStep; refine jT rfl rfl rfl (jm (jn rfl (jz ?_))); exact ⟨rfl, rfl⟩; refine jjU ?_)))
  refine jjV [26] (by decide +kernel) hS16.ext (jjT (v := .string ws[i]) rfl (fun w' q1 => ?_) (jjU ?_)); (refine jT rfl rfl rfl ?_; refine jR ((A2 _ (hE28.trans q1)).get (i := 3) rfl) rfl rfl ?_; refine jz ?_; exact ⟨rfl, rfl⟩)
  refine jjV [27] (by decide +kernel) hS16.ext ?_
  (((apply jjT; exact rfl; rintro w' hq; have := hq.toStep; refine jT rfl rfl rfl (jI (eT rfl) (jz ?_)); exact ⟨rfl, rfl⟩; refine jjU ?_)))
  refine jjV [28] (by decide +kernel) hS16.ext (jjT (v := .bool false) rfl (fun w' q1 => ?_) (jjU ?_)); (refine jT rfl rfl rfl ?_; refine Ops.neqSV hnw rfl rfl ?_; refine jz ?_; exact ⟨rfl, rfl⟩)
  refine jjV [29] (by decide +kernel) hS16.ext ?_
  (((apply jjT; exact rfl; rintro w' hq; have := hq.toStep; refine jL rfl (eB rfl) (jz ?_); exact ⟨rfl, rfl⟩; refine jjU ?_)))
  refine jjX (by decide +kernel) hS16.ext ?_
  have hE16 : Ext w15 w16 := hEV2.trans (hS_b28.ext.trans hS16.ext)
  (refine jjK rfl (jjG (jjB (jjD ?_))))
  refine W.keep [(4, .pointer (some ⟨b4, 0, none⟩)), (9, .bool true), (10, .slice va L0.length vc), (11, .int .i64 (L0.length : Int)), (15, .slice (some ⟨qb, qo, none⟩) F1.length fc), (18, .slice (some ⟨rb, ro, none⟩) F2.length gc), (21, .int .i64 ((t + j : Nat) : Int)), (23, .string ws[i]), (26, .int .i64 (cm : Int)), (126, .slice (some ⟨ub, uo, none⟩) ws.length wc), (127, .int .i64 (ws.length : Int)), (128, .int .i64 (i : Int)), (140, .slice (some ⟨pb, po, none⟩) X.length pc), (141, .int .i64 (X.length : Int)), (142, .int .i64 (j : Int))] (D := (143 :: 144 :: 145 :: 28 :: 146 :: 147 :: 148 :: 149 :: 150 :: 151 :: 152 :: 153 :: 154 :: 155 :: 156 :: 157 :: 158 :: 159 :: 160 :: 161 :: 162 :: 163 :: 164 :: 165 :: 166 :: 167 :: 168 :: 169 :: 170 :: 171 :: 172 :: 173 :: 174 :: 175 :: 8 :: 176 :: 177 :: 178 :: 179 :: 180 :: 181 :: 182 :: 183 :: 184 :: 185 :: 186 :: 187 :: 188 :: 189 :: 190 :: 26 :: 191 :: 192 :: 193 :: 194 :: 195 :: 196 :: 197 :: 198 :: 199 :: 200 :: 201 :: 202 :: 203 :: 204 :: 205 :: 206 :: 207 :: 208 :: 209 :: 21 :: 210 :: 142 :: [])) (sO := upds s1 _) (by (((iterate 37 refine Same.upd rfl ?_); exact Same.ovN))) ⟨eP rfl, eB rfl, eS rfl, eI rfl, eS rfl, eS rfl, eI rfl, eT rfl, eI rfl, eS rfl, eI rfl, eI rfl, eS rfl, eI rfl, eI rfl, trivial⟩ fun s2 hs2 => ?_
  refine W.loopG (176 :: 177 :: 178 :: 179 :: 180 :: 181 :: 182 :: 183 :: 184 :: 185 :: 186 :: 187 :: 188 :: 189 :: 190 :: 26 :: []) (fun g s' V => ∃ (cm : Nat), s' 26 = .int .i64 (cm : Int) ∧ g = L0.length - cm ∧ cm ≤ L0.length ∧ (L0.drop cm).filter (isW ws[i]) = Y.drop j ∧ Ext w15 V) (L0.length - cm) ⟨cm, rfl, rfl, hcm, hdr, hE16⟩ ?_
  clear hdr hcm
  rintro _ sd3 V3 ⟨cm, h26, rfl, hcm, hdr, hEV3⟩
  refine W.fix h26 ?_
  clear h26
  have hcl := hcami hdr hY1
  have gL : (L0.map encSl)[cm]? = some (encSl L0[cm]) := by rw [List.getElem?_map, List.getElem?_eq_getElem hcl]; rfl
  obtain ⟨lb, lo, rfl, -⟩ := iL.h.place' gL
  have A3 : ∀ V, Ext w14 V → At V lb (lo + cm * 6) (encSl L0[cm]).cells.toList := fun V hE => place_k (iL.h.ext hE) gL
  have hE3 : Ext w14 V3 := hE15.trans hEV3
  by_cases hw : L0[cm].2.1 = ws[i]
  rotate_left
  · (refine jjB (jjB (jjC (jI (eI rfl) (jI (eS rfl) (jh rfl ?_))))); refine jjZ rfl rfl (by omega) (jI (eB rfl) (jT rfl rfl rfl (jI (eS rfl) (jT rfl rfl rfl (jI (eI rfl) ?_))))); refine jT rfl rfl rfl ?_)
    refine jH cm rfl rfl rfl (by omega) ?_
    (refine jT rfl rfl rfl (jm (jn rfl (jT rfl rfl rfl ?_))))
    refine jR ((A3 _ hE3).get (i := 3) rfl) rfl rfl ?_
    (refine jT rfl rfl rfl (jI (eT rfl) (jT rfl rfl rfl ?_)))
    refine Ops.neqSV (decide_eq_true hw) rfl rfl ?_
    (refine jK rfl (eB rfl) (jz (jjJ rfl (jjG (jjD (jjC ?_))))); refine jI (eI rfl) (jY rfl rfl (by omega) (jJ (eI rfl) (jz ?_))))
    exact ⟨rfl, by (((iterate 17 refine Same.upd rfl ?_); exact Same.ovN)), L0.length - (cm + 1), by omega, cm + 1, congrArg (Value.int .i64) (by omega), rfl, by omega, hcame hdr hcl hw, hEV3⟩
  (refine jjB (jjB (jjC (jI (eI rfl) (jI (eS rfl) (jh rfl ?_))))); refine jjZ rfl rfl (by omega) (jI (eB rfl) (jT rfl rfl rfl (jI (eS rfl) (jT rfl rfl rfl (jI (eI rfl) ?_))))); refine jT rfl rfl rfl ?_)
  refine jH cm rfl rfl rfl (by omega) ?_
  (refine jT rfl rfl rfl (jm (jn rfl (jT rfl rfl rfl ?_))))
  refine jR ((A3 _ hE3).get (i := 3) rfl) rfl rfl ?_
  (refine jT rfl rfl rfl (jI (eT rfl) (jT rfl rfl rfl ?_)))
  refine Ops.neqSV (v := false) (decide_eq_false (fun h => h hw)) rfl rfl ?_
  obtain ⟨hL, hnext⟩ := hcamh hdr hcl hY1 hw
  have A4 : ∀ V, Ext w14 V → At V lb (lo + cm * 6) (encSl Y[j]).cells.toList := fun V hE => by have := A3 V hE; rwa [hL] at this
  have A5 : ∀ V, Ext w14 V → At V rb (ro + (t + j) * 6) (encSl Y[j]).cells.toList := fun V hE => place_k (i14.h.ext hE) gF2
  (refine jK rfl (eB rfl) (jz (jjK rfl (jjE (jjB (jjB ?_))))))
  refine W.draw (fun w' => Ext V3 w') ?_
  intro w17 hS17
  refine jjV [0, 1, 2, 3, 4, 5, 6] (by decide +kernel) hS17.ext ?_
  (((apply jjT; exact rfl; rintro w' hq; have := hq.toStep; refine jI (eI rfl) (jz ?_); exact ⟨rfl, rfl⟩; apply jjT; exact rfl; rintro w' hq; have := hq.toStep; refine jI (eS rfl) (jz ?_); exact ⟨rfl, rfl⟩; apply jjT; exact rfl; rintro w' hq; have := hq.toStep; refine jh rfl (jz ?_); exact ⟨rfl, rfl⟩; apply jjT; exact rfl; rintro w' hq; have := hq.toStep; refine jjg rfl rfl (by omega) (jz ?_); exact ⟨rfl, rfl⟩; apply jjT; exact rfl; rintro w' hq; have := hq.toStep; refine jI (eB rfl) (jz ?_); exact ⟨rfl, rfl⟩; apply jjT; exact rfl; rintro w' hq; have := hq.toStep; refine jT rfl rfl rfl (jI (eS rfl) (jz ?_)); exact ⟨rfl, rfl⟩; apply jjT; exact rfl; rintro w' hq; have := hq.toStep; refine jT rfl rfl rfl (jI (eI rfl) (jz ?_)); exact ⟨rfl, rfl⟩; refine jjU ?_)))
  refine jjV [7] (by decide +kernel) hS17.ext (jjT (v := .pointer (some ⟨rb, ro + (t + j) * 6, none⟩)) rfl (fun w' q1 => ?_) (jjU ?_)); (refine jT rfl rfl rfl ?_; refine jH (t + j) rfl rfl rfl (by omega) ?_; refine jz ?_; exact ⟨rfl, rfl⟩)
  refine jjV [8] (by decide +kernel) hS17.ext (jjT (v := encSl Y[j]) rfl (fun w' q1 => ?_) (jjU ?_)); (refine jT rfl rfl rfl ?_; refine Ops.loadOA (off := 0) (A5 _ (hE3.trans q1)) rfl rfl rfl rfl ?_; refine jz ?_; exact ⟨rfl, rfl⟩)
  refine jjV [9, 10] (by decide +kernel) hS17.ext ?_
  (((apply jjT; exact rfl; rintro w' hq; have := hq.toStep; refine jT rfl rfl rfl (jI (eS rfl) (jz ?_)); exact ⟨rfl, rfl⟩; apply jjT; exact rfl; rintro w' hq; have := hq.toStep; refine jT rfl rfl rfl (jI (eI rfl) (jz ?_)); exact ⟨rfl, rfl⟩; refine jjU ?_)))
  refine jjV [11] (by decide +kernel) hS17.ext (jjT (v := .pointer (some ⟨lb, lo + cm * 6, none⟩)) rfl (fun w' q1 => ?_) (jjU ?_)); (refine jT rfl rfl rfl ?_; refine jH cm rfl rfl rfl (by omega) ?_; refine jz ?_; exact ⟨rfl, rfl⟩)
  refine jjV [12] (by decide +kernel) hS17.ext (jjT (v := encSl Y[j]) rfl (fun w' q1 => ?_) (jjU ?_)); (refine jT rfl rfl rfl ?_; refine Ops.loadOA (off := 0) (A4 _ (hE3.trans q1)) rfl rfl rfl rfl ?_; refine jz ?_; exact ⟨rfl, rfl⟩)
  refine jjV [13] (by decide +kernel) hS17.ext (jjT (v := .bool false) rfl (fun w' q1 => ?_) (jjU ?_)); (refine jT rfl rfl rfl ?_; refine Ops.neqTN (enc := encSl) Y[j] rfl rfl ?_; refine jz ?_; exact ⟨rfl, rfl⟩)
  refine jjV [14] (by decide +kernel) hS17.ext ?_
  (((apply jjT; exact rfl; rintro w' hq; have := hq.toStep; refine jL rfl (eB rfl) (jz ?_); exact ⟨rfl, rfl⟩; refine jjU ?_)))
  refine jjX (by decide +kernel) hS17.ext ?_
  (refine jjK rfl (jjG (jjC (jI (eI rfl) (jY rfl rfl (by omega) (jI (eI rfl) ?_))))); refine jY rfl rfl (by omega) (jJ (eI rfl) (jJ (eI rfl) (jz (jjC (jY rfl rfl (by omega) ?_))))); refine jI (eI rfl) (jz ?_))
  exact ⟨rfl, by (((iterate 37 refine Same.upd rfl ?_); refine Same.ovN' rfl ?_; assumption)), X.length - (j + 1), by omega, j + 1, cm + 1, congrArg (Value.int .i64) (by omega), congrArg (Value.int .i64) (by omega), congrArg (Value.int .i64) (by omega), rfl, by omega, by omega, hnext, hEV3.trans hS17.ext⟩
end
end Go.Proofs.YtpijeomnplmakaaGreatDoor
