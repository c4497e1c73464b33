/- Over every program: no step takes back a draw from the tape; so a call that returns has drawn as often as before, or more. -/
import Derived.Calls
import Derived.RunT
import Derived.Below
import Derived.Deep.Draws
import Derived.Sort.Grow
namespace Go.Proofs.YthpclmkcljmoeaaDoor.P
open Go Go.RowKit
set_option linter.unusedVariables false
set_option linter.unusedSimpArgs false
/-- The world of a result. -/
def resW {α : Type} : Result α → World
  | .ok _ w => w
  | .halt _ w => w
theorem ask_drawn {α : Type} : ∀ (a : Ask α) (w : World), w.drawn ≤ (w.ask a).2.drawn
  | .done a, w => Nat.le_refl _
  | .ask what range k, w => by
    unfold World.ask
    simp only []
    split
    · exact ask_drawn _ w
    · exact Nat.le_trans (Nat.le_succ _) (ask_drawn _ { w with drawn := w.drawn + 1 })
theorem sys_drawn (w : World) (c : Sys) : w.drawn ≤ (w.sys c).2.drawn := by
  unfold World.sys
  have h := ask_drawn (Kernel.perform c w.os) w
  split
  · exact Nat.le_refl _
  · rename_i r os w1 _ heq
    rw [heq] at h
    exact h
theorem viewStore_drawn {p : Program} {w w1 : World} {at_ : Addr} {u : TypeId} {k : Addr} {v : Value} {b : Bool} {l : List Addr} (h : w.viewStore p at_ u k v b = .ok (w1, l)) : w1.drawn = w.drawn := by
  unfold World.viewStore at h
  simp only [bind, Except.bind, pure, Except.pure, throw, throwThe, MonadExceptOf.throw] at h
  repeat' first
    | (cases h; done)
    | (simp only [Except.ok.injEq, Prod.mk.injEq] at h; rw [← h.1])
    | split at h
theorem farStore_drawn {p : Program} {w w1 : World} {a : Addr} {v : Value} {b : Bool} {l : List Addr} (h : w.farStore p a v b = .ok (w1, l)) : w1.drawn = w.drawn := by
  unfold World.farStore at h
  split at h
  · split at h
    · rename_i heq
      cases h
      exact viewStore_drawn heq
    · cases h
  · cases h
theorem freeze_drawn (w : World) (a : Addr) (n : Nat) : (w.freeze a n).drawn = w.drawn := by
  unfold World.freeze; split <;> rfl
theorem run_drawn {α : Type} (p : Program) (s : Sem α) (w : World) : w.drawn ≤ (resW (s.run p w)).drawn := by
  induction s generalizing w with
  | pure a => exact Nat.le_refl _
  | load m a k ih =>
    simp only [Sem.run]
    split
    · exact ih _ w
    · split
      · exact ih _ w
      · exact Nat.le_refl _
  | store m a v k ih =>
    have hgo : w.drawn ≤ (resW (match w.cell? a with
        | some _ => if w.frozen? a then Result.halt (.unsupported (.unsafePointer "a write to bytes that a string shares")) w else k.run p (w.setCell a v)
        | none => match w.farStore p a v (m == .atomic) with
          | .ok (w, _) => k.run p w
          | .error h => .halt h w)).drawn := by
      split
      · split
        · exact Nat.le_refl _
        · exact ih (w.setCell a v)
      · split
        · rename_i heq
          have := ih
          exact Nat.le_trans (Nat.le_of_eq (farStore_drawn heq).symm) (ih _)
        · exact Nat.le_refl _
    cases v <;> first
      | exact hgo
      | exact Nat.le_refl _
  | new o k ih => exact ih w.heap.size { w with heap := w.heap.push o }
  | shape r k ih => exact ih _ w
  | freeze a n k ih => exact Nat.le_trans (Nat.le_of_eq (freeze_drawn w a n).symm) (ih _)
  | frozen a k ih => exact ih _ w
  | getObj r k ih =>
    simp only [Sem.run]
    split
    · exact Nat.le_refl _
    · exact ih _ w
    · exact Nat.le_refl _
  | setObj r o k ih =>
    simp only [Sem.run]
    split
    · exact Nat.le_refl _
    · exact ih { w with heap := w.heap.setIfInBounds r o }
    · exact Nat.le_refl _
  | choose q k ih =>
    simp only [Sem.run]
    split
    · exact ih _ w
    · exact Nat.le_trans (Nat.le_succ _) (ih _ { w with drawn := w.drawn + 1 })
  | sys c k ih => exact Nat.le_trans (sys_drawn w c) (ih _ _)
  | program k ih => exact ih _ w
  | mark m k ih => exact ih w
  | halt h => exact Nat.le_refl _
theorem run_ok {α : Type} {p : Program} {s : Sem α} {w w1 : World} {a : α} (h : s.run p w = .ok a w1) : w.drawn ≤ w1.drawn := by
  have := run_drawn p s w; rw [h] at this; exact this
theorem run_halt {α : Type} {p : Program} {s : Sem α} {w w1 : World} {a : Halt} (h : s.run p w = .halt a w1) : w.drawn ≤ w1.drawn := by
  have := run_drawn p s w; rw [h] at this; exact this
theorem runT_ok {α : Type} {p : Program} {s : Sem α} {w w1 : World} {a : α} {es : Array Event} (h : (s.runT p w es).1 = .ok a w1) : w.drawn ≤ w1.drawn := by
  rw [Sem.runT_fst] at h; exact run_ok h
theorem runT_halt {α : Type} {p : Program} {s : Sem α} {w w1 : World} {a : Halt} {es : Array Event} (h : (s.runT p w es).1 = .halt a w1) : w.drawn ≤ w1.drawn := by
  rw [Sem.runT_fst] at h; exact run_halt h
/-- The world of a step of a goroutine's. -/
def stW : GStep → World
  | .go _ w _ => w
  | .comm _ _ _ _ w _ => w
  | .spawn _ _ w _ => w
  | .count _ w _ => w
  | .timer _ _ w _ => w
  | .alone _ _ w _ => w
  | .newcoro _ _ _ w _ => w
  | .coroswitch _ _ _ w _ => w
  | .collect _ w _ => w
  | .watch _ w _ => w
  | .ended _ w _ => w
theorem stW_after (es : Array Event) (s : GStep) : stW (GStep.after es s) = stW s := by cases s <;> rfl
theorem runT_pair {α : Type} {p : Program} {s : Sem α} {w : World} {r : Result α} {es es' : Array Event} (h : s.runT p w es = (r, es')) : w.drawn ≤ (resW r).drawn := by
  have := run_drawn p s w
  rw [← Sem.runT_fst p s w es, h] at this
  exact this
theorem doReturn_w (p : Program) (main : Bool) (fr : Frame) (callers : List Frame) (dying : Option Dying) (v : Value) (w : World) : stW (doReturn p main fr callers dying v w) = w := by
  unfold doReturn
  repeat' split
  all_goals rfl
theorem endThrow_w (fr : Frame) (m : String) (w : World) : stW (endThrow fr m w) = w := rfl
theorem endPrinting_w (p : Program) (fr : Frame) (v : Value) (w : World) : stW (endPrinting p fr v w) = w := by
  unfold endPrinting
  simp only []
  repeat' split
  all_goals rfl
theorem endFatal_le (p : Program) (fr : Frame) (callers : List Frame) (dying : Option Dying) (m : String) (w : World) : w.drawn ≤ (stW (endFatal p fr callers dying m w)).drawn := by
  unfold endFatal
  simp only []
  split
  · rename_i heq; exact run_ok heq
  · rename_i heq; exact run_halt heq
  · rename_i heq; exact run_halt heq
theorem endWith_le (w : World) (fd : Nat) (text : ByteArray) (o : Outcome) : w.drawn ≤ (stW (endWith w fd text o)).drawn := by
  unfold endWith
  simp only []
  have h := sys_drawn w (.write fd text)
  generalize w.sys (.write fd text) = x at h
  obtain ⟨r, w1⟩ := x
  simp only [] at h ⊢
  repeat' split
  all_goals first
    | exact h
    | (rename_i heq; cases heq; exact h)
    | (rename_i heq _; cases heq; exact h)
    | (rename_i heq _ _; cases heq; exact h)
theorem writeOn_le (p : Program) (fr : Frame) (d : Dying) (f : Fatal) (w : World) : w.drawn ≤ (stW (writeOn p fr d f w)).drawn := by
  unfold writeOn
  simp only []
  split
  · exact Nat.le_refl _
  · split
    all_goals (rename_i heq; exact runT_pair heq)
theorem die_le (p : Program) (fr : Frame) (d : Dying) (w : World) : w.drawn ≤ (stW (die p fr d w)).drawn := by
  unfold die
  split
  · exact writeOn_le _ _ _ _ _
  · split
    · split
      · exact Nat.le_refl _
      · exact endWith_le _ _ _ _
    · simp only []
      split
      · exact Nat.le_refl _
      · split
        · rename_i heq; exact run_ok heq
        · rename_i heq; exact run_halt heq
      · rename_i t recv name _
        generalize hx : (invoke (.fn (.method name) #[]) #[.iface t recv]).runT p w #[] = x
        obtain ⟨r, es⟩ := x
        have h := runT_pair hx
        simp only []
        rw [stW_after]
        split
        all_goals first
          | exact h
          | (rw [endPrinting_w]; exact h)
          | exact Nat.le_refl _
      · exact Nat.le_refl _
theorem callDeferred_le (p : Program) (fr : Frame) (callers : List Frame) (dying : Option Dying) (d : Deferred) (w : World) : w.drawn ≤ (stW (callDeferred p fr callers dying d w)).drawn := by
  unfold callDeferred
  generalize hx : (invoke d.target d.args).runT p w #[] = x
  obtain ⟨r, es⟩ := x
  have h := runT_pair hx
  simp only []
  repeat' first
    | exact Nat.le_refl _
    | exact h
    | exact Nat.le_trans h (endFatal_le _ _ _ _ _ _)
    | rw [stW_after]
    | split
theorem unwind_le (p : Program) (main : Bool) (fr : Frame) (callers : List Frame) (dying : Option Dying) (w : World) : w.drawn ≤ (stW (unwind p main fr callers dying w)).drawn := by
  unfold unwind
  split
  · split
    rename_i heq
    have h := runT_pair heq
    rw [stW_after]
    split
    all_goals exact h
  · exact callDeferred_le _ _ _ _ _ _
  · split
    · exact Nat.le_refl _
    · split
      · exact Nat.le_refl _
      · split
        · exact Nat.le_refl _
        · split
          · split
            · exact Nat.le_refl _
            · split
              · rename_i heq; exact run_ok heq
              · rename_i heq; exact run_halt heq
              · rename_i heq; exact run_halt heq
          · split
            · rw [endPrinting_w]; exact Nat.le_refl _
            · exact Nat.le_refl _
    · split
      · rw [doReturn_w]; exact Nat.le_refl _
      · rename_i fn _
        generalize hx : (results fn fr.tmps).runT p w #[] = x
        obtain ⟨r, es⟩ := x
        have h := runT_pair hx
        simp only []
        rw [stW_after]
        split
        · rw [doReturn_w]; exact h
        · exact h
        · exact h
theorem early_le (p : Program) (fr : Frame) (callers : List Frame) (dying : Option Dying) (g : Nat) (w : World) : w.drawn ≤ (stW (early p fr callers dying g w)).drawn := by
  have hn : ∀ w : World, w.drawn ≤ (stW (match w.heap[g]? with
    | some (.pending c elem) => GStep.go { frame := fr, callers, status := .running, dying } { w with heap := w.heap.setIfInBounds g (.cells c elem) }
    | _ => .ended (.stuck "early: the variable does not wait" (fr.pos p)) w)).drawn := by
    intro w
    split
    · exact Nat.le_refl _
    · exact Nat.le_refl _
  unfold early
  simp only []
  repeat' first
    | exact Nat.le_refl _
    | exact hn w
    | (rename_i heq; exact Nat.le_trans (run_ok heq) (hn _))
    | (rename_i heq _; exact Nat.le_trans (run_ok heq) (hn _))
    | (rename_i heq; exact run_ok heq)
    | (rename_i heq _; exact run_ok heq)
    | (rename_i heq; exact run_halt heq)
    | split
theorem apply_le (p : Program) (listen : Bool) (fr : Frame) (callers : List Frame) (dying : Option Dying) (s : Sem Next) (w : World) : w.drawn ≤ (stW (stepG.apply p listen fr callers dying s w)).drawn := by
  unfold stepG.apply
  simp only []
  have key : ∀ x : Result Next × Array Event, x = (if listen = true then s.runT p w #[] else (s.run p w, #[])) → w.drawn ≤ (resW x.1).drawn := by
    intro x hx
    by_cases hl : listen = true
    · rw [if_pos hl] at hx
      obtain ⟨r, es⟩ := x
      exact runT_pair hx.symm
    · rw [if_neg hl] at hx
      rw [hx]
      exact run_drawn p s w
  generalize hx : (if listen = true then s.runT p w #[] else (s.run p w, #[])) = x
  have h := key x hx.symm
  clear key hx
  obtain ⟨r, es⟩ := x
  simp only [] at h ⊢
  rw [stW_after]
  repeat' split
  all_goals first
    | exact h
    | exact Nat.le_trans h (endFatal_le _ _ _ _ _ _)
    | exact Nat.le_trans h (early_le _ _ _ _ _ _)
theorem oper_le (p : Program) (listen : Bool) (fr : Frame) (callers : List Frame) (dying : Option Dying) (w : World) : w.drawn ≤ (stW (stepG.oper p listen fr callers dying w)).drawn := by
  unfold stepG.oper
  repeat' first
    | exact Nat.le_refl _
    | exact apply_le _ _ _ _ _ _ _
    | split
theorem elim_le {α : Type} (o : Option α) (a : GStep) (f : α → GStep) (w : World) (h1 : w.drawn ≤ (stW a).drawn) (h2 : ∀ x, w.drawn ≤ (stW (f x)).drawn) : w.drawn ≤ (stW (o.elim a f)).drawn := by
  cases o with
  | none => exact h1
  | some x => exact h2 x
set_option maxHeartbeats 4000000 in
theorem exec_le (p : Program) (main listen : Bool) (fr : Frame) (callers : List Frame) (dying : Option Dying) (w : World) : w.drawn ≤ (stW (stepG.exec p main listen fr callers dying w)).drawn := by
  unfold stepG.exec
  simp only []
  repeat' first
    | exact Nat.le_refl _
    | exact apply_le _ _ _ _ _ _ _
    | exact oper_le _ _ _ _ _ _
    | (refine elim_le _ _ _ _ ?_ (fun _ => ?_))
    | rw [stW_after]
    | (rw [doReturn_w]; apply runT_ok; assumption)
    | (apply runT_ok; assumption)
    | (apply runT_halt; assumption)
    | (apply run_ok; assumption)
    | (apply run_halt; assumption)
    | (refine Nat.le_trans ?_ (apply_le _ _ _ _ _ _ _); apply runT_ok; assumption)
    | split
theorem stepG_le (p : Program) (main : Bool) (g : Goroutine) (w : World) (listen : Bool) : w.drawn ≤ (stW (stepG p main g w listen)).drawn := by
  unfold stepG
  simp only []
  split
  · exact die_le _ _ _ _
  · exact exec_le _ _ _ _ _ _ _
  · exact unwind_le _ _ _ _ _ _
theorem waitingAt_drawn {rest : Rest} {cases : Array CommCase} {w w1 : World} (h : waitingAt rest cases w = some w1) : w.drawn ≤ w1.drawn := by
  unfold waitingAt at h
  repeat' first
    | (cases h; done)
    | (cases h; exact Nat.le_refl _)
    | split at h
theorem chain_oh {α β : Type} {p : Program} {s : Sem α} {t : Sem β} {w w1 w2 : World} {a : α} {b : Halt} (h1 : s.run p w = .ok a w1) (h2 : t.run p w1 = .halt b w2) : w.drawn ≤ w2.drawn := Nat.le_trans (run_ok h1) (run_halt h2)
theorem chain_oo {α β : Type} {p : Program} {s : Sem α} {t : Sem β} {w w1 w2 : World} {a : α} {b : β} (h1 : s.run p w = .ok a w1) (h2 : t.run p w1 = .ok b w2) : w.drawn ≤ w2.drawn := Nat.le_trans (run_ok h1) (run_ok h2)
theorem chain_ooo {α β γ : Type} {p : Program} {s : Sem α} {t : Sem β} {u : Sem γ} {w w1 w2 w3 : World} {a : α} {b : β} {c : γ} (h1 : s.run p w = .ok a w1) (h2 : t.run p w1 = .ok b w2) (h3 : u.run p w2 = .ok c w3) : w.drawn ≤ w3.drawn := Nat.le_trans (chain_oo h1 h2) (run_ok h3)
theorem communicate_le (p : Program) (rest : Rest) (gs : Array Goroutine) (i : Nat) (g : Goroutine) (cases : Array CommCase) (blocking : Bool)
    (shape : CommShape) (w : World) (m' : Machine) (h : (communicate p rest gs i g cases blocking shape w).1 = .next m') : w.drawn ≤ m'.world.drawn := by
  unfold communicate at h
  simp only [] at h
  repeat' first
    | (simp at h; done)
    | (simp only [Stepped.next.injEq] at h; subst h; dsimp only; first
        | exact Nat.le_refl _
        | (apply run_ok; assumption)
        | (apply waitingAt_drawn; assumption)
        | (apply chain_oh; assumption; assumption)
        | (apply chain_oo; assumption; assumption))
    | split at h
theorem look_le (p : Program) (gs : Array Goroutine) (rest : Rest) (w : World) (m' : Machine)
    (h : look p gs rest w = .next m') : w.drawn ≤ m'.world.drawn := by
  unfold look at h
  simp only [] at h
  repeat' first
    | (simp at h; done)
    | (simp only [Stepped.next.injEq] at h; subst h; dsimp only; (apply run_ok; assumption))
    | split at h
theorem drain_drawn (w : World) (c : Nat) : (drain w c).2.drawn = w.drawn := by
  unfold drain; split <;> rfl
theorem retime_drawn (m : Machine) (k : Nat) (t : Timer) (a b : Nat) : (retime m k t a b).2.world.drawn = m.world.drawn := by
  unfold retime
  simp only []
  cases t.chan with
  | some c => exact drain_drawn _ _
  | none => rfl
theorem named_drawn {m m' : Machine} {var : Addr} {f : Nat → Timer → Value × Machine} {v : Value} {d : Nat} (h : timerOp.named m var f = .ok (v, m')) (hf : ∀ k t, (f k t).2.world.drawn = d) : m'.world.drawn = d := by
  unfold timerOp.named at h
  split at h
  · rename_i k _
    simp only [Except.ok.injEq] at h
    have := hf k (m.rest.timers.getD k default)
    rw [h] at this
    exact this
  · cases h
theorem opened_drawn {m m' : Machine} {var : Addr} (h : timerOp.opened m var = some m') : m'.world.drawn = m.world.drawn := by
  unfold timerOp.opened at h
  repeat' first
    | (cases h; done)
    | (cases h; rfl)
    | split at h
theorem timerOp_drawn {m m' : Machine} {op : TimerOp} {v : Value} (h : timerOp m op = .ok (v, m')) : m'.world.drawn = m.world.drawn := by
  unfold timerOp at h
  simp only [] at h
  repeat' first
    | (cases h; done)
    | (cases h; rfl)
    | (exact named_drawn h (fun _ _ => retime_drawn _ _ _ _ _))
    | (rename_i heq; exact named_drawn h (fun _ _ => (retime_drawn _ _ _ _ _).trans (opened_drawn heq)))
    | split at h
theorem back {α : Type} {p : Program} {s : Sem α} {w1 w2 : World} {a : α} {d : Nat} (h : s.run p w1 = .ok a w2) (k : d ≤ w1.drawn) : d ≤ w2.drawn := Nat.le_trans k (run_ok h)
theorem serve_le (p : Program) (m m' : Machine) (k : Nat) (h : serve p m k = .next m') : m.world.drawn ≤ m'.world.drawn := by
  unfold serve at h
  simp only [] at h
  repeat' first
    | (simp at h; done)
    | (simp only [Stepped.next.injEq] at h; subst h; exact Nat.le_refl _)
    | split at h
theorem askOn_go (p : Program) (m m' : Machine) (i : Nat) (h : askOn p m = .goroutine m' i) : m.world.drawn ≤ m'.world.drawn := by
  unfold askOn at h
  simp only [] at h
  repeat' first
    | (simp at h; done)
    | (simp only [Move.goroutine.injEq] at h; obtain ⟨hm, hi⟩ := h; rw [← hm]; clear hm hi; dsimp only [Machine.advanceTo]; repeat (first
        | exact Nat.le_refl _
        | (apply back; assumption)
        | dsimp only [Machine.advanceTo]))
    | split at h
theorem askOn_le (p : Program) (m m' : Machine) (ops : Array MemOp) (h : askOn p m = .machine (.next m') ops) : m.world.drawn ≤ m'.world.drawn := by
  unfold askOn at h
  simp only [] at h
  repeat' first
    | (simp at h; done)
    | (simp only [Move.machine.injEq] at h; refine Nat.le_trans ?_ (serve_le _ _ _ _ h.1); clear h; dsimp only; repeat (first
        | exact Nat.le_refl _
        | (apply back; assumption)))
    | (simp only [Move.machine.injEq, Stepped.next.injEq] at h; obtain ⟨rfl, _⟩ := h; dsimp only [Machine.advanceTo]; repeat (first
        | exact Nat.le_refl _
        | (apply back; assumption)
        | dsimp only [Machine.advanceTo]))
    | split at h
theorem runT_le (p : Program) (m m' : Machine) (i : Nat) (b : Bool) (h : (runT p m i b).1 = .next m') : m.world.drawn ≤ m'.world.drawn := by
  simp only [runT] at h
  revert h
  generalize m.gs.swapAt! _ _ = gg
  have hg := stepG_le p (i == 0) gg.1 m.world b
  revert hg
  generalize stepG p _ gg.1 m.world b = s
  intro hg h
  cases s <;> simp only [] at h <;> dsimp only [stW] at hg
  all_goals first
    | (simp at h; done)
    | (refine Nat.le_trans hg ?_; exact communicate_le _ _ _ _ _ _ _ _ _ _ h)
    | (refine Nat.le_trans hg ?_; exact look_le _ _ _ _ _ h)
    | (simp only [Stepped.next.injEq] at h; subst h; exact hg)
    | (repeat' first
        | (simp at h; done)
        | (simp only [Stepped.next.injEq] at h; subst h; exact hg)
        | (simp only [Stepped.next.injEq] at h; subst h; rename_i heq; exact Nat.le_trans hg (Nat.le_of_eq (timerOp_drawn heq).symm))
        | (rename_i heq; simp only [Stepped.next.injEq] at h; subst h; cases heq; exact hg)
        | split at h)
theorem ask_eq (p : Program) (m : Machine) :
    (∃ m₂, m.world.drawn ≤ m₂.world.drawn ∧ ask p m = askOn p m₂) ∨ (∃ o w, ask p m = .machine (.ended o w) #[]) := by
  unfold ask
  by_cases hw : m.rest.watch = true
  · rw [if_pos hw]
    cases hr : (choose (.extern "collector.look" 2)).run p m.world with
    | halt h w => exact .inr ⟨_, _, rfl⟩
    | ok k world =>
      have hk := run_ok hr
      rcases k with _ | _ | k
      · exact .inl ⟨{ m with world }, hk, rfl⟩
      · show (∃ m₂, m.world.drawn ≤ m₂.world.drawn ∧ (match look p m.gs m.rest world with | .next m => askOn p m | e => Move.machine e) = askOn p m₂) ∨
          (∃ o w, (match look p m.gs m.rest world with | .next m => askOn p m | e => Move.machine e) = .machine (.ended o w) #[])
        cases hl : look p m.gs m.rest world with
        | next m₂ => exact .inl ⟨m₂, Nat.le_trans hk (look_le _ _ _ _ _ hl), rfl⟩
        | ended o w => exact .inr ⟨o, w, rfl⟩
      · exact .inl ⟨{ m with world }, hk, rfl⟩
  · simp only [hw, Bool.false_eq_true, if_false]
    exact .inl ⟨m, Nat.le_refl _, rfl⟩
theorem ask_go (p : Program) (m m' : Machine) (i : Nat) (h : ask p m = .goroutine m' i) : m.world.drawn ≤ m'.world.drawn := by
  rcases ask_eq p m with ⟨m₂, hs, he⟩ | ⟨o, w, he⟩
  · rw [he] at h; exact Nat.le_trans hs (askOn_go p m₂ m' i h)
  · rw [he] at h; cases h
theorem ask_le (p : Program) (m m' : Machine) (ops : Array MemOp) (h : ask p m = .machine (.next m') ops) : m.world.drawn ≤ m'.world.drawn := by
  rcases ask_eq p m with ⟨m₂, hs, he⟩ | ⟨o, w, he⟩
  · rw [he] at h; exact Nat.le_trans hs (askOn_le p m₂ m' ops h)
  · rw [he] at h; simp at h
theorem move_go (p : Program) (m m' : Machine) (i : Nat) (h : move p m = .goroutine m' i) : m.world.drawn ≤ m'.world.drawn := by
  unfold move at h
  repeat' first
    | (simp at h; done)
    | (have := ask_go p _ m' i h; exact this)
    | (simp only [Move.goroutine.injEq] at h; obtain ⟨hm, hi⟩ := h; rw [← hm]; exact Nat.le_refl _)
    | split at h
theorem move_le (p : Program) (m m' : Machine) (ops : Array MemOp) (h : move p m = .machine (.next m') ops) : m.world.drawn ≤ m'.world.drawn := by
  unfold move at h
  repeat' first
    | (simp at h; done)
    | (have := ask_le p _ m' ops h; exact this)
    | split at h
theorem step_le {p : Program} {m m' : Machine} (h : step p m = .next m') : m.world.drawn ≤ m'.world.drawn := by
  simp only [step, stepT] at h
  split at h
  next m₁ i hm => exact Nat.le_trans (move_go p m m₁ i hm) (runT_le p m₁ m' i _ h)
  next s ops hm =>
    simp only [] at h
    subst h
    exact move_le p m m' ops hm
theorem runN_le {p : Program} : ∀ (n : Nat) (m m' : Machine), runN p n m = .next m' → m.world.drawn ≤ m'.world.drawn
  | 0, m, m', h => by simp only [runN, Stepped.next.injEq] at h; rw [h]; exact Nat.le_refl _
  | n + 1, m, m', h => by
    simp only [runN] at h
    cases hs : step p m with
    | next m₁ => rw [hs] at h; exact Nat.le_trans (step_le hs) (runN_le n m₁ m' h)
    | ended o w => rw [hs] at h; simp at h
/-- A call that returns has drawn as often as before, or more. -/
theorem calls_drawn {P : Program} {f : FuncId} {args : Array Value} {w : World} {Q : Ending → World → Prop} (h : Calls P f args w Q) (hQ : ∀ e w', Q e w' → ∃ v, e = .returned v) : Calls P f args w fun e w' => Q e w' ∧ w.drawn ≤ w'.drawn := by
  intro cs
  obtain ⟨e, w', fr, hq, hc, hf, hl⟩ := h cs
  obtain ⟨v, rfl⟩ := hQ e w' hq
  refine ⟨_, w', fr, ⟨hq, ?_⟩, hc, hf, hl⟩
  obtain ⟨n, hn⟩ := (show Steps P _ _ from hc)
  exact runN_le n _ _ hn
/-- So what stands below is the old world, grown and drawn from. -/
theorem grow_of_below {w w' : World} (hb : Below w.heap.size w w') (hd : w.drawn ≤ w'.drawn) : ∃ q os, w' = Go.Sort.grow (w.drewN q) os := by
  refine ⟨w'.drawn - w.drawn, w'.heap.extract w.heap.size w'.heap.size, ?_⟩
  obtain ⟨heap', tape', drawn', os', output'⟩ := w'
  obtain ⟨h1, h2, h3, h4, h5⟩ := hb
  simp only at h1 h2 h3 h4 h5 hd
  subst h1 h2 h3
  simp only [Go.Sort.grow, World.drewN]
  congr 1
  · apply Array.ext_getElem?
    intro i
    by_cases hi : i < w.heap.size
    · rw [h5 i hi, Array.getElem?_append_left hi]
    · rw [Array.getElem?_append_right (by omega), Array.getElem?_extract]
      simp only [Nat.min_self]
      by_cases hx : i < heap'.size
      · rw [if_pos (by omega)]; congr 1; omega
      · rw [if_neg (by omega), Array.getElem?_eq_none (by omega)]
  · omega
end Go.Proofs.YthpclmkcljmoeaaDoor.P
