/- The model's machine, step by step: frames left, deferred calls, loops over funcs. -/
import Derived.Test.YtnekfilglnfgkaaGreatDoorAmCode
set_option autoImplicit false
set_option linter.unusedVariables false
set_option linter.unusedSimpArgs false
namespace Go.AMS
section
variable {P : Program} {f : Nat} {tmps : Array Value} {k todo : List Item} {dfr ds : List Deferred} {kd : CallKind} {rnd : Option Nat} {cs : List Frame} {w w' : World}
/-- a frame that is being left -/
abbrev xf (f : Nat) (tmps : Array Value) (todo : List Item) (dfr : List Deferred) (md : FrameMode) (kd : CallKind) (rnd : Option Nat) : Frame :=
  { fn := f, tmps, todo, defers := dfr, mode := md, kind := kd, roundOf := rnd }
theorem run_call {g : FuncId} {args : Array Value} {fn : Func} {b : Code} (hf : P.funcs[g]? = some fn) (hb : fn.body = some b) (hn : fn.name ≠ "runtime.NumGoroutine") : (callFunc g args).run P w = .ok (.enter g args) w := by
  simp [callFunc, hf, hb, hn]
/-- a deferred call -/
theorem st_deferred {md : FrameMode} (hm : md ≠ .run) {g : FuncId} {as qs : Array Value} {fn : Func} {b : Code} (hf : P.funcs[g]? = some fn) (hb : fn.body = some b) (hn : fn.name ≠ "runtime.NumGoroutine") :
    step P (lone (xf f tmps todo ({ target := .fn (.func g) qs, args := as } :: ds) md kd rnd) cs w) = .next (lone (Frame.enter P g (as ++ qs) .deferred) (xf f tmps todo ds md kd rnd :: cs) w) := by
  have hr : (invoke (.fn (.func g) qs) as).run P w = .ok (.enter g (as ++ qs)) w := by simp only [invoke]; exact run_call hf hb hn
  cases md with
  | run => exact absurd rfl hm
  | returning => exact step_lone_go (by simp [stepG, unwind, callDeferred, hr])
  | panicking ch => exact step_lone_go (by simp [stepG, unwind, callDeferred, hr])
/-- the mark of a loop over a func: the calls that its rounds deferred -/
theorem st_collected {md : FrameMode} (hm : md ≠ .run) {b : Nat} {xs : List Deferred} {as : Array Value} (hb : w.heap[b]? = some (.deferred (some xs))) :
    step P (lone (xf f tmps todo ({ target := .collected b, args := as } :: ds) md kd rnd) cs w) = .next (lone (xf f tmps todo (xs ++ ds) md kd rnd) cs { w with heap := w.heap.setIfInBounds b (.deferred none) }) := by
  have hr : (Instr.takeDeferred b).run P w = .ok xs { w with heap := w.heap.setIfInBounds b (.deferred none) } := by
    simp [Instr.takeDeferred, getObj, setObj, Sem.run, hb]
  cases md with
  | run => exact absurd rfl hm
  | returning => exact step_lone_go (by simp [stepG, unwind, hr])
  | panicking ch => exact step_lone_go (by simp [stepG, unwind, hr])
/-- a frame's end, called in an ordinary way -/
theorem st_return {c : Frame} {v : Value} {fn : Func} (hf : P.funcs[f]? = some fn) (hr : (results fn tmps).run P w = .ok v w) :
    step P (lone (xf f tmps todo [] .returning .normal rnd) (c :: cs) w) = .next (lone (c.finish v) cs w) := step_leave_returned ⟨rfl, rfl, rfl, fn, hf, hr⟩
/-- the end of a deferred call -/
theorem st_returnD {c c' : Frame} {v : Value} {fn : Func} (hf : P.funcs[f]? = some fn) (hr : (results fn tmps).run P w = .ok v w)
    (hc : c' = match c.mode with
        | .panicking ({ recovered := true, .. } :: older) =>
          match older.dropWhile (!·.goexit) with
          | [] => { c with mode := .returning }
          | rest => { c with mode := .panicking rest }
        | _ => c) :
    step P (lone (xf f tmps todo [] .returning .deferred rnd) (c :: cs) w) = .next (lone c' cs w) := by
  subst hc
  exact step_lone_go (by simp [stepG, unwind, doReturn, hf, hr]; rfl)
/-- a panic goes on to the caller -/
theorem st_panicked {c : Frame} {ch : List PanicEntry} {fn : Func} (hf : P.funcs[f]? = some fn) :
    step P (lone (xf f tmps todo [] (.panicking ch) kd rnd) (c :: cs) w) = .next (lone (c.raise ch) cs w) := step_leave_panicked ⟨rfl, rfl, fn, hf⟩
/-! ### Loops over funcs -/
theorem run_endRound {l : Nat} {r : Loop} (hl : w.heap[l]? = some (.loop r)) (j : Option Code) :
    (Instr.endRound l j).run P w = .ok (.bool j.isNone) { w with heap := w.heap.setIfInBounds l (.loop { r with state := if j.isNone then .ready else .done, pending := j }) } := by
  simp [Instr.endRound, Instr.getLoop, getObj, setObj, Sem.run, hl]
/-- a round ends -/
theorem st_endRound {l : Nat} {r : Loop} {c : Frame} {j : Option Code} (hl : w.heap[l]? = some (.loop r)) (hj : (todo = [] ∧ j = none) ∨ (∃ k, todo = .code .ret :: k ∧ j = some .ret) ∨ (∃ id k, todo = .code (.exit id) :: k ∧ exitTo id k = none ∧ j = some (.exit id))) :
    step P (lone (rf f tmps todo dfr .normal (some l)) (c :: cs) w) = .next (lone (c.finish (.bool j.isNone)) cs { w with heap := w.heap.setIfInBounds l (.loop { r with state := if j.isNone then .ready else .done, pending := j }) }) := by
  rcases hj with ⟨rfl, rfl⟩ | ⟨k, rfl, rfl⟩ | ⟨id, k, rfl, he, rfl⟩
  · exact step_lone_go (by simp [stepG, stepG.exec, doReturn, run_endRound hl])
  · exact step_lone_go (by simp [stepG, stepG.exec, doReturn, run_endRound hl])
  · exact step_lone_go (by simp [stepG, stepG.exec, doReturn, run_endRound hl, he])
theorem st_endRoundD {l : Nat} {r : Loop} {c c' : Frame} {j : Option Code} (hl : w.heap[l]? = some (.loop r)) (hj : (todo = [] ∧ j = none) ∨ (∃ k, todo = .code .ret :: k ∧ j = some .ret) ∨ (∃ id k, todo = .code (.exit id) :: k ∧ exitTo id k = none ∧ j = some (.exit id)))
    (hc : c' = match c.mode with
        | .panicking ({ recovered := true, .. } :: older) =>
          match older.dropWhile (!·.goexit) with
          | [] => { c with mode := .returning }
          | rest => { c with mode := .panicking rest }
        | _ => c) :
    step P (lone (rf f tmps todo dfr .deferred (some l)) (c :: cs) w) = .next (lone c' cs { w with heap := w.heap.setIfInBounds l (.loop { r with state := if j.isNone then .ready else .done, pending := j }) }) := by
  subst hc
  rcases hj with ⟨rfl, rfl⟩ | ⟨k, rfl, rfl⟩ | ⟨id, k, rfl, he, rfl⟩
  · exact step_lone_go (by simp [stepG, stepG.exec, doReturn, run_endRound hl]; rfl)
  · exact step_lone_go (by simp [stepG, stepG.exec, doReturn, run_endRound hl]; rfl)
  · exact step_lone_go (by simp [stepG, stepG.exec, doReturn, run_endRound hl, he]; rfl)
theorem st_beginRound {l : Nat} {r : Loop} (hl : w.heap[l]? = some (.loop r)) (hs : r.state = .ready) :
    step P (lone (rf f tmps (.beginRound :: k) dfr kd (some l)) cs w) = .next (lone (rf f tmps k dfr kd (some l)) cs { w with heap := w.heap.setIfInBounds l (.loop { r with state := .busy }) }) := by
  have hr : (Instr.beginRound l).run P w = .ok () { w with heap := w.heap.setIfInBounds l (.loop { r with state := .busy }) } := by
    simp [Instr.beginRound, Instr.getLoop, getObj, setObj, Sem.run, hl, hs]
  exact step_lone_go (by simp [stepG, stepG.exec, stepG.apply, hr, Frame.finish])
theorem st_endLoop {l : Nat} {r : Loop} (hl : w.heap[l]? = some (.loop r)) (hs : r.state ≠ .busy) :
    step P (lone (rf f tmps (.endRangeFunc l :: k) dfr kd rnd) cs w) = .next (lone (rf f tmps ((r.pending.map Item.code).toList ++ k) dfr kd rnd) cs { w with heap := w.heap.setIfInBounds l (.loop { r with state := .exhausted }) }) := by
  have hr : (Instr.endLoop l).run P w = .ok r.pending { w with heap := w.heap.setIfInBounds l (.loop { r with state := .exhausted }) } := by
    simp [Instr.endLoop, Instr.getLoop, getObj, setObj, Sem.run, hl]
    exact fun h => absurd h hs
  exact step_lone_go (by simp [stepG, stepG.exec, hr])
/-- a loop over a func begins, outside of other loops' rounds -/
theorem st_enterLoop {x : Operand} {params : Array Tmp} {a b : Code} {g : FuncId} {as qs : Array Value} {fn : Func} {bd : Code} (hx : AM.evT tmps x = .func (.func g) as qs) (hf : P.funcs[g]? = some fn) (hb : fn.body = some bd) (hn : fn.name ≠ "runtime.NumGoroutine") :
    step P (lone (rf f tmps (.code (.rangeFunc x params a b) :: k) dfr kd none) cs w) =
      .next (lone (Frame.enter P g (as ++ #[.func (.yield (w.heap.size + 1)) #[] #[]] ++ qs) .normal)
        (rf f tmps (.inRangeFunc (w.heap.size + 1) :: k) ({ target := .collected w.heap.size, args := #[] } :: dfr) kd none :: cs)
        ((w.alloc (.deferred (some []))).alloc (.loop { state := .ready, pending := none, fn := f, tmps := tmps, params := params, assign := a, body := b, defers := w.heap.size }))) := by
  have hr : (Instr.enterLoop f tmps params a b none).run P w = .ok (w.heap.size + 1, [{ target := .collected w.heap.size, args := #[] }])
      ((w.alloc (.deferred (some []))).alloc (.loop { state := .ready, pending := none, fn := f, tmps := tmps, params := params, assign := a, body := b, defers := w.heap.size })) := by
    simp [Instr.enterLoop]
  have he := AM.eval_eq (rf f tmps (.inRangeFunc (w.heap.size + 1) :: k) ({ target := .collected w.heap.size, args := #[] } :: dfr) kd none)
  have hr2 : ∀ w2, (do let d ← resolve (rf f tmps (.inRangeFunc (w.heap.size + 1) :: k) ({ target := .collected w.heap.size, args := #[] } :: dfr) kd none).eval { callee := .value x, args := #[.const (.func (.yield (w.heap.size + 1)) #[] #[])], argTypes := #[] } 0; invoke d.target d.args : Sem Next).run P w2 =
      .ok (.enter g (as ++ #[.func (.yield (w.heap.size + 1)) #[] #[]] ++ qs)) w2 := by
    intro w2
    have hc : ∀ v, AM.evT tmps (.const v) = v := fun _ => rfl
    rw [he]
    simp [resolve, hx, hc, Deferred.ofValue, invoke, run_call (P := P) (w := w2) hf hb hn]
  refine step_lone_go ?_
  simp only [stepG, stepG.exec, Sem.runT_eq, hr, GStep.bare_after, List.cons_append, List.nil_append]
  simp only [stepG.apply, Sem.runT_eq, hr2, if_true, GStep.bare_after, GStep.bare_go]
/-- the same within a round of another loop -/
theorem st_enterLoopIn {x : Operand} {params : Array Tmp} {a b : Code} {g : FuncId} {as qs : Array Value} {fn : Func} {bd : Code} {l0 : Nat} {r0 : Loop} (hl : w.heap[l0]? = some (.loop r0)) (hx : AM.evT tmps x = .func (.func g) as qs) (hf : P.funcs[g]? = some fn) (hb : fn.body = some bd) (hn : fn.name ≠ "runtime.NumGoroutine") :
    step P (lone (rf f tmps (.code (.rangeFunc x params a b) :: k) dfr kd (some l0)) cs w) =
      .next (lone (Frame.enter P g (as ++ #[.func (.yield w.heap.size) #[] #[]] ++ qs) .normal) (rf f tmps (.inRangeFunc w.heap.size :: k) dfr kd (some l0) :: cs)
        (w.alloc (.loop { state := .ready, pending := none, fn := f, tmps := tmps, params := params, assign := a, body := b, defers := r0.defers }))) := by
  have hr : (Instr.enterLoop f tmps params a b (some l0)).run P w = .ok (w.heap.size, [])
      (w.alloc (.loop { state := .ready, pending := none, fn := f, tmps := tmps, params := params, assign := a, body := b, defers := r0.defers })) := by
    simp [Instr.enterLoop, Instr.getLoop, getObj, Sem.run, hl]
  have he := AM.eval_eq (rf f tmps (.inRangeFunc w.heap.size :: k) dfr kd (some l0))
  have hr2 : ∀ w2, (do let d ← resolve (rf f tmps (.inRangeFunc w.heap.size :: k) dfr kd (some l0)).eval { callee := .value x, args := #[.const (.func (.yield w.heap.size) #[] #[])], argTypes := #[] } 0; invoke d.target d.args : Sem Next).run P w2 =
      .ok (.enter g (as ++ #[.func (.yield w.heap.size) #[] #[]] ++ qs)) w2 := by
    intro w2
    have hc : ∀ v, AM.evT tmps (.const v) = v := fun _ => rfl
    rw [he]
    simp [resolve, hx, hc, Deferred.ofValue, invoke, run_call (P := P) (w := w2) hf hb hn]
  refine step_lone_go ?_
  simp only [stepG, stepG.exec, Sem.runT_eq, hr, GStep.bare_after, List.nil_append]
  simp only [stepG.apply, Sem.runT_eq, hr2, if_true, GStep.bare_after, GStep.bare_go]
/-- a call of a loop's body -/
theorem run_yield {l : Nat} {r : Loop} {args : Array Value} (hl : w.heap[l]? = some (.loop r)) (ha : args.size = r.params.size) :
    (Instr.yield l args).run P w = .ok (.round l r.fn ((r.params.zip args).foldl (fun tmps (x : Tmp × Value) => tmps.setIfInBounds x.1 x.2) r.tmps) r.assign r.body) w := by
  simp [Instr.yield, Instr.getLoop, getObj, Sem.run, hl, ha]
end
end Go.AMS
