/- The model's machine, step by step, for one goroutine: what the simulation needs. -/
import Derived.Test.YtnekfilglnfgkaaGreatDoorAmComp3
import Derived.Calls
set_option autoImplicit false
set_option linter.unusedVariables false
set_option linter.unusedSimpArgs false
namespace Go.AMS
/-- a frame that runs -/
abbrev rf (f : Nat) (tmps : Array Value) (todo : List Item) (dfr : List Deferred) (kd : CallKind) (rnd : Option Nat) : Frame :=
  { fn := f, tmps, todo, defers := dfr, mode := .run, kind := kd, roundOf := rnd }
def putTmp (d : Option Tmp) (v : Value) (tmps : Array Value) : Array Value :=
  match d with
  | some t => tmps.setIfInBounds t v
  | none => tmps
section
variable {P : Program} {f : Nat} {tmps : Array Value} {k : List Item} {dfr : List Deferred} {kd : CallKind} {rnd : Option Nat} {cs : List Frame} {w w' : World} {ops : Array Oper} {i : Nat} {rest : List Nat} {o : Oper}
theorem st_skip : step P (lone (rf f tmps (.code .skip :: k) dfr kd rnd) cs w) = .next (lone (rf f tmps k dfr kd rnd) cs w) := step_lone_go (by simp [stepG, stepG.exec])
theorem st_label {l : Nat} : step P (lone (rf f tmps (.code (.label l) :: k) dfr kd rnd) cs w) = .next (lone (rf f tmps k dfr kd rnd) cs w) := step_lone_go (by simp [stepG, stepG.exec])
theorem st_inBlock {id : Nat} : step P (lone (rf f tmps (.inBlock id :: k) dfr kd rnd) cs w) = .next (lone (rf f tmps k dfr kd rnd) cs w) := step_lone_go (by simp [stepG, stepG.exec])
theorem st_inScope {c : Code} : step P (lone (rf f tmps (.inScope c :: k) dfr kd rnd) cs w) = .next (lone (rf f tmps k dfr kd rnd) cs w) := step_lone_go (by simp [stepG, stepG.exec])
theorem st_seq {a b : Code} : step P (lone (rf f tmps (.code (.seq a b) :: k) dfr kd rnd) cs w) = .next (lone (rf f tmps (.code a :: .code b :: k) dfr kd rnd) cs w) := step_lone_go (by simp [stepG, stepG.exec])
theorem st_cond {x : Operand} {a b : Code} {t : Bool} (h : AM.evT tmps x = .bool t) : step P (lone (rf f tmps (.code (.cond x a b) :: k) dfr kd rnd) cs w) = .next (lone (rf f tmps (.code (if t then a else b) :: k) dfr kd rnd) cs w) :=
  step_lone_go (by have := AM.eval_eq (rf f tmps (.code (.cond x a b) :: k) dfr kd rnd); simp only at this; simp [stepG, stepG.exec, this, h])
theorem st_block {id : Nat} {c : Code} : step P (lone (rf f tmps (.code (.block id c) :: k) dfr kd rnd) cs w) = .next (lone (rf f tmps (.code c :: .inBlock id :: k) dfr kd rnd) cs w) := step_lone_go (by simp [stepG, stepG.exec])
theorem st_loop {c : Code} : step P (lone (rf f tmps (.code (.loop c) :: k) dfr kd rnd) cs w) = .next (lone (rf f tmps (.code c :: .inLoop c :: k) dfr kd rnd) cs w) := step_lone_go (by simp [stepG, stepG.exec])
theorem st_inLoop {c : Code} : step P (lone (rf f tmps (.inLoop c :: k) dfr kd rnd) cs w) = .next (lone (rf f tmps (.code c :: .inLoop c :: k) dfr kd rnd) cs w) := step_lone_go (by simp [stepG, stepG.exec])
theorem st_scope {c : Code} : step P (lone (rf f tmps (.code (.scope c) :: k) dfr kd rnd) cs w) = .next (lone (rf f tmps (.code c :: .inScope c :: k) dfr kd rnd) cs w) := step_lone_go (by simp [stepG, stepG.exec])
theorem st_exit {id : Nat} {k' : List Item} (h : exitTo id k = some k') : step P (lone (rf f tmps (.code (.exit id) :: k) dfr kd rnd) cs w) = .next (lone (rf f tmps k' dfr kd rnd) cs w) := step_lone_go (by simp [stepG, stepG.exec, h])
theorem st_ret : step P (lone (rf f tmps (.code .ret :: k) dfr kd none) cs w) = .next (lone { rf f tmps (.code .ret :: k) dfr kd none with mode := .returning } cs w) := step_lone_go (by simp [stepG, stepG.exec])
theorem st_end : step P (lone (rf f tmps [] dfr kd none) cs w) = .next (lone { rf f tmps [] dfr kd none with mode := .returning } cs w) := step_lone_go (by simp [stepG, stepG.exec])
theorem st_region {id : Nat} : step P (lone (rf f tmps (.code (.region id ops false) :: k) dfr kd rnd) cs w) = .next (lone (rf f tmps (.inRegion ops (List.range ops.size) :: k) dfr kd rnd) cs w) := step_lone_go (by simp [stepG, stepG.exec])
theorem st_draw {id : Nat} (hm : P.follows .mixedOrders = true) : ∃ t, step P (lone (rf f tmps (.code (.region id ops true) :: k) dfr kd rnd) cs w) = .next (lone (rf f tmps (.inRegion ops (Region.linearise .any ops t) :: k) dfr kd rnd) cs w.drew) :=
  ⟨w.tape w.drawn (.order f id), step_lone_go (by simp [stepG, stepG.exec, choose, Sem.run, Question.forced, Question.cut, Region.schedule, hm])⟩
theorem st_regionEnd : step P (lone (rf f tmps (.inRegion ops [] :: k) dfr kd rnd) cs w) = .next (lone (rf f tmps k dfr kd rnd) cs w) := step_lone_go (by simp [stepG, stepG.exec])
theorem finish_rf {v : Value} (ho : ops[i]? = some o) : (rf f tmps (.inRegion ops (i :: rest) :: k) dfr kd rnd).finish v = rf f (putTmp o.dst v tmps) (.inRegion ops rest :: k) dfr kd rnd := by
  simp only [Frame.finish, ho, Option.bind_some, putTmp]
  cases o.dst <;> rfl
theorem st_opSkip (ho : ops[i]? = some o) (hw : Region.wanted o (yielded ops tmps) = false) :
    step P (lone (rf f tmps (.inRegion ops (i :: rest) :: k) dfr kd rnd) cs w) = .next (lone (rf f (putTmp o.dst undef tmps) (.inRegion ops rest :: k) dfr kd rnd) cs w) := by
  rw [← finish_rf (f := f) (k := k) (dfr := dfr) (kd := kd) (rnd := rnd) (rest := rest) ho]
  exact step_lone_go (by simp [stepG, stepG.exec, ho, hw])
theorem not_defer {q : Call} {ρ : Operand → Value} (h : o.op = .defer q) {n : Next} (hr : (execOp ρ o).run P w = .ok n w') : ∃ d, n = .defer d := by
  simp only [execOp, h, Sem.run_bind] at hr
  cases hq : (resolve ρ q o.type).run P w with
  | ok d w2 => rw [hq] at hr; simp at hr; exact ⟨d, hr.1.symm⟩
  | halt a b => rw [hq] at hr; simp at hr
theorem stepG_op' (ho : ops[i]? = some o) (hw : Region.wanted o (yielded ops tmps) = true) (hd : rnd = none ∨ ∀ q, o.op ≠ .defer q) :
    stepG P true { frame := rf f tmps (.inRegion ops (i :: rest) :: k) dfr kd rnd, callers := cs, status := .running, dying := none } w =
      stepG.apply P true (rf f tmps (.inRegion ops (i :: rest) :: k) dfr kd rnd) cs none (execOp (AM.evT tmps) o) w := by
  have he := AM.eval_eq (rf f tmps (.inRegion ops (i :: rest) :: k) dfr kd rnd)
  simp only at he
  rcases hd with rfl | hd
  · simp [stepG, stepG.exec, stepG.oper, Frame.oper?, ho, hw, he]
  · cases rnd with
    | none => simp [stepG, stepG.exec, stepG.oper, Frame.oper?, ho, hw, he]
    | some l =>
      cases hop : o.op <;> first
        | exact absurd hop (hd _)
        | simp [stepG, stepG.exec, stepG.oper, Frame.oper?, ho, hw, he, hop]
theorem st_opVal {v : Value} (ho : ops[i]? = some o) (hw : Region.wanted o (yielded ops tmps) = true) (hr : (execOp (AM.evT tmps) o).run P w = .ok (.value v) w' ∨ (execOp (AM.evT tmps) o).run P w = .ok .skip w' ∧ v = undef) :
    step P (lone (rf f tmps (.inRegion ops (i :: rest) :: k) dfr kd rnd) cs w) = .next (lone (rf f (putTmp o.dst v tmps) (.inRegion ops rest :: k) dfr kd rnd) cs w') := by
  have hnd : ∀ q, o.op ≠ .defer q := by
    intro q hq
    rcases hr with hr | ⟨hr, _⟩ <;> · obtain ⟨d, hd⟩ := not_defer hq hr; cases hd
  have hg := stepG_op' (P := P) (f := f) (tmps := tmps) (k := k) (dfr := dfr) (kd := kd) (rnd := rnd) (cs := cs) (w := w) (rest := rest) ho hw (.inr hnd)
  rw [← finish_rf (f := f) (k := k) (dfr := dfr) (kd := kd) (rnd := rnd) (rest := rest) ho]
  refine step_lone_go ?_
  rw [hg]
  rcases hr with hr | ⟨hr, rfl⟩ <;> simp [stepG.apply, hr]
theorem st_opEnter {g : FuncId} {args : Array Value} (ho : ops[i]? = some o) (hw : Region.wanted o (yielded ops tmps) = true) (hr : (execOp (AM.evT tmps) o).run P w = .ok (.enter g args) w') :
    step P (lone (rf f tmps (.inRegion ops (i :: rest) :: k) dfr kd rnd) cs w) = .next (lone (Frame.enter P g args .normal) (rf f tmps (.inRegion ops (i :: rest) :: k) dfr kd rnd :: cs) w') := by
  have hnd : ∀ q, o.op ≠ .defer q := by intro q hq; obtain ⟨d, hd⟩ := not_defer hq hr; cases hd
  have hg := stepG_op' (P := P) (f := f) (tmps := tmps) (k := k) (dfr := dfr) (kd := kd) (rnd := rnd) (cs := cs) (w := w) (rest := rest) ho hw (.inr hnd)
  refine step_lone_go ?_
  rw [hg]; simp [stepG.apply, hr]
theorem st_opRound {l g : Nat} {tm : Array Value} {a b : Code} (ho : ops[i]? = some o) (hw : Region.wanted o (yielded ops tmps) = true) (hr : (execOp (AM.evT tmps) o).run P w = .ok (.round l g tm a b) w') :
    step P (lone (rf f tmps (.inRegion ops (i :: rest) :: k) dfr kd rnd) cs w) = .next (lone (Frame.round l g tm a b .normal) (rf f tmps (.inRegion ops (i :: rest) :: k) dfr kd rnd :: cs) w') := by
  have hnd : ∀ q, o.op ≠ .defer q := by intro q hq; obtain ⟨d, hd⟩ := not_defer hq hr; cases hd
  have hg := stepG_op' (P := P) (f := f) (tmps := tmps) (k := k) (dfr := dfr) (kd := kd) (rnd := rnd) (cs := cs) (w := w) (rest := rest) ho hw (.inr hnd)
  refine step_lone_go ?_
  rw [hg]; simp [stepG.apply, hr]
theorem st_opDefer {d : Deferred} (ho : ops[i]? = some o) (hw : Region.wanted o (yielded ops tmps) = true) (hr : (execOp (AM.evT tmps) o).run P w = .ok (.defer d) w') :
    step P (lone (rf f tmps (.inRegion ops (i :: rest) :: k) dfr kd none) cs w) = .next (lone (rf f (putTmp o.dst undef tmps) (.inRegion ops rest :: k) (d :: dfr) kd none) cs w') := by
  have hg := stepG_op' (P := P) (f := f) (tmps := tmps) (k := k) (dfr := dfr) (kd := kd) (rnd := none) (cs := cs) (w := w) (rest := rest) ho hw (.inl rfl)
  rw [← finish_rf (f := f) (k := k) (dfr := d :: dfr) (kd := kd) (rnd := none) (rest := rest) ho]
  refine step_lone_go ?_
  rw [hg]; simp [stepG.apply, hr]
theorem st_opPanic {v : Value} (ho : ops[i]? = some o) (hw : Region.wanted o (yielded ops tmps) = true) (hr : (execOp (AM.evT tmps) o).run P w = .halt (.panic v) w') :
    step P (lone (rf f tmps (.inRegion ops (i :: rest) :: k) dfr kd rnd) cs w) = .next (lone { rf f tmps (.inRegion ops (i :: rest) :: k) dfr kd rnd with mode := .panicking [{ v, recovered := false }] } cs w') := by
  have hnd : ∀ q, o.op ≠ .defer q := by
    intro q hq
    simp only [execOp, hq, Sem.run_bind] at hr
    cases q with
    | mk callee args ats =>
      cases callee with
      | builtin b => simp [resolve] at hr
      | invoke a b => simp [resolve] at hr
      | value g =>
        simp only [resolve] at hr
        cases hgv : AM.evT tmps g <;> simp [hgv, Deferred.ofValue] at hr
  have hg := stepG_op' (P := P) (f := f) (tmps := tmps) (k := k) (dfr := dfr) (kd := kd) (rnd := rnd) (cs := cs) (w := w) (rest := rest) ho hw (.inr hnd)
  refine step_lone_go ?_
  rw [hg]; simp [stepG.apply, hr, Frame.raise]
theorem st_opRecover (ho : ops[i]? = some o) (hw : Region.wanted o (yielded ops tmps) = true) (hr : (execOp (AM.evT tmps) o).run P w = .ok .recover w') :
    step P (lone (rf f tmps (.inRegion ops (i :: rest) :: k) dfr kd none) cs w) =
      match tryRecover (rf f tmps (.inRegion ops (i :: rest) :: k) dfr kd none) cs with
      | some (v, cs') => .next (lone (rf f (putTmp o.dst v tmps) (.inRegion ops rest :: k) dfr kd none) cs' w')
      | none => .next (lone (rf f (putTmp o.dst .nilIface tmps) (.inRegion ops rest :: k) dfr kd none) cs w') := by
  have hnd : ∀ q, o.op ≠ .defer q := by intro q hq; obtain ⟨d, hd⟩ := not_defer hq hr; cases hd
  have hg := stepG_op' (P := P) (f := f) (tmps := tmps) (k := k) (dfr := dfr) (kd := kd) (rnd := none) (cs := cs) (w := w) (rest := rest) ho hw (.inr hnd)
  cases ht : tryRecover (rf f tmps (.inRegion ops (i :: rest) :: k) dfr kd none) cs with
  | none =>
    dsimp only
    rw [← finish_rf (f := f) (k := k) (dfr := dfr) (kd := kd) (rnd := none) (rest := rest) ho]
    refine step_lone_go ?_
    rw [hg]; simp [stepG.apply, hr, ht]
  | some q =>
    obtain ⟨v, cs'⟩ := q
    dsimp only
    rw [← finish_rf (f := f) (k := k) (dfr := dfr) (kd := kd) (rnd := none) (rest := rest) ho]
    refine step_lone_go ?_
    rw [hg]; simp [stepG.apply, hr, ht]
end
end Go.AMS
