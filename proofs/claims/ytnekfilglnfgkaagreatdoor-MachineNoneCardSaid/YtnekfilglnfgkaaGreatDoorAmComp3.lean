/- What the compiler makes of calls; and of any operation. -/
import Derived.Test.YtnekfilglnfgkaaGreatDoorAmComp2
set_option autoImplicit false
set_option linter.unusedVariables false
set_option linter.unusedSimpArgs false
namespace Go.AM
section
variable {c : Cfg} {raw : Tr TypeInfo} {fl : Fl} {lt : List (Nat × Option Nat)} {D dsts : Nat → Prop} {E : A} {K : RAct → A} {d : Option P} {dst : Option Tmp} {ty : TypeId} {pos : String} {af : Array Edge} {g : Option (Nat × Bool)}
theorem arr1 {α : Type} {xs : Array α} {a : α} (h : xs.toList = [a]) : xs = #[a] := by apply Array.toList_inj.1; simpa using h
theorem arr2 {α : Type} {xs : Array α} {a b : α} (h : xs.toList = [a, b]) : xs = #[a, b] := by apply Array.toList_inj.1; simpa using h
theorem map1 {α β : Type} (f : α → β) (a : α) : Array.map f #[a] = #[f a] := by simp
theorem map2 {α β : Type} (f : α → β) (a b : α) : Array.map f #[a, b] = #[f a, f b] := by simp
theorem exec_bi (tmps : Array Value) (b : Builtin) (args : Array Operand) (ats : Array TypeId) : execOp (evT tmps) (mkO dst (.call ⟨.builtin b, args, ats⟩) ty pos af g) = builtin b ats ty (args.map fun | .const _ => true | _ => false) (args.map (evT tmps)) := rfl
theorem opc_builtin {b : Builtin} {args : Array Operand} {ats : Array TypeId} (hr : RawR c.p raw) (hfl : FlOK fl dsts) (ha : ∀ x ∈ args.toList, Asks lt D x) (h0 : opK raw fl lt d (.call ⟨.builtin b, args, ats⟩) E K = true) :
    E = true ∨ ∃ a, K a = true ∧ OpR c (SG fl.ng lt D dsts) (mkO dst (.call ⟨.builtin b, args, ats⟩) ty pos af g) d a := by
  have h1 : opdsK fl lt E args.toList (fun xs => builtinK raw d b xs ats.toList E K) = true := by unfold opK at h0; exact h0
  clear h0
  rcases opdsK_inv' hfl ha h1 with h | ⟨xs, h, hxs⟩
  · exact .inl h
  clear h1
  generalize hal : args.toList = al at hxs
  cases b with
  | len =>
    cases hxs with
    | nil => unfold builtinK at h; exact .inl h
    | cons f x fs xs' hf ht =>
      cases ht with
      | cons => unfold builtinK at h; exact .inl h
      | nil =>
        cases hts : ats.toList with
        | nil => rw [hts] at h; unfold builtinK at h; exact .inl h
        | cons t r =>
          cases r with
          | cons => rw [hts] at h; unfold builtinK at h; exact .inl h
          | nil =>
            rw [hts] at h
            unfold builtinK at h
            obtain rfl := arr1 hal
            obtain rfl := arr1 hts
            obtain ⟨ds, i, h1, h2, h⟩ := typeK_inv hr h
            cases ds with
            | string => exact .inr ⟨_, h, .ofP (PV.lenS (ts := #[t]) (ty := ty) h1 rfl hf) (fun tmps w x hh => by rw [exec_bi]; (first | rw [map1 (evT tmps)] | rw [map2 (evT tmps)]); exact run_NV hh)⟩
            | slice el => exact .inr ⟨_, h, .ofP (PV.lenSl (ts := #[t]) (ty := ty) h1 rfl hf) (fun tmps w x hh => by rw [exec_bi]; (first | rw [map1 (evT tmps)] | rw [map2 (evT tmps)]); exact run_NV hh)⟩
            | map k el => exact .inr ⟨_, h, .ofR (RV.lenM (ts := #[t]) (ty := ty) h1 rfl hf) (fun tmps w x hh => by rw [exec_bi]; (first | rw [map1 (evT tmps)] | rw [map2 (evT tmps)]); exact run_NV hh)⟩
            | _ => exact .inl h
  | append =>
    cases hxs with
    | nil => unfold builtinK at h; exact .inl h
    | cons f x fs xs' hf ht =>
      cases ht with
      | nil => unfold builtinK at h; exact .inl h
      | cons f2 x2 fs2 xs2 hf2 ht2 =>
        cases ht2 with
        | cons => unfold builtinK at h; exact .inl h
        | nil =>
          rcases hts : ats.toList with _ | ⟨t, _ | ⟨u, _ | ⟨t3, r⟩⟩⟩
          · rw [hts] at h; unfold builtinK at h; exact .inl h
          · rw [hts] at h; unfold builtinK at h; exact .inl h
          · rw [hts] at h
            unfold builtinK at h
            obtain rfl := arr2 hal
            obtain rfl := arr2 hts
            obtain ⟨ds, i, h1, h2, h⟩ := typeK_inv hr h
            obtain ⟨du, j, h3, h4, h⟩ := typeK_inv hr h
            cases ds with
            | slice el =>
              cases du with
              | slice el' =>
                obtain ⟨d5, i5, h5, h6, h⟩ := typeK_inv hr h
                rw [forceNat_eq] at h
                rcases zeroK_inv hr h with h | ⟨i6, zv, z, h7, h8, h, h9, h10⟩
                · exact .inl h
                obtain rfl := Option.some.inj (h6.symm.trans h7)
                rw [lenL_zero] at h
                rcases ifK_inv h with ⟨g1, h⟩ | ⟨_, h⟩
                · rcases ifK_inv h with ⟨g2, h⟩ | ⟨_, h⟩
                  · rcases ifK_inv h with ⟨_, h⟩ | ⟨g3, h⟩
                    · exact .inl h
                    · refine .inr ⟨_, h, .e _ (EV.congr (EV.app (ts := #[t, u]) (ty := ty) rfl rfl h1 h3 h6 h8 rfl (by rintro hh; rw [hh] at g3; cases g3) (Nat.le_of_ble_eq_true g1) ?_ hf hf2) (fun tmps w => by rw [exec_bi]; (first | rw [map1 (evT tmps)] | rw [map2 (evT tmps)] | skip); rfl))⟩
                      have := (h9 fun _ => none).length
                      simp at this
                      have g2 := Nat.eq_of_beq_eq_true g2
                      omega
                  · exact .inl h
                · exact .inl h
              | _ => exact .inl h
            | _ => exact .inl h
          · rw [hts] at h; unfold builtinK at h; exact .inl h
  | max =>
    cases hxs with
    | nil => unfold builtinK at h; exact .inl h
    | cons f x fs xs' hf ht =>
      cases ht with
      | nil => unfold builtinK at h; exact .inl h
      | cons f2 x2 fs2 xs2 hf2 ht2 =>
        cases ht2 with
        | cons => unfold builtinK at h; exact .inl h
        | nil =>
          rcases hts : ats.toList with _ | ⟨t, _ | ⟨u, _ | ⟨t3, r⟩⟩⟩
          · rw [hts] at h; unfold builtinK at h; exact .inl h
          · rw [hts] at h; unfold builtinK at h; exact .inl h
          · rw [hts] at h
            unfold builtinK at h
            obtain rfl := arr2 hal
            obtain ⟨ds, i, h1, h2, h⟩ := typeK_inv hr h
            cases ds with
            | int k => exact .inr ⟨_, h, .ofP (PV.max hf hf2 (ts := ats) (ty := ty)) (fun tmps w x hh => by rw [exec_bi]; (first | rw [map1 (evT tmps)] | rw [map2 (evT tmps)]); exact run_NV hh)⟩
            | _ => exact .inl h
          · rw [hts] at h; unfold builtinK at h; exact .inl h
  | min =>
    cases hxs with
    | nil => unfold builtinK at h; exact .inl h
    | cons f x fs xs' hf ht =>
      cases ht with
      | nil => unfold builtinK at h; exact .inl h
      | cons f2 x2 fs2 xs2 hf2 ht2 =>
        cases ht2 with
        | cons => unfold builtinK at h; exact .inl h
        | nil =>
          rcases hts : ats.toList with _ | ⟨t, _ | ⟨u, _ | ⟨t3, r⟩⟩⟩
          · rw [hts] at h; unfold builtinK at h; exact .inl h
          · rw [hts] at h; unfold builtinK at h; exact .inl h
          · rw [hts] at h
            unfold builtinK at h
            obtain rfl := arr2 hal
            obtain ⟨ds, i, h1, h2, h⟩ := typeK_inv hr h
            cases ds with
            | int k => exact .inr ⟨_, h, .ofP (PV.min hf hf2 (ts := ats) (ty := ty)) (fun tmps w x hh => by rw [exec_bi]; (first | rw [map1 (evT tmps)] | rw [map2 (evT tmps)]); exact run_NV hh)⟩
            | _ => exact .inl h
          · rw [hts] at h; unfold builtinK at h; exact .inl h
  | delete =>
    cases hxs with
    | nil => unfold builtinK at h; exact .inl h
    | cons f x fs xs' hf ht =>
      cases ht with
      | nil => unfold builtinK at h; exact .inl h
      | cons f2 x2 fs2 xs2 hf2 ht2 =>
        cases ht2 with
        | cons => unfold builtinK at h; exact .inl h
        | nil =>
          rcases hts : ats.toList with _ | ⟨t, _ | ⟨u, _ | ⟨t3, r⟩⟩⟩
          · rw [hts] at h; unfold builtinK at h; exact .inl h
          · rw [hts] at h; unfold builtinK at h; exact .inl h
          · rw [hts] at h
            unfold builtinK at h
            obtain rfl := arr2 hal
            obtain rfl := arr2 hts
            obtain ⟨ds, i, h1, h2, h⟩ := typeK_inv hr h
            cases ds with
            | map kt el =>
              obtain ⟨dk, j, h3, h4, h⟩ := typeK_inv hr h
              rcases kdK_inv (P := c.p) h with h | ⟨kd, h, h5⟩
              · exact .inl h
              · exact .inr ⟨_, h, .e _ (EV.congr (EV.del (ts := #[t, u]) (ty := ty) h1 rfl h3 h5 hf hf2) (fun tmps w => by rw [exec_bi]; (first | rw [map1 (evT tmps)] | rw [map2 (evT tmps)] | skip); rfl))⟩
            | _ => exact .inl h
          · rw [hts] at h; unfold builtinK at h; exact .inl h
  | recover =>
    cases hxs with
    | nil =>
      unfold builtinK at h
      refine .inr ⟨_, h, .e _ (EV.congr EV.rcv (fun tmps w => by rw [exec_bi]; (first | rw [map1 (evT tmps)] | rw [map2 (evT tmps)] | skip); rfl))⟩
    | cons f x fs xs' hf ht => unfold builtinK at h; exact .inl h
  | panic =>
    cases hxs with
    | nil => unfold builtinK at h; exact .inl h
    | cons f x fs xs' hf ht =>
      cases ht with
      | cons => unfold builtinK at h; exact .inl h
      | nil =>
        obtain rfl := arr1 hal
        unfold builtinK at h
        exact .inr ⟨_, h, .e _ (EV.congr (EV.pan hf) (fun tmps w => by rw [exec_bi]; (first | rw [map1 (evT tmps)] | rw [map2 (evT tmps)] | skip); rfl))⟩
  | _ => unfold builtinK at h; exact .inl h
theorem opc_callF {f : FuncId} {args : Array Operand} {ats : Array TypeId} (hr : RawR c.p raw) (hfl : FlOK fl dsts) (ha : ∀ x ∈ args.toList, Asks lt D x) (h : opK raw fl lt d (.call ⟨.value (.func f), args, ats⟩) E K = true) :
    E = true ∨ ∃ a, K a = true ∧ OpR c (SG fl.ng lt D dsts) (mkO dst (.call ⟨.value (.func f), args, ats⟩) ty pos af g) d a := by
  unfold opK at h
  rcases opdsK_inv' hfl ha h with h | ⟨xs, h, hxs⟩
  · exact .inl h
  refine .inr ⟨_, h, .e _ (EV.congr (EV.call hxs.ok) (fun tmps w => ?_))⟩
  rw [args_eq]
  show (do let d ← Deferred.ofValue (.func (.func f) #[] #[]) (args.map (evT tmps)); invoke d.target d.args : Sem Next).run c.p w = _
  simp [Deferred.ofValue, invoke]
theorem opc_callV {f : Operand} {args : Array Operand} {ats : Array TypeId} (hf : ∀ g, f ≠ .func g) (hr : RawR c.p raw) (hfl : FlOK fl dsts) (hx : Asks lt D f) (ha : ∀ x ∈ args.toList, Asks lt D x) (h : opK raw fl lt d (.call ⟨.value f, args, ats⟩) E K = true) :
    E = true ∨ ∃ a, K a = true ∧ OpR c (SG fl.ng lt D dsts) (mkO dst (.call ⟨.value f, args, ats⟩) ty pos af g) d a := by
  have h : opdK fl lt E f (fun f => opdsK fl lt E args.toList fun xs => K (.e (eCallV f xs) d)) = true := by
    cases f with
    | func g => exact absurd rfl (hf g)
    | _ => unfold opK at h; exact h
  rcases argK hx hfl h with h | ⟨fx, h, fx_ok⟩
  · exact .inl h
  rcases opdsK_inv' hfl ha h with h | ⟨xs, h, hxs⟩
  · exact .inl h
  refine .inr ⟨_, h, .e _ (EV.congr (EV.callV fx_ok hxs.ok) (fun tmps w => ?_))⟩
  dsimp only [AM.callV]
  rw [args_eq]
  rfl
theorem opc_defer {q : Call} (hr : RawR c.p raw) (hfl : FlOK fl dsts) (hx : ∀ x ∈ q.operands.toList, Asks lt D x) (h : opK raw fl lt d (.defer q) E K = true) :
    E = true ∨ ∃ a, K a = true ∧ OpR c (SG fl.ng lt D dsts) (mkO dst (.defer q) ty pos af g) d a := by
  obtain ⟨callee, args, ats⟩ := q
  cases callee with
  | builtin b => unfold opK at h; exact .inl h
  | invoke r m => unfold opK at h; exact .inl h
  | value f =>
    unfold opK at h
    rcases argK (hx f (by simp [Call.operands])) hfl h with h | ⟨fx, h, fx_ok⟩
    · exact .inl h
    rcases opdsK_inv' hfl (fun x hx' => hx x (by simp [Call.operands]; exact .inr (by simpa using hx'))) h with h | ⟨xs, h, hxs⟩
    · exact .inl h
    refine .inr ⟨_, h, .e _ (EV.congr (EV.defer fx_ok hxs.ok) (fun tmps w => ?_))⟩
    rw [args_eq]
    rfl
theorem opc_panic {x : Operand} (hr : RawR c.p raw) (hfl : FlOK fl dsts) (hx : Asks lt D x) (h : opK raw fl lt d (.panic x) E K = true) :
    E = true ∨ ∃ a, K a = true ∧ OpR c (SG fl.ng lt D dsts) (mkO dst (.panic x) ty pos af g) d a := by
  unfold opK at h
  rcases argK hx hfl h with h | ⟨fx, h, fx_ok⟩
  · exact .inl h
  exact .inr ⟨_, h, .e _ (EV.congr (EV.pan fx_ok) (fun tmps w => rfl))⟩
theorem opc_call {q : Call} (hr : RawR c.p raw) (hfl : FlOK fl dsts) (hx : ∀ x ∈ q.operands.toList, Asks lt D x) (h : opK raw fl lt d (.call q) E K = true) :
    E = true ∨ ∃ a, K a = true ∧ OpR c (SG fl.ng lt D dsts) (mkO dst (.call q) ty pos af g) d a := by
  obtain ⟨callee, args, ats⟩ := q
  have ha : ∀ x ∈ args.toList, Asks lt D x := fun x hx' => hx x (by simp [Call.operands]; exact .inr (by simpa using hx'))
  cases callee with
  | builtin b => exact opc_builtin hr hfl ha h
  | invoke r m => unfold opK at h; exact .inl h
  | value f =>
    by_cases hf : ∃ g, f = .func g
    · obtain ⟨g, rfl⟩ := hf
      exact opc_callF hr hfl ha h
    · exact opc_callV (fun g hg => hf ⟨g, hg⟩) hr hfl (hx f (by simp [Call.operands])) ha h
/-- the compiler's acts do what the operations do -/
theorem opK_inv {o : Oper} (hr : RawR c.p raw) (hq : ∀ t ∈ fl.eqs, eqType c.p t = true ∧ c.p.eqGuardType c.p.depth t = false) (hi : ∀ i ∈ c.p.types.toList, ∀ fs : Array Field, i.desc = .struct fs → ∀ f ∈ fs.toList, ∃ j, c.p.info? f.type = some j)
    (hfl : FlOK fl dsts) (hx : ∀ x ∈ o.op.operands.toList, Asks lt D x) (h : opK raw fl lt d o.op E K = true) : E = true ∨ ∃ a, K a = true ∧ OpR c (SG fl.ng lt D dsts) o d a := by
  obtain ⟨dst, op, ty, pos, af, g⟩ := o
  dsimp only at h hx
  cases op with
  | move x => exact opc_move hr hfl (hx x (by simp [Op.operands])) h
  | assign x => exact opc_assign hr hfl (hx x (by simp [Op.operands])) h
  | pick x a b => exact opc_pick hr hfl (hx x (by simp [Op.operands])) (hx a (by simp [Op.operands])) (hx b (by simp [Op.operands])) h
  | alloc t => exact opc_alloc hr hfl h
  | box t x => exact opc_box hr hfl (hx x (by simp [Op.operands])) h
  | build t ps => exact opc_build hr hi hfl (fun q hq => hx q.2 (by simp only [Op.operands, List.mem_map]; exact ⟨q, hq, rfl⟩)) h
  | buildSlice t n ps => exact opc_buildSlice hr hfl (fun q hq => hx q.2 (by simp only [Op.operands, List.mem_map]; exact ⟨q, hq, rfl⟩)) h
  | insert t x y z => exact opc_insert hr hfl (hx x (by simp [Op.operands])) (hx y (by simp [Op.operands])) (hx z (by simp [Op.operands])) h
  | load t x => exact opc_load hr hfl (hx x (by simp [Op.operands])) h
  | store t x y => exact opc_store hr hfl (hx x (by simp [Op.operands])) (hx y (by simp [Op.operands])) h
  | nilCheck x => exact opc_nilCheck hr hfl (hx x (by simp [Op.operands])) h
  | binOp op t x y yt => exact opc_binOp hr hq hfl (hx x (by simp [Op.operands])) (hx y (by simp [Op.operands])) h
  | unOp op t x => exact opc_unOp hr hfl (hx x (by simp [Op.operands])) h
  | convert s t x => exact opc_convert hr hfl (hx x (by simp [Op.operands])) h
  | makeInterface t x => exact opc_makeInterface hr hfl (hx x (by simp [Op.operands])) h
  | makeFunc f a q => exact opc_makeFunc hr hfl (fun x hx' => hx x (by simp only [Op.operands, Array.toList_append, List.mem_append]; exact .inl hx')) (fun x hx' => hx x (by simp only [Op.operands, Array.toList_append, List.mem_append]; exact .inr hx')) h
  | makeMap t r => exact opc_makeMap hr hfl h
  | makeSlice t x y => exact opc_makeSlice hr hfl (hx x (by simp [Op.operands])) (hx y (by simp [Op.operands])) h
  | slice t x lo hi' mx => exact opc_slice hr hfl (hx x (by simp [Op.operands])) (fun y hy => hx y (by subst hy; simp [Op.operands])) (fun y hy => hx y (by subst hy; simp [Op.operands])) (fun y hy => hx y (by subst hy; simp [Op.operands])) h
  | fieldAddr s x f => exact opc_fieldAddr hr hfl (hx x (by simp [Op.operands])) h
  | field s x f => exact opc_field hr hfl (hx x (by simp [Op.operands])) h
  | indexAddr t x y => exact opc_indexAddr hr hfl (hx x (by simp [Op.operands])) (hx y (by simp [Op.operands])) h
  | index t x y => exact opc_index hr hfl (hx x (by simp [Op.operands])) (hx y (by simp [Op.operands])) h
  | lookup t x y ok => exact opc_lookup hr hfl (hx x (by simp [Op.operands])) (hx y (by simp [Op.operands])) h
  | mapUpdate t x y z => exact opc_mapUpdate hr hfl (hx x (by simp [Op.operands])) (hx y (by simp [Op.operands])) (hx z (by simp [Op.operands])) h
  | typeAssert x t a ok => exact opc_typeAssert hr hfl (hx x (by simp [Op.operands])) h
  | extract x i => exact opc_extract hr hfl (hx x (by simp [Op.operands])) h
  | call q => exact opc_call hr hfl hx h
  | defer q => exact opc_defer hr hfl hx h
  | panic x => exact opc_panic hr hfl (hx x (by simp [Op.operands])) h
  | _ => unfold opK at h; exact .inl h
end
end Go.AM
