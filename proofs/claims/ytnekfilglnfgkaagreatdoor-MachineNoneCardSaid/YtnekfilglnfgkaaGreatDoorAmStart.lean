/- A call of a program from the start of a row: the worlds in which the abstract machine's run holds. -/
import Derived.Test.YtnekfilglnfgkaaGreatDoorAmCall
import Derived.Lib.LaidTab
set_option autoImplicit false
set_option linter.unusedVariables false
set_option linter.unusedSimpArgs false
namespace Go.AM
/-- a struct type's fields are of the program's types -/
def fieldsB (p : Program) : Bool := p.types.toList.all fun i => match i.desc with
  | .struct fs => fs.toList.all fun f => Nat.blt f.type p.types.size
  | _ => true
theorem fieldsB_ok {p : Program} (h : fieldsB p = true) : ∀ i ∈ p.types.toList, ∀ fs : Array Field, i.desc = .struct fs → ∀ f ∈ fs.toList, ∃ j, p.info? f.type = some j := by
  intro i hi fs hd f hf
  have h1 := List.all_eq_true.1 h i hi
  rw [hd] at h1
  have h2 := Nat.le_of_ble_eq_true (List.all_eq_true.1 h1 f hf)
  exact ⟨p.types[f.type]'h2, by rw [Tables.info?, if_pos (show f.type < p.types.size from h2)]; exact Array.getElem?_eq_getElem h2⟩
/-- no function bears the name of the one that the model answers itself -/
def namesB (p : Program) : Bool := p.funcs.toList.all fun f => match f.body with
  | some _ => !(f.name == "runtime.NumGoroutine")
  | none => true
theorem namesB_ok {p : Program} (h : namesB p = true) : ∀ (g : Nat) (fn : Func), p.funcs[g]? = some fn → fn.body.isSome = true → fn.name ≠ "runtime.NumGoroutine" := by
  intro g fn hg hb hn
  have h1 := List.all_eq_true.1 h fn (Array.mem_toList_iff.2 (Array.mem_of_getElem? hg))
  cases hf : fn.body with
  | none => rw [hf] at hb; cases hb
  | some c => simp [hf, hn] at h1
/-- the names that stand at the start: one for each package-level variable -/
def env0 (w : World) (ng : Nat) : Env := fun q => if q.toNat ≤ ng then some ⟨q.toNat - 1, 0, match w.heap[q.toNat - 1]? with | some (.cells cs _ _) => cs.size | _ => 0⟩ else none
theorem start_WR {p : Program} {w : World} {N : P} (hN : N.toNat = p.globals.size + 1) (hs : p.globals.size ≤ w.heap.size) {H : Tr Ob}
    (hH : ∀ q o, H.get q = some o → ∃ g t n, q.toNat = g + 1 ∧ g < p.globals.size ∧ o = .glob t n ∧ ∃ c ty, w.heap[g]? = some (.cells c ty (0, 0)) ∧ n ≤ c.size ∧ ∀ i v, i < n → t.get i = some v → ∃ x, c[i]? = some x ∧ (∀ e, VR e v x) ∧ x.oneCell' = true) :
    WR (cfg p w) (env0 w p.globals.size) H N w := by
  have he : ∀ q l, env0 w p.globals.size q = some l → q.toNat ≤ p.globals.size ∧ l.blk = q.toNat - 1 ∧ l.base = 0 ∧ l = ⟨q.toNat - 1, 0, match w.heap[q.toNat - 1]? with | some (.cells cs _ _) => cs.size | _ => 0⟩ := by
    intro q l h
    unfold env0 at h
    split at h
    · rename_i hq
      obtain rfl := Option.some.inj h
      exact ⟨hq, rfl, rfl, rfl⟩
    · cases h
  refine ⟨?_, ?_, ?_, ?_, ?_, fun _ _ => rfl, Nat.le_refl _, rfl, rfl, rfl, ?_⟩
  · intro q o l h1 h2
    obtain ⟨g, t, n, h3, h4, rfl, c, ty, h5, h6, h7⟩ := hH q o h1
    obtain ⟨_, _, _, rfl⟩ := he q l h2
    have e1 : q.toNat - 1 = g := by omega
    refine ⟨_, by rw [e1]; exact h5, .glob _ _ _ ⟨c, ty, (0, 0), rfl, by simp only [e1, h5], by simpa using h6, fun i _ _ => by simp, fun i v hi hv => ?_⟩⟩
    obtain ⟨x, h8, h9, h10⟩ := h7 i v hi hv
    exact ⟨x, by simpa using h8, h9 _, h10⟩
  · intro q l h
    obtain ⟨h1, h2, _⟩ := he q l h
    have := P.pos q
    exact ⟨by omega, by omega⟩
  · intro q o h
    obtain ⟨g, _, _, h3, h4, _⟩ := hH q o h
    omega
  · intro q q' o o' l l' h1 h2 h3 h4 h5
    obtain ⟨_, h6, _⟩ := he q l h3
    obtain ⟨_, h7, _⟩ := he q' l' h4
    have := P.pos q
    have := P.pos q'
    exact P.inj (by omega)
  · intro q o l h1 h2 h3
    obtain ⟨g, t, n, _, _, rfl, _⟩ := hH q o h1
    cases h3
  · intro q hq
    have := P.pos q
    exact ⟨⟨q.toNat - 1, 0, _⟩, by unfold env0; rw [if_pos (show q.toNat ≤ p.globals.size from hq)], by show q.toNat - 1 + 1 = q.toNat; omega, rfl⟩
end Go.AM
