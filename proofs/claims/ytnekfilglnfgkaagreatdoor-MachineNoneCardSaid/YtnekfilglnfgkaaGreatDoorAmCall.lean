/- A call that the abstract machine runs to its end ends so in the model, in every world that agrees, whatever is drawn. -/
import Derived.Test.YtnekfilglnfgkaaGreatDoorAmSim3
import Derived.Below
set_option autoImplicit false
set_option linter.unusedVariables false
set_option linter.unusedSimpArgs false
namespace Go.AM
theorem cfg_lc {p : Program} {w : World} {f : Nat} {ix : P} {ps : List (Option P)} {params : Array Tmp} {a b : Code} (h : (cfg p w).lc f ix ps params a b) :
    ∃ fn body, (cfg p w).p.funcs[f]? = some fn ∧ fn.body = some body ∧ (loopsOf body)[ix.toNat - 1]? = some (params, a, b) ∧ PatR ((cfg p w).dst f) ps params.toList := h
theorem callK_calls {p : Program} {w : World} {eqs : List Nat} {live : List Bool} (heqs : ∀ t ∈ eqs, eqType p t = true ∧ p.eqGuardType p.depth t = false)
    (hflds : ∀ i ∈ p.types.toList, ∀ fs : Array Field, i.desc = .struct fs → ∀ f ∈ fs.toList, ∃ j, p.info? f.type = some j)
    (hnum : ∀ (g : Nat) (fn : Func), p.funcs[g]? = some fn → fn.body.isSome = true → fn.name ≠ "runtime.NumGoroutine") (hmix : p.follows .mixedOrders = true)
    {f : Nat} {args : List V} {as : Array Value} {H : Tr Ob} {KE : V → Tr Ob → P → A} {n : Nat} (h : callK p eqs live f args H KE (fun _ _ _ _ _ => F 0) n = true) {e : Env} (hW : ∀ N : P, N.toNat = p.globals.size + 1 → WR (cfg p w) e H N w) (ha : VRs e args as.toList) :
    Calls p f as w fun en w' => ∃ e' v x H' N', en = .returned x ∧ VR e' v x ∧ WR (cfg p w) e' H' N' w' ∧ KE v H' N' = true := by
  obtain ⟨tab, h, hT⟩ := tabK_inv (w := w) heqs hflds h
  obtain ⟨N, hN, h⟩ := pathK_inv h
  have hP : PR (cfg p w) tab := ⟨hT, hnum, fun f ix ps params a b hl => cfg_lc hl, hmix⟩
  intro cs
  obtain ⟨_, e', v, x, H', N', w', fr, h1, h2, h3, h4, h5, h6⟩ := enter_good (KE := KE) (cs0 := cs) (f0 := f) (dk := false) (fs := []) (M := 0) hP (run_good hP n) h ha (.nil 0) (Nat.zero_le _) (hW N hN) rfl
  exact ⟨.returned x, w', fr, ⟨e', v, x, H', N', rfl, h4, h5, h6⟩, h1, h3, h2⟩
/-- what came of the world -/
theorem WR.below {p : Program} {w w' : World} {e : Env} {H : Tr Ob} {N : P} (h : WR (cfg p w) e H N w') : RowKit.Below w.heap.size w w' :=
  ⟨h.os, h.tape, h.output, h.size, fun k hk => h.old k hk⟩
end Go.AM
