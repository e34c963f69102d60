/- What append runs to where the row has room. -/
import Derived.Test.YtnekfilglnfgkaaGreatDoorAmApp2
import Derived.Laws.IdiomCopy
set_option autoImplicit false
set_option linter.unusedVariables false
set_option linter.unusedSimpArgs false
namespace Go.AM
section
variable {P : Program}
set_option maxHeartbeats 4000000 in
/-- append that fits: the cells behind the last element are written -/
theorem run_append_fit {ts : Array TypeId} {ty t xt el : TypeId} {dx : TypeDesc} {i : TypeInfo} {blk off sLen sCap n : Nat} {x : Value} {new : Array Value} {w : World}
    (h0 : ts[0]? = some t) (h1 : ts[1]? = some xt) (ht : P.underlying t = some (.slice el)) (hx : P.underlying xt = some dx) (hd : ∀ k, dx ≠ .int k) (hi : P.info? el = some i)
    (hl : (Builtin.lenOf x).run P w = .ok n w) (hnew : (Builtin.firstCells i.size n x).run P w = .ok new w) (hg : sLen + n ≤ sCap)
    (hst : (storeCells ⟨blk, off + sLen * i.size, none⟩ new.toList).run P w = .ok () (w.setCells blk (off + sLen * i.size) new.toList)) :
    (Builtin.append_ ts ty #[.slice (some ⟨blk, off, none⟩) sLen sCap, x]).run P w = .ok (.slice (some ⟨blk, off, none⟩) (sLen + n) sCap) (w.setCells blk (off + sLen * i.size) new.toList) := by
  have hadd : (⟨blk, off, none⟩ : Addr).add (sLen * i.size) = ⟨blk, off + sLen * i.size, none⟩ := by unfold Addr.add; split <;> simp_all
  cases dx <;> first | exact absurd rfl (hd _) | skip
  all_goals simp [Builtin.append_, h0, h1, run_underlying' ht, run_underlying' hx, run_sizeOf' hi, hl, hg, hnew, hadd, hst]
end
end Go.AM
