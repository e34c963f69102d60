/- What append runs to. -/
import Derived.Test.YtnekfilglnfgkaaGreatDoorAmApp1
set_option autoImplicit false
set_option linter.unusedVariables false
set_option linter.unusedSimpArgs false
namespace Go.AM
section
variable {P : Program}
set_option maxHeartbeats 4000000 in
/-- append that must grow: a new row, of a capacity that is drawn -/
theorem run_append_grow {ts : Array TypeId} {ty t xt el : TypeId} {dx : TypeDesc} {i : TypeInfo} {zv : Value} {base : Option Addr} {sLen sCap n : Nat} {x : Value} {old new : Array Value} {w : World}
    (h0 : ts[0]? = some t) (h1 : ts[1]? = some xt) (ht : P.underlying t = some (.slice el)) (hx : P.underlying xt = some dx) (hd : ∀ k, dx ≠ .int k) (hi : P.info? el = some i) (hz : i.zero = some zv)
    (hl : (Builtin.lenOf x).run P w = .ok n w) (hnew : (Builtin.firstCells i.size n x).run P w.drew = .ok new w.drew)
    (hold : (Builtin.firstCells i.size sLen (.slice base sLen sCap)).run P w.drew = .ok old w.drew)
    (hg : sCap < sLen + n) (hs : sLen + n ≤ 16777216) (hb : i.bytes ≤ 1048576) :
    ∃ cap rest, sLen + n ≤ cap ∧ rest = Builtin.zeroCells zv.cells (cap - (sLen + n)) ∧
      (Builtin.append_ ts ty #[.slice base sLen sCap, x]).run P w = .ok (.slice (some ⟨w.heap.size, 0, none⟩) (sLen + n) cap) (w.drew.alloc (.cells (old ++ new ++ rest) el)) := by
  have hnb : ¬ (Builtin.nextslicecap (sLen + n) sCap * i.bytes > 2 ^ 48) := by
    have h2 := nextcap_le hg
    have h3 : Builtin.nextslicecap (sLen + n) sCap * i.bytes ≤ 33554944 * 1048576 := Nat.mul_le_mul (by omega) hb
    omega
  have hmax : ¬ (9223372036854775807 < (sLen : Int) + (n : Int) ∧ i.bytes = 0) := by omega
  have hnb' : ¬ (281474976710656 < Builtin.nextslicecap (sLen + n) sCap * i.bytes) := by omega
  refine ⟨(sLen + n) + w.tape w.drawn (.appendCap (sLen + n) sCap el) % (2 ^ 63 - (sLen + n)), _, by omega, rfl, ?_⟩
  have hle : ¬ (sLen + n ≤ sCap) := by omega
  cases dx <;> first | exact absurd rfl (hd _) | skip
  all_goals simp [Builtin.append_, h0, h1, run_underlying' ht, run_underlying' hx, run_sizeOf' hi, run_zeroValue' hi hz, hl, hle, typeInfo, hi, hnb', hmax, hnew, hold, newRow, run_choose, Question.forced, Question.cut]
end
end Go.AM
