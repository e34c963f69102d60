/- Parts of append: the cells that are read; how far a capacity goes. -/
import Derived.Test.YtnekfilglnfgkaaGreatDoorAmMap3
set_option autoImplicit false
set_option linter.unusedVariables false
set_option linter.unusedSimpArgs false
namespace Go.AM
section
variable {c : Cfg}
/-- what cellsOf gives are the cells of the world -/
theorem cellsOf_inv {H : Tr Ob} {b : P} {o n : Nat} {K : List V → A} (h : cellsOf H b o n K = true) :
    ∃ us, K us = true ∧ us.length = n ∧ ∀ e N w l, WR c e H N w → e b = some l →
      ∃ xs : List Value, xs.length = n ∧ VRs e us xs ∧ Ones xs ∧ (loadCells ⟨l.blk, l.base + o, none⟩ n).run c.p w = .ok xs.toArray w := by
  obtain ⟨ob, h3, h4⟩ := getT_F h
  have fin : ∀ (g : Nat → Option V) (m : Nat) (us : List V), K us = true → us.length = n → o + n ≤ m → (∀ j v, us[j]? = some v → g (o + j) = some v) → (∀ e l co, OR c e l ob co → CellsR e l g m co) →
      ∃ us, K us = true ∧ us.length = n ∧ ∀ e N w l, WR c e H N w → e b = some l →
        ∃ xs : List Value, xs.length = n ∧ VRs e us xs ∧ Ones xs ∧ (loadCells ⟨l.blk, l.base + o, none⟩ n).run c.p w = .ok xs.toArray w := by
    intro g m us hK hl hm hg hr
    refine ⟨us, hK, hl, fun e N w l hW h5 => ?_⟩
    obtain ⟨co, h7, h8, _⟩ := hW.get h3 h5
    obtain ⟨xs, h9, h10, h11, h12⟩ := (hr e l co h8).range (o := 0) h7 us o (by omega) hg
    refine ⟨xs, by omega, h11, h12, ?_⟩
    have := run_loadCells_list (P := c.p) (w := w) ⟨l.blk, l.base + o, none⟩ xs (fun j v hj => by
      have := h10 j v hj
      cases j with
      | zero => simpa [Addr.add] using this
      | succ j => simpa [Addr.add] using this)
    rw [h9, hl] at this
    exact this
  rcases Ob.onCells_inv h4 with ⟨cs, opn, rfl, h5⟩ | ⟨bt, m, rfl, h5⟩ | ⟨bt, m, rfl, h5⟩
  · obtain ⟨h6, h7⟩ := dropL_inv h5
    obtain ⟨h8, h9⟩ := takeL_inv h7
    simp at h8
    refine fin (fun i => cs[i]?) cs.length _ h9 (by simp; omega) (by omega) (fun j v hj => ?_) (fun e l co r => by cases r; assumption)
    rw [List.getElem?_take] at hj
    split at hj
    · rw [List.getElem?_drop] at hj; exact hj
    · cases hj
  · obtain ⟨h6, h7⟩ := ifK_t h5
    obtain ⟨us, h8, h9, h10⟩ := manyB_inv h7
    exact fin (fun i => bt.get i) m us h10 h8 (Nat.le_of_ble_eq_true h6) h9 (fun e l co r => by cases r; assumption)
  · obtain ⟨h6, h7⟩ := ifK_t h5
    obtain ⟨us, h8, h9, h10⟩ := manyB_inv h7
    exact fin (fun i => bt.get i) m us h10 h8 (Nat.le_of_ble_eq_true h6) h9 (fun e l co r => by cases r; assumption)
theorem growBy_le {n : Nat} : ∀ (r k : Nat), k ≤ 2 * n + 512 → Builtin.growBy n r k ≤ 2 * n + 512
  | 0, _, h => h
  | r + 1, k, h => by
    unfold Builtin.growBy
    split
    · exact h
    · exact growBy_le r _ (by omega)
/-- the capacity that append asks for is not far off -/
theorem nextcap_le {n k : Nat} (h : k < n) : Builtin.nextslicecap n k ≤ 2 * n + 512 := by
  unfold Builtin.nextslicecap
  split
  · omega
  · split
    · omega
    · exact growBy_le _ _ (by omega)
end
end Go.AM
