/- Slices that are made; cells that are written. -/
import Derived.Test.YtnekfilglnfgkaaGreatDoorAmMem1
set_option autoImplicit false
set_option linter.unusedVariables false
set_option linter.unusedSimpArgs false
namespace Go.AM
section
variable {c : Cfg} {S : Srel} {x y z : Opd} {ex ey ez : Array Value → Value} {t : TypeId}
/-- the zeros that a new array is made of -/
theorem zeros_eq {zv : Value} {s n : Nat} (hs : zv.cells.size = s) :
    ∃ q : Array Value, ((n * s = 0 ∧ q = #[]) ∨ (n * s ≠ 0 ∧ q = zv.cells)) ∧ ((Array.range (n * s)).map (q[· % q.size]!)).toList = (List.replicate n zv.cells.toList).flatten := by
  by_cases h0 : n * s = 0
  · refine ⟨#[], .inl ⟨h0, rfl⟩, ?_⟩
    rw [h0]
    rcases Nat.mul_eq_zero.1 h0 with h | h
    · subst h; simp
    · have : zv.cells.toList = [] := by rw [← List.length_eq_zero_iff]; simp; rw [← Array.size_eq_zero_iff]; omega
      rw [this]
      simp
  · refine ⟨zv.cells, .inr ⟨h0, rfl⟩, ?_⟩
    rw [← hs]
    exact zero_cycle zv.cells n (by rw [hs]; intro hh; rw [hh] at h0; simp at h0)
theorem FV.slice {el : TypeId} {i : TypeInfo} {zv : Value} {z : List V} {n : Nat} {ps : List Part} {l : List (Nat × (Array Value → Value))} (ht : c.p.underlying t = some (.slice el)) (hi : c.p.info? el = some i) (hz : i.zero = some zv)
    (hzs : ∀ e, VRs e z zv.cells.toList) (h1 : Ones zv.cells.toList) (hsz : z.length = i.size) (hle : n * i.size ≤ 16777216) (hp : PartsOK S (fun k => some (k * i.size, i.size)) ps l) :
    FV c S (fSlice (List.replicate n z).flatten n ps) (fun tmps => Instr.buildSlice t n (l.map fun p => (p.1, p.2 tmps)).toArray) := by
  intro loc vs K h
  obtain ⟨cs', h2, h3, h4⟩ := fillK_inv hp h
  refine ⟨_, _, h2, rfl, fun e tmps hS => ?_⟩
  have hs : zv.cells.size = i.size := by have := (hzs e).length; simp at this; omega
  obtain ⟨q, hq, hqs⟩ := zeros_eq (n := n) hs
  obtain ⟨xs', h5, h6, h7⟩ := h4 e tmps ((Array.range (n * i.size)).map (q[· % q.size]!)) hS (by rw [hqs]; exact (hzs e).times n) (by rw [hqs]; exact h1.times n)
  refine ⟨.cells xs' el, xs'.size, fun e' blk hle' => .cells cs' false _ (CellsR.all (h6.mono hle') h7), fun w => ⟨.slice (some ⟨w.heap.size, 0, none⟩) n n, ?_, fun e' b hb => ⟨.slc b 0 n n, fun K => rfl, .slc b 0 n n _ hb⟩⟩⟩
  simp only [Instr.buildSlice, Sem.run_bind, run_underlying' ht, run_sizeOf' hi, Result.andThen_ok]
  rw [if_neg (by omega)]
  rcases hq with ⟨h0, rfl⟩ | ⟨h0, rfl⟩
  · rw [if_pos h0]
    simp only [Result.andThen_ok, h5, newRow, Sem.run_bind, run_newObj, Sem.run_pure]
    rfl
  · rw [if_neg h0]
    simp only [run_zeroValue' hi hz, Result.andThen_ok, h5, newRow, Sem.run_bind, run_newObj, Sem.run_pure]
    rfl
theorem FV.make {el : TypeId} {i : TypeInfo} {zv : Value} {z : List V} (ht : c.p.underlying t = some (.slice el)) (hi : c.p.info? el = some i) (hz : i.zero = some zv)
    (hzs : ∀ e, VRs e z zv.cells.toList) (h1 : Ones zv.cells.toList) (hsz : z.length = i.size) (hb : i.bytes ≤ 268435456) (hx : OOK S x ex) (hy : OOK S y ey) :
    FV c S (fMake z x y) (fun tmps => Instr.makeSlice t (ex tmps) (ey tmps)) := by
  intro loc vs K h
  obtain ⟨v, h2, hv⟩ := hx _ _ _ h
  obtain ⟨u, h2, hu⟩ := hy _ _ _ h2
  obtain ⟨k, n, rfl, h3, h4⟩ := inB_inv h2
  obtain ⟨j, m, rfl, h5, h6⟩ := inB_inv h4
  obtain ⟨h7, h8⟩ := ifK_t h6
  have h7 : n ≤ m := Nat.le_of_ble_eq_true h7
  rw [timesL_eq] at h8
  refine ⟨_, _, h8, rfl, fun e tmps hS => ?_⟩
  have hs : zv.cells.size = i.size := by have := (hzs e).length; simp at this; omega
  obtain ⟨q, hq, hqs⟩ := zeros_eq (n := m) hs
  refine ⟨.cells ((Array.range (m * i.size)).map (q[· % q.size]!)) el, _, fun e' blk hle' => .cells _ false _ (CellsR.all (by rw [hqs]; exact (hzs e').times m) (by rw [hqs]; exact h1.times m)),
    fun w => ⟨.slice (some ⟨w.heap.size, 0, none⟩) n m, ?_, fun e' b hb => ⟨.slc b 0 n m, fun K => rfl, .slc b 0 n m _ hb⟩⟩⟩
  have hn : IntKind.i64.wrap (n : Int) = n := wrap_small (k := .i64) (m := n) (by simp only [kMax]; omega)
  have hm : IntKind.i64.wrap (m : Int) = m := wrap_small (k := .i64) (m := m) (by simp only [kMax]; omega)
  have e1 := (hv e tmps hS).inv_int
  have e2 := (hu e tmps hS).inv_int
  rw [Int.ofNat_eq_natCast] at e1 e2
  have hbig : ((i.bytes : Int) * (m : Int)) ≤ 281474976710656 := by
    have h3 : i.bytes * m ≤ 281474976710656 := Nat.le_trans (Nat.mul_le_mul hb (show m ≤ 1048576 by omega)) (by decide)
    rw [← Int.natCast_mul]
    exact Int.ofNat_le.2 h3
  have hc : (decide ((m : Int) < 0) || decide ((i.bytes : Int) * (m : Int) > 2 ^ 48) || decide ((n : Int) < 0) || decide ((n : Int) > (m : Int))) = false := by
    have a1 : decide ((m : Int) < 0) = false := decide_eq_false (by omega)
    have a2 : decide ((i.bytes : Int) * (m : Int) > 2 ^ 48) = false := decide_eq_false (by rw [show ((2 : Int) ^ 48) = 281474976710656 from rfl]; omega)
    have a3 : decide ((n : Int) < 0) = false := decide_eq_false (by omega)
    have a4 : decide ((n : Int) > (m : Int)) = false := decide_eq_false (by omega)
    rw [a1, a2, a3, a4]; rfl
  simp only [Instr.makeSlice, e1, e2, Sem.run_bind, run_underlying' ht, Result.andThen_ok, asInt, asIntOf, Sem.run_pure, typeInfo, run_program, hi, hn, hm, hc, Bool.false_eq_true, if_false, run_askRoom, run_sizeOf' hi, Int.toNat_natCast]
  rcases hq with ⟨h0, rfl⟩ | ⟨h0, rfl⟩
  · rw [if_pos h0]
    simp only [Result.andThen_ok, newRow, Sem.run_bind, run_newObj, Sem.run_pure]
    rfl
  · rw [if_neg h0]
    simp only [run_zeroValue' hi hz, Result.andThen_ok, newRow, Sem.run_bind, run_newObj, Sem.run_pure]
    rfl
/-! ### Writing cells -/
/-- cells from o on are others -/
def setMany (c : Array Value) : Nat → List Value → Array Value
  | _, [] => c
  | o, v :: vs => setMany (c.setIfInBounds o v) (o + 1) vs
@[simp] theorem size_setMany : ∀ (vs : List Value) (o : Nat) (c : Array Value), (setMany c o vs).size = c.size
  | [], _, _ => rfl
  | v :: vs, o, c => by rw [setMany, size_setMany vs]; simp
theorem get_setMany : ∀ (vs : List Value) (o : Nat) (c : Array Value) (k : Nat), o + vs.length ≤ c.size → (setMany c o vs)[k]? = if o ≤ k ∧ k < o + vs.length then vs[k - o]? else c[k]?
  | [], o, c, k, _ => by rw [setMany, if_neg (by simp only [List.length_nil]; omega)]
  | v :: vs, o, c, k, h => by
    rw [setMany, get_setMany vs (o + 1) _ k (by simp at h ⊢; omega)]
    by_cases hk : k = o
    · subst hk
      have hk : k < c.size := by simp only [List.length_cons] at h; omega
      rw [if_neg (by omega), if_pos (by simp only [List.length_cons]; omega)]
      simp [hk]
    · by_cases h2 : o + 1 ≤ k ∧ k < o + 1 + vs.length
      · rw [if_pos h2, if_pos (by simp; omega), show k - o = (k - (o + 1)) + 1 by omega]; simp
      · rw [if_neg h2, if_neg (by simp; omega), Array.getElem?_setIfInBounds_ne (fun hh => hk hh.symm)]
theorem heap_setCell {w : World} {b o : Nat} {v : Value} {cs : Array Value} {ty : TypeId} {fr : Nat × Nat} (h : w.heap[b]? = some (.cells cs ty fr)) :
    (w.setCell ⟨b, o, none⟩ v).heap = w.heap.setIfInBounds b (.cells (cs.setIfInBounds o v) ty fr) := by
  apply Array.ext_getElem?
  intro k
  have hb : b < w.heap.size := by
    rcases Nat.lt_or_ge b w.heap.size with hh | hh
    · exact hh
    · rw [Array.getElem?_eq_none hh] at h; cases h
  simp only [World.setCell, Array.getElem?_modify]
  by_cases hk : b = k
  · subst hk
    rw [if_pos rfl, h]
    simp [hb]
  · rw [if_neg hk, Array.getElem?_setIfInBounds_ne hk]
theorem heap_setCells : ∀ (vs : List Value) (o : Nat) {w : World} {b : Nat} {cs : Array Value} {ty : TypeId} {fr : Nat × Nat}, w.heap[b]? = some (.cells cs ty fr) →
    (w.setCells b o vs).heap = w.heap.setIfInBounds b (.cells (setMany cs o vs) ty fr) ∧ (w.setCells b o vs).os = w.os ∧ (w.setCells b o vs).tape = w.tape ∧ (w.setCells b o vs).output = w.output
  | [], o, w, b, cs, ty, fr, h => by
    refine ⟨?_, rfl, rfl, rfl⟩
    apply Array.ext_getElem?
    intro k
    show w.heap[k]? = _
    by_cases hk : b = k
    · subst hk
      have hb : b < w.heap.size := by
        rcases Nat.lt_or_ge b w.heap.size with hh | hh
        · exact hh
        · rw [Array.getElem?_eq_none hh] at h; cases h
      rw [h]; simp [hb, setMany]
    · rw [Array.getElem?_setIfInBounds_ne hk]
  | v :: vs, o, w, b, cs, ty, fr, h => by
    have hb : b < w.heap.size := by
      rcases Nat.lt_or_ge b w.heap.size with hh | hh
      · exact hh
      · rw [Array.getElem?_eq_none hh] at h; cases h
    have h1 := heap_setCell (o := o) (v := v) h
    obtain ⟨h2, h3, h4, h5⟩ := heap_setCells vs (o + 1) (w := w.setCell ⟨b, o, none⟩ v) (b := b) (cs := cs.setIfInBounds o v) (ty := ty) (fr := fr) (by rw [h1]; simp [hb])
    refine ⟨?_, h3, h4, h5⟩
    show ((w.setCell ⟨b, o, none⟩ v).setCells b (o + 1) vs).heap = _
    rw [h2, h1, setMany]
    apply Array.ext_getElem?
    intro k
    by_cases hk : b = k
    · subst hk; simp [hb]
    · rw [Array.getElem?_setIfInBounds_ne hk, Array.getElem?_setIfInBounds_ne hk, Array.getElem?_setIfInBounds_ne hk]
/-- cells of a block are written -/
theorem CellsR.set {e : Env} {l : Loc} {g g' : Nat → Option V} {n o : Nat} {cs : Array Value} {ty : TypeId} {fr : Nat × Nat} {us : List V} {xs : List Value} (r : CellsR e l g n (.cells cs ty fr)) (hx : VRs e us xs) (h1 : Ones xs)
    (hn : o + us.length ≤ n) (hg : ∀ k v, g' k = some v → if o ≤ k ∧ k < o + us.length then us[k - o]? = some v else g k = some v) : CellsR e l g' n (.cells (setMany cs (l.base + o) xs) ty fr) := by
  obtain ⟨cs2, ty2, fr2, h2, h3, h4, h5, h6⟩ := r.ex
  cases h2
  have hl := hx.length
  refine ⟨_, ty, fr, rfl, by simpa using h3, by simpa using h4, by simpa using h5, fun i v hi hv => ?_⟩
  have hgi := hg i v hv
  rw [get_setMany _ _ _ _ (by omega)]
  by_cases hk : o ≤ i ∧ i < o + us.length
  · rw [if_pos hk] at hgi
    obtain ⟨x, a, b⟩ := hx.get hgi
    rw [if_pos (by omega), show l.base + i - (l.base + o) = i - o by omega]
    exact ⟨x, a, b, h1 x (List.mem_of_getElem? a)⟩
  · rw [if_neg hk] at hgi
    rw [if_neg (by omega)]
    exact h6 i v hi hgi
theorem CellsR.there {e : Env} {l : Loc} {g : Nat → Option V} {n o m : Nat} {ob : Obj} {w : World} (r : CellsR e l g n ob) (hw : w.heap[l.blk]? = some ob) (hn : o + m ≤ n) : w.there l.blk (l.base + o) m := by
  obtain ⟨cs, ty, fr, rfl, h3, h4, h5, h6⟩ := r.ex
  intro j hj
  refine ⟨?_, ?_⟩
  · rw [cell_at hw]
    have : l.base + o + j < cs.size := by omega
    simp [this]
  · simp only [World.frozen?, hw]
    have := h5 (l.base + o + j) (by omega) (by omega)
    simp only [Bool.and_eq_false_iff, decide_eq_false_iff_not]
    omega
end
end Go.AM
