/- Acts that read cells, that make memory, and that write cells. -/
import Derived.Test.YtnekfilglnfgkaaGreatDoorAmOps6
import Derived.Deep.MidRow
set_option autoImplicit false
set_option linter.unusedVariables false
set_option linter.unusedSimpArgs false
namespace Go.AM
/-- an act that reads memory -/
def HExt (H H' : Tr Ob) : Prop := ∀ b o, H.get b = some o → H'.get b = some o
def RV (c : Cfg) (S : Srel) (f : RdA) (sem : Array Value → Sem Value) : Prop :=
  ∀ loc vs H K, f loc vs H K = true → ∃ v, K v = true ∧ ∀ H' e N tmps w, HExt H H' → S e loc vs tmps → WR c e H' N w → ∃ x, VR e v x ∧ (sem tmps).run c.p w = .ok x w
theorem Ob.onCells_inv {K : List V → Bool → A} {B G : Bt → Nat → A} {o : Ob} (h : Ob.onCells K B G o = true) :
    (∃ cs opn, o = .cells cs opn ∧ K cs opn = true) ∨ (∃ t n, o = .big t n ∧ B t n = true) ∨ ∃ t n, o = .glob t n ∧ G t n = true := by
  cases o <;> first
    | exact .inl ⟨_, _, rfl, h⟩
    | exact .inr (.inl ⟨_, _, rfl, h⟩)
    | exact .inr (.inr ⟨_, _, rfl, h⟩)
    | exact absurd h Bool.false_ne_true
section
variable {c : Cfg} {S : Srel} {x y z : Opd} {ex ey ez : Array Value → Value} {t : TypeId}
theorem cell_at {w : World} {b i : Nat} {cs : Array Value} {ty : TypeId} {fr : Nat × Nat} (h : w.heap[b]? = some (.cells cs ty fr)) : w.cell? ⟨b, i, none⟩ = cs[i]? := by
  simp [World.cell?, h]
theorem CellsR.cell {e : Env} {l : Loc} {g : Nat → Option V} {n i : Nat} {o : Obj} {w : World} {v : V} (r : CellsR e l g n o) (hw : w.heap[l.blk]? = some o) (hi : i < n) (hv : g i = some v) :
    ∃ x, w.cell? ⟨l.blk, l.base + i, none⟩ = some x ∧ VR e v x ∧ x.oneCell' = true := by
  obtain ⟨cs, ty, fr, rfl, h2, h3, h4, h5⟩ := r.ex
  obtain ⟨x, a, b, d⟩ := h5 i v hi hv
  exact ⟨x, by rw [cell_at hw]; exact a, b, d⟩
theorem CellsR.range {e : Env} {l : Loc} {g : Nat → Option V} {n o : Nat} {ob : Obj} {w : World} (r : CellsR e l g n ob) (hw : w.heap[l.blk]? = some ob) :
    ∀ (vs : List V) (o : Nat), o + vs.length ≤ n → (∀ j v, vs[j]? = some v → g (o + j) = some v) →
      ∃ xs : List Value, xs.length = vs.length ∧ (∀ j u, xs[j]? = some u → w.cell? ⟨l.blk, l.base + o + j, none⟩ = some u) ∧ VRs e vs xs ∧ Ones xs
  | [], o, _, _ => ⟨[], rfl, by simp, .nil, by simp [Ones]⟩
  | v :: vs, o, hn, hg => by
    obtain ⟨x, h1, h2, h3⟩ := r.cell hw (i := o) (by simp at hn; omega) (hg 0 v rfl)
    obtain ⟨xs, h4, h5, h6, h7⟩ := CellsR.range (o := 0) r hw vs (o + 1) (by simp at hn; omega) (fun j u hu => by
      have := hg (j + 1) u (by simpa using hu); rwa [show o + (j + 1) = o + 1 + j by omega] at this)
    refine ⟨x :: xs, by simp [h4], fun j u hu => ?_, .cons _ _ _ _ h2 h6, fun y hy => ?_⟩
    · cases j with
      | zero => simp at hu; subst hu; simpa using h1
      | succ j => have := h5 j u (by simpa using hu); rwa [show l.base + (o + 1) + j = l.base + o + (j + 1) by omega] at this
    · rcases List.mem_cons.1 hy with rfl | hy
      · exact h3
      · exact h7 y hy
theorem aggD_row (d : TypeDesc) : aggD d = d.isRow := by cases d <;> rfl
theorem run_load1 {P : Program} {d : TypeDesc} {w : World} {a : Addr} {u : Value} (ht : P.underlying t = some d) (ha : aggD d = false) (hc : w.cell? a = some u) : (Instr.loadAt t (.pointer (some a))).run P w = .ok u w := by
  simp [Instr.loadAt, Instr.sureAddr, loadVar, run_isAgg' ht, ha, hc]
theorem RV.load1 {d : TypeDesc} (ht : c.p.underlying t = some d) (ha : aggD d = false) (hx : OOK S x ex) : RV c S (rLoad1 x) (fun tmps => Instr.loadAt t (ex tmps)) := by
  intro loc vs H K h
  obtain ⟨v, h1, hv⟩ := hx _ _ _ h
  obtain ⟨b, o, rfl, h2⟩ := V.onPtr_inv h1
  obtain ⟨ob, h3, h4⟩ := getT_F h2
  have fin : ∀ (g : Nat → Option V) (n : Nat) (u : V), K u = true → o < n → g o = some u → (∀ e l co, OR c e l ob co → CellsR e l g n co) →
      ∃ v, K v = true ∧ ∀ H' e N tmps w, HExt H H' → S e loc vs tmps → WR c e H' N w → ∃ x, VR e v x ∧ (Instr.loadAt t (ex tmps)).run c.p w = .ok x w := by
    intro g n u hK hn hg hr
    refine ⟨u, hK, fun H' e N tmps w hE hS hW => ?_⟩
    obtain ⟨l, h5, h6⟩ := (hv e tmps hS).inv_ptr
    obtain ⟨co, h7, h8, _⟩ := hW.get (hE _ _ h3) h5
    obtain ⟨q, h9, h10, _⟩ := (hr e l co h8).cell h7 hn hg
    exact ⟨q, h10, by rw [h6]; exact run_load1 ht ha h9⟩
  rcases Ob.onCells_inv h4 with ⟨cs, opn, rfl, h5⟩ | ⟨bt, n, rfl, h5⟩ | ⟨bt, n, rfl, h5⟩
  · obtain ⟨u, h6, h7⟩ := getL_inv h5
    exact fin (fun i => cs[i]?) cs.length u h7 (by rcases Nat.lt_or_ge o cs.length with hh | hh; exact hh; rw [List.getElem?_eq_none hh] at h6; cases h6) h6 (fun e l co r => by cases r; assumption)
  · obtain ⟨h6, h7⟩ := ifK_t h5
    obtain ⟨u, h8, h9⟩ := getB_inv h7
    exact fin (fun i => bt.get i) n u h9 (Nat.le_of_ble_eq_true h6) h8 (fun e l co r => by cases r; assumption)
  · obtain ⟨h6, h7⟩ := ifK_t h5
    obtain ⟨u, h8, h9⟩ := getB_inv h7
    exact fin (fun i => bt.get i) n u h9 (Nat.le_of_ble_eq_true h6) h8 (fun e l co r => by cases r; assumption)
theorem RV.loadN {d : TypeDesc} {i : TypeInfo} {n : Nat} (ht : c.p.underlying t = some d) (ha : aggD d = true) (hi : c.p.info? t = some i) (hn : n = i.size) (hx : OOK S x ex) : RV c S (rLoadN n x) (fun tmps => Instr.loadAt t (ex tmps)) := by
  intro loc vs H K h
  obtain ⟨v, h1, hv⟩ := hx _ _ _ h
  obtain ⟨b, o, rfl, h2⟩ := V.onPtr_inv h1
  obtain ⟨ob, h3, h4⟩ := getT_F h2
  have fin : ∀ (g : Nat → Option V) (m : Nat) (us : List V), K (.agg us) = true → us.length = n → o + n ≤ m → (∀ j v, us[j]? = some v → g (o + j) = some v) → (∀ e l co, OR c e l ob co → CellsR e l g m co) →
      ∃ v, K v = true ∧ ∀ H' e N tmps w, HExt H H' → S e loc vs tmps → WR c e H' N w → ∃ x, VR e v x ∧ (Instr.loadAt t (ex tmps)).run c.p w = .ok x w := by
    intro g m us hK hl hm hg hr
    refine ⟨_, hK, fun H' e N tmps w hE hS hW => ?_⟩
    obtain ⟨l, h5, h6⟩ := (hv e tmps hS).inv_ptr
    obtain ⟨co, h7, h8, _⟩ := hW.get (hE _ _ h3) h5
    obtain ⟨xs, h9, h10, h11, h12⟩ := (hr e l co h8).range (o := 0) h7 us o (by omega) hg
    refine ⟨.agg xs.toArray, .agg _ _ (by simpa using h11) (by simpa [Ones] using h12), ?_⟩
    rw [h6]
    exact run_loadAt_mid w l.blk (l.base + o) t xs d (fun j u hu => h10 j u hu) ht (by rw [← aggD_row]; exact ha) (by rw [hi]; simp; omega)
  rcases Ob.onCells_inv h4 with ⟨cs, opn, rfl, h5⟩ | ⟨bt, m, rfl, h5⟩ | ⟨bt, m, rfl, h5⟩
  · obtain ⟨h6, h7⟩ := cutN_inv h5
    refine fin (fun i => cs[i]?) cs.length _ h7 (by simp; omega) h6 (fun j v hj => ?_) (fun e l co r => by cases r; assumption)
    rw [List.getElem?_take] at hj
    split at hj
    · rw [List.getElem?_drop] at hj; exact hj
    · cases hj
  · obtain ⟨h6, h7⟩ := ifK_t h5
    obtain ⟨us, h8, h9, h10⟩ := manyB_inv h7
    exact fin (fun i => bt.get i) m us h10 h8 (Nat.le_of_ble_eq_true h6) h9 (fun e l co r => by cases r; assumption)
  · obtain ⟨h6, h7⟩ := ifK_t h5
    obtain ⟨us, h8, h9, h10⟩ := manyB_inv h7
    exact fin (fun i => bt.get i) m us h10 h8 (Nat.le_of_ble_eq_true h6) h9 (fun e l co r => by cases r; assumption)
/-! ### Making memory -/
/-- an act that makes an object: what it is, whatever the world -/
def FV (c : Cfg) (S : Srel) (f : FrA) (sem : Array Value → Sem Value) : Prop :=
  ∀ loc vs K, f loc vs K = true → ∃ o m, K o m = true ∧ o.isGlob = false ∧ ∀ e tmps, S e loc vs tmps → ∃ co size, (∀ e' blk, e.le e' → OR c e' ⟨blk, 0, size⟩ o co) ∧
    ∀ w, ∃ x, (sem tmps).run c.p w = .ok x (w.alloc co) ∧ ∀ e' b, e' b = some ⟨w.heap.size, 0, size⟩ → ∃ v, (∀ K, mkK m b K = K v) ∧ VR e' v x
theorem CellsR.all {e : Env} {blk : Nat} {vs : List V} {xs : Array Value} {ty : TypeId} (h : VRs e vs xs.toList) (h1 : Ones xs.toList) : CellsR e ⟨blk, 0, xs.size⟩ (fun i => vs[i]?) vs.length (.cells xs ty) := by
  have hl := h.length
  simp at hl
  refine ⟨xs, ty, (0, 0), rfl, rfl, by simp; omega, fun i _ _ hh => by omega, fun i v hi hv => ?_⟩
  obtain ⟨x, a, b⟩ := h.get hv
  rw [Array.getElem?_toList] at a
  refine ⟨x, by simpa using a, b, h1 x ?_⟩
  rw [Array.mem_toList_iff]
  exact Array.mem_of_getElem? a
theorem run_new_ptr {P : Program} {t : TypeId} {v : Value} (w : World) : (newVar t v).run P w = .ok ⟨w.heap.size, 0, none⟩ (w.alloc (.cells v.cells t)) := by
  simp [newVar, newRow]
theorem FV.alloc {i : TypeInfo} {zv : Value} {zs : List V} (hi : c.p.info? t = some i) (hz : i.zero = some zv) (hzs : ∀ e, VRs e zs zv.cells.toList) (h1 : Ones zv.cells.toList) :
    FV c S (fAlloc (.cells zs false)) (fun _ => Instr.alloc t true (.tuple #[])) := by
  intro loc vs K h
  refine ⟨_, _, h, rfl, fun e tmps hS => ⟨.cells zv.cells t, zv.cells.size, fun e' blk hle => .cells zs false _ (CellsR.all (hzs e') h1), fun w => ⟨.pointer (some ⟨w.heap.size, 0, none⟩), ?_, fun e' b hb => ⟨.ptr b 0, fun K => rfl, ?_⟩⟩⟩⟩
  · simp only [Instr.alloc, Sem.run_bind, run_zeroValue' hi hz, Result.andThen_ok, run_new_ptr, Sem.run_pure]
  · exact .ptr b 0 _ hb
/-- a tree holds the cells of a list -/
theorem FV.allocB {i : TypeInfo} {zv : Value} {zs : List V} {bt : Bt} {n : Nat} (hi : c.p.info? t = some i) (hz : i.zero = some zv) (hzs : ∀ e, VRs e zs zv.cells.toList) (h1 : Ones zv.cells.toList) (hn : n ≤ zs.length)
    (hb : ∀ j v, j < n → bt.get j = some v → zs[j]? = some v) : FV c S (fAlloc (.big bt n)) (fun _ => Instr.alloc t true (.tuple #[])) := by
  intro loc vs K h
  refine ⟨_, _, h, rfl, fun e tmps hS => ⟨.cells zv.cells t, zv.cells.size, fun e' blk hle => .big bt n _ ?_, fun w => ⟨.pointer (some ⟨w.heap.size, 0, none⟩), ?_, fun e' b hb => ⟨.ptr b 0, fun K => rfl, ?_⟩⟩⟩⟩
  · obtain ⟨cs, ty, fr, h2, h3, h4, h5, h6⟩ := (CellsR.all (blk := blk) (ty := t) (hzs e') h1).ex
    exact ⟨cs, ty, fr, h2, h3, by simp at h4 ⊢; omega, h5, fun j v hj hv => h6 j v (by omega) (hb j v hj hv)⟩
  · simp only [Instr.alloc, Sem.run_bind, run_zeroValue' hi hz, Result.andThen_ok, run_new_ptr, Sem.run_pure]
  · exact .ptr b 0 _ hb
theorem FV.box1 (hx : OOK S x ex) : FV c S (fBox1 x) (fun tmps => Instr.box t (ex tmps)) := by
  intro loc vs K h
  obtain ⟨v, h1, hv⟩ := hx _ _ _ h
  obtain ⟨h2, h3⟩ := V.one_inv h1
  refine ⟨_, _, h2, rfl, fun e tmps hS => ?_⟩
  have hone := h3 (hv e tmps hS)
  refine ⟨.cells #[ex tmps] t, 1, fun e' blk hle => .cells [v] false _ ?_, fun w => ⟨.pointer (some ⟨w.heap.size, 0, none⟩), ?_, fun e' b hb => ⟨.ptr b 0, fun K => rfl, ?_⟩⟩⟩
  · exact CellsR.all (xs := #[ex tmps]) (.cons _ _ _ _ ((hv e tmps hS).mono hle) .nil) (fun y hy => by simp at hy; subst hy; exact hone)
  · simp only [Instr.box, Sem.run_bind, run_new_ptr, Result.andThen_ok, Sem.run_pure, oneCell_cells hone]
  · exact .ptr b 0 _ hb
theorem FV.boxN (hx : OOK S x ex) : FV c S (fBoxN x) (fun tmps => Instr.box t (ex tmps)) := by
  intro loc vs K h
  obtain ⟨v, h1, hv⟩ := hx _ _ _ h
  obtain ⟨l, rfl, h2⟩ := V.onAgg_inv h1
  refine ⟨_, _, h2, rfl, fun e tmps hS => ?_⟩
  obtain ⟨cs, h3, h4, h5⟩ := (hv e tmps hS).inv_agg
  refine ⟨.cells cs t, cs.size, fun e' blk hle => .cells l false _ (CellsR.all (h4.mono hle) h5), fun w => ⟨.pointer (some ⟨w.heap.size, 0, none⟩), ?_, fun e' b hb => ⟨.ptr b 0, fun K => rfl, ?_⟩⟩⟩
  · simp only [Instr.box, Sem.run_bind, run_new_ptr, Result.andThen_ok, Sem.run_pure, h3, Value.cells]
  · exact .ptr b 0 _ hb
theorem FV.map : FV c S fMap (fun _ => Instr.makeMap t none) := by
  intro loc vs K h
  refine ⟨_, _, h, rfl, fun e tmps hS => ⟨.map #[] 0, 0, fun e' blk hle => .map [] _ ⟨#[], 0, rfl, ⟨[], by simp, .nil, .nil⟩, by simp, ⟨0, by simp⟩, by simp, by simp⟩, fun w => ⟨.map (some w.heap.size), ?_, fun e' b hb => ⟨.map b, fun K => rfl, ?_⟩⟩⟩⟩
  · simp [Instr.makeMap]
  · exact .map b _ hb
theorem zero_cycle (z : Array Value) (n : Nat) (hz : z.size ≠ 0) : ((Array.range (n * z.size)).map (z[· % z.size]!)).toList = (List.replicate n z.toList).flatten := by
  apply List.ext_getElem?
  intro k
  induction n generalizing k with
  | zero => simp
  | succ n ih =>
    rw [List.replicate_succ, List.flatten_cons]
    by_cases hk : k < z.size
    · rw [List.getElem?_append_left (by simpa using hk)]
      have : k < (n + 1) * z.size := by rw [Nat.add_mul]; omega
      simp [this, Nat.mod_eq_of_lt hk, hk]
    · rw [List.getElem?_append_right (by simp; omega), ← ih]
      have e : (k < (n + 1) * z.size) ↔ (k - z.size < n * z.size) := by rw [Nat.add_mul]; omega
      by_cases h2 : k < (n + 1) * z.size
      · have h3 := e.1 h2
        have hm : k % z.size = (k - z.size) % z.size := by rw [Nat.mod_eq_sub_mod (by omega)]
        simp [h2, h3, hm]
      · have h3 : ¬ (k - z.size < n * z.size) := fun hh => h2 (e.2 hh)
        simp [h2, h3]
theorem VRs.times {e : Env} {z : List V} {xs : List Value} (h : VRs e z xs) : ∀ n, VRs e (List.replicate n z).flatten (List.replicate n xs).flatten
  | 0 => .nil
  | n + 1 => by rw [List.replicate_succ, List.replicate_succ, List.flatten_cons, List.flatten_cons]; exact h.append (h.times n)
theorem Ones.times {xs : List Value} (h : Ones xs) (n : Nat) : Ones (List.replicate n xs).flatten := by
  intro x hx
  simp only [List.mem_flatten, List.mem_replicate] at hx
  obtain ⟨l, ⟨_, rfl⟩, hx⟩ := hx
  exact h x hx
end
end Go.AM
