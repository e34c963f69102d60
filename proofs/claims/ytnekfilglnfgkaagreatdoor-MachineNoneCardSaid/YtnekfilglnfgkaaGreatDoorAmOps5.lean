/- Acts that only compute, the end: aggregates built, parts of texts and of slices. -/
import Derived.Test.YtnekfilglnfgkaaGreatDoorAmOps4
import Derived.Great.FillDense
set_option autoImplicit false
set_option linter.unusedVariables false
set_option linter.unusedSimpArgs false
namespace Go.AM
/-- all cells of one cell each -/
def Ones (xs : List Value) : Prop := ∀ x ∈ xs, x.oneCell' = true
section
variable {P : Program} {S : Srel} {x y z : Opd} {ex ey ez : Array Value → Value} {t : TypeId} {xo yo : Operand}
/-- one part's cells go in -/
theorem fold_set (off : Nat) (l : List Value) (cs : Array Value) (h : off + l.length ≤ cs.size) :
    (l.toArray.zipIdx.foldl (fun cs (x : Value × Nat) => cs.setIfInBounds (off + x.2) x.1) cs).toList = cs.toList.take off ++ l ++ cs.toList.drop (off + l.length) := by
  have e : l.toArray.zipIdx.foldl (fun cs (x : Value × Nat) => cs.setIfInBounds (off + x.2) x.1) cs = (l.zipIdx 0).foldl (fun cs (x : Value × Nat) => cs.setIfInBounds (off + x.2) x.1) cs := by
    rw [← Array.foldl_toList, Array.toList_zipIdx]
  obtain ⟨h1, h2⟩ := Great.foldl_set off l 0 cs
  rw [e]
  apply List.ext_getElem?
  intro k
  rw [Array.getElem?_toList, h2 k]
  have hlen : (cs.toList.take off).length = off := by simp; omega
  by_cases hk : off + 0 ≤ k ∧ k < off + 0 + l.length ∧ k < cs.size
  · rw [if_pos hk, List.append_assoc, List.getElem?_append_right (by omega), hlen, List.getElem?_append_left (by omega)]
    congr 1
  · rw [if_neg hk]
    by_cases hlt : k < off
    · rw [List.append_assoc, List.getElem?_append_left (by omega), List.getElem?_take_of_lt hlt, Array.getElem?_toList]
    · rw [List.getElem?_append_right (by simp; omega), List.getElem?_drop]
      have : (cs.toList.take off ++ l).length = off + l.length := by simp; omega
      rw [this, Array.getElem?_toList]
      congr 1
      by_cases hk2 : k < cs.size
      · omega
      · omega
theorem VRs.splice {e : Env} {l m : List V} {xs ys : List Value} (h : VRs e l xs) (k : VRs e m ys) (off : Nat) : VRs e (l.take off ++ m ++ l.drop (off + m.length)) (xs.take off ++ ys ++ xs.drop (off + ys.length)) := by
  rw [k.length]
  exact ((h.take off).append k).append (h.drop _)
theorem Ones.splice {xs ys : List Value} (h : Ones xs) (k : Ones ys) (off : Nat) : Ones (xs.take off ++ ys ++ xs.drop (off + ys.length)) := by
  intro x hx
  simp only [List.mem_append] at hx
  rcases hx with (hx | hx) | hx
  · exact h x (List.mem_of_mem_take hx)
  · exact k x hx
  · exact h x (List.mem_of_mem_drop hx)
theorem set_splice {α : Type} (l : List α) (n : Nat) (v : α) (h : n < l.length) : l.set n v = l.take n ++ [v] ++ l.drop (n + [v].length) := by
  rw [List.set_eq_take_append_cons_drop, if_pos h]; simp
/-- a part, and where it goes -/
def Part.off : Part → Nat
  | .one o _ | .many o _ _ => o
inductive PartOK (S : Srel) (place : Nat → Option (Nat × Nat)) : Part → Nat → (Array Value → Value) → Prop
  | one (off i : Nat) (x : Opd) (ev : Array Value → Value) (h : OOK S x ev) (hp : place i = some (off, 1)) : PartOK S place (.one off x) i ev
  | many (off n i : Nat) (x : Opd) (ev : Array Value → Value) (h : OOK S x ev) (hp : place i = some (off, n)) : PartOK S place (.many off n x) i ev
inductive PartsOK (S : Srel) (place : Nat → Option (Nat × Nat)) : List Part → List (Nat × (Array Value → Value)) → Prop
  | nil : PartsOK S place [] []
  | cons (p : Part) (i : Nat) (ev : Array Value → Value) (ps : List Part) (l : List (Nat × (Array Value → Value))) (h : PartOK S place p i ev) (t : PartsOK S place ps l) : PartsOK S place (p :: ps) ((i, ev) :: l)
theorem oneCell_cells {x : Value} (h : x.oneCell' = true) : x.cells = #[x] := by cases x <;> first | rfl | exact absurd h Bool.false_ne_true
theorem fillK_inv {place : Nat → Option (Nat × Nat)} {loc : List V} {vs : Tr V} : ∀ {ps : List Part} {l : List (Nat × (Array Value → Value))} (hp : PartsOK S place ps l) {cs : List V} {K : List V → A}, fillK ps loc vs cs K = true →
    ∃ cs', K cs' = true ∧ cs'.length = cs.length ∧ ∀ e tmps (xs : Array Value), S e loc vs tmps → VRs e cs xs.toList → Ones xs.toList →
      ∃ xs', Instr.fill place xs (l.map fun p => (p.1, p.2 tmps)) = some xs' ∧ VRs e cs' xs'.toList ∧ Ones xs'.toList
  | _, _, .nil, cs, K, h => ⟨cs, h, rfl, fun e tmps xs _ hx h1 => ⟨xs, rfl, hx, h1⟩⟩
  | _, _, .cons _ i ev ps l (.one off _ x _ hx hpl) ht, cs, K, h => by
    have h' : x loc vs (fun v => V.one (setL v off cs fun cs => fillK ps loc vs cs K) v) = true := h
    obtain ⟨v, h1, hv⟩ := hx _ _ _ h'
    obtain ⟨h2, h3⟩ := V.one_inv h1
    obtain ⟨h4, h5⟩ := setL_inv h2
    obtain ⟨cs', h6, h7, h8⟩ := fillK_inv ht h5
    refine ⟨cs', h6, by simpa using h7, fun e tmps xs hS hx1 ho => ?_⟩
    have hone := h3 (hv e tmps hS)
    have hlen := hx1.length
    simp only [Array.length_toList] at hlen
    have hfold := fold_set off [ev tmps] xs (by simp; omega)
    obtain ⟨ys, h9, h10, h11⟩ := h8 e tmps _ hS (by
        rw [hfold, set_splice cs off v h4]
        exact hx1.splice (.cons _ _ _ _ (hv e tmps hS) .nil) off) (by
        rw [hfold]
        exact ho.splice (fun y hy => by simp at hy; subst hy; exact hone) off)
    refine ⟨ys, ?_, h10, h11⟩
    simp only [List.map_cons, Instr.fill, hpl, oneCell_cells hone]
    rw [if_neg (by simp; omega)]
    exact h9
  | _, _, .cons _ i ev ps l (.many off n _ x _ hx hpl) ht, cs, K, h => by
    have h' : x loc vs (fun v => V.onAgg (fun ws => lenL ws 0 fun m => ifK (spliceL ws off cs fun cs => fillK ps loc vs cs K) (F 32) (Nat.beq m n)) v) = true := h
    obtain ⟨v, h1, hv⟩ := hx _ _ _ h'
    obtain ⟨ws, rfl, h2⟩ := V.onAgg_inv h1
    rw [lenL_zero] at h2
    obtain ⟨h3, h4⟩ := ifK_t h2
    have h3 := Nat.eq_of_beq_eq_true h3
    obtain ⟨h5, h6⟩ := spliceL_inv h4
    obtain ⟨cs', h7, h8, h9⟩ := fillK_inv ht h6
    refine ⟨cs', h7, by rw [h8]; simp; omega, fun e tmps xs hS hx1 ho => ?_⟩
    obtain ⟨ys, hy1, hy2, hy3⟩ := (hv e tmps hS).inv_agg
    have hlen := hx1.length
    have hly := hy2.length
    simp only [Array.length_toList] at hlen hly
    have hfold := fold_set off ys.toList xs (by simp; omega)
    obtain ⟨zs, h10, h11, h12⟩ := h9 e tmps _ hS (by rw [hfold]; exact hx1.splice hy2 off) (by rw [hfold]; exact ho.splice hy3 off)
    refine ⟨zs, ?_, h11, h12⟩
    have hc : (ev tmps).cells = ys := by rw [hy1]; rfl
    simp only [List.map_cons, Instr.fill, hpl, hc]
    rw [if_neg (by simp; omega)]
    simpa using h10
theorem fields_places {fs : Array Field} (h : ∀ f ∈ fs.toList, ∃ i, P.info? f.type = some i) (w : World) :
    ((fs.mapM fun f => do pure (f.offset, ← sizeOf f.type) : Sem (Array (Nat × Nat)))).run P w = .ok (fs.map fun f => (f.offset, ((P.info? f.type).map (·.size)).getD 0)) w := by
  rw [Array.mapM_eq_mapM_toList]
  have key : ∀ l : List Field, (∀ f ∈ l, ∃ i, P.info? f.type = some i) → ((l.mapM fun f => do pure (f.offset, ← sizeOf f.type) : Sem (List (Nat × Nat)))).run P w = .ok (l.map fun f => (f.offset, ((P.info? f.type).map (·.size)).getD 0)) w := by
    intro l hl
    induction l with
    | nil => rfl
    | cons f r ih =>
      obtain ⟨i, hi⟩ := hl f (by simp)
      have ih := ih fun g hg => hl g (by simp [hg])
      simp only [List.mapM_cons, Sem.run_bind, run_sizeOf' hi, Result.andThen_ok, Sem.run_pure, ih, List.map_cons, hi, Option.map_some, Option.getD_some]
  simp only [Sem.run_map, key fs.toList h, Result.andThen_ok]
  congr 1
  apply Array.ext'
  simp
theorem PV.buildS {fs : Array Field} {i : TypeInfo} {zv : Value} {z : List V} {ps : List Part} {l : List (Nat × (Array Value → Value))} (ht : P.underlying t = some (.struct fs)) (hi : P.info? t = some i) (hz : i.zero = some zv) (hzv : ∀ e, VRs e z zv.cells.toList) (hz1 : Ones zv.cells.toList)
    (hfs : ∀ f ∈ fs.toList, ∃ i, P.info? f.type = some i) (hp : PartsOK S (fun k => (fs.map fun f => (f.offset, ((P.info? f.type).map (·.size)).getD 0))[k]?) ps l) :
    PV P S (aBuild z ps) (fun tmps => Instr.build t (l.map fun p => (p.1, p.2 tmps)).toArray) := by
  intro loc vs K h
  obtain ⟨cs', h1, h2, h3⟩ := fillK_inv hp h
  refine ⟨_, h1, fun e tmps w hS => ?_⟩
  obtain ⟨xs', h4, h5, h6⟩ := h3 e tmps zv.cells hS (hzv e) hz1
  refine ⟨.agg xs', .agg _ _ h5 h6, ?_⟩
  simp only [Instr.build, Sem.run_bind, run_zeroValue' hi hz, run_underlying' ht, Result.andThen_ok, fields_places hfs, h4, Sem.run_pure]
theorem PV.buildA {n : Nat} {el : TypeId} {i j : TypeInfo} {zv : Value} {z : List V} {ps : List Part} {l : List (Nat × (Array Value → Value))} (ht : P.underlying t = some (.array n el)) (hi : P.info? t = some i) (hz : i.zero = some zv) (hzv : ∀ e, VRs e z zv.cells.toList) (hz1 : Ones zv.cells.toList)
    (hj : P.info? el = some j) (hp : PartsOK S (fun k => some (k * j.size, j.size)) ps l) :
    PV P S (aBuild z ps) (fun tmps => Instr.build t (l.map fun p => (p.1, p.2 tmps)).toArray) := by
  intro loc vs K h
  obtain ⟨cs', h1, h2, h3⟩ := fillK_inv hp h
  refine ⟨_, h1, fun e tmps w hS => ?_⟩
  obtain ⟨xs', h4, h5, h6⟩ := h3 e tmps zv.cells hS (hzv e) hz1
  refine ⟨.agg xs', .agg _ _ h5 h6, ?_⟩
  simp only [Instr.build, Sem.run_bind, run_zeroValue' hi hz, run_underlying' ht, run_sizeOf' hj, Result.andThen_ok, h4, Sem.run_pure]
end
end Go.AM
