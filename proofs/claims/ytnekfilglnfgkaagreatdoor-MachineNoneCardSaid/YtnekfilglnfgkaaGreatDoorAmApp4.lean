/- Append: an act. -/
import Derived.Test.YtnekfilglnfgkaaGreatDoorAmApp3
set_option autoImplicit false
set_option linter.unusedVariables false
set_option linter.unusedSimpArgs false
namespace Go.AM
section
variable {c : Cfg} {S : Srel} {x y z : Opd} {ex ey ez : Array Value → Value}
/-- what is appended -/
theorem src_inv {es : Nat} {H : Tr Ob} {w : V} {src : Nat → List V → A}
    (h : V.onSl (fun b o n _ => cellsOf H b o (Nat.mul n es) (src n)) (fun b o n _ => cellsOf H b o (Nat.mul n es) (src n)) (src 0 []) (src 0 []) w = true) :
    ∃ n ws, src n ws = true ∧ ws.length = n * es ∧ ∀ e x, VR e w x → (∀ W, (Builtin.lenOf x).run c.p W = .ok n W) ∧
      ∀ N W, WR c e H N W → ∃ xs : List Value, VRs e ws xs ∧ Ones xs ∧ (Builtin.firstCells es n x).run c.p W = .ok xs.toArray W := by
  rcases V.onSl_inv h with ⟨b, o, n, cp, rfl, h2⟩ | ⟨b, o, n, q, rfl, h2⟩ | ⟨rfl, h2⟩ | ⟨rfl, h2⟩
  · obtain ⟨us, h3, h4, h5⟩ := cellsOf_inv (c := c) h2
    refine ⟨n, us, h3, h4, fun e x hx => ?_⟩
    obtain ⟨l, h6, rfl⟩ := hx.inv_slc
    refine ⟨fun W => by simp [Builtin.lenOf], fun N W hW => ?_⟩
    obtain ⟨xs, h7, h8, h9, h10⟩ := h5 e N W l hW h6
    exact ⟨xs, h8, h9, by simp only [Builtin.firstCells]; exact h10⟩
  · obtain ⟨us, h3, h4, h5⟩ := cellsOf_inv (c := c) h2
    refine ⟨n, us, h3, h4, fun e x hx => ?_⟩
    obtain ⟨l, cp, h6, _, _, rfl⟩ := hx.inv_slo
    refine ⟨fun W => by simp [Builtin.lenOf], fun N W hW => ?_⟩
    obtain ⟨xs, h7, h8, h9, h10⟩ := h5 e N W l hW h6
    exact ⟨xs, h8, h9, by simp only [Builtin.firstCells]; exact h10⟩
  · refine ⟨0, [], h2, by simp, fun e x hx => ?_⟩
    have := hx.inv_nslc
    subst this
    exact ⟨fun W => by simp [Builtin.lenOf], fun N W hW => ⟨[], .nil, by simp [Ones], by simp [Builtin.firstCells]⟩⟩
  · refine ⟨0, [], h2, by simp, fun e x hx => ?_⟩
    obtain ⟨a, cp, rfl⟩ := hx.inv_esl
    exact ⟨fun W => by simp [Builtin.lenOf], fun N W hW => ⟨[], .nil, by simp [Ones], by simp [Builtin.firstCells, loadCells, loadCellsFrom]⟩⟩
/-- cells behind a slice's last element are written -/
theorem inPlace_inv {b : P} {o : Nat} {ws : List V} {H : Tr Ob} {K : Tr Ob → A} (h : inPlace b o ws H K = true) :
    ∃ ob', K (H.put (some ob') b) = true ∧ ∀ e N W l xs, WR c e H N W → e b = some l → VRs e ws xs → Ones xs → WR c e (H.put (some ob') b) N (W.setCells l.blk (l.base + o) xs) ∧
      (storeCells ⟨l.blk, l.base + o, none⟩ xs).run c.p W = .ok () (W.setCells l.blk (l.base + o) xs) ∧ ∃ n, o + ws.length ≤ n ∧ l.base + n ≤ l.size := by
  obtain ⟨ob, h3, h4⟩ := getT_F h
  have fin : ∀ (g g' : Nat → Option V) (m : Nat) (ob' : Ob), K (H.put (some ob') b) = true → o + ws.length ≤ m → (∀ k v, g' k = some v → if o ≤ k ∧ k < o + ws.length then ws[k - o]? = some v else g k = some v) → ob.isGlob = false → ob'.isGlob = false →
      (∀ e l co, OR c e l ob co → CellsR e l g m co) → (∀ e l co, CellsR e l g' m co → OR c e l ob' co) →
      ∃ ob', K (H.put (some ob') b) = true ∧ ∀ e N W l xs, WR c e H N W → e b = some l → VRs e ws xs → Ones xs → WR c e (H.put (some ob') b) N (W.setCells l.blk (l.base + o) xs) ∧
        (storeCells ⟨l.blk, l.base + o, none⟩ xs).run c.p W = .ok () (W.setCells l.blk (l.base + o) xs) ∧ ∃ n, o + ws.length ≤ n ∧ l.base + n ≤ l.size := by
    intro g g' m ob' hK hm hg hng hng' hr hr'
    refine ⟨ob', hK, fun e N W l xs hW h5 hxv hxo => ?_⟩
    obtain ⟨co, h7, h8, _⟩ := hW.get h3 h5
    have hc := hr e l co h8
    have hlen := hxv.length
    have hth := hc.there (o := o) (m := xs.length) h7 (by omega)
    obtain ⟨cs, ty, fr, rfl, q3, q4, q5, q6⟩ := hc.ex
    have hset := hc.set (us := ws) (xs := xs) (o := o) (g' := g') hxv hxo hm hg
    obtain ⟨hheap, a1, a2, a3⟩ := heap_setCells xs (l.base + o) h7
    refine ⟨hW.put h3 h5 hng hng' (hr' e l _ hset) hheap a1 a2 a3, ?_, m, hm, by omega⟩
    exact run_storeCells_cells l.blk (l.base + o) xs 0 W (fun j hj => by simpa using (hth j hj).1) (fun j hj => by simpa using (hth j hj).2) hxo
  rcases Ob.onCells_inv h4 with ⟨cs, opn, rfl, h5⟩ | ⟨bt, m, rfl, h5⟩ | ⟨bt, m, rfl, h5⟩
  · obtain ⟨h6, h7⟩ := spliceL_inv h5
    rw [putT_eq] at h7
    refine fin (fun i => cs[i]?) (fun i => (cs.take o ++ ws ++ cs.drop (o + ws.length))[i]?) cs.length _ h7 h6 (fun k v hk => ?_) rfl rfl (fun e l co r => by cases r; assumption) (fun e l co r => .cells _ _ _ (by
      have : (cs.take o ++ ws ++ cs.drop (o + ws.length)).length = cs.length := by simp; omega
      rw [this]; exact r))
    have hto : (cs.take o).length = o := by simp; omega
    by_cases e1 : o ≤ k ∧ k < o + ws.length
    · rw [if_pos e1]
      rw [List.append_assoc, List.getElem?_append_right (by omega), hto, List.getElem?_append_left (by omega)] at hk
      exact hk
    · rw [if_neg e1]
      by_cases e2 : k < o
      · rw [List.append_assoc, List.getElem?_append_left (by omega), List.getElem?_take_of_lt e2] at hk; exact hk
      · rw [List.getElem?_append_right (by simp; omega), List.getElem?_drop] at hk
        rwa [show o + ws.length + (k - (cs.take o ++ ws).length) = k by simp; omega] at hk
  · exact (F_false h5).elim
  · exact (F_false h5).elim
/-- a name is dropped -/
theorem WR.drop {e : Env} {H : Tr Ob} {N : P} {w : World} (h : WR c e H N w) (b : P) : WR c e (H.put none b) N w := by
  have back : ∀ {b2 : P} {o2 : Ob}, (H.put none b).get b2 = some o2 → H.get b2 = some o2 := fun {b2 o2} h2 => by
    rw [Tr.get_put] at h2
    split at h2
    · cases h2
    · exact h2
  exact ⟨fun b2 o2 l2 h2 e2 => h.obj b2 o2 l2 (back h2) e2, h.dom, fun b2 o2 h2 => h.used b2 o2 (back h2), fun b1 b2 o1 o2 l1 l2 g1 g2 => h.one b1 b2 o1 o2 l1 l2 (back g1) (back g2),
    fun b2 o2 l2 h2 => h.own b2 o2 l2 (back h2), h.old, h.size, h.os, h.tape, h.output, h.glo⟩
/-- a new name for a block whose name was dropped -/
theorem WR.move {e : Env} {H : Tr Ob} {N N' b : P} {w w' : World} (h : WR c e H N w) (hN : N'.toNat = N.toNat + 1) {o ob : Ob} {x : Obj} {l : Loc} (hb : H.get b = some ob) (he : e b = some l) (hg' : ob.isGlob = false) (hg : o.isGlob = false)
    {l' : Loc} (hl : l'.blk = l.blk) (hx : OR c (e.with N l') l' o x) (hw : w'.heap = w.heap.setIfInBounds l.blk x) (h1 : w'.os = w.os) (h2 : w'.tape = w.tape) (h3 : w'.output = w.output) :
    WR c (e.with N l') ((H.put none b).put (some o) N) N' w' := by
  have hle : e.le (e.with N l') := Env.le_with h.fresh
  have hlt := (h.dom b l he).2
  have hown := h.own b ob l hb he hg'
  have hsz : w'.heap.size = w.heap.size := by rw [hw]; simp
  have hback : ∀ b m, b ≠ N → e.with N l' b = some m → e b = some m := fun b m hb hm => by rwa [Env.with_ne _ _ hb] at hm
  have back : ∀ {b2 : P} {o2 : Ob}, b2 ≠ N → ((H.put none b).put (some o) N).get b2 = some o2 → b2 ≠ b ∧ H.get b2 = some o2 := fun {b2 o2} hN2 h2 => by
    rw [Tr.get_put_ne _ _ hN2, Tr.get_put] at h2
    split at h2
    · cases h2
    · rename_i hne; exact ⟨hne, h2⟩
  refine ⟨?_, ?_, ?_, ?_, ?_, ?_, by rw [hsz]; exact h.size, h1.trans h.os, h2.trans h.tape, h3.trans h.output, ?_⟩
  · intro b2 o2 l2 hb2 he2
    by_cases hb' : b2 = N
    · subst hb'
      rw [Tr.get_put_same] at hb2
      obtain rfl := Option.some.inj hb2
      rw [Env.with_same] at he2
      obtain rfl := Option.some.inj he2
      exact ⟨x, by rw [hw, hl]; simp [hlt], hx⟩
    · obtain ⟨hne, hb2⟩ := back hb' hb2
      have he2 := hback _ _ hb' he2
      obtain ⟨y, hy, hr⟩ := h.obj b2 o2 l2 hb2 he2
      refine ⟨y, ?_, hr.mono hle⟩
      have : l2.blk ≠ l.blk := fun hh => hne (h.one b2 b o2 ob l2 l hb2 hb he2 he hh)
      rw [hw, Array.getElem?_setIfInBounds_ne (fun hh => this hh.symm)]
      exact hy
  · intro b2 l2 he2
    by_cases hb' : b2 = N
    · subst hb'; rw [Env.with_same] at he2; obtain rfl := Option.some.inj he2; rw [hsz, hl]; omega
    · have := h.dom b2 l2 (hback _ _ hb' he2); omega
  · intro b2 o2 hb2
    by_cases hb' : b2 = N
    · subst hb'; omega
    · have := h.used b2 o2 (back hb' hb2).2; omega
  · intro b1 b2 o1 o2 l1 l2 g1 g2 e1 e2 hh
    by_cases hb1 : b1 = N <;> by_cases hb2 : b2 = N
    · rw [hb1, hb2]
    · subst hb1
      rw [Env.with_same] at e1
      obtain rfl := Option.some.inj e1
      obtain ⟨hne, g2⟩ := back hb2 g2
      exact absurd (h.one b2 b o2 ob l2 l g2 hb (hback _ _ hb2 e2) he (by omega)) hne
    · subst hb2
      rw [Env.with_same] at e2
      obtain rfl := Option.some.inj e2
      obtain ⟨hne, g1⟩ := back hb1 g1
      exact absurd (h.one b1 b o1 ob l1 l g1 hb (hback _ _ hb1 e1) he (by omega)) hne
    · exact h.one b1 b2 o1 o2 l1 l2 (back hb1 g1).2 (back hb2 g2).2 (hback _ _ hb1 e1) (hback _ _ hb2 e2) hh
  · intro b2 o2 l2 hb2 he2 hg2
    by_cases hb' : b2 = N
    · subst hb'
      rw [Env.with_same] at he2
      obtain rfl := Option.some.inj he2
      omega
    · exact h.own b2 o2 l2 (back hb' hb2).2 (hback _ _ hb' he2) hg2
  · intro i hi
    rw [hw, Array.getElem?_setIfInBounds_ne (by omega)]
    exact h.old i hi
  · intro p hp
    obtain ⟨m, a, b⟩ := h.glo p hp
    exact ⟨m, hle _ _ a, b⟩
theorem newSl_inv {es len : Nat} {cs : List V} {H : Tr Ob} {N : P} {K : V → Tr Ob → P → A} (h : newSl es len cs H N K = true) :
    ∃ N', N'.toNat = N.toNat + 1 ∧ K (.slo N 0 len es) (H.put (some (.cells cs true)) N) N' = true := by
  unfold newSl at h
  rw [putT_eq] at h
  exact succP_inv h
/-- the world behind an append that grew -/
theorem grown {e : Env} {H : Tr Ob} {N N' : P} {w w' : World} {es need cap : Nat} {cs : List V} {el : TypeId} {os rest : List Value} (hW : WR c e H N w) (hN : N'.toNat = N.toNat + 1) (hes : es ≠ 0)
    (hv : VRs e cs os) (h1 : Ones os) (hlen : cs.length = need * es) (hcap : need ≤ cap) (hrest : rest.length = (cap - need) * es)
    (hw : w'.heap = w.heap.push (.cells (os ++ rest).toArray el)) (g1 : w'.os = w.os) (g2 : w'.tape = w.tape) (g3 : w'.output = w.output) :
    Went c e H N (.slo N 0 need es) (H.put (some (.cells cs true)) N) N' w (e.with N ⟨w.heap.size, 0, cap * es⟩) (.slice (some ⟨w.heap.size, 0, none⟩) need cap) w' := by
  have hl := hv.length
  have hsz : (os ++ rest).toArray.size = cap * es := by
    simp
    rw [hrest, ← hl, hlen, ← Nat.add_mul]
    congr 1; omega
  have hle : e.le (e.with N ⟨w.heap.size, 0, cap * es⟩) := Env.le_with hW.fresh
  refine ⟨hle, hW.new (l := ⟨w.heap.size, 0, cap * es⟩) (x := .cells (os ++ rest).toArray el) hN rfl rfl (.cells cs true _ ⟨(os ++ rest).toArray, el, (0, 0), rfl, hsz, ?_, fun i _ _ hh => by omega, fun i v hi hv' => ?_⟩) hw g1 g2 g3, ?_, Keeps.new e H N _, fun b hb hlt => ?_⟩
  · simp [hl]
  · obtain ⟨q, a, b⟩ := hv.get hv'
    refine ⟨q, ?_, b.mono hle, h1 q (List.mem_of_getElem? a)⟩
    simp only [Nat.zero_add]
    rw [← Array.getElem?_toList, List.getElem?_append_left (by rw [← hl]; exact hi)]
    exact a
  · have := VR.slo (e := e.with N ⟨w.heap.size, 0, cap * es⟩) N 0 need es cap ⟨w.heap.size, 0, cap * es⟩ (Env.with_same _ _ _) (by simp [Nat.mul_div_cancel _ (Nat.pos_of_ne_zero hes)]) hcap
    simpa using this
  · rw [Env.with_ne _ _ (by rintro rfl; omega)]; exact hb
theorem Went.of_drop {e : Env} {H H' : Tr Ob} {N N' b : P} {v : V} {w w' : World} {e' : Env} {x : Value} {l : Loc} (he : e b = some l) (h : Went c e (H.put Option.none b) N v H' N' w e' x w') : Went c e H N v H' N' w e' x w' :=
  ⟨h.le, h.wr, h.val, fun b2 h2 hl => by rw [h.keep b2 h2 hl]; exact Tr.get_put_ne _ _ (by rintro rfl; rw [he] at h2; cases h2), h.none⟩
end
end Go.AM
