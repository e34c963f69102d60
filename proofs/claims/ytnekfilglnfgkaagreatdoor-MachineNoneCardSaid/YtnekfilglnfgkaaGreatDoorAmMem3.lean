/- Acts that act: stores, calls, deferred calls, panics. -/
import Derived.Test.YtnekfilglnfgkaaGreatDoorAmMem2
set_option autoImplicit false
set_option linter.unusedVariables false
set_option linter.unusedSimpArgs false
namespace Go.AM
inductive NxR (c : Cfg) (e : Env) (w : World) : Nx → Result Next → Prop
  | enter (f : Nat) (args : List V) (as : Array Value) (h : VRs e args as.toList) : NxR c e w (.enter f args) ((callFunc f as).run c.p w)
  | round (b : P) (args : List V) (as : Array Value) (l : Loc) (he : e b = some l) (h : VRs e args as.toList) : NxR c e w (.round b args) ((Instr.yield l.blk as).run c.p w)
  | dfr (d : Dfr) (x : Deferred) (h : DR e d x) : NxR c e w (.dfr d) (.ok (.defer x) w)
  | rcv : NxR c e w .rcv (.ok .recover w)
  | pan (v : V) (x : Value) (h : VR e v x) : NxR c e w (.pan v) (.halt (.panic x) w)
/-- what became of the world -/
structure Went (c : Cfg) (e : Env) (H : Tr Ob) (N : P) (v : V) (H' : Tr Ob) (N' : P) (w : World) (e' : Env) (x : Value) (w' : World) : Prop where
  le : e.le e'
  wr : WR c e' H' N' w'
  val : VR e' v x
  keep : Keeps e N H H'
  none : ∀ b, e b = none → b.toNat < N.toNat → e' b = none
/-- an act: it hands a value on, or something else -/
def EV (c : Cfg) (S : Srel) (f : EfA) (sem : Array Value → Sem Next) : Prop :=
  ∀ loc vs H N K X, f loc vs H N K X = true →
    (∃ v H' N', K v H' N' = true ∧ N.toNat ≤ N'.toNat ∧ ∀ e tmps w, S e loc vs tmps → WR c e H N w → ∃ e' x w', Went c e H N v H' N' w e' x w' ∧ ((sem tmps).run c.p w = .ok (.value x) w' ∨ ((sem tmps).run c.p w = .ok .skip w' ∧ x = undef))) ∨
    (∃ nx, X nx H N = true ∧ ∀ e tmps w, S e loc vs tmps → WR c e H N w → NxR c e w nx ((sem tmps).run c.p w))
section
variable {c : Cfg} {S : Srel} {x y z : Opd} {ex ey ez : Array Value → Value} {t : TypeId}
theorem went_same {e : Env} {H H' : Tr Ob} {N : P} {v : V} {w w' : World} {x : Value} {b : P} {l : Loc} {o : Option Ob} (hW : WR c e H' N w') (hv : VR e v x) (hb : e b = some l) (hH : H' = H.put o b) : Went c e H N v H' N w e x w' :=
  ⟨Env.le.refl e, hW, hv, by rw [hH]; exact Keeps.put o hb, fun _ h _ => h⟩
theorem run_store1 {P : Program} {i : TypeInfo} {w : World} {a : Addr} {u old : Value} (hi : P.info? t = some i) (h1 : i.size = 1) (hone : u.oneCell' = true) (hc : w.cell? a = some old) (hf : w.frozen? a = false) :
    (Instr.storeAt t (.pointer (some a)) u).run P w = .ok () (w.setCell a u) := by
  have e0 : a.add 0 = a := by simp [Addr.add]
  simp [Instr.storeAt, Instr.sureAddr, storeVar, run_sizeOf' hi, oneCell_cells hone, h1, storeCells, e0, run_store P w a u _ hone, hc, hf]
theorem EV.store1 {i : TypeInfo} (hi : c.p.info? t = some i) (h1 : i.size = 1) (hx : OOK S x ex) (hy : OOK S y ey) :
    EV c S (eStore1 x y) (fun tmps => do Instr.storeAt t (ex tmps) (ey tmps); pure .skip) := by
  intro loc vs H N K X h
  left
  obtain ⟨v, h2, hv⟩ := hx _ _ _ h
  obtain ⟨u, h2, hu⟩ := hy _ _ _ h2
  obtain ⟨h2, hone⟩ := V.one_inv h2
  obtain ⟨b, o, rfl, h2⟩ := V.onPtr_inv h2
  obtain ⟨ob, h3, h4⟩ := getT_F h2
  have fin : ∀ (g g' : Nat → Option V) (n : Nat) (ob' : Ob), K .und (H.put (some ob') b) N = true → o < n → (∀ k v, g' k = some v → if o ≤ k ∧ k < o + [u].length then [u][k - o]? = some v else g k = some v) → ob.isGlob = false → ob'.isGlob = false →
      (∀ e l co, OR c e l ob co → CellsR e l g n co) → (∀ e l co, CellsR e l g' n co → OR c e l ob' co) →
      ∃ v H' N', K v H' N' = true ∧ N.toNat ≤ N'.toNat ∧ ∀ e tmps w, S e loc vs tmps → WR c e H N w → ∃ e' x w', Went c e H N v H' N' w e' x w' ∧
        ((do Instr.storeAt t (ex tmps) (ey tmps); pure Next.skip : Sem Next).run c.p w = .ok (.value x) w' ∨ ((do Instr.storeAt t (ex tmps) (ey tmps); pure Next.skip : Sem Next).run c.p w = .ok .skip w' ∧ x = undef)) := by
    intro g g' n ob' hK hn hg hng hng' hr hr'
    refine ⟨_, _, _, hK, Nat.le_refl _, fun e tmps w hS hW => ?_⟩
    obtain ⟨l, h5, h6⟩ := (hv e tmps hS).inv_ptr
    obtain ⟨co, h7, h8, _⟩ := hW.get h3 h5
    have hc := hr e l co h8
    have huv := hu e tmps hS
    have huo := hone huv
    have hth := hc.there (o := o) (m := 1) h7 (by omega)
    obtain ⟨hs, hf⟩ := hth 0 (by omega)
    obtain ⟨old, hold⟩ := Option.isSome_iff_exists.1 hs
    obtain ⟨cs, ty, fr, rfl, q3, q4, q5, q6⟩ := hc.ex
    have hset := hc.set (us := [u]) (xs := [ey tmps]) (o := o) (g' := g') (.cons _ _ _ _ huv .nil) (fun y hy => by simp at hy; subst hy; exact huo) (by simp; omega) hg
    have hheap := heap_setCell (o := l.base + o) (v := ey tmps) h7
    refine ⟨e, undef, w.setCell ⟨l.blk, l.base + o, none⟩ (ey tmps), went_same (hW.put h3 h5 hng hng' (hr' e l _ hset) hheap rfl rfl rfl) .und h5 rfl, .inr ⟨?_, rfl⟩⟩
    simp only [Nat.add_zero] at hold hf
    rw [h6]
    simp [run_store1 hi h1 huo hold hf]
  rcases Ob.onCells_inv h4 with ⟨cs, opn, rfl, h5⟩ | ⟨bt, n, rfl, h5⟩ | ⟨bt, n, rfl, h5⟩
  · obtain ⟨h6, h7⟩ := setL_inv h5
    rw [putT_eq] at h7
    refine fin (fun i => cs[i]?) (fun i => (cs.set o u)[i]?) cs.length _ h7 h6 (fun k v hk => ?_) rfl rfl (fun e l co r => by cases r; assumption) (fun e l co r => .cells _ _ _ (by simpa using r))
    by_cases e1 : k = o
    · subst e1; simp [h6] at hk ⊢; exact hk
    · rw [List.getElem?_set_ne (fun hh => e1 hh.symm)] at hk
      rw [if_neg (by simp; omega)]; exact hk
  · obtain ⟨h6, h7⟩ := ifK_t h5
    obtain ⟨h8, h9⟩ := setB_inv h7
    rw [putT_eq] at h9
    refine fin (fun i => bt.get i) (fun i => (bt.put u o).get i) n _ h9 (Nat.le_of_ble_eq_true h6) (fun k v hk => ?_) rfl rfl (fun e l co r => by cases r; assumption) (fun e l co r => .big _ _ _ r)
    by_cases e1 : k = o
    · subst e1; rw [Bt.get_put_same h8] at hk; simp; exact Option.some.inj hk
    · rw [Bt.get_put_ne e1] at hk
      rw [if_neg (by simp; omega)]; exact hk
  · exact (F_false h5).elim
theorem EV.storeN {i : TypeInfo} {n : Nat} (hi : c.p.info? t = some i) (hn : n = i.size) (hx : OOK S x ex) (hy : OOK S y ey) :
    EV c S (eStoreN n x y) (fun tmps => do Instr.storeAt t (ex tmps) (ey tmps); pure .skip) := by
  intro loc vs H N K X h
  left
  obtain ⟨v, k1, hv⟩ := hx _ _ _ h
  obtain ⟨u, k2, hu⟩ := hy _ _ _ k1
  obtain ⟨b, o, rfl, k3⟩ := V.onPtr_inv k2
  obtain ⟨ws, rfl, k4⟩ := V.onAgg_inv k3
  rw [lenL_zero] at k4
  obtain ⟨hl, k5⟩ := ifK_t k4
  have hl := Nat.eq_of_beq_eq_true hl
  obtain ⟨ob, h3, h4⟩ := getT_F k5
  have fin : ∀ (g g' : Nat → Option V) (m : Nat) (ob' : Ob), K .und (H.put (some ob') b) N = true → o + ws.length ≤ m → (∀ k v, g' k = some v → if o ≤ k ∧ k < o + ws.length then ws[k - o]? = some v else g k = some v) → ob.isGlob = false → ob'.isGlob = false →
      (∀ e l co, OR c e l ob co → CellsR e l g m co) → (∀ e l co, CellsR e l g' m co → OR c e l ob' co) →
      ∃ v H' N', K v H' N' = true ∧ N.toNat ≤ N'.toNat ∧ ∀ e tmps w, S e loc vs tmps → WR c e H N w → ∃ e' x w', Went c e H N v H' N' w e' x w' ∧
        ((do Instr.storeAt t (ex tmps) (ey tmps); pure Next.skip : Sem Next).run c.p w = .ok (.value x) w' ∨ ((do Instr.storeAt t (ex tmps) (ey tmps); pure Next.skip : Sem Next).run c.p w = .ok .skip w' ∧ x = undef)) := by
    intro g g' m ob' hK hm hg hng hng' hr hr'
    refine ⟨_, _, _, hK, Nat.le_refl _, fun e tmps w hS hW => ?_⟩
    obtain ⟨l, h5, h6⟩ := (hv e tmps hS).inv_ptr
    obtain ⟨co, h7, h8, _⟩ := hW.get h3 h5
    have hc := hr e l co h8
    obtain ⟨xs, hxa, hxv, hxo⟩ := (hu e tmps hS).inv_agg
    have hlen := hxv.length
    simp only [Array.length_toList] at hlen
    have hth := hc.there (o := o) (m := xs.size) h7 (by omega)
    obtain ⟨cs, ty, fr, rfl, q3, q4, q5, q6⟩ := hc.ex
    have hset := hc.set (us := ws) (xs := xs.toList) (o := o) (g' := g') hxv hxo hm hg
    obtain ⟨hheap, a1, a2, a3⟩ := heap_setCells xs.toList (l.base + o) h7
    refine ⟨e, undef, w.setCells l.blk (l.base + o) xs.toList, went_same (hW.put h3 h5 hng hng' (hr' e l _ hset) hheap a1 a2 a3) .und h5 rfl, .inr ⟨?_, rfl⟩⟩
    rw [h6, hxa]
    simp [run_storeAt_mid w l.blk (l.base + o) t xs hth (by rw [hi]; simp; omega) (by rw [Array.all_eq_true_iff_forall_mem]; intro q hq; exact hxo q (by simpa using hq))]
  rcases Ob.onCells_inv h4 with ⟨cs, opn, rfl, h5⟩ | ⟨bt, m, rfl, h5⟩ | ⟨bt, m, rfl, h5⟩
  · obtain ⟨h6, h7⟩ := spliceL_inv h5
    rw [putT_eq] at h7
    refine fin (fun i => cs[i]?) (fun i => (cs.take o ++ ws ++ cs.drop (o + ws.length))[i]?) cs.length _ h7 h6 (fun k v hk => ?_) rfl rfl (fun e l co r => by cases r; assumption) (fun e l co r => .cells _ _ _ (by
      have : (cs.take o ++ ws ++ cs.drop (o + ws.length)).length = cs.length := by simp; omega
      rw [this]; exact r))
    have hto : (cs.take o).length = o := by simp; omega
    by_cases e1 : o ≤ k ∧ k < o + ws.length
    · rw [if_pos e1]
      rw [List.append_assoc, List.getElem?_append_right (by omega), hto, List.getElem?_append_left (by omega)] at hk
      exact hk
    · rw [if_neg e1]
      by_cases e2 : k < o
      · rw [List.append_assoc, List.getElem?_append_left (by omega), List.getElem?_take_of_lt e2] at hk; exact hk
      · rw [List.getElem?_append_right (by simp; omega), List.getElem?_drop] at hk
        rwa [show o + ws.length + (k - (cs.take o ++ ws).length) = k by simp; omega] at hk
  · obtain ⟨h6, h7⟩ := ifK_t h5
    obtain ⟨h8, h9⟩ := putB_inv h7
    rw [putT_eq] at h9
    have h6 : o + n ≤ m := Nat.le_of_ble_eq_true h6
    refine fin (fun i => bt.get i) (fun i => (bt.puts o ws).get i) m _ h9 (by omega) (fun k v hk => ?_) rfl rfl (fun e l co r => by cases r; assumption) (fun e l co r => .big _ _ _ r)
    rw [Bt.get_puts ws o bt k h8] at hk
    by_cases e1 : o ≤ k ∧ k < o + ws.length
    · rw [if_pos e1] at hk ⊢; exact hk
    · rw [if_neg e1] at hk ⊢; exact hk
  · exact (F_false h5).elim
/-! ### Calls -/
theorem EV.call {f : Nat} {xs : List Opd} {evs : Array Value → List Value} (hs : OsOK S xs evs) : EV c S (eCall f xs) (fun tmps => callFunc f (evs tmps).toArray) := by
  intro loc vs H N K X h
  right
  obtain ⟨l, h1, hl⟩ := hs _ _ _ h
  exact ⟨_, h1, fun e tmps w hS hW => .enter f l _ (by simpa using hl e tmps hS)⟩
/-- a call of a value -/
def callV (f : Value) (args : List Value) : Sem Next := do let d ← Deferred.ofValue f args.toArray; invoke d.target d.args
theorem EV.callV {xs : List Opd} {evs : Array Value → List Value} (hx : OOK S x ex) (hs : OsOK S xs evs) : EV c S (eCallV x xs) (fun tmps => AM.callV (ex tmps) (evs tmps)) := by
  intro loc vs H N K X h
  right
  obtain ⟨v, h1, hv⟩ := hx _ _ _ h
  obtain ⟨l, h2, hl⟩ := hs _ _ _ h1
  rcases V.onFn_inv h2 with ⟨f, a, q, rfl, h3⟩ | ⟨b, rfl, h3⟩
  · rw [appL_eq, appL_eq] at h3
    refine ⟨_, h3, fun e tmps w hS hW => ?_⟩
    obtain ⟨as, cs, h4, h5, h6⟩ := (hv e tmps hS).inv_fn
    have : (AM.callV (ex tmps) (evs tmps)).run c.p w = (callFunc f (as ++ (evs tmps).toArray ++ cs)).run c.p w := by
      rw [h4]; simp [AM.callV, Deferred.ofValue, invoke]
    rw [this]
    exact .enter f _ _ (by
      simp only [Array.toList_append, List.append_assoc]
      exact h5.append ((hl e tmps hS).append h6))
  · refine ⟨_, h3, fun e tmps w hS hW => ?_⟩
    obtain ⟨lo, h4, h5⟩ := (hv e tmps hS).inv_yld
    have : (AM.callV (ex tmps) (evs tmps)).run c.p w = (Instr.yield lo.blk (evs tmps).toArray).run c.p w := by
      rw [h5]; simp [AM.callV, Deferred.ofValue, invoke]
    rw [this]
    exact .round b _ _ lo h4 (by simpa using hl e tmps hS)
theorem EV.defer {xs : List Opd} {evs : Array Value → List Value} (hx : OOK S x ex) (hs : OsOK S xs evs) : EV c S (eDefer x xs) (fun tmps => do pure (.defer (← Deferred.ofValue (ex tmps) (evs tmps).toArray))) := by
  intro loc vs H N K X h
  right
  obtain ⟨v, h1, hv⟩ := hx _ _ _ h
  obtain ⟨l, h2, hl⟩ := hs _ _ _ h1
  rcases V.onFn_inv h2 with ⟨f, a, q, rfl, h3⟩ | ⟨b, rfl, h3⟩
  · rw [appL_eq, appL_eq] at h3
    refine ⟨_, h3, fun e tmps w hS hW => ?_⟩
    obtain ⟨as, cs, h4, h5, h6⟩ := (hv e tmps hS).inv_fn
    have : (do pure (Next.defer (← Deferred.ofValue (ex tmps) (evs tmps).toArray)) : Sem Next).run c.p w = .ok (.defer { target := .fn (.func f) cs, args := as ++ (evs tmps).toArray }) w := by
      rw [h4]; simp [Deferred.ofValue]
    dsimp only
    rw [this]
    exact .dfr _ _ (.fn f _ _ _ (by
      simp only [Array.toList_append, List.append_assoc]
      exact h5.append ((hl e tmps hS).append h6)))
  · exact (F_false h3).elim
theorem EV.rcv : EV c S eRcv (fun _ => pure .recover) := by
  intro loc vs H N K X h
  right
  exact ⟨_, h, fun e tmps w hS hW => .rcv⟩
theorem EV.pan (hx : OOK S x ex) : EV c S (ePan x) (fun tmps => do pure (.value (← Instr.panic (ex tmps)))) := by
  intro loc vs H N K X h
  right
  obtain ⟨v, h1, hv⟩ := hx _ _ _ h
  obtain ⟨u, a, rfl, h2⟩ := V.onIfc_inv h1
  refine ⟨_, h2, fun e tmps w hS hW => ?_⟩
  obtain ⟨q, h3, h4⟩ := (hv e tmps hS).inv_ifc
  have : (do pure (Next.value (← Instr.panic (ex tmps))) : Sem Next).run c.p w = .halt (.panic (ex tmps)) w := by
    rw [h3]; simp [Instr.panic]
  dsimp only
  rw [this]
  exact .pan _ _ (hv e tmps hS)
end
end Go.AM
