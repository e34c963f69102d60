/- Append: the act. -/
import Derived.Test.YtnekfilglnfgkaaGreatDoorAmApp4
set_option autoImplicit false
set_option linter.unusedVariables false
set_option linter.unusedSimpArgs false
namespace Go.AM
section
variable {c : Cfg} {S : Srel} {x y z : Opd} {ex ey ez : Array Value → Value}
set_option maxHeartbeats 4000000 in
/-- append of nothing -/
theorem run_append_keep {P : Program} {ts : Array TypeId} {ty t xt el : TypeId} {dx : TypeDesc} {i : TypeInfo} {base : Option Addr} {sLen sCap : Nat} {x : Value} {w : World}
    (h0 : ts[0]? = some t) (h1 : ts[1]? = some xt) (ht : P.underlying t = some (.slice el)) (hx : P.underlying xt = some dx) (hd : ∀ k, dx ≠ .int k) (hi : P.info? el = some i)
    (hl : (Builtin.lenOf x).run P w = .ok 0 w) (hnew : (Builtin.firstCells i.size 0 x).run P w = .ok #[] w) (hg : sLen ≤ sCap) :
    (Builtin.append_ ts ty #[.slice base sLen sCap, x]).run P w = .ok (.slice base sLen sCap) w := by
  cases dx <;> first | exact absurd rfl (hd _) | skip
  all_goals cases base <;> simp [Builtin.append_, h0, h1, run_underlying' ht, run_underlying' hx, run_sizeOf' hi, hl, hg, hnew, storeCells]
theorem WR.drew {e : Env} {H : Tr Ob} {N : P} {w : World} (h : WR c e H N w) : WR c e H N w.drew := h.same rfl rfl rfl rfl
theorem zeroCells_length (zs : Array Value) (n : Nat) : (Builtin.zeroCells zs n).toList.length = n * zs.size := by simp [Builtin.zeroCells]
theorem EV.app {ts : Array TypeId} {ty t xt el el' : TypeId} {i : TypeInfo} {zv : Value} {es : Nat}
    (h0 : ts[0]? = some t) (h1 : ts[1]? = some xt) (ht : c.p.underlying t = some (.slice el)) (hxt : c.p.underlying xt = some (.slice el')) (hi : c.p.info? el = some i) (hz : i.zero = some zv)
    (hes : es = i.size) (hpos : es ≠ 0) (hb : i.bytes ≤ 1048576) (hsz : zv.cells.size = i.size) (hx : OOK S x ex) (hy : OOK S y ey) :
    EV c S (eApp es x y) (fun tmps => do pure (.value (← Builtin.append_ ts ty #[ex tmps, ey tmps]))) := by
  intro loc vs H N K X h
  left
  obtain ⟨v, k1, hv⟩ := hx _ _ _ h
  obtain ⟨u, k2, hu⟩ := hy _ _ _ k1
  obtain ⟨n, ws, k3, hlen, hsrc⟩ := src_inv (c := c) k2
  have hd : ∀ k, (TypeDesc.slice el') ≠ .int k := by intro k hh; cases hh
  have lift : ∀ {tmps : Array Value} {w w' : World} {r : Value}, (Builtin.append_ ts ty #[ex tmps, ey tmps]).run c.p w = .ok r w' →
      (do pure (Next.value (← Builtin.append_ ts ty #[ex tmps, ey tmps])) : Sem Next).run c.p w = .ok (.value r) w' := by
    intro tmps w w' r hh; simp [hh]
  -- nothing is appended
  have keep : ∀ {r : V}, K r H N = true → n = 0 → (∀ e q, VR e r q → ∃ base m cp, q = .slice base m cp ∧ m ≤ cp) → r = v →
      ∃ v H' N', K v H' N' = true ∧ N.toNat ≤ N'.toNat ∧ ∀ e tmps w, S e loc vs tmps → WR c e H N w → ∃ e' x w', Went c e H N v H' N' w e' x w' ∧
        ((do pure (Next.value (← Builtin.append_ ts ty #[ex tmps, ey tmps])) : Sem Next).run c.p w = .ok (.value x) w' ∨ ((do pure (Next.value (← Builtin.append_ ts ty #[ex tmps, ey tmps])) : Sem Next).run c.p w = .ok .skip w' ∧ x = undef)) := by
    intro r hK hn hr hrv
    subst hrv
    refine ⟨_, _, _, hK, Nat.le_refl _, fun e tmps w hS hW => ?_⟩
    obtain ⟨base, m, cp, hq, hm⟩ := hr e _ (hv e tmps hS)
    obtain ⟨hl, hf⟩ := hsrc e _ (hu e tmps hS)
    obtain ⟨xs, a1, a2, a3⟩ := hf N w hW
    subst hn
    have hx0 : xs = [] := by have := a1.length; rw [hlen] at this; simp at this; exact List.eq_nil_of_length_eq_zero this.symm
    subst hx0
    refine ⟨e, _, w, ⟨Env.le.refl e, hW, hv e tmps hS, Keeps.refl e N H, fun _ hh _ => hh⟩, .inl (lift ?_)⟩
    rw [hq]
    rw [hes] at a3
    exact run_append_keep h0 h1 ht hxt hd hi (hl w) a3 hm
  -- a new row
  have grow : ∀ {m : Nat} {old : List V}, newSl es (m + n) (old ++ ws) H N K = true → m + n ≤ 16777216 → old.length = m * es →
      (∀ e tmps w, S e loc vs tmps → WR c e H N w → ∃ base cp, ex tmps = .slice base m cp ∧ cp < m + n ∧ ∃ os, VRs e old os ∧ Ones os ∧ (Builtin.firstCells es m (ex tmps)).run c.p w.drew = .ok os.toArray w.drew) →
      ∃ v H' N', K v H' N' = true ∧ N.toNat ≤ N'.toNat ∧ ∀ e tmps w, S e loc vs tmps → WR c e H N w → ∃ e' x w', Went c e H N v H' N' w e' x w' ∧
        ((do pure (Next.value (← Builtin.append_ ts ty #[ex tmps, ey tmps])) : Sem Next).run c.p w = .ok (.value x) w' ∨ ((do pure (Next.value (← Builtin.append_ ts ty #[ex tmps, ey tmps])) : Sem Next).run c.p w = .ok .skip w' ∧ x = undef)) := by
    intro m old hK hneed hol hr
    obtain ⟨N', hN, hK⟩ := newSl_inv hK
    refine ⟨_, _, _, hK, by omega, fun e tmps w hS hW => ?_⟩
    obtain ⟨base, cp, hq, hcp, os, b1, b2, b3⟩ := hr e tmps w hS hW
    obtain ⟨hl, hf⟩ := hsrc e _ (hu e tmps hS)
    obtain ⟨xs, a1, a2, a3⟩ := hf N w.drew hW.drew
    rw [hes] at a3 b3
    rw [hq] at b3
    obtain ⟨cap, rest, c1, c2, c3⟩ := run_append_grow (ty := ty) h0 h1 ht hxt hd hi hz (hl w) a3 b3 hcp hneed hb
    have hw : Went c e H N (.slo N 0 (m + n) es) (H.put (some (.cells (old ++ ws) true)) N) N' w (e.with N ⟨w.heap.size, 0, cap * es⟩) (.slice (some ⟨w.heap.size, 0, none⟩) (m + n) cap) (w.drew.alloc (.cells (os.toArray ++ xs.toArray ++ rest) el)) := by
      refine grown (el := el) (os := os ++ xs) (rest := rest.toList) hW hN hpos (b1.append a1) ?_ (by simp [hol, hlen, Nat.add_mul]) c1 ?_ ?_ rfl rfl rfl
      · intro q hq; rcases List.mem_append.1 hq with hq | hq
        · exact b2 q hq
        · exact a2 q hq
      · rw [c2, zeroCells_length, hsz, hes]
      · show w.heap.push (.cells (os.toArray ++ xs.toArray ++ rest) el) = _
        congr 2; apply Array.toList_inj.1; simp
    exact ⟨_, _, _, hw, .inl (lift (by rw [hq]; exact c3))⟩
  rcases V.onSl_inv k3 with ⟨b, o, m, cp, rfl, k4⟩ | ⟨b, o, m, q, rfl, k4⟩ | ⟨rfl, k4⟩ | ⟨rfl, k4⟩
  · rw [forceNat_eq] at k4
    rcases ifK_inv k4 with ⟨g1, k5⟩ | ⟨g1, k5⟩
    · have g1 : m + n ≤ cp := Nat.le_of_ble_eq_true g1
      rcases ifK_inv k5 with ⟨g2, k6⟩ | ⟨g2, k6⟩
      · rw [forceNat_eq] at k6
        obtain ⟨ob', k7, hin⟩ := inPlace_inv (c := c) k6
        refine ⟨_, _, _, k7, Nat.le_refl _, fun e tmps w hS hW => ?_⟩
        obtain ⟨l, h5, h6⟩ := (hv e tmps hS).inv_slc
        obtain ⟨hl, hf⟩ := hsrc e _ (hu e tmps hS)
        obtain ⟨xs, a1, a2, a3⟩ := hf N w hW
        obtain ⟨d1, d2, _⟩ := hin e N w l xs hW h5 a1 a2
        refine ⟨e, _, _, went_same d1 (.slc b o (m + n) cp l h5) h5 rfl, .inl (lift ?_)⟩
        rw [h6]
        have e1 : l.base + o + m * i.size = l.base + (o + m * es) := by rw [hes]; omega
        rw [hes] at a3
        have := run_append_fit (ty := ty) (blk := l.blk) (off := l.base + o) (sLen := m) (sCap := cp) (n := n) (new := xs.toArray) h0 h1 ht hxt hd hi (hl w) a3 g1 (by rw [e1]; exact d2)
        rw [e1] at this
        exact this
      · have hn : n = 0 := by
          rcases Nat.eq_zero_or_pos n with hh | hh
          · exact hh
          · rw [Nat.ble_eq_true_of_le hh] at g2; cases g2
        exact keep k6 hn (fun e q hq => by obtain ⟨l, _, rfl⟩ := hq.inv_slc; exact ⟨_, _, _, rfl, by omega⟩) rfl
    · obtain ⟨g2, k6⟩ := ifK_t k5
      have g1 : cp < m + n := by
        rcases Nat.lt_or_ge cp (m + n) with hh | hh
        · exact hh
        · have : Nat.ble (Nat.add m n) cp = true := Nat.ble_eq_true_of_le hh
          rw [this] at g1; cases g1
      obtain ⟨us, k7, hul, hus⟩ := cellsOf_inv (c := c) k6
      rw [appL_eq] at k7
      refine grow k7 (Nat.le_of_ble_eq_true g2) hul (fun e tmps w hS hW => ?_)
      obtain ⟨l, h5, h6⟩ := (hv e tmps hS).inv_slc
      obtain ⟨os, b1, b2, b3, b4⟩ := hus e N w.drew l hW.drew h5
      exact ⟨_, _, h6, g1, os, b2, b3, by rw [h6]; simp only [Builtin.firstCells]; exact b4⟩
  · obtain ⟨g0, k4⟩ := ifK_t k4
    have g0 := Nat.eq_of_beq_eq_true g0
    subst g0
    rcases ifK_inv k4 with ⟨g1, k5⟩ | ⟨g1, k5⟩
    · rw [forceNat_eq] at k5
      obtain ⟨ob, hob, k6⟩ := getT_F k5
      rcases Ob.onCells_inv k6 with ⟨cs, opn, rfl, k7⟩ | ⟨bt, n', rfl, k7⟩ | ⟨bt, n', rfl, k7⟩
      · rw [lenL_zero] at k7
        rcases ifK_inv k7 with ⟨g2, k8⟩ | ⟨g2, k8⟩
        · rw [forceNat_eq] at k8
          obtain ⟨ob', k9, hin⟩ := inPlace_inv (c := c) k8
          refine ⟨_, _, _, k9, Nat.le_refl _, fun e tmps w hS hW => ?_⟩
          obtain ⟨l, cp, h5, h6, h7, h8⟩ := (hv e tmps hS).inv_slo
          obtain ⟨hl, hf⟩ := hsrc e _ (hu e tmps hS)
          obtain ⟨xs, a1, a2, a3⟩ := hf N w hW
          obtain ⟨d1, d2, m', d3, d4⟩ := hin e N w l xs hW h5 a1 a2
          have hfit : m + n ≤ cp := by
            rw [h6, Nat.le_div_iff_mul_le (Nat.pos_of_ne_zero hpos)]
            have : (m + n) * q = m * q + ws.length := by rw [hlen, Nat.add_mul]
            have e2 : Nat.add o (Nat.mul m q) = o + m * q := rfl
            rw [e2] at d3
            omega
          refine ⟨e, _, _, went_same d1 (.slo b o (m + n) q cp l h5 h6 hfit) h5 rfl, .inl (lift ?_)⟩
          rw [h8]
          have e1 : l.base + o + m * i.size = l.base + (o + m * q) := by rw [hes]; omega
          rw [hes] at a3
          have := run_append_fit (ty := ty) (blk := l.blk) (off := l.base + o) (sLen := m) (sCap := cp) (n := n) (new := xs.toArray) h0 h1 ht hxt hd hi (hl w) a3 hfit (by rw [e1]; exact d2)
          rw [e1] at this
          exact this
        · obtain ⟨g3, k8⟩ := ifK_t k8
          obtain ⟨g4, k9⟩ := dropL_inv k8
          obtain ⟨g5, k10⟩ := takeL_inv k9
          rw [appL_eq, putT_eq] at k10
          obtain ⟨N', hN, hK⟩ := newSl_inv k10
          have g3 : m + n ≤ 16777216 := Nat.le_of_ble_eq_true g3
          have hol : ((cs.drop o).take (m * q)).length = m * q := by simp at g5 ⊢; omega
          refine ⟨_, _, _, hK, by omega, fun e tmps w hS hW => ?_⟩
          obtain ⟨l, cp, h5, h6, h7, h8⟩ := (hv e tmps hS).inv_slo
          obtain ⟨hl, hf⟩ := hsrc e _ (hu e tmps hS)
          obtain ⟨co, j1, j2, j3⟩ := hW.get hob h5
          have hcr : CellsR e l (fun i => cs[i]?) cs.length co := by cases j2; assumption
          obtain ⟨ca, ty', fr, rfl, q3, q4, q5, q6⟩ := hcr.ex
          have hbN : b ≠ N := by rintro rfl; have := (hW.dom b l h5).1; omega
          simp at g5
          by_cases hfit : m + n ≤ cp
          · obtain ⟨xs, a1, a2, a3⟩ := hf N w hW
            have hxl := a1.length
            have hcapl : l.base + o + (m + n) * q ≤ l.size := by
              rw [h6, Nat.le_div_iff_mul_le (Nat.pos_of_ne_zero hpos)] at hfit
              have : 0 < (m + n) * q := Nat.mul_pos (by have := Nat.le_of_ble_eq_true g1; omega) (Nat.pos_of_ne_zero hpos)
              omega
            have hmul : (m + n) * q = m * q + n * q := Nat.add_mul ..
            obtain ⟨hheap, t1, t2, t3⟩ := heap_setCells xs (l.base + o + m * q) j1
            have hst := run_storeCells_cells (P := c.p) l.blk (l.base + o + m * q) xs 0 w (fun j hj => by
                rw [cell_at j1]; have : l.base + o + m * q + j < ca.size := by omega
                simp [this]) (fun j hj => by
                simp only [World.frozen?, j1]
                have := q5 (l.base + o + m * q + 0 + j) (by omega) (by omega)
                simp only [Bool.and_eq_false_iff, decide_eq_false_iff_not]
                omega) a2
            simp only [Nat.add_zero] at hst
            have hle : e.le (e.with N ⟨l.blk, l.base + o, l.size⟩) := Env.le_with hW.fresh
            refine ⟨e.with N ⟨l.blk, l.base + o, l.size⟩, .slice (some ⟨l.blk, l.base + o, none⟩) (m + n) cp, _, ⟨hle, hW.move hN (l' := ⟨l.blk, l.base + o, l.size⟩) (ob := .cells cs opn) (o := .cells ((cs.drop o).take (m * q) ++ ws) true) (x := .cells (setMany ca (l.base + o + m * q) xs) ty' fr) hob h5 rfl rfl rfl ?_ hheap t1 t2 t3, ?_, ?_, ?_⟩, .inl (lift ?_)⟩
            · refine .cells _ _ _ ⟨_, ty', fr, rfl, by simpa using q3, ?_, ?_, fun k v hk hkv => ?_⟩
              · rw [List.length_append, hol, hlen]; simp; omega
              · intro k hk1 hk2; simp at hk2; exact q5 k (by simp at hk1; omega) hk2
              · rw [List.length_append, hol, hlen] at hk
                simp only
                rw [get_setMany _ _ _ _ (by omega)]
                by_cases hk' : k < m * q
                · rw [List.getElem?_append_left (by omega), List.getElem?_take_of_lt hk', List.getElem?_drop] at hkv
                  obtain ⟨r1, r2, r3, r4⟩ := q6 (o + k) v (by omega) hkv
                  rw [if_neg (by omega), show l.base + o + k = l.base + (o + k) by omega]
                  exact ⟨r1, r2, r3.mono hle, r4⟩
                · rw [List.getElem?_append_right (by omega), hol] at hkv
                  obtain ⟨r1, r2, r3⟩ := a1.get hkv
                  rw [if_pos (by omega), show l.base + o + k - (l.base + o + m * q) = k - m * q by omega]
                  exact ⟨r1, r2, r3.mono hle, a2 r1 (List.mem_of_getElem? r2)⟩
            · have := VR.slo (e := e.with N ⟨l.blk, l.base + o, l.size⟩) N 0 (m + n) q cp ⟨l.blk, l.base + o, l.size⟩ (Env.with_same _ _ _) (by simpa using h6) hfit
              simpa using this
            · intro b2 h2 hl2
              rw [Tr.get_put_ne _ _ (by rintro rfl; omega), Tr.get_put_ne _ _ (by rintro rfl; rw [h5] at h2; cases h2)]
            · intro b2 h2 hl2
              rw [Env.with_ne _ _ (by rintro rfl; omega)]; exact h2
            · rw [h8]
              rw [hes] at a3
              have := run_append_fit (ty := ty) (blk := l.blk) (off := l.base + o) (sLen := m) (sCap := cp) (n := n) (new := xs.toArray) h0 h1 ht hxt hd hi (hl w) a3 hfit (by rw [← hes]; exact hst)
              rw [← hes] at this
              exact this
          · obtain ⟨xs, a1, a2, a3⟩ := hf N w.drew hW.drew
            obtain ⟨os, b1, b2, b3, b4⟩ := hcr.range (o := 0) (w := w.drew) j1 ((cs.drop o).take (m * q)) o (by rw [hol]; omega) (fun j v hj => by
              rw [List.getElem?_take] at hj
              split at hj
              · rw [List.getElem?_drop] at hj; exact hj
              · cases hj)
            have hfc : (Builtin.firstCells q m (.slice (some ⟨l.blk, l.base + o, none⟩) m cp)).run c.p w.drew = .ok os.toArray w.drew := by
              simp only [Builtin.firstCells]
              have := run_loadCells_list (P := c.p) (w := w.drew) ⟨l.blk, l.base + o, none⟩ os (fun j v hj => by
                have := b2 j v hj
                cases j with
                | zero => simpa [Addr.add] using this
                | succ j => simpa [Addr.add] using this)
              rw [b1, hol] at this
              exact this
            rw [hes] at a3 hfc
            obtain ⟨cap, rest, c1, c2, c3⟩ := run_append_grow (ty := ty) h0 h1 ht hxt hd hi hz (hl w) a3 hfc (by omega) g3 hb
            have hw : Went c e (H.put none b) N (.slo N 0 (m + n) q) ((H.put none b).put (some (.cells ((cs.drop o).take (m * q) ++ ws) true)) N) N' w (e.with N ⟨w.heap.size, 0, cap * q⟩) (.slice (some ⟨w.heap.size, 0, none⟩) (m + n) cap) (w.drew.alloc (.cells (os.toArray ++ xs.toArray ++ rest) el)) := by
              refine grown (el := el) (os := os ++ xs) (rest := rest.toList) (hW.drop b) hN hpos (b3.append a1) ?_ (by rw [List.length_append, hol, hlen, Nat.add_mul]) c1 ?_ ?_ rfl rfl rfl
              · intro q hq; rcases List.mem_append.1 hq with hq | hq
                · exact b4 q hq
                · exact a2 q hq
              · rw [c2, zeroCells_length, hsz, hes]
              · show w.heap.push (.cells (os.toArray ++ xs.toArray ++ rest) el) = _
                congr 2; apply Array.toList_inj.1; simp
            exact ⟨_, _, _, hw.of_drop h5, .inl (lift (by rw [h8]; exact c3))⟩
      · exact (F_false k7).elim
      · exact (F_false k7).elim
    · have hn : n = 0 := by
        rcases Nat.eq_zero_or_pos n with hh | hh
        · exact hh
        · rw [Nat.ble_eq_true_of_le hh] at g1; cases g1
      exact keep k5 hn (fun e q hq => by obtain ⟨l, cp, _, _, h7, rfl⟩ := hq.inv_slo; exact ⟨_, _, _, rfl, h7⟩) rfl
  · rcases ifK_inv k4 with ⟨g1, k5⟩ | ⟨g1, k5⟩
    · obtain ⟨g2, k6⟩ := ifK_t k5
      have g1 := Nat.le_of_ble_eq_true g1
      have k6 : newSl es (0 + n) ([] ++ ws) H N K = true := by rw [Nat.zero_add]; exact k6
      refine grow k6 (by have := Nat.le_of_ble_eq_true g2; omega) (by simp) (fun e tmps w hS hW => ?_)
      have := (hv e tmps hS).inv_nslc
      exact ⟨none, 0, this, by omega, [], .nil, by simp [Ones], by rw [this]; simp [Builtin.firstCells]⟩
    · have hn : n = 0 := by
        rcases Nat.eq_zero_or_pos n with hh | hh
        · exact hh
        · rw [Nat.ble_eq_true_of_le hh] at g1; cases g1
      exact keep k5 hn (fun e q hq => by rw [hq.inv_nslc]; exact ⟨_, _, _, rfl, Nat.le_refl _⟩) rfl
  · rcases ifK_inv k4 with ⟨g1, k5⟩ | ⟨g1, k5⟩
    · exact (F_false k5).elim
    · have hn : n = 0 := by
        rcases Nat.eq_zero_or_pos n with hh | hh
        · exact hh
        · rw [Nat.ble_eq_true_of_le hh] at g1; cases g1
      exact keep k5 hn (fun e q hq => by obtain ⟨a, cp, rfl⟩ := hq.inv_esl; exact ⟨_, _, _, rfl, by omega⟩) rfl
end
end Go.AM
