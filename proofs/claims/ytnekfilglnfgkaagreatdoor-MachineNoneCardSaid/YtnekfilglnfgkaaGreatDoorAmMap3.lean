/- The acts that write maps. -/
import Derived.Test.YtnekfilglnfgkaaGreatDoorAmMap2
set_option autoImplicit false
set_option linter.unusedVariables false
set_option linter.unusedSimpArgs false
namespace Go.AM
section
variable {c : Cfg} {S : Srel} {x y z : Opd} {ex ey ez : Array Value → Value} {t : TypeId}
theorem EV.mapPut {kd : Nat} {kt el : TypeId} {d : TypeDesc} (ht : c.p.underlying t = some (.map kt el)) (hk : c.p.underlying kt = some d) (hd : kindOf kd (some d))
    (hx : OOK S x ex) (hy : OOK S y ey) (hz : OOK S z ez) : EV c S (eMapPut kd x y z) (fun tmps => do Instr.mapUpdate t (ex tmps) (ey tmps) (ez tmps); pure .skip) := by
  intro loc vs H N K X h
  left
  obtain ⟨v, k1, hv⟩ := hx _ _ _ h
  obtain ⟨u, k2, hu⟩ := hy _ _ _ k1
  obtain ⟨q, k3, hq⟩ := hz _ _ _ k2
  obtain ⟨k4, hsh⟩ := chkKind_inv k3
  rcases V.onMap_inv k4 with ⟨b, rfl, k5⟩ | ⟨_, k5⟩
  rotate_left
  · exact (F_false k5).elim
  obtain ⟨ob, k6, k7⟩ := getT_F k5
  obtain ⟨es, rfl, k8⟩ := Ob.onMap_inv k7
  obtain ⟨es', k9, hes⟩ := putM_inv k8
  rw [putT_eq] at k9
  refine ⟨_, _, _, k9, Nat.le_refl _, fun e tmps w hS hW => ?_⟩
  obtain ⟨l, h5, h6⟩ := (hv e tmps hS).inv_map
  obtain ⟨co, h7, h8, h7l⟩ := hW.get k6 h5
  have hux := hu e tmps hS
  have hqx := hq e tmps hS
  obtain ⟨s', hs1, hs2⟩ := hsh e _ hux
  cases h8 with
  | map _ _ hm =>
    have hm0 := hm
    obtain ⟨ces, ck, rfl, ⟨cl0, p1, p2, p3⟩, p4, ⟨s, p5⟩, p6, p7⟩ := hm
    obtain ⟨hF, hN⟩ := MapR.find (P := c.p) hm0 hk hd hs2 hs1
    rcases hes with ⟨j, a, b', q3, rfl, q5⟩ | ⟨rfl, q4⟩
    · obtain ⟨j', m, n1, n2, n3, cl, c1, c2, c3, c4⟩ := hF j a b' q3 (fun y hy => q5 e _ _ hux hy)
      have hss : s = s' := by
        have := p5 m (List.mem_of_getElem? n1)
        rw [n2, hs1] at this
        exact (Option.some.inj this).symm
      subst hss
      let m2 : MapEntry := { m with key := ey tmps, val := ez tmps }
      have htl : (ces.modify j' fun e => { e with key := ey tmps, val := ez tmps }).toList = ces.toList.set j' m2 := by
        rw [Array.toList_modify]
        apply List.ext_getElem?
        intro i
        rw [List.getElem?_modify, List.getElem?_set]
        by_cases hi : j' = i
        · subst hi
          have := lt_of_get n1
          rw [n1]
          simp [this, m2]
          simp at this; exact this
        · simp [hi]
      have hkeys : (ces.toList.set j' m2).map (·.key) = ces.toList.map (·.key) := by
        rw [map_set', set_same]
        simp [n1, m2, n2]
      have hborn : (ces.toList.set j' m2).map (·.born) = ces.toList.map (·.born) := by
        rw [map_set', set_same]
        simp [n1, m2]
      have hmr : MapR e (es.set j (u, q)) (.map (ces.modify j' fun e => { e with key := ey tmps, val := ez tmps }) ck) := by
        refine ⟨_, ck, rfl, ⟨cl.set j m2, by rw [htl]; exact set_perm c1 c4 n1, ?_, ?_⟩, by rw [htl, hkeys]; exact p4, ⟨s, fun y hy => ?_⟩, by rw [htl, hborn]; exact p6, fun y hy => ?_⟩
        · rw [map_set', map_set']; exact c2.set j hux
        · rw [map_set', map_set']; exact c3.set j hqx
        · rw [htl] at hy
          rcases List.mem_or_eq_of_mem_set hy with hy | rfl
          · exact p5 y hy
          · exact hs1
        · rw [htl] at hy
          rcases List.mem_or_eq_of_mem_set hy with hy | rfl
          · exact p7 y hy
          · exact p7 m (List.mem_of_getElem? n1)
      refine ⟨e, undef, { w with heap := w.heap.setIfInBounds l.blk (.map (ces.modify j' fun e => { e with key := ey tmps, val := ez tmps }) ck) }, went_same (hW.put k6 h5 rfl rfl (.map _ _ hmr) rfl rfl rfl rfl) .und h5 rfl, .inr ⟨?_, rfl⟩⟩
      have hk2 : (((ces[j']?).map (·.key)).getD (ey tmps)) = ey tmps := by
        have : ces[j']? = some m := by rw [← Array.getElem?_toList]; exact n1
        rw [this]; simp [n2]
      dsimp only
      rw [h6]
      simp only [Instr.mapUpdate, Sem.run_bind, run_underlying' ht, Result.andThen_ok, run_getMap h7, run_checkKey hk hd (s := s), n3, hk2, keyStays hs1, run_setMap h7, Sem.run_pure]
    · obtain ⟨hall, hnone⟩ := hN (fun j a b hj y hy => q4 j a b hj e _ y hux hy)
      let m2 : MapEntry := { key := ey tmps, val := ez tmps, born := ck }
      have hmr : MapR e (es ++ [(u, q)]) (.map (ces.push m2) (ck + 1)) := by
        refine ⟨_, _, rfl, ⟨cl0 ++ [m2], by simpa using p1.append_right [m2], ?_, ?_⟩, ?_, ⟨s', fun y hy => ?_⟩, ?_, fun y hy => ?_⟩
        · simpa using p2.append (.cons _ _ _ _ hux .nil)
        · simpa using p3.append (.cons _ _ _ _ hqx .nil)
        · simp only [Array.toList_push, List.map_append, List.map_cons, List.map_nil]
          rw [List.nodup_append]
          refine ⟨p4, by simp, fun a ha b hb => ?_⟩
          simp only [List.mem_cons, List.not_mem_nil, or_false] at hb
          subst hb
          obtain ⟨m, hm1, rfl⟩ := List.mem_map.1 ha
          exact (hall m hm1).1
        · simp only [Array.toList_push, List.mem_append, List.mem_cons, List.not_mem_nil, or_false] at hy
          rcases hy with hy | rfl
          · exact (hall y hy).2
          · exact hs1
        · simp only [Array.toList_push, List.map_append, List.map_cons, List.map_nil]
          rw [List.nodup_append]
          refine ⟨p6, by simp, fun a ha b hb => ?_⟩
          simp only [List.mem_cons, List.not_mem_nil, or_false] at hb
          subst hb
          obtain ⟨m, hm1, rfl⟩ := List.mem_map.1 ha
          have := p7 m hm1
          omega
        · simp only [Array.toList_push, List.mem_append, List.mem_cons, List.not_mem_nil, or_false] at hy
          rcases hy with hy | rfl
          · have := p7 y hy; omega
          · show ck < ck + 1; omega
      refine ⟨e, undef, { w with heap := w.heap.setIfInBounds l.blk (.map (ces.push m2) (ck + 1)) }, went_same (hW.put k6 h5 rfl rfl (.map _ _ hmr) rfl rfl rfl rfl) .und h5 rfl, .inr ⟨?_, rfl⟩⟩
      dsimp only
      rw [h6]
      simp only [Instr.mapUpdate, Sem.run_bind, run_underlying' ht, Result.andThen_ok, run_getMap h7, run_checkKey hk hd (s := s), hnone, run_setMap h7, Sem.run_pure]
      rfl
theorem EV.del {kd : Nat} {kt el : TypeId} {d : TypeDesc} {ts : Array TypeId} {ty : TypeId} (ht : c.p.underlying t = some (.map kt el)) (h0 : ts[0]? = some t) (hk : c.p.underlying kt = some d) (hd : kindOf kd (some d))
    (hx : OOK S x ex) (hy : OOK S y ey) : EV c S (eDel kd x y) (fun tmps => do pure (.value (← Builtin.delete_ ts ty #[ex tmps, ey tmps]))) := by
  intro loc vs H N K X h
  left
  obtain ⟨v, k1, hv⟩ := hx _ _ _ h
  obtain ⟨u, k2, hu⟩ := hy _ _ _ k1
  obtain ⟨k4, hsh⟩ := chkKind_inv k2
  rcases V.onMap_inv k4 with ⟨b, rfl, k5⟩ | ⟨_, k5⟩
  rotate_left
  · exact (F_false k5).elim
  obtain ⟨ob, k6, k7⟩ := getT_F k5
  obtain ⟨es, rfl, k8⟩ := Ob.onMap_inv k7
  obtain ⟨es', k9, hes⟩ := delM_inv k8
  rw [putT_eq] at k9
  refine ⟨_, _, _, k9, Nat.le_refl _, fun e tmps w hS hW => ?_⟩
  obtain ⟨l, h5, h6⟩ := (hv e tmps hS).inv_map
  obtain ⟨co, h7, h8, h7l⟩ := hW.get k6 h5
  have hux := hu e tmps hS
  obtain ⟨s', hs1, hs2⟩ := hsh e _ hux
  cases h8 with
  | map _ _ hm =>
    have hm0 := hm
    obtain ⟨ces, ck, rfl, ⟨cl0, p1, p2, p3⟩, p4, ⟨s, p5⟩, p6, p7⟩ := hm
    obtain ⟨hF, hN⟩ := MapR.find (P := c.p) hm0 hk hd hs2 hs1
    rcases hes with ⟨j, a, b', q3, rfl, q5⟩ | ⟨rfl, q4⟩
    · obtain ⟨j', m, n1, n2, n3, cl, c1, c2, c3, c4⟩ := hF j a b' q3 (fun y hy => q5 e _ _ hux hy)
      have hmr : MapR e (es.eraseIdx j) (.map (ces.eraseIdxIfInBounds j') ck) := by
        refine ⟨_, ck, rfl, ⟨cl.eraseIdx j, by rw [Array.toList_eraseIdxIfInBounds]; exact erase_perm c1 c4 n1, ?_, ?_⟩, ?_, ⟨s, fun y hy => ?_⟩, ?_, fun y hy => ?_⟩
        · rw [map_erase', map_erase']; exact c2.erase j
        · rw [map_erase', map_erase']; exact c3.erase j
        · rw [Array.toList_eraseIdxIfInBounds, map_erase']; exact p4.sublist (List.eraseIdx_sublist ..)
        · rw [Array.toList_eraseIdxIfInBounds] at hy; exact p5 y (List.mem_of_mem_eraseIdx hy)
        · rw [Array.toList_eraseIdxIfInBounds, map_erase']; exact p6.sublist (List.eraseIdx_sublist ..)
        · rw [Array.toList_eraseIdxIfInBounds] at hy; exact p7 y (List.mem_of_mem_eraseIdx hy)
      refine ⟨e, .tuple #[], { w with heap := w.heap.setIfInBounds l.blk (.map (ces.eraseIdxIfInBounds j') ck) }, went_same (hW.put k6 h5 rfl rfl (.map _ _ hmr) rfl rfl rfl rfl) .und h5 rfl, .inl ?_⟩
      dsimp only
      rw [h6]
      simp [Builtin.delete_, h0, run_underlying' ht, run_getMap h7, run_checkKey hk hd (s := s), n3, run_setMap h7]
    · obtain ⟨hall, hnone⟩ := hN (fun j a b hj y hy => q4 j a b hj e _ y hux hy)
      refine ⟨e, .tuple #[], { w with heap := w.heap.setIfInBounds l.blk (.map ces ck) }, went_same (hW.put k6 h5 rfl rfl (.map _ _ hm0) rfl rfl rfl rfl) .und h5 rfl, .inl ?_⟩
      dsimp only
      rw [h6]
      simp [Builtin.delete_, h0, run_underlying' ht, run_getMap h7, run_checkKey hk hd (s := s), hnone, run_setMap h7]
end
end Go.AM
