/- Maps: looked up, written, deleted from. -/
import Derived.Test.YtnekfilglnfgkaaGreatDoorAmMem3
set_option autoImplicit false
set_option linter.unusedVariables false
set_option linter.unusedSimpArgs false
namespace Go.AM
/-- shapes of keys of a kind -/
def kindSh (k s : Nat) : Prop :=
  match k with
  | 0 => s < 8
  | 1 => s = 8
  | _ => s = 9
theorem kNum_lt (k : IntKind) : kNum k < 8 := by cases k <;> decide
theorem kNum_inj {j k : IntKind} (h : kNum j = kNum k) : j = k := by cases j <;> cases k <;> first | rfl | exact absurd h (by decide)
theorem chkKind_inv {k : Nat} {K : A} {v : V} (h : chkKind k K v = true) : K = true ∧ ∀ (e : Env) (x : Value), VR e v x → ∃ s, oneShape x = some s ∧ kindSh k s := by
  rcases k with _ | _ | k
  · have h' : V.onInt (fun _ _ => K) v = true := h
    obtain ⟨i, n, rfl, h2⟩ := V.onInt_inv h'
    exact ⟨h2, fun e x hx => ⟨kNum i, by rw [hx.inv_int]; rfl, kNum_lt i⟩⟩
  · have h' : V.onStr (fun _ _ => K) v = true := h
    obtain ⟨i, n, rfl, h2⟩ := V.onStr_inv h'
    exact ⟨h2, fun e x hx => ⟨8, by obtain ⟨s, rfl, _⟩ := hx.inv_str; rfl, rfl⟩⟩
  · have h' : V.onBool (fun _ => K) v = true := h
    obtain ⟨b, rfl, h2⟩ := V.onBool_inv h'
    exact ⟨h2, fun e x hx => ⟨9, by rw [hx.inv_bool]; rfl, rfl⟩⟩
theorem eqKind_key {k : Nat} {K : Bool → A} {v w : V} (h : eqKind k K v w = true) : ∃ r : Bool, K r = true ∧ ∀ (e : Env) (x y : Value), VR e v x → VR e w y → (∃ s, oneShape x = some s ∧ oneShape y = some s) ∧ (r = true ↔ x = y) := by
  rcases k with _ | _ | k
  · have h' : V.onInt (fun i n => V.onInt (fun j m => kEq i j (ifK (K true) (K false) (eqI n m))) w) v = true := h
    obtain ⟨i, n, rfl, h2⟩ := V.onInt_inv h'
    obtain ⟨j, m, rfl, h3⟩ := V.onInt_inv h2
    obtain ⟨rfl, h4⟩ := kEq_inv h3
    refine ⟨_, ifB h4, fun e x y hx hy => ?_⟩
    rw [hx.inv_int, hy.inv_int, eqI_iff]
    exact ⟨⟨kNum i, rfl, rfl⟩, by simp⟩
  · have h' : V.onStr (fun n s => V.onStr (fun m t => ifK (K true) (K false) (eqS n s m t)) w) v = true := h
    obtain ⟨n, s, rfl, h2⟩ := V.onStr_inv h'
    obtain ⟨m, u, rfl, h3⟩ := V.onStr_inv h2
    refine ⟨_, ifB h3, fun e x y hx hy => ?_⟩
    obtain ⟨a, e1, e2, e3⟩ := hx.inv_str
    obtain ⟨b, e4, e5, e6⟩ := hy.inv_str
    rw [e1, e4, eqS_iff e2 e3 e5 e6]
    refine ⟨⟨8, rfl, rfl⟩, ?_⟩
    rw [ByteArray.toList_eq, ByteArray.toList_eq, beq_iff_eq]
    constructor
    · intro hh
      obtain ⟨⟨a⟩⟩ := a
      obtain ⟨⟨b⟩⟩ := b
      simp at hh; rw [hh]
    · intro hh; injection hh with hh; rw [hh]
  · have h' : V.onBool (fun a => V.onBool (fun b => ifK (K true) (K false) (eqB a b)) w) v = true := h
    obtain ⟨a, rfl, h2⟩ := V.onBool_inv h'
    obtain ⟨b, rfl, h3⟩ := V.onBool_inv h2
    refine ⟨_, ifB h3, fun e x y hx hy => ?_⟩
    rw [hx.inv_bool, hy.inv_bool, eqB_eq]
    exact ⟨⟨9, rfl, rfl⟩, by simp⟩
theorem ba_beq (a b : ByteArray) : (a == b) = true ↔ a = b := by
  rw [beq_toListBytes, ByteArray.toList_eq, ByteArray.toList_eq, beq_iff_eq]
  constructor
  · intro hh
    obtain ⟨⟨a⟩⟩ := a
    obtain ⟨⟨b⟩⟩ := b
    simp at hh; rw [hh]
  · intro hh; rw [hh]
theorem sameNow_ok {k s : Nat} {d : TypeDesc} {x y : Value} (hd : kindOf k (some d)) (hk : kindSh k s) (hx : oneShape x = some s) (hy : oneShape y = some s) : ∃ b, Instr.sameNow d x y = some b ∧ (b = true ↔ x = y) := by
  cases d <;> first | exact hd.elim | skip
  case int j =>
    have : k = 0 := hd
    subst this
    have hs : s < 8 := hk
    cases x <;> simp [oneShape] at hx <;> first | omega | skip
    cases y <;> simp [oneShape] at hy <;> first | omega | skip
    rename_i a n b m
    have : a = b := kNum_inj (by omega)
    subst this
    exact ⟨n == m, by simp [Instr.sameNow], by simp⟩
  case string =>
    have : k = 1 := hd
    subst this
    have hs : s = 8 := hk
    subst hs
    cases x <;> simp [oneShape] at hx <;> first | (have := kNum_lt ‹_›; omega) | skip
    cases y <;> simp [oneShape] at hy <;> first | (have := kNum_lt ‹_›; omega) | skip
    rename_i a b
    exact ⟨a == b, by simp [Instr.sameNow], by rw [ba_beq]; simp⟩
  case bool =>
    have : k = 2 := hd
    subst this
    have hs : s = 9 := hk
    subst hs
    cases x <;> simp [oneShape] at hx <;> first | (have := kNum_lt ‹_›; omega) | skip
    cases y <;> simp [oneShape] at hy <;> first | (have := kNum_lt ‹_›; omega) | skip
    rename_i a b
    exact ⟨a == b, by simp [Instr.sameNow], by simp⟩
theorem findNow_ok {k s : Nat} {d : TypeDesc} {x : Value} (hd : kindOf k (some d)) (hk : kindSh k s) (hx : oneShape x = some s) : ∀ (l : List MapEntry) (i : Nat), (∀ m ∈ l, oneShape m.key = some s) →
    (∃ j m, l[j]? = some m ∧ m.key = x ∧ Instr.findNow d x l i = some (some (i + j, m.val))) ∨ ((∀ m ∈ l, m.key ≠ x) ∧ Instr.findNow d x l i = some none)
  | [], i, _ => .inr ⟨by simp, rfl⟩
  | m :: l, i, h => by
    obtain ⟨b, h1, h2⟩ := sameNow_ok hd hk hx (h m (by simp))
    cases b with
    | true => exact .inl ⟨0, m, rfl, (h2.1 rfl).symm, by simp [Instr.findNow, h1]⟩
    | false =>
      have hne : x ≠ m.key := fun hh => absurd (h2.2 hh) Bool.false_ne_true
      rcases findNow_ok hd hk hx l (i + 1) (fun q hq => h q (by simp [hq])) with ⟨j, q, a, b, e⟩ | ⟨a, e⟩
      · exact .inl ⟨j + 1, q, by simpa using a, b, by simp [Instr.findNow, h1, e]; omega⟩
      · exact .inr ⟨fun q hq => by rcases List.mem_cons.1 hq with rfl | hq; exact fun hh => hne hh.symm; exact a q hq, by simp [Instr.findNow, h1, e]⟩
theorem run_findKey {P : Program} {k s : Nat} {d : TypeDesc} {kt : TypeId} {x : Value} {l : List MapEntry} (ht : P.underlying kt = some d) (hd : kindOf k (some d)) (hk : kindSh k s) (hx : oneShape x = some s) (h : ∀ m ∈ l, oneShape m.key = some s) (w : World) :
    (∃ j m, l[j]? = some m ∧ m.key = x ∧ (Instr.findKey kt x l).run P w = .ok (some (j, m.val)) w) ∨ ((∀ m ∈ l, m.key ≠ x) ∧ (Instr.findKey kt x l).run P w = .ok none w) := by
  rcases findNow_ok hd hk hx l 0 h with ⟨j, m, a, b, e⟩ | ⟨a, e⟩
  · exact .inl ⟨j, m, a, b, by simp [Instr.findKey, run_underlying' ht, e]⟩
  · exact .inr ⟨a, by simp [Instr.findKey, run_underlying' ht, e]⟩
theorem run_checkKey {P : Program} {k s : Nat} {d : TypeDesc} {kt : TypeId} {x : Value} {em : Bool} (ht : P.underlying kt = some d) (hd : kindOf k (some d)) (w : World) : (Instr.checkKey em 10000 kt x).run P w = .ok () w := by
  have : ∀ n, (Instr.checkKey em (n + 1) kt x).run P w = .ok () w := by
    intro n
    simp only [Instr.checkKey, Sem.run_bind, run_underlying' ht, Result.andThen_ok]
    cases d <;> first | rfl | exact hd.elim
  exact this 9999
theorem run_getMap {P : Program} {w : World} {b : Nat} {es : Array MapEntry} {ck : Nat} (h : w.heap[b]? = some (.map es ck)) : (getObj b).run P w = .ok (.map es ck) w := by
  simp [getObj, Sem.run, h]
theorem run_setMap {P : Program} {w : World} {b : Nat} {es es' : Array MapEntry} {ck ck' : Nat} (h : w.heap[b]? = some (.map es ck)) : (setObj b (.map es' ck')).run P w = .ok () { w with heap := w.heap.setIfInBounds b (.map es' ck') } := by
  simp [setObj, Sem.run, h]
theorem key_inj : ∀ {l : List MapEntry}, (l.map (·.key)).Nodup → ∀ {a b : MapEntry}, a ∈ l → b ∈ l → a.key = b.key → a = b
  | [], _, _, _, h, _, _ => by cases h
  | m :: l, hn, a, b, ha, hb, h => by
    simp only [List.map_cons, List.nodup_cons, List.mem_map, not_exists, not_and] at hn
    obtain ⟨h1, h2⟩ := hn
    rcases List.mem_cons.1 ha with e1 | e1
    · rcases List.mem_cons.1 hb with e2 | e2
      · rw [e1, e2]
      · subst e1; exact absurd h.symm (h1 b e2)
    · rcases List.mem_cons.1 hb with e2 | e2
      · subst e2; exact absurd h (h1 a e1)
      · exact key_inj h2 e1 e2 h
theorem Ob.onMap_inv {K : List (V × V) → A} {o : Ob} (h : Ob.onMap K o = true) : ∃ es, o = .map es ∧ K es = true := by
  cases o <;> first | exact ⟨_, rfl, h⟩ | exact absurd h Bool.false_ne_true
theorem findM_inv {kd : Nat} {k : V} {N : A} {K : V → A} : ∀ {es : List (V × V)}, findM kd k N K es = true →
    (∃ (j : Nat) (a b : V), es[j]? = some (a, b) ∧ K b = true ∧ ∀ e x y, VR e k x → VR e a y → x = y) ∨ (N = true ∧ ∀ (j : Nat) (a b : V), es[j]? = some (a, b) → ∀ e x y, VR e k x → VR e a y → x ≠ y ∧ ∃ s, oneShape x = some s ∧ oneShape y = some s)
  | [], h => .inr ⟨h, by simp⟩
  | (a, b) :: es, h => by
    have h' : eqKind kd (fun t => ifK (K b) (findM kd k N K es) t) k a = true := h
    obtain ⟨r, h1, h2⟩ := eqKind_key h'
    cases r with
    | true => exact .inl ⟨0, a, b, rfl, h1, fun e x y hx hy => ((h2 e x y hx hy).2.1 rfl)⟩
    | false =>
      have h1' : findM kd k N K es = true := h1
      rcases findM_inv h1' with ⟨j, a', b', q1, q2, q3⟩ | ⟨q1, q2⟩
      · exact .inl ⟨j + 1, a', b', by simpa using q1, q2, q3⟩
      · refine .inr ⟨q1, fun j a' b' hj e x y hx hy => ?_⟩
        cases j with
        | zero =>
          simp at hj
          obtain ⟨rfl, rfl⟩ := hj
          exact ⟨fun hh => absurd ((h2 e x y hx hy).2.2 hh) Bool.false_ne_true, (h2 e x y hx hy).1⟩
        | succ j => exact q2 j a' b' (by simpa using hj) e x y hx hy
section
variable {c : Cfg} {S : Srel} {x y z : Opd} {ex ey ez : Array Value → Value} {t : TypeId}
theorem RV.look {kd : Nat} {kt el : TypeId} {d : TypeDesc} {i : TypeInfo} {zero : V} {zv : Value} {ok : Bool} (ht : c.p.underlying t = some (.map kt el)) (hk : c.p.underlying kt = some d) (hd : kindOf kd (some d)) (hi : c.p.info? el = some i) (hz : i.zero = some zv) (hzv : ∀ e, VR e zero zv)
    (hx : OOK S x ex) (hy : OOK S y ey) : RV c S (rLook kd zero ok x y) (fun tmps => Instr.lookup t (ex tmps) (ey tmps) ok) := by
  intro loc vs H K h
  obtain ⟨v, k1, hv⟩ := hx _ _ _ h
  obtain ⟨u, k2, hu⟩ := hy _ _ _ k1
  obtain ⟨k3, hsh⟩ := chkKind_inv k2
  have miss : ifK (K (.tup [zero, .bool false])) (K zero) ok = true → ∃ v, K v = true ∧ ∀ e, VR e v (if ok then .tuple #[zv, .bool false] else zv) := by
    intro hh
    rcases ifK_inv hh with ⟨rfl, h2⟩ | ⟨rfl, h2⟩
    · exact ⟨_, h2, fun e => .tup _ _ (.cons _ _ _ _ (hzv e) (.cons _ _ _ _ (.bool _) .nil))⟩
    · exact ⟨_, h2, fun e => hzv e⟩
  rcases V.onMap_inv k3 with ⟨b, rfl, k4⟩ | ⟨rfl, k4⟩
  · obtain ⟨ob, k5, k6⟩ := getT_F k4
    obtain ⟨es, rfl, k7⟩ := Ob.onMap_inv k6
    rcases findM_inv k7 with ⟨j, a, b', q1, q2, q3⟩ | ⟨q1, q2⟩
    · have : ∃ v, K v = true ∧ ∀ e y, VR e b' y → VR e v (if ok then .tuple #[y, .bool true] else y) := by
        rcases ifK_inv q2 with ⟨rfl, h2⟩ | ⟨rfl, h2⟩
        · exact ⟨_, h2, fun e y hy => .tup _ _ (.cons _ _ _ _ hy (.cons _ _ _ _ (.bool _) .nil))⟩
        · exact ⟨_, h2, fun e y hy => hy⟩
      obtain ⟨r, hr, hrv⟩ := this
      refine ⟨r, hr, fun H' e N tmps w hE hS hW => ?_⟩
      obtain ⟨l, h5, h6⟩ := (hv e tmps hS).inv_map
      obtain ⟨co, h7, h8, _⟩ := hW.get (hE _ _ k5) h5
      cases h8 with
      | map _ _ hm =>
        obtain ⟨ces, ck, rfl, ⟨cl, p1, p2, p3⟩, p4, ⟨s, p5⟩, p6, p7⟩ := hm
        obtain ⟨kx, g1, g2⟩ := p2.get (n := j) (v := a) (by simp [q1])
        obtain ⟨bx, g3, g4⟩ := p3.get (n := j) (v := b') (by simp [q1])
        have hxk := q3 e _ _ (hu e tmps hS) g2
        simp only [List.getElem?_map, Option.map_eq_some_iff] at g1 g3
        obtain ⟨m, m1, m2⟩ := g1
        obtain ⟨m', m3, m4⟩ := g3
        rw [m1] at m3
        obtain rfl := Option.some.inj m3
        have hmem : m ∈ ces.toList := p1.mem_iff.1 (List.mem_of_getElem? m1)
        obtain ⟨s', hs1, hs2⟩ := hsh e _ (hu e tmps hS)
        have hss : s' = s := by
          have := p5 m hmem
          rw [m2, ← hxk, hs1] at this
          exact Option.some.inj this
        subst hss
        rcases run_findKey (P := c.p) (l := ces.toList) hk hd hs2 hs1 p5 w with ⟨j', m', n1, n2, n3⟩ | ⟨n1, n2⟩
        · have hmm : m' = m := by
            have hm'mem : m' ∈ ces.toList := List.mem_of_getElem? n1
            have hkeys : m'.key = m.key := by rw [n2, m2, hxk]
            exact key_inj p4 hm'mem hmem hkeys
          subst hmm
          refine ⟨_, hrv e m'.val (by rw [m4]; exact g4), ?_⟩
          dsimp only
          rw [h6]
          simp only [Instr.lookup, Sem.run_bind, run_underlying' ht, Result.andThen_ok, run_getMap h7, Sem.run_pure, run_checkKey hk hd (s := s'), n3]
        · exact absurd (m2.trans hxk.symm) (n1 m hmem)
    · obtain ⟨r, hr, hrv⟩ := miss q1
      refine ⟨r, hr, fun H' e N tmps w hE hS hW => ?_⟩
      obtain ⟨l, h5, h6⟩ := (hv e tmps hS).inv_map
      obtain ⟨co, h7, h8, _⟩ := hW.get (hE _ _ k5) h5
      cases h8 with
      | map _ _ hm =>
        obtain ⟨ces, ck, rfl, ⟨cl, p1, p2, p3⟩, p4, ⟨s, p5⟩, p6, p7⟩ := hm
        have hne : ∀ m ∈ ces.toList, m.key ≠ ey tmps ∧ ∃ s', oneShape (ey tmps) = some s' ∧ oneShape m.key = some s' := by
          intro m hm
          obtain ⟨j, hj⟩ := List.getElem?_of_mem (p1.mem_iff.2 hm)
          have hlen := p2.length
          simp at hlen
          have hjl : j < es.length := by
            rcases Nat.lt_or_ge j cl.length with hh | hh
            · omega
            · rw [List.getElem?_eq_none hh] at hj; cases hj
          obtain ⟨kx, g1, g2⟩ := p2.get (n := j) (v := es[j].1) (by simp [hjl])
          simp only [List.getElem?_map, hj, Option.map_some, Option.some.injEq] at g1
          subst g1
          obtain ⟨a1, a2⟩ := q2 j es[j].1 es[j].2 (by simp [hjl]) e _ _ (hu e tmps hS) g2
          exact ⟨fun hh => a1 hh.symm, a2⟩
        refine ⟨_, hrv e, ?_⟩
        dsimp only
        rw [h6]
        have hfk : (Instr.findKey kt (ey tmps) ces.toList).run c.p w = .ok none w := by
          cases hc : ces.toList with
          | nil => simp [Instr.findKey, run_underlying' hk, Instr.findNow]
          | cons m r =>
            obtain ⟨_, s', b1, b2⟩ := hne m (by rw [hc]; simp)
            obtain ⟨s'', c1, c2⟩ := hsh e _ (hu e tmps hS)
            have hss : s'' = s := by
              have := p5 m (by rw [hc]; simp)
              rw [b2, ← b1, c1] at this
              exact Option.some.inj this
            subst hss
            rw [← hc]
            rcases run_findKey (P := c.p) (l := ces.toList) hk hd c2 c1 p5 w with ⟨j', m', n1, n2, n3⟩ | ⟨n1, n2⟩
            · exact absurd n2 (hne m' (List.mem_of_getElem? n1)).1
            · exact n2
        simp only [Instr.lookup, Sem.run_bind, run_underlying' ht, Result.andThen_ok, run_getMap h7, Sem.run_pure, run_checkKey hk hd (s := s), hfk, run_zeroValue' hi hz]
  · obtain ⟨r, hr, hrv⟩ := miss k4
    refine ⟨r, hr, fun H' e N tmps w hE hS hW => ⟨_, hrv e, ?_⟩⟩
    dsimp only
    rw [(hv e tmps hS).inv_nmap]
    simp only [Instr.lookup, Sem.run_bind, run_underlying' ht, Result.andThen_ok, Sem.run_pure, run_checkKey hk hd (s := 0), Instr.findKey, run_underlying' hk, Instr.findNow, run_zeroValue' hi hz]
theorem RV.lenM {kt el : TypeId} {ts : Array TypeId} {ty : TypeId} (ht : c.p.underlying t = some (.map kt el)) (h0 : ts[0]? = some t) (hx : OOK S x ex) : RV c S (rLenM x) (fun tmps => Builtin.len_ ts ty #[ex tmps]) := by
  intro loc vs H K h
  obtain ⟨v, k1, hv⟩ := hx _ _ _ h
  rcases V.onMap_inv k1 with ⟨b, rfl, k4⟩ | ⟨rfl, k4⟩
  · obtain ⟨ob, k5, k6⟩ := getT_F k4
    obtain ⟨es, rfl, k7⟩ := Ob.onMap_inv k6
    rw [lenL_zero] at k7
    refine ⟨_, k7, fun H' e N tmps w hE hS hW => ?_⟩
    obtain ⟨l, h5, h6⟩ := (hv e tmps hS).inv_map
    obtain ⟨co, h7, h8, _⟩ := hW.get (hE _ _ k5) h5
    cases h8 with
    | map _ _ hm =>
      obtain ⟨ces, ck, rfl, ⟨cl, p1, p2, p3⟩, p4, _⟩ := hm
      refine ⟨_, .int _ _, ?_⟩
      have : es.length = ces.size := by
        have a := p2.length
        have b := p1.length_eq
        simp at a b; omega
      dsimp only
      rw [h6]
      simp [Builtin.len_, h0, run_underlying' ht, run_getMap h7, goInt, this]
  · refine ⟨_, k4, fun H' e N tmps w hE hS hW => ⟨_, .int _ _, ?_⟩⟩
    dsimp only
    rw [(hv e tmps hS).inv_nmap]
    simp [Builtin.len_, h0, run_underlying' ht, goInt]
end
end Go.AM
