/- Maps that are written. -/
import Derived.Test.YtnekfilglnfgkaaGreatDoorAmMap
set_option autoImplicit false
set_option linter.unusedVariables false
set_option linter.unusedSimpArgs false
namespace Go.AM
theorem get_cons_erase {α : Type} : ∀ (l : List α) (i : Nat) (a : α), l[i]? = some a → (a :: l.eraseIdx i).Perm l
  | [], i, a, h => by simp at h
  | b :: l, 0, a, h => by simp at h; subst h; exact .refl _
  | b :: l, i + 1, a, h => by
    have := get_cons_erase l i a (by simpa using h)
    exact (List.Perm.swap b a (l.eraseIdx i)).trans (this.cons b)
theorem set_erase {α : Type} : ∀ (l : List α) (i : Nat) (a : α), i < l.length → (l.set i a).Perm (a :: l.eraseIdx i)
  | [], i, a, h => by simp at h
  | b :: l, 0, a, h => .refl _
  | b :: l, i + 1, a, h => ((set_erase l i a (by simpa using h)).cons b).trans (List.Perm.swap a b (l.eraseIdx i))
theorem erase_perm {α : Type} {l m : List α} {i j : Nat} {a : α} (h : l.Perm m) (hi : l[i]? = some a) (hj : m[j]? = some a) : (l.eraseIdx i).Perm (m.eraseIdx j) :=
  (((get_cons_erase l i a hi).trans h).trans (get_cons_erase m j a hj).symm).cons_inv
theorem lt_of_get {α : Type} {l : List α} {i : Nat} {a : α} (h : l[i]? = some a) : i < l.length := by
  rcases Nat.lt_or_ge i l.length with hh | hh
  · exact hh
  · rw [List.getElem?_eq_none hh] at h; cases h
theorem set_perm {α : Type} {l m : List α} {i j : Nat} {a b : α} (h : l.Perm m) (hi : l[i]? = some a) (hj : m[j]? = some a) : (l.set i b).Perm (m.set j b) :=
  ((set_erase l i b (lt_of_get hi)).trans ((erase_perm h hi hj).cons b)).trans (set_erase m j b (lt_of_get hj)).symm
theorem VRs.erase {e : Env} : ∀ {l : List V} {xs : List Value} (n : Nat), VRs e l xs → VRs e (l.eraseIdx n) (xs.eraseIdx n)
  | _, _, _, .nil => by simpa using VRs.nil
  | _, _, 0, .cons _ _ _ _ _ t => by simpa using t
  | _, _, n + 1, .cons _ _ _ _ a t => by simpa using VRs.cons _ _ _ _ a (VRs.erase n t)
theorem map_set' {α β : Type} (f : α → β) (l : List α) (i : Nat) (a : α) : (l.set i a).map f = (l.map f).set i (f a) := List.map_set ..
theorem map_erase' {α β : Type} (f : α → β) : ∀ (l : List α) (i : Nat), (l.eraseIdx i).map f = (l.map f).eraseIdx i
  | [], _ => by simp
  | _ :: _, 0 => rfl
  | a :: l, i + 1 => by simp [map_erase' f l i]
theorem set_same {α : Type} : ∀ (l : List α) (i : Nat) (a : α), l[i]? = some a → l.set i a = l
  | [], _, _, _ => rfl
  | b :: l, 0, a, h => by simp at h; simp [h]
  | b :: l, i + 1, a, h => by simp [set_same l i a (by simpa using h)]
theorem putM_inv {kd : Nat} {k v : V} : ∀ {es : List (V × V)} {K : List (V × V) → A}, putM kd k v es K = true →
    ∃ es', K es' = true ∧ ((∃ (j : Nat) (a b : V), es[j]? = some (a, b) ∧ es' = es.set j (k, v) ∧ ∀ e x y, VR e k x → VR e a y → x = y) ∨
      (es' = es ++ [(k, v)] ∧ ∀ (j : Nat) (a b : V), es[j]? = some (a, b) → ∀ e x y, VR e k x → VR e a y → x ≠ y ∧ ∃ s, oneShape x = some s ∧ oneShape y = some s))
  | [], K, h => ⟨[(k, v)], h, .inr ⟨rfl, by simp⟩⟩
  | (a, b) :: es, K, h => by
    have h' : eqKind kd (fun t => ifK (K ((k, v) :: es)) (putM kd k v es fun r => K ((a, b) :: r)) t) k a = true := h
    obtain ⟨r, h1, h2⟩ := eqKind_key h'
    cases r with
    | true => exact ⟨_, h1, .inl ⟨0, a, b, rfl, rfl, fun e x y hx hy => (h2 e x y hx hy).2.1 rfl⟩⟩
    | false =>
      have h1' : putM kd k v es (fun r => K ((a, b) :: r)) = true := h1
      obtain ⟨es', q1, q2⟩ := putM_inv h1'
      refine ⟨_, q1, ?_⟩
      rcases q2 with ⟨j, a', b', q3, q4, q5⟩ | ⟨q3, q4⟩
      · exact .inl ⟨j + 1, a', b', by simpa using q3, by simp [q4], q5⟩
      · refine .inr ⟨by simp [q3], fun j a' b' hj e x y hx hy => ?_⟩
        cases j with
        | zero =>
          simp at hj
          obtain ⟨rfl, rfl⟩ := hj
          exact ⟨fun hh => absurd ((h2 e x y hx hy).2.2 hh) Bool.false_ne_true, (h2 e x y hx hy).1⟩
        | succ j => exact q4 j a' b' (by simpa using hj) e x y hx hy
theorem delM_inv {kd : Nat} {k : V} : ∀ {es : List (V × V)} {K : List (V × V) → A}, delM kd k es K = true →
    ∃ es', K es' = true ∧ ((∃ (j : Nat) (a b : V), es[j]? = some (a, b) ∧ es' = es.eraseIdx j ∧ ∀ e x y, VR e k x → VR e a y → x = y) ∨
      (es' = es ∧ ∀ (j : Nat) (a b : V), es[j]? = some (a, b) → ∀ e x y, VR e k x → VR e a y → x ≠ y ∧ ∃ s, oneShape x = some s ∧ oneShape y = some s))
  | [], K, h => ⟨[], h, .inr ⟨rfl, by simp⟩⟩
  | (a, b) :: es, K, h => by
    have h' : eqKind kd (fun t => ifK (K es) (delM kd k es fun r => K ((a, b) :: r)) t) k a = true := h
    obtain ⟨r, h1, h2⟩ := eqKind_key h'
    cases r with
    | true => exact ⟨_, h1, .inl ⟨0, a, b, rfl, rfl, fun e x y hx hy => (h2 e x y hx hy).2.1 rfl⟩⟩
    | false =>
      have h1' : delM kd k es (fun r => K ((a, b) :: r)) = true := h1
      obtain ⟨es', q1, q2⟩ := delM_inv h1'
      refine ⟨_, q1, ?_⟩
      rcases q2 with ⟨j, a', b', q3, q4, q5⟩ | ⟨q3, q4⟩
      · exact .inl ⟨j + 1, a', b', by simpa using q3, by simp [q4], q5⟩
      · refine .inr ⟨by simp [q3], fun j a' b' hj e x y hx hy => ?_⟩
        cases j with
        | zero =>
          simp at hj
          obtain ⟨rfl, rfl⟩ := hj
          exact ⟨fun hh => absurd ((h2 e x y hx hy).2.2 hh) Bool.false_ne_true, (h2 e x y hx hy).1⟩
        | succ j => exact q4 j a' b' (by simpa using hj) e x y hx hy
/-- the entry of a key, in the model's map -/
theorem MapR.find {P : Program} {e : Env} {es : List (V × V)} {ces : Array MapEntry} {ck : Nat} {k s' : Nat} {d : TypeDesc} {kt : TypeId} {x : Value} (hm : MapR e es (.map ces ck)) (ht : P.underlying kt = some d) (hd : kindOf k (some d)) (hk : kindSh k s') (hx : oneShape x = some s') :
    (∀ (j : Nat) (a b : V), es[j]? = some (a, b) → (∀ y, VR e a y → x = y) → ∃ (j' : Nat) (m : MapEntry), ces.toList[j']? = some m ∧ m.key = x ∧ (∀ w, (Instr.findKey kt x ces.toList).run P w = .ok (some (j', m.val)) w) ∧
        ∃ cl : List MapEntry, cl.Perm ces.toList ∧ VRs e (es.map (·.1)) (cl.map (·.key)) ∧ VRs e (es.map (·.2)) (cl.map (·.val)) ∧ cl[j]? = some m) ∧
    ((∀ (j : Nat) (a b : V), es[j]? = some (a, b) → ∀ y, VR e a y → x ≠ y ∧ ∃ s, oneShape x = some s ∧ oneShape y = some s) → (∀ m ∈ ces.toList, m.key ≠ x ∧ oneShape m.key = some s') ∧ ∀ w, (Instr.findKey kt x ces.toList).run P w = .ok none w) := by
  obtain ⟨ces', ck', h0, ⟨cl, p1, p2, p3⟩, p4, ⟨s, p5⟩, p6, p7⟩ := hm
  cases h0
  refine ⟨fun j a b hj hxy => ?_, fun hne => ?_⟩
  · obtain ⟨kx, g1, g2⟩ := p2.get (n := j) (v := a) (by simp [hj])
    have hxk := hxy _ g2
    simp only [List.getElem?_map, Option.map_eq_some_iff] at g1
    obtain ⟨m, m1, m2⟩ := g1
    have hmem : m ∈ ces.toList := p1.mem_iff.1 (List.mem_of_getElem? m1)
    have hss : s' = s := by
      have := p5 m hmem
      rw [m2, ← hxk, hx] at this
      exact Option.some.inj this
    subst hss
    rcases findNow_ok hd hk hx ces.toList 0 p5 with ⟨j', m', n1, n2, n3⟩ | ⟨n1, n2⟩
    · have hmm : m' = m := key_inj p4 (List.mem_of_getElem? n1) hmem (by rw [n2, m2, hxk])
      subst hmm
      exact ⟨j', m', n1, n2, fun w => by simp [Instr.findKey, run_underlying' ht, n3], cl, p1, p2, p3, m1⟩
    · exact absurd (m2.trans hxk.symm) (n1 m hmem)
  · have hall : ∀ m ∈ ces.toList, m.key ≠ x ∧ oneShape m.key = some s' := by
      intro m hm
      obtain ⟨j, hj⟩ := List.getElem?_of_mem (p1.mem_iff.2 hm)
      have hlen := p2.length
      simp at hlen
      have hjl : j < es.length := by have := lt_of_get hj; omega
      obtain ⟨kx, g1, g2⟩ := p2.get (n := j) (v := es[j].1) (by simp [hjl])
      simp only [List.getElem?_map, hj, Option.map_some, Option.some.injEq] at g1
      subst g1
      obtain ⟨a1, s2, a2, a3⟩ := hne j es[j].1 es[j].2 (by simp [hjl]) _ g2
      rw [hx] at a2
      obtain rfl := Option.some.inj a2
      exact ⟨fun hh => a1 hh.symm, a3⟩
    refine ⟨hall, fun w => ?_⟩
    rcases findNow_ok hd hk hx ces.toList 0 (fun m hm => (hall m hm).2) with ⟨j', m', n1, n2, n3⟩ | ⟨n1, n2⟩
    · exact absurd n2 (hall m' (List.mem_of_getElem? n1)).1
    · simp [Instr.findKey, run_underlying' ht, n2]
theorem keyStays {P : Program} {x : Value} {s : Nat} (hx : oneShape x = some s) (w : World) : (Instr.keyThatStays x x).run P w = .ok x w := by
  have : ∀ n, Instr.sameBits n x x = true := by
    intro n
    cases x <;> simp [oneShape] at hx <;> simp [Instr.sameBits]
    exact (ba_beq _ _).2 rfl
  simp [Instr.keyThatStays, this]
end Go.AM
