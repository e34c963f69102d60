/- Regions, the second part: operations in the text's order. -/
import Derived.Test.YtnekfilglnfgkaaGreatDoorAmReg1
set_option autoImplicit false
set_option linter.unusedVariables false
set_option linter.unusedSimpArgs false
namespace Go.AM
/-- what the compiler knows of a func -/
structure FC (c : Cfg) (f : Nat) (fl : Fl) : Prop where
  ng : fl.ng = c.ng
  nt : fl.nt = c.nt f
  keep : ∀ p, c.keep f p ↔ ∃ u, fl.t.get p = some u
/-- what is known of the program -/
structure PC (c : Cfg) (raw : Tr TypeInfo) (eqs : List Nat) : Prop where
  raw : RawR c.p raw
  eqs : ∀ t ∈ eqs, eqType c.p t = true ∧ c.p.eqGuardType c.p.depth t = false
  flds : ∀ i ∈ c.p.types.toList, ∀ fs : Array Field, i.desc = .struct fs → ∀ f ∈ fs.toList, ∃ j, c.p.info? f.type = some j
/-- an act for an operation with its target; or one that never runs -/
inductive OperR (c : Cfg) (f : Nat) (S : Srel) (lt : List (Nat × Option Nat)) (o : Oper) (a : RAct) : Prop
  | mk (d : Option P) (hd : c.dst f d o.dst) (hn : ∀ t, o.dst = some t → ∀ (m j : Nat), lt[m]? ≠ some (j, some t)) (h : ActR c S lt o d a)
  | bad (h : a = .e eFail none)
section
variable {c : Cfg} {f : Nat} {fl fo : Fl} {raw : Tr TypeInfo} {lt : List (Nat × Option Nat)} {D dsts : Nat → Prop}
theorem newTmp_inv {dst : Option Nat} {N K : A} (h : newTmp fl lt dst N K = true) : N = true ∨ (K = true ∧ ∀ t, dst = some t → t < fl.nt ∧ ∀ (m j : Nat), lt[m]? ≠ some (j, some t)) := by
  cases dst with
  | none => exact .inr ⟨h, fun t ht => by cases ht⟩
  | some t =>
    have h : ifK (placeK t K (fun _ => N) lt 0) N (Nat.blt t fl.nt) = true := h
    rcases ifK_inv h with ⟨h1, h2⟩ | ⟨_, h2⟩
    · rcases placeK_inv h2 with ⟨h3, h4⟩ | ⟨_, _, _, h3⟩
      · exact .inr ⟨h3, fun t' ht => by obtain rfl := Option.some.inj ht; exact ⟨Nat.le_of_ble_eq_true h1, h4⟩⟩
      · exact .inl h3
    · exact .inl h2
theorem dstK_inv {dst : Option Nat} {K : Option P → A} (hF : FC c f fl) (h : dstK fl dst K = true) : ∃ d, K d = true ∧ ((∀ t, dst = some t → t < c.nt f) → c.dst f d dst) := by
  cases dst with
  | none => exact ⟨none, h, fun _ => trivial⟩
  | some t =>
    obtain ⟨p, h1, h2⟩ := pathK_inv h
    rcases getT_inv h2 with ⟨h3, h4⟩ | ⟨u, h3, h4⟩
    · refine ⟨none, h4, fun ht => ⟨fun q hq hk => ?_, ht t rfl⟩⟩
      have : q = p := P.inj (by omega)
      subst this
      obtain ⟨u, hu⟩ := (hF.keep q).1 hk
      rw [h3] at hu; cases hu
    · exact ⟨some p, h4, fun ht => ⟨h1, (hF.keep p).2 ⟨u, h3⟩, ht t rfl⟩⟩
theorem operK_inv {o : Oper} {K : RAct → A} (hP : PC c raw fo.eqs) (hF : FC c f fl) (hfo : fo.ng = c.ng) (hfl : FlOK fo dsts) (hx : ∀ x ∈ o.op.operands.toList, Asks lt D x) (h : operK raw fl fo lt o K = true) :
    ∃ a, K a = true ∧ OperR c f (SG c.ng lt D dsts) lt o a := by
  have bad : K (.e eFail none) = true → ∃ a, K a = true ∧ OperR c f (SG c.ng lt D dsts) lt o a := fun h => ⟨_, h, .bad rfl⟩
  rcases newTmp_inv h with h | ⟨h, hn⟩
  · exact bad h
  obtain ⟨d, h, hd⟩ := dstK_inv hF h
  have hd := hd (fun t ht => by rw [← hF.nt]; exact (hn t ht).1)
  rcases opK_inv hP.raw hP.eqs hP.flds hfl hx h with h | ⟨a, h, ha⟩
  · exact bad h
  rw [hfo] at ha
  cases hg : o.guard with
  | none =>
    rw [hg] at h
    exact ⟨a, h, .mk d hd (fun t ht => (hn t ht).2) (.plain a ha hg)⟩
  | some q =>
    obtain ⟨j, w⟩ := q
    rw [hg] at h
    rcases placeOf_inv h with h | ⟨n, t, h1, h⟩
    · exact bad h
    · rw [forceNat_eq, Nat.zero_add] at h
      rcases ifK_inv h with ⟨rfl, h⟩ | ⟨rfl, h⟩
      · exact ⟨_, h, .mk d hd (fun t ht => (hn t ht).2) (.guard n j t true a ha hg h1)⟩
      · exact ⟨_, h, .mk d hd (fun t ht => (hn t ht).2) (.guard n j t false a ha hg h1)⟩
end
/-! ### The text's order -/
def yes : Nat → Prop := fun _ => True
def no : Nat → Prop := fun _ => False
inductive SeqR (c : Cfg) (f : Nat) : List RAct → List Oper → Nat → List (Nat × Option Nat) → Prop
  | nil (i : Nat) (lt : List (Nat × Option Nat)) : SeqR c f [] [] i lt
  | cons (o : Oper) (r : List Oper) (a : RAct) (as : List RAct) (i : Nat) (lt : List (Nat × Option Nat)) (h : OperR c f (SG c.ng lt yes no) lt o a) (t : SeqR c f as r (i + 1) ((i, o.dst) :: lt)) : SeqR c f (a :: as) (o :: r) i lt
theorem seqK_inv {c : Cfg} {f : Nat} {fl : Fl} {raw : Tr TypeInfo} (hP : PC c raw fl.eqs) (hF : FC c f fl) : ∀ {ops : List Oper} {i : Nat} {lt : List (Nat × Option Nat)} {K : List RAct → A}, seqK raw fl ops i lt K = true → ∃ l, K l = true ∧ SeqR c f l ops i lt
  | [], i, lt, K, h => ⟨[], h, .nil i lt⟩
  | o :: r, i, lt, K, h => by
    have h : operK raw fl fl lt o (fun a => seqK raw fl r (i + 1) ((i, o.dst) :: lt) fun l => K (a :: l)) = true := h
    obtain ⟨a, h, ha⟩ := operK_inv (D := yes) (dsts := no) hP hF hF.ng (fun _ _ _ hh => hh) (fun x _ t _ n j _ => trivial) h
    obtain ⟨l, h, hl⟩ := seqK_inv hP hF h
    exact ⟨_, h, .cons o r a l i lt ha hl⟩
/-- the locals' temporaries are their operations' -/
def LtOK (ops : Array Oper) (nt : Nat) (lt : List (Nat × Option Nat)) : Prop := ∀ (n j t : Nat), lt[n]? = some (j, some t) → ((ops[j]?).bind (·.dst)) = some t ∧ t < nt
/-- a region under way in the text's order -/
structure TS (c : Cfg) (f : Nat) (lt : List (Nat × Option Nat)) (loc : List V) (vs : Tr V) (e : Env) (tmps : Array Value) : Prop where
  size : c.nt f ≤ tmps.size
  keep : ∀ p v, vs.get p = some v → c.keep f p
  sg : SG c.ng lt yes no e loc vs tmps
structure RegS (c : Cfg) (f : Nat) (ops : Array Oper) (e : Env) (acts : List RAct) (loc : List V) (vs : Tr V) (rest : List Nat) (tmps : Array Value) : Prop where
  ex : ∃ i lt, rest = List.range' i (ops.size - i) ∧ SeqR c f acts (ops.toList.drop i) i lt ∧ LtOK ops (c.nt f) lt ∧ TS c f lt loc vs e tmps
theorem SG.mono {ng : Nat} {lt : List (Nat × Option Nat)} {D dsts : Nat → Prop} {e e' : Env} {loc : List V} {vs : Tr V} {tmps : Array Value} (hle : e.le e') (h : SG ng lt D dsts e loc vs tmps) : SG ng lt D dsts e' loc vs tmps :=
  ⟨fun p hp => let ⟨l, a, b⟩ := h.1 p hp; ⟨l, hle _ _ a, b⟩, fun n i t v a b d => (h.2.1 n i t v a b d).mono hle, fun p v a b => (h.2.2 p v a b).mono hle⟩
theorem getD_put {tmps : Array Value} {t u : Nat} {x : Value} (ht : t < tmps.size) : (tmps.setIfInBounds t x).getD u undef = if u = t then x else tmps.getD u undef := by
  by_cases h : u = t
  · subst h; simp [ht]
  · have h' : t ≠ u := fun hh => h hh.symm
    simp [h, Array.getElem?_setIfInBounds_ne h']
theorem size_putTmp (d : Option Tmp) (x : Value) (tmps : Array Value) : (AMS.putTmp d x tmps).size = tmps.size := by cases d <;> simp [AMS.putTmp]
theorem TS.next {c : Cfg} {f : Nat} {lt : List (Nat × Option Nat)} {loc : List V} {vs : Tr V} {e e' : Env} {tmps : Array Value} (h : TS c f lt loc vs e tmps) {i : Nat} {d : Option P} {dst : Option Nat} (hd : c.dst f d dst) (hn : ∀ t, dst = some t → ∀ (m j : Nat), lt[m]? ≠ some (j, some t))
    (hle : e.le e') {v : V} {x : Value} (hv : VR e' v x) : TS c f ((i, dst) :: lt) (v :: loc) (putd d v vs) e' (AMS.putTmp dst x tmps) := by
  have hsg := h.sg.mono hle
  cases dst with
  | none =>
    cases d with
    | some p => exact hd.elim
    | none =>
      refine ⟨h.size, h.keep, hsg.1, fun n j t u hl _ hu => ?_, hsg.2.2⟩
      cases n with
      | zero => simp at hl
      | succ n => exact hsg.2.1 n j t u (by simpa using hl) trivial (by simpa using hu)
  | some t =>
    have htn : t < c.nt f := by cases d with | none => exact hd.2 | some p => exact hd.2.2
    have hts : t < tmps.size := Nat.lt_of_lt_of_le htn h.size
    refine ⟨by rw [size_putTmp]; exact h.size, fun p u hp => ?_, hsg.1, fun n j t' u hl _ hu => ?_, fun p u hp _ => ?_⟩
    · cases d with
      | none => exact h.keep p u hp
      | some q =>
        by_cases hpq : p = q
        · subst hpq; exact hd.2.1
        · exact h.keep p u (by simpa [putd, Tr.get_put_ne _ _ hpq] using hp)
    · simp only [AMS.putTmp]
      rw [getD_put hts]
      cases n with
      | zero =>
        simp at hl hu
        rw [if_pos hl.2.symm, ← hu]; exact hv
      | succ n =>
        have hl : lt[n]? = some (j, some t') := by simpa using hl
        have : t' ≠ t := fun hh => hn t rfl n j (by rw [← hh]; exact hl)
        rw [if_neg this]
        exact hsg.2.1 n j t' u hl trivial (by simpa using hu)
    · simp only [AMS.putTmp]
      rw [getD_put hts]
      cases d with
      | none =>
        have hk := h.keep p u hp
        have : p.toNat - 1 ≠ t := fun hh => hd.1 p (by have := P.pos p; omega) hk
        rw [if_neg this]
        exact hsg.2.2 p u hp (fun hh => hh)
      | some q =>
        by_cases hpq : p = q
        · subst hpq
          have : vs.put (some v) p = putd (some p) v vs := rfl
          rw [← this, Tr.get_put_same] at hp
          obtain rfl := Option.some.inj hp
          rw [if_pos (by have := hd.1; omega)]; exact hv
        · have hp : vs.get p = some u := by simpa [putd, Tr.get_put_ne _ _ hpq] using hp
          have : p.toNat - 1 ≠ t := fun hh => hpq (P.inj (by have := P.pos p; have := hd.1; omega))
          rw [if_neg this]
          exact hsg.2.2 p u hp (fun hh => hh)
theorem LtOK.next {ops : Array Oper} {nt : Nat} {lt : List (Nat × Option Nat)} (h : LtOK ops nt lt) {i : Nat} {o : Oper} (ho : ops[i]? = some o) (ht : ∀ t, o.dst = some t → t < nt) : LtOK ops nt ((i, o.dst) :: lt) := by
  intro n j t hl
  cases n with
  | zero =>
    simp at hl
    obtain ⟨rfl, hd⟩ := hl
    exact ⟨by simp [ho, hd], ht t hd⟩
  | succ n => exact h n j t (by simpa using hl)
/-- temporaries that are results -/
def ResT (c : Cfg) (f t : Nat) : Prop := ∃ fn, c.p.funcs[f]? = some fn ∧ t ∈ resTmps fn.results.toList
def OpsSafe (c : Cfg) (f : Nat) (ops : Array Oper) : Prop := ∀ (i : Nat) (o : Oper) (t : Nat), ops[i]? = some o → effOp o.op = false → o.dst = some t → ¬ ResT c f t
def VsRes (c : Cfg) (f : Nat) (e : Env) (vs : Tr V) (tmps : Array Value) : Prop := ∀ p u, vs.get p = some u → ResT c f (p.toNat - 1) → VR e u (tmps.getD (p.toNat - 1) undef)
/-- what a region comes to: its end, or an operation that gives no value -/
def WaitR (Reg : Env → Tr Ob → P → List RAct → List V → Tr V → List Nat → Array Value → Prop) (B : P) (e : Env) (H : Tr Ob) (N : P) (d : Option P) (acts : List RAct) (loc : List V) (vs : Tr V) (tmps : Array Value) (dst : Option Tmp) (r : List Nat) : Prop :=
  ∀ e2 H2 N2 v x, Later B e H N e2 H2 N2 → VR e2 v x → Reg e2 H2 N2 acts (v :: loc) (putd d v vs) r (AMS.putTmp dst x tmps)
theorem WaitR.later {Reg : Env → Tr Ob → P → List RAct → List V → Tr V → List Nat → Array Value → Prop} {B : P} {e e' : Env} {H H' : Tr Ob} {N N' : P} {d : Option P} {acts : List RAct} {loc : List V} {vs : Tr V} {tmps : Array Value} {dst : Option Tmp} {r : List Nat}
    (h : WaitR Reg B e H N d acts loc vs tmps dst r) (hl : Later B e H N e' H' N') : WaitR Reg B e' H' N' d acts loc vs tmps dst r := fun e2 H2 N2 v x h2 hv => h e2 H2 N2 v x (hl.trans h2) hv
def RegOut (c : Cfg) (f : Nat) (ops : Array Oper) (k : List Item) (dfr : List Deferred) (kd : CallKind) (rnd : Option Nat) (cs : List Frame) (Q : Prop) (Ek : Tr V → Tr Ob → P → A) (X : Nx → Option P → List RAct → List V → Tr V → Tr Ob → P → A)
    (Reg : Env → Tr Ob → P → List RAct → List V → Tr V → List Nat → Array Value → Prop) (B : P) (e : Env) (H : Tr Ob) (N : P) (m : Machine) : Prop :=
  ∃ e' H' N' w' tmps' vs', Later B e H N e' H' N' ∧ WR c e' H' N' w' ∧
    ((Ek vs' H' N' = true ∧ c.vsr f e' vs' tmps' ∧ Steps c.p m (lone (AMS.rf f tmps' k dfr kd rnd) cs w')) ∨
     (∃ i r o nx d acts' loc', ops[i]? = some o ∧ X nx d acts' loc' vs' H' N' = true ∧ Region.wanted o (yielded ops tmps') = true ∧ NxR c e' w' nx ((execOp (evT tmps') o).run c.p w') ∧
        Steps c.p m (lone (AMS.rf f tmps' (.inRegion ops (i :: r) :: k) dfr kd rnd) cs w') ∧ WaitR Reg N' e' H' N' d acts' loc' vs' tmps' o.dst r ∧ (Q → VsRes c f e' vs' tmps')))
theorem RegOut.head {c : Cfg} {f : Nat} {ops : Array Oper} {k : List Item} {dfr : List Deferred} {kd : CallKind} {rnd : Option Nat} {cs : List Frame} {Q : Prop} {Ek : Tr V → Tr Ob → P → A} {X : Nx → Option P → List RAct → List V → Tr V → Tr Ob → P → A}
    {Reg : Env → Tr Ob → P → List RAct → List V → Tr V → List Nat → Array Value → Prop} {B : P} {e e1 : Env} {H H1 : Tr Ob} {N N1 : P} {m m1 : Machine} (hs : Go.step c.p m = .next m1) (hl : Later B e H N e1 H1 N1) (h : RegOut c f ops k dfr kd rnd cs Q Ek X Reg B e1 H1 N1 m1) :
    RegOut c f ops k dfr kd rnd cs Q Ek X Reg B e H N m := by
  obtain ⟨e', H', N', w', tmps', vs', h1, h2, h3⟩ := h
  refine ⟨e', H', N', w', tmps', vs', hl.trans h1, h2, ?_⟩
  rcases h3 with ⟨a, b, d⟩ | ⟨i, r, o, nx, d, acts', loc', a1, a2, a3, a4, a5, a6⟩
  · exact .inl ⟨a, b, .head hs d⟩
  · exact .inr ⟨i, r, o, nx, d, acts', loc', a1, a2, a3, a4, .head hs a5, a6⟩
def RegS' (c : Cfg) (f : Nat) (ops : Array Oper) : Env → Tr Ob → P → List RAct → List V → Tr V → List Nat → Array Value → Prop := fun e _ _ acts loc vs rest tmps => RegS c f ops e acts loc vs rest tmps
/-- a region in the text's order -/
theorem seq_run {c : Cfg} {f : Nat} {ops : Array Oper} {k : List Item} {dfr : List Deferred} {kd : CallKind} {rnd : Option Nat} {cs : List Frame} {Q : Prop} {Ek : Tr V → Tr Ob → P → A} {X : Nx → Option P → List RAct → List V → Tr V → Tr Ob → P → A} :
    ∀ (acts : List RAct) {e : Env} {H : Tr Ob} {N : P} {loc : List V} {vs : Tr V} {rest : List Nat} {tmps : Array Value} {w : World} {B : P}, B.toNat ≤ N.toNat → RegS c f ops e acts loc vs rest tmps → WR c e H N w → actsK Ek X acts loc vs H N = true →
      RegOut c f ops k dfr kd rnd cs Q Ek X (RegS' c f ops) B e H N (lone (AMS.rf f tmps (.inRegion ops rest :: k) dfr kd rnd) cs w)
  | [], e, H, N, loc, vs, rest, tmps, w, B, hB, hR, hW, hk => by
    obtain ⟨i, lt, h1, h2, h3, h4⟩ := hR.ex
    have hi : ops.size - i = 0 := by
      cases hdr : ops.toList.drop i with
      | nil => have := congrArg List.length hdr; simpa using this
      | cons o r => rw [hdr] at h2; cases h2
    rw [hi] at h1
    have hr : rest = [] := by simpa using h1
    subst hr
    refine ⟨e, H, N, w, tmps, vs, Later.refl B e H N, hW, .inl ⟨hk, ⟨h4.size, fun p v hp => ⟨h4.keep p v hp, h4.sg.2.2 p v hp (fun hh => hh)⟩⟩, .one AMS.st_regionEnd⟩⟩
  | a :: as, e, H, N, loc, vs, rest, tmps, w, B, hB, hR, hW, hk => by
    obtain ⟨i, lt, h1, h2, h3, h4⟩ := hR.ex
    cases hdr : ops.toList.drop i with
    | nil => rw [hdr] at h2; cases h2
    | cons o r =>
      rw [hdr] at h2
      have hi : i < ops.size := by
        rcases Nat.lt_or_ge i ops.size with hh | hh
        · exact hh
        · rw [List.drop_eq_nil_of_le (by simpa using hh)] at hdr; cases hdr
      have ho : ops[i]? = some o := by
        have : (ops.toList.drop i)[0]? = some o := by rw [hdr]; rfl
        rw [List.getElem?_drop, Nat.add_zero, Array.getElem?_toList] at this
        exact this
      have hr : ops.toList.drop (i + 1) = r := by
        rw [← List.drop_drop, hdr]; rfl
      have hrest : rest = i :: List.range' (i + 1) (ops.size - (i + 1)) := by
        rw [h1, show ops.size - i = (ops.size - (i + 1)) + 1 by omega, List.range'_succ]
      subst hrest
      have hk : actK (fun x d => X x d as) (actsK Ek X as) a loc vs H N = true := hk
      cases h2 with
      | cons _ _ _ _ _ _ hO hS =>
        cases hO with
        | bad hb => subst hb; exact (F_false (n := 300) hk).elim
        | mk d hd hn hA =>
          have hlt' : LtOK ops (c.nt f) ((i, o.dst) :: lt) := h3.next ho (fun t ht => by rw [ht] at hd; cases d with | none => exact hd.2 | some p => exact hd.2.2)
          have nextR : ∀ {e' : Env} {v : V} {x : Value}, e.le e' → VR e' v x → RegS c f ops e' as (v :: loc) (putd d v vs) (List.range' (i + 1) (ops.size - (i + 1))) (AMS.putTmp o.dst x tmps) :=
            fun hle hv => ⟨i + 1, _, rfl, by rw [hr]; exact hS, hlt', h4.next hd hn hle hv⟩
          have hG : GuardOK ops (fun e tmps => TS c f lt loc vs e tmps) lt loc o := by
            intro n j t w' hg hl
            refine ⟨(h3 n j t hl).1, fun e tmps ht => ⟨Nat.lt_of_lt_of_le (h3 n j t hl).2 ht.size, fun u hu => ht.sg.2.1 n j t u hl trivial hu⟩⟩
          rcases act_inv (T := fun e tmps => TS c f lt loc vs e tmps) hA (fun e tmps ht => ht.sg) hG hk with ⟨v, H', N', h5, h6⟩ | ⟨nx, h5, _, h6, h7⟩
          · obtain ⟨e', x, w', h7, h8, h9, h10⟩ := gua_step (f := f) (k := k) (dfr := dfr) (kd := kd) (rnd := rnd) (cs := cs) (rest := List.range' (i + 1) (ops.size - (i + 1))) ho h4 hW h6
            exact .head h7 (h8.weak hB) (seq_run as (Nat.le_trans hB h8.nn) (nextR h8.le h10) h9 h5)
          · exact ⟨e, H, N, w, tmps, vs, Later.refl B e H N, hW, .inr ⟨i, _, o, nx, d, as, loc, ho, h5, h6 e tmps h4, h7 e tmps w h4 hW, .refl _ _, fun e2 H2 N2 v x hl hv => nextR hl.le hv, fun _ p u hp _ => h4.sg.2.2 p u hp (fun hh => hh)⟩⟩
end Go.AM
