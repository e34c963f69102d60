/- Regions, the fourth part: an open order, how it runs. -/
import Derived.Test.YtnekfilglnfgkaaGreatDoorAmReg3
set_option autoImplicit false
set_option linter.unusedVariables false
set_option linter.unusedSimpArgs false
namespace Go.AM
/-! ### Equal values are one -/
theorem eqI_eq {a b : Int} (h : eqI a b = true) : a = b := by rw [eqI_iff] at h; simpa using h
theorem eqV_inv (u : V) : ∀ {v : V} {K : A}, eqV u v K = true → u = v ∧ K = true := by
  suffices hh : ∀ v K, eqV u v K = true → u = v ∧ K = true from fun {v K} h => hh v K h
  refine V.rec (motive_1 := fun u => ∀ v K, eqV u v K = true → u = v ∧ K = true) (motive_2 := fun l => ∀ m K, eqV (.agg l) (.agg m) K = true → l = m ∧ K = true)
    ?int ?bool ?str ?ptr ?slc ?slo ?und ?nptr ?nslc ?nmap ?nfn ?nifc ?map ?fn ?yld ?ifc ?agg ?tup ?ivl ?flt ?esl ?nil ?cons u
  case int =>
    intro k n v K h
    cases v <;> first
      | exact absurd h Bool.false_ne_true
      | skip
    rename_i k' n'
    have h : kEq k k' (ifK K (F 98) (eqI n n')) = true := h
    obtain ⟨e0, h⟩ := kEq_inv h
    obtain ⟨h1, h⟩ := ifK_t h
    exact ⟨by rw [e0, eqI_eq h1], h⟩
  case bool =>
    intro b v K h
    cases v <;> first
      | exact absurd h Bool.false_ne_true
      | skip
    rename_i b'
    have h : ifK K (F 98) (eqB b b') = true := h
    obtain ⟨h1, h⟩ := ifK_t h
    rw [eqB_eq] at h1
    exact ⟨by rw [beq_iff_eq.1 h1], h⟩
  case str =>
    intro n m v K h
    cases v <;> first
      | exact absurd h Bool.false_ne_true
      | skip
    rename_i n' m'
    have h : ifK (ifK K (F 98) (Nat.beq m m')) (F 98) (Nat.beq n n') = true := h
    obtain ⟨h1, h⟩ := ifK_t h
    obtain ⟨h2, h⟩ := ifK_t h
    exact ⟨by rw [Nat.eq_of_beq_eq_true h1, Nat.eq_of_beq_eq_true h2], h⟩
  case ptr =>
    intro b o v K h
    cases v <;> first
      | exact absurd h Bool.false_ne_true
      | skip
    rename_i b' o'
    have h : eqP (ifK K (F 98) (Nat.beq o o')) b b' = true := h
    obtain ⟨e0, h⟩ := eqP_inv h
    obtain ⟨h2, h⟩ := ifK_t h
    exact ⟨by rw [e0, Nat.eq_of_beq_eq_true h2], h⟩
  case slc =>
    intro b o n q v K h
    cases v <;> first
      | exact absurd h Bool.false_ne_true
      | skip
    rename_i b' o' n' q'
    have h : eqP (ifK (ifK (ifK K (F 98) (Nat.beq q q')) (F 98) (Nat.beq n n')) (F 98) (Nat.beq o o')) b b' = true := h
    obtain ⟨e0, h⟩ := eqP_inv h
    obtain ⟨h1, h⟩ := ifK_t h
    obtain ⟨h2, h⟩ := ifK_t h
    obtain ⟨h3, h⟩ := ifK_t h
    exact ⟨by rw [e0, Nat.eq_of_beq_eq_true h1, Nat.eq_of_beq_eq_true h2, Nat.eq_of_beq_eq_true h3], h⟩
  case slo =>
    intro b o n q v K h
    cases v <;> first
      | exact absurd h Bool.false_ne_true
      | skip
    rename_i b' o' n' q'
    have h : eqP (ifK (ifK (ifK K (F 98) (Nat.beq q q')) (F 98) (Nat.beq n n')) (F 98) (Nat.beq o o')) b b' = true := h
    obtain ⟨e0, h⟩ := eqP_inv h
    obtain ⟨h1, h⟩ := ifK_t h
    obtain ⟨h2, h⟩ := ifK_t h
    obtain ⟨h3, h⟩ := ifK_t h
    exact ⟨by rw [e0, Nat.eq_of_beq_eq_true h1, Nat.eq_of_beq_eq_true h2, Nat.eq_of_beq_eq_true h3], h⟩
  case und => intro v K h; cases v <;> first | exact absurd h Bool.false_ne_true | exact ⟨rfl, h⟩
  case nptr => intro v K h; cases v <;> first | exact absurd h Bool.false_ne_true | exact ⟨rfl, h⟩
  case nslc => intro v K h; cases v <;> first | exact absurd h Bool.false_ne_true | exact ⟨rfl, h⟩
  case nmap => intro v K h; cases v <;> first | exact absurd h Bool.false_ne_true | exact ⟨rfl, h⟩
  case nfn => intro v K h; cases v <;> first | exact absurd h Bool.false_ne_true | exact ⟨rfl, h⟩
  case nifc => intro v K h; cases v <;> first | exact absurd h Bool.false_ne_true | exact ⟨rfl, h⟩
  case esl => intro v K h; cases v <;> first | exact absurd h Bool.false_ne_true | exact ⟨rfl, h⟩
  case map =>
    intro b v K h
    cases v <;> first
      | exact absurd h Bool.false_ne_true
      | skip
    rename_i b'
    have h : eqP K b b' = true := h
    obtain ⟨e0, h⟩ := eqP_inv h
    exact ⟨by rw [e0], h⟩
  case fn =>
    intro f a q ha hq v K h
    cases v <;> first
      | exact absurd h Bool.false_ne_true
      | skip
    rename_i f' a' q'
    have h : ifK (eqV (.agg a) (.agg a') (eqV (.agg q) (.agg q') K)) (F 98) (Nat.beq f f') = true := h
    obtain ⟨h1, h⟩ := ifK_t h
    obtain ⟨h2, h⟩ := ha _ _ h
    obtain ⟨h3, h⟩ := hq _ _ h
    exact ⟨by rw [Nat.eq_of_beq_eq_true h1, h2, h3], h⟩
  case yld =>
    intro b v K h
    cases v <;> first
      | exact absurd h Bool.false_ne_true
      | skip
    rename_i b'
    have h : eqP K b b' = true := h
    obtain ⟨e0, h⟩ := eqP_inv h
    exact ⟨by rw [e0], h⟩
  case ifc =>
    intro t w hw v K h
    cases v <;> first
      | exact absurd h Bool.false_ne_true
      | skip
    rename_i t' w'
    have h : ifK (eqV w w' K) (F 98) (Nat.beq t t') = true := h
    obtain ⟨h1, h⟩ := ifK_t h
    obtain ⟨h2, h⟩ := hw _ _ h
    exact ⟨by rw [Nat.eq_of_beq_eq_true h1, h2], h⟩
  case agg =>
    intro l hl v K h
    cases v <;> first
      | exact absurd h Bool.false_ne_true
      | skip
    obtain ⟨h2, h⟩ := hl _ _ h
    exact ⟨by rw [h2], h⟩
  case tup =>
    intro l hl v K h
    cases v <;> first
      | exact absurd h Bool.false_ne_true
      | skip
    rename_i l'
    have h : eqV (.agg l) (.agg l') K = true := h
    obtain ⟨h2, h⟩ := hl _ _ h
    exact ⟨by rw [h2], h⟩
  case ivl =>
    intro k lo hi v K h
    cases v <;> first
      | exact absurd h Bool.false_ne_true
      | skip
    rename_i k' lo' hi'
    have h : kEq k k' (ifK (ifK K (F 98) (eqI hi hi')) (F 98) (eqI lo lo')) = true := h
    obtain ⟨e0, h⟩ := kEq_inv h
    obtain ⟨h1, h⟩ := ifK_t h
    obtain ⟨h2, h⟩ := ifK_t h
    exact ⟨by rw [e0, eqI_eq h1, eqI_eq h2], h⟩
  case flt =>
    intro k n v K h
    cases v <;> exact absurd h Bool.false_ne_true
  case nil =>
    intro m K h
    cases m with
    | nil => exact ⟨rfl, h⟩
    | cons w r => exact absurd h Bool.false_ne_true
  case cons =>
    intro v l hv hl m K h
    cases m with
    | nil => exact absurd h Bool.false_ne_true
    | cons w r =>
      have h : eqV v w (eqV (.agg l) (.agg r) K) = true := h
      obtain ⟨h1, h⟩ := hv _ _ h
      obtain ⟨h2, h⟩ := hl _ _ h
      exact ⟨by rw [h1, h2], h⟩
/-! ### What the compiler gives -/
def lo (ms effs0 : List Nat) (i : Nat) : Nat := loOf (ms.getD i 0) effs0
def agCond (ms effs0 : List Nat) (m : Nat) (o : Oper) (i : Nat) : Bool := (!effOp o.op && readOp o.op) && (Nat.blt (loOf (ms.getD i 0) effs0) m && Nat.ble m (hiOf ms i effs0))
inductive NewR (c : Cfg) (f : Nat) (ops : Array Oper) (ms effs0 : List Nat) (m : Nat) : List Oper → Nat → List (Nat × Option Nat) → List RAct → List (Nat × Option Nat) → Prop
  | nil (i : Nat) (lt : List (Nat × Option Nat)) : NewR c f ops ms effs0 m [] i lt [] lt
  | take (o : Oper) (r : List Oper) (i : Nat) (lt : List (Nat × Option Nat)) (a : RAct) (l : List RAct) (lt' : List (Nat × Option Nat)) (h1 : effOp o.op = false) (h2 : lo ms effs0 i = m) (h3 : OperR c f (SG c.ng lt (ahead ms i) (dstp ops)) lt o a)
      (h4 : isEff a = false) (h5 : isRead a = true → readOp o.op = true) (t : NewR c f ops ms effs0 m r (i + 1) ((i, o.dst) :: lt) l lt') : NewR c f ops ms effs0 m (o :: r) i lt (a :: l) lt'
  | pass (o : Oper) (r : List Oper) (i : Nat) (lt : List (Nat × Option Nat)) (l : List RAct) (lt' : List (Nat × Option Nat)) (h : ¬ (effOp o.op = false ∧ lo ms effs0 i = m)) (t : NewR c f ops ms effs0 m r (i + 1) lt l lt') : NewR c f ops ms effs0 m (o :: r) i lt l lt'
inductive AgR (c : Cfg) (ops : Array Oper) (ms effs0 : List Nat) (m : Nat) (lt : List (Nat × Option Nat)) : List Oper → Nat → List RAct → Prop
  | nil (i : Nat) : AgR c ops ms effs0 m lt [] i []
  | pass (o : Oper) (r : List Oper) (i : Nat) (l : List RAct) (h : agCond ms effs0 m o i = false) (t : AgR c ops ms effs0 m lt r (i + 1) l) : AgR c ops ms effs0 m lt (o :: r) i l
  | ck (o : Oper) (r : List Oper) (i n t : Nat) (g : RdA) (l : List RAct) (hg : RO c (SG c.ng lt (ahead ms i) (dstp ops)) o g) (hgd : o.guard = none) (hl : lt[n]? = some (i, some t)) (tl : AgR c ops ms effs0 m lt r (i + 1) l) : AgR c ops ms effs0 m lt (o :: r) i (.ck n g :: l)
  | ckg (o : Oper) (r : List Oper) (i n t : Nat) (g : RdA) (n' j t' : Nat) (w : Bool) (l : List RAct) (hg : RO c (SG c.ng lt (ahead ms i) (dstp ops)) o g) (hgd : o.guard = some (j, w)) (hl : lt[n]? = some (i, some t)) (hl' : lt[n']? = some (j, some t'))
      (tl : AgR c ops ms effs0 m lt r (i + 1) l) : AgR c ops ms effs0 m lt (o :: r) i (.gc n' w (.ck n g) :: l)
inductive StR (c : Cfg) (f : Nat) (ops : Array Oper) (ms effs0 : List Nat) : List Nat → Nat → List (Nat × Option Nat) → List RAct → Prop
  | nil (m : Nat) (lt lt1 : List (Nat × Option Nat)) (l1 l2 : List RAct) (h1 : NewR c f ops ms effs0 m ops.toList 0 lt l1 lt1) (h2 : AgR c ops ms effs0 m lt1 ops.toList 0 l2) : StR c f ops ms effs0 [] m lt (l1 ++ l2)
  | cons (i : Nat) (r : List Nat) (m : Nat) (lt lt1 : List (Nat × Option Nat)) (l1 l2 l3 : List RAct) (o : Oper) (a : RAct) (h1 : NewR c f ops ms effs0 m ops.toList 0 lt l1 lt1) (h2 : AgR c ops ms effs0 m lt1 ops.toList 0 l2) (ho : ops[i]? = some o)
      (ha : OperR c f (SG c.ng lt1 (ahead ms i) (dstp ops)) lt1 o a) (t : StR c f ops ms effs0 r (m + 1) ((i, o.dst) :: lt1) l3) : StR c f ops ms effs0 (i :: r) m lt (l1 ++ (l2 ++ a :: l3))
def LtI (ops : Array Oper) (lt : List (Nat × Option Nat)) : Prop := ∀ (n j t : Nat), lt[n]? = some (j, some t) → ∃ o', ops[j]? = some o' ∧ o'.dst = some t
theorem LtI.next {ops : Array Oper} {lt : List (Nat × Option Nat)} (h : LtI ops lt) {i : Nat} {o : Oper} (ho : ops[i]? = some o) : LtI ops ((i, o.dst) :: lt) := by
  intro n j t hl
  cases n with
  | zero => simp at hl; obtain ⟨rfl, hd⟩ := hl; exact ⟨o, ho, hd⟩
  | succ n => exact h n j t (by simpa using hl)
theorem drop_at {ops : Array Oper} {i : Nat} {o : Oper} {r : List Oper} (h : ops.toList.drop i = o :: r) : ops[i]? = some o ∧ ops.toList.drop (i + 1) = r := by
  constructor
  · have : (ops.toList.drop i)[0]? = some o := by rw [h]; rfl
    rw [List.getElem?_drop, Nat.add_zero, Array.getElem?_toList] at this
    exact this
  · rw [← List.drop_drop, h]; rfl
section
variable {c : Cfg} {f : Nat} {fl fo : Fl} {raw : Tr TypeInfo} {ops : Array Oper} {ms effs0 : List Nat}
theorem asks_at (hds : DS ops ms effs0) {lt : List (Nat × Option Nat)} (hlt : LtI ops lt) {i : Nat} {o : Oper} (ho : ops[i]? = some o) : ∀ x ∈ o.op.operands.toList, Asks lt (ahead ms i) x := by
  intro x hx t ht n j hl
  subst ht
  obtain ⟨o', h1, h2⟩ := hlt n j t hl
  exact hds.deps i o ho t hx j o' h1 h2
theorem newK_inv (hP : PC c raw fo.eqs) (hF : FC c f fl) (hfo : fo.ng = c.ng) (hfl : FlOK fo (dstp ops)) (hds : DS ops ms effs0) {m : Nat} {E : A} : ∀ {r : List Oper} {i : Nat} {lt : List (Nat × Option Nat)} {K : List RAct → List (Nat × Option Nat) → A},
    ops.toList.drop i = r → LtI ops lt → newK raw fl fo ms effs0 m E r i lt K = true → E = true ∨ ∃ l lt', K l lt' = true ∧ NewR c f ops ms effs0 m r i lt l lt' ∧ LtI ops lt'
  | [], i, lt, K, _, hlt, h => .inr ⟨[], lt, h, .nil i lt, hlt⟩
  | o :: r, i, lt, K, hr, hlt, h => by
    obtain ⟨ho, hr'⟩ := drop_at hr
    rw [newK] at h
    cases hc : (!effOp o.op && Nat.beq (loOf (ms.getD i 0) effs0) m) with
    | false =>
      rw [hc, cond_false] at h
      rcases newK_inv hP hF hfo hfl hds hr' hlt h with h | ⟨l, lt', h1, h2, h3⟩
      · exact .inl h
      · refine .inr ⟨l, lt', h1, .pass o r i lt l lt' (fun hh => ?_) h2, h3⟩
        obtain ⟨a, b⟩ := hh
        unfold lo at b
        rw [a, b] at hc
        simp at hc
    | true =>
      rw [hc, cond_true] at h
      simp only [Bool.and_eq_true, Bool.not_eq_true'] at hc
      obtain ⟨c1, c2⟩ := hc
      obtain ⟨a, h, ha⟩ := operK_inv (D := ahead ms i) (dsts := dstp ops) hP hF hfo hfl (asks_at hds hlt ho) h
      cases he : isEff a with
      | true => rw [he, cond_true] at h; exact .inl h
      | false =>
        rw [he, cond_false] at h
        cases hk : (isRead a && !readOp o.op) with
        | true => rw [hk, cond_true] at h; exact .inl h
        | false =>
          rw [hk, cond_false] at h
          rcases newK_inv hP hF hfo hfl hds hr' (hlt.next ho) h with h | ⟨l, lt', h1, h2, h3⟩
          · exact .inl h
          · refine .inr ⟨_, lt', h1, .take o r i lt a l lt' c1 (Nat.eq_of_beq_eq_true c2) ha he (fun hh => ?_) h2, h3⟩
            rw [hh] at hk
            simpa using hk
theorem againK_inv (hP : PC c raw fo.eqs) (hfo : fo.ng = c.ng) (hfl : FlOK fo (dstp ops)) (hds : DS ops ms effs0) {m : Nat} {lt : List (Nat × Option Nat)} {E : A} (hlt : LtI ops lt) : ∀ {r : List Oper} {i : Nat} {K : List RAct → A},
    ops.toList.drop i = r → againK raw fo ms effs0 m lt E r i K = true → E = true ∨ ∃ l, K l = true ∧ AgR c ops ms effs0 m lt r i l
  | [], i, K, _, h => .inr ⟨[], h, .nil i⟩
  | o :: r, i, K, hr, h => by
    obtain ⟨ho, hr'⟩ := drop_at hr
    have go : ∀ g, RO c (SG c.ng lt (ahead ms i) (dstp ops)) o g → ckK lt E i o g (fun K => againK raw fo ms effs0 m lt E r (i + 1) K) K = true → E = true ∨ ∃ l, K l = true ∧ AgR c ops ms effs0 m lt (o :: r) i l := by
      intro g hg h
      rcases placeOf_inv h with h | ⟨n, t, h1, h⟩
      · exact .inl h
      rw [forceNat_eq, Nat.zero_add] at h
      cases hgd : o.guard with
      | none =>
        rw [hgd] at h
        rcases againK_inv hP hfo hfl hds hlt hr' h with h | ⟨l, h2, h3⟩
        · exact .inl h
        · exact .inr ⟨_, h2, .ck o r i n t g l hg hgd h1 h3⟩
      | some q =>
        obtain ⟨j, w⟩ := q
        rw [hgd] at h
        rcases placeOf_inv h with h | ⟨n', t', h1', h⟩
        · exact .inl h
        rw [forceNat_eq, Nat.zero_add] at h
        rcases againK_inv hP hfo hfl hds hlt hr' h with h | ⟨l, h2, h3⟩
        · exact .inl h
        · exact .inr ⟨_, h2, .ckg o r i n t g n' j t' w l hg hgd h1 h1' h3⟩
    rw [againK] at h
    change (bif agCond ms effs0 m o i then _ else _) = true at h
    cases hc : agCond ms effs0 m o i with
    | false =>
      rw [hc, cond_false] at h
      rcases againK_inv hP hfo hfl hds hlt hr' h with h | ⟨l, h2, h3⟩
      · exact .inl h
      · exact .inr ⟨l, h2, .pass o r i l hc h3⟩
    | true =>
      rw [hc, cond_true] at h
      rcases opK_inv hP.raw hP.eqs hP.flds hfl (asks_at hds hlt ho) h with h | ⟨a, h, ha⟩
      · exact .inl h
      rw [hfo] at ha
      cases ha with
      | p g hg => exact go _ (fun loc vs H K' hk => let ⟨v, h1, h2⟩ := hg loc vs K' hk; ⟨v, h1, fun H' e N tmps w _ hS _ => h2 e tmps w hS⟩) h
      | r g hg => exact go g hg h
      | n g hg => exact .inl h
      | e g hg => exact .inl h
theorem stagesK_inv (hP : PC c raw fo.eqs) (hF : FC c f fl) (hfo : fo.ng = c.ng) (hfl : FlOK fo (dstp ops)) (hds : DS ops ms effs0) {E : A} : ∀ {effs : List Nat} {m : Nat} {lt : List (Nat × Option Nat)} {K : List RAct → A}, LtI ops lt →
    stagesK raw fl fo ms effs0 ops.toList E effs m lt K = true → E = true ∨ ∃ l, K l = true ∧ StR c f ops ms effs0 effs m lt l
  | [], m, lt, K, hlt, h => by
    rw [stagesK] at h
    rcases newK_inv hP hF hfo hfl hds (by simp) hlt h with h | ⟨l1, lt1, h, h1, hlt1⟩
    · exact .inl h
    rcases againK_inv hP hfo hfl hds hlt1 (by simp) h with h | ⟨l2, h, h2⟩
    · exact .inl h
    rw [appL_eq] at h
    exact .inr ⟨_, h, .nil m lt lt1 l1 l2 h1 h2⟩
  | i :: r, m, lt, K, hlt, h => by
    rw [stagesK] at h
    rcases newK_inv hP hF hfo hfl hds (by simp) hlt h with h | ⟨l1, lt1, h, h1, hlt1⟩
    · exact .inl h
    rcases againK_inv hP hfo hfl hds hlt1 (by simp) h with h | ⟨l2, h, h2⟩
    · exact .inl h
    cases ho : ops.toList[i]? with
    | none => rw [ho] at h; exact .inl h
    | some o =>
      rw [ho] at h
      rw [Array.getElem?_toList] at ho
      obtain ⟨a, h, ha⟩ := operK_inv (D := ahead ms i) (dsts := dstp ops) hP hF hfo hfl (asks_at hds hlt1 ho) h
      rcases stagesK_inv hP hF hfo hfl hds (hlt1.next ho) h with h | ⟨l3, h, h3⟩
      · exact .inl h
      rw [appL_eq, appL_eq] at h
      exact .inr ⟨_, h, .cons i r m lt lt1 l1 l2 l3 o a h1 h2 ho ha h3⟩
theorem lessK_inv : ∀ {l : List Oper} {t : Tr Unit} {K : Tr Unit → A}, lessK l t K = true → ∃ t', K t' = true ∧ ∀ p u, t'.get p = some u → t.get p = some u ∧ ∀ o ∈ l, ∀ d, o.dst = some d → p.toNat ≠ d + 1
  | [], t, K, h => ⟨t, h, fun p u hp => ⟨hp, by simp⟩⟩
  | o :: r, t, K, h => by
    cases hd : o.dst with
    | none =>
      have h : lessK r t K = true := by simpa only [lessK, hd] using h
      obtain ⟨t', h1, h2⟩ := lessK_inv h
      refine ⟨t', h1, fun p u hp => ⟨(h2 p u hp).1, fun o' ho' d hdd => ?_⟩⟩
      rcases List.mem_cons.1 ho' with rfl | ho'
      · rw [hd] at hdd; cases hdd
      · exact (h2 p u hp).2 o' ho' d hdd
    | some d =>
      have h : pathK d (fun p => putT none p t fun t => lessK r t K) = true := by simpa only [lessK, hd] using h
      obtain ⟨q, h0, h⟩ := pathK_inv h
      rw [putT_eq] at h
      obtain ⟨t', h1, h2⟩ := lessK_inv h
      refine ⟨t', h1, fun p u hp => ?_⟩
      obtain ⟨a, b⟩ := h2 p u hp
      rw [Tr.get_put] at a
      by_cases hpq : p = q
      · rw [if_pos hpq] at a; cases a
      · rw [if_neg hpq] at a
        refine ⟨a, fun o' ho' d' hdd => ?_⟩
        rcases List.mem_cons.1 ho' with rfl | ho'
        · rw [hd] at hdd
          obtain rfl := Option.some.inj hdd
          exact fun hh => hpq (P.inj (by omega))
        · exact b o' ho' d' hdd
/-- a region whose order is open -/
theorem drawK_inv (hP : PC c raw fl.eqs) (hF : FC c f fl) {E : A} {K : List RAct → A} (h : drawK raw fl ops.toList E K = true) : E = true ∨ ∃ l ms effs0, K l = true ∧ DS ops ms effs0 ∧ StR c f ops ms effs0 effs0 0 [] l := by
  have h : (bif chain (masks ops.toList []) (effsOf ops.toList 0) then (bif depsB (masks ops.toList []) ops.toList ops.toList 0 then lessK ops.toList fl.t fun t => stagesK raw fl (.mk t fl.nt fl.ng fl.eqs) (masks ops.toList []) (effsOf ops.toList 0) ops.toList E (effsOf ops.toList 0) 0 [] K else E) else E) = true := h
  cases h1 : chain (masks ops.toList []) (effsOf ops.toList 0) with
  | false => rw [h1, cond_false] at h; exact .inl h
  | true =>
    rw [h1, cond_true] at h
    cases h2 : depsB (masks ops.toList []) ops.toList ops.toList 0 with
    | false => rw [h2, cond_false] at h; exact .inl h
    | true =>
      rw [h2, cond_true] at h
      obtain ⟨t', h, ht⟩ := lessK_inv h
      have hds := DS.of h1 h2
      have hfl : FlOK (.mk t' fl.nt fl.ng fl.eqs) (dstp ops) := by
        intro p u hp hd
        obtain ⟨j, o, ho, hdd⟩ := hd
        obtain ⟨_, hb⟩ := ht p u hp
        refine hb o ?_ _ hdd (by have := P.pos p; omega)
        rw [← Array.getElem?_toList] at ho
        exact List.mem_of_getElem? ho
      rcases stagesK_inv (fo := .mk t' fl.nt fl.ng fl.eqs) hP hF hF.ng hfl hds (fun n j t hl => by simp at hl) h with h | ⟨l, h, hl⟩
      · exact .inl h
      · exact .inr ⟨l, _, _, h, hds, hl⟩
end
end Go.AM
