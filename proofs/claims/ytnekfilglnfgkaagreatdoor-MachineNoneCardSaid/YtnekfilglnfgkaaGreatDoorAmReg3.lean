/- Regions, the third part: an open order, what is known between two acts. -/
import Derived.Test.YtnekfilglnfgkaaGreatDoorAmOrd
set_option autoImplicit false
set_option linter.unusedVariables false
set_option linter.unusedSimpArgs false
namespace Go.AM
def ahead (ms : List Nat) (i : Nat) : Nat → Prop := fun j => bit (ms.getD i 0) j = true
def dstp (ops : Array Oper) : Nat → Prop := fun t => ∃ (j : Nat) (o : Oper), ops[j]? = some o ∧ o.dst = some t
/-- what an operation asks for, where all that lies ahead of it is done -/
def TD (c : Cfg) (f : Nat) (ops : Array Oper) (ms : List Nat) (lt : List (Nat × Option Nat)) (loc : List V) (vs : Tr V) (i : Nat) (e : Env) (tmps : Array Value) : Prop :=
  c.nt f ≤ tmps.size ∧ SG c.ng lt (ahead ms i) (dstp ops) e loc vs tmps
/-- an operation that ran already in the abstract and not yet in truth -/
inductive Pend (c : Cfg) (ops : Array Oper) (T : Env → Array Value → Prop) (o : Oper) (H : Tr Ob) (rd : Prop) : V → Option P → Prop
  | skip (fr : Option P) (h : WantT ops T o false) : Pend c ops T o H rd .und fr
  | pure (v : V) (fr : Option P) (hw : WantT ops T o true) (h : ∀ e tmps w, T e tmps → ∃ x, VR e v x ∧ (execOp (evT tmps) o).run c.p w = .ok (.value x) w) : Pend c ops T o H rd v fr
  | read (v : V) (fr : Option P) (hr : readOp o.op = true) (hw : WantT ops T o true) (h : rd → ∀ H' e N' tmps w, HExt H H' → T e tmps → WR c e H' N' w → ∃ x, VR e v x ∧ (execOp (evT tmps) o).run c.p w = .ok (.value x) w) : Pend c ops T o H rd v fr
  | fresh (b : P) (ob : Ob) (m : Mk) (hw : WantT ops T o true) (hb : H.get b = some ob) (hg : ob.isGlob = false)
      (h : ∀ e tmps, T e tmps → ∃ co size, (∀ e' blk, e.le e' → OR c e' ⟨blk, 0, size⟩ ob co) ∧ ∀ w, ∃ x, (execOp (evT tmps) o).run c.p w = .ok (.value x) (w.alloc co) ∧ ∀ e' b, e' b = some ⟨w.heap.size, 0, size⟩ → VR e' (mkV m b) x) :
      Pend c ops T o H rd (mkV m b) (some b)
theorem Pend.trans {c : Cfg} {ops : Array Oper} {T T' : Env → Array Value → Prop} {o : Oper} {H H' : Tr Ob} {rd rd' : Prop} {v : V} {fr : Option P} (h : Pend c ops T o H rd v fr) (hT : ∀ e tmps, T' e tmps → T e tmps)
    (hH : ∀ b ob, fr = some b → H.get b = some ob → H'.get b = some ob) (hr : rd' → rd ∧ HExt H H') : Pend c ops T' o H' rd' v fr := by
  cases h with
  | skip _ h => exact .skip fr fun e tmps ht => h e tmps (hT e tmps ht)
  | pure _ _ hw h => exact .pure v fr (fun e tmps ht => hw e tmps (hT e tmps ht)) fun e tmps w ht => h e tmps w (hT e tmps ht)
  | read _ _ hr' hw h => exact .read v fr hr' (fun e tmps ht => hw e tmps (hT e tmps ht)) fun q H2 e N' tmps w hE ht hW => h (hr q).1 H2 e N' tmps w (fun b ob hb => hE b ob ((hr q).2 b ob hb)) (hT e tmps ht) hW
  | fresh b ob m hw hb hg h => exact .fresh b ob m (fun e tmps ht => hw e tmps (hT e tmps ht)) (hH b ob rfl hb) hg fun e tmps ht => h e tmps (hT e tmps ht)
/-- between two acts of a region whose order is open. done, effs: the acting operations that are through, and the others; C: whose place in the order has come in the abstract; RD: whose reading holds; L: what is done in truth; fr: names that are promised -/
structure DI (B : P) (c : Cfg) (f : Nat) (ops : Array Oper) (ms effs0 : List Nat) (dn effs : List Nat) (C RD : Nat → Prop) (lt : List (Nat × Option Nat)) (L : Nat → Prop) (fr : Nat → Option P) (e : Env) (H : Tr Ob) (N : P) (loc : List V) (vs : Tr V) (tmps : Array Value) : Prop where
  ds : DS ops ms effs0
  size : c.nt f ≤ tmps.size
  glob : ∀ p : P, p.toNat ≤ c.ng → ∃ l, e p = some l ∧ l.blk + 1 = p.toNat ∧ l.base = 0
  keep : ∀ p u, vs.get p = some u → c.keep f p
  len : loc.length = lt.length
  ltok : LtOK ops (c.nt f) lt
  ltx : ∀ (n i : Nat) (d : Option Nat), lt[n]? = some (i, d) → ∃ o, ops[i]? = some o ∧ o.dst = d
  uniq : ∀ (n n' i : Nat) (d d' : Option Nat), lt[n]? = some (i, d) → lt[n']? = some (i, d') → n = n'
  uniqt : ∀ (n n' i i' t : Nat), lt[n]? = some (i, some t) → lt[n']? = some (i', some t) → n = n'
  ent : ∀ (n i : Nat) (d : Option Nat) (v : V) (o : Oper), lt[n]? = some (i, d) → loc[n]? = some v → ops[i]? = some o →
    (L i → ∀ t, d = some t → VR e v (tmps.getD t undef)) ∧ (¬ L i → Pend c ops (TD c f ops ms lt loc vs i) o H (RD i) v (fr i))
  vsd : ∀ p u, vs.get p = some u → (∃ n i : Nat, lt[n]? = some (i, some (p.toNat - 1)) ∧ loc[n]? = some u) ∨ ((∀ n i : Nat, lt[n]? ≠ some (i, some (p.toNat - 1))) ∧ VR e u (tmps.getD (p.toNat - 1) undef))
  frn : ∀ i b, fr i = some b → e b = none ∧ B.toNat ≤ b.toNat ∧ b.toNat < N.toNat
  fri : ∀ i j b, fr i = some b → fr j = some b → i = j
  closed : ∀ i, L i → ∀ j, bit (ms.getD i 0) j = true → L j
  Llt : ∀ i, L i → ∃ (n : Nat) (d : Option Nat), lt[n]? = some (i, d)
  split : effs0 = dn ++ effs
  dnL : ∀ i ∈ dn, L i
  efL : ∀ i ∈ effs, ¬ L i
  cov : ∀ (i : Nat) (o : Oper), ops[i]? = some o → effOp o.op = false → ((∃ (n : Nat) (d : Option Nat), lt[n]? = some (i, d)) ↔ C i)
  ltef : ∀ (i : Nat) (o : Oper), ops[i]? = some o → effOp o.op = true → (∃ (n : Nat) (d : Option Nat), lt[n]? = some (i, d)) → i ∈ dn
section
variable {B : P} {c : Cfg} {f : Nat} {ops : Array Oper} {ms effs0 dn effs : List Nat} {C RD : Nat → Prop} {lt : List (Nat × Option Nat)} {L : Nat → Prop} {fr : Nat → Option P} {e : Env} {H : Tr Ob} {N : P} {loc : List V} {vs : Tr V} {tmps : Array Value}
theorem DI.notdst (h : DI B c f ops ms effs0 dn effs C RD lt L fr e H N loc vs tmps) {n i t : Nat} (hl : lt[n]? = some (i, some t)) : dstp ops t := by
  obtain ⟨o, h1, h2⟩ := h.ltx n i _ hl
  exact ⟨i, o, h1, h2⟩
/-- what an operation asks for is there, where all that lies ahead is done -/
theorem DI.td (h : DI B c f ops ms effs0 dn effs C RD lt L fr e H N loc vs tmps) {i : Nat} (hb : ∀ j, bit (ms.getD i 0) j = true → L j) : TD c f ops ms lt loc vs i e tmps := by
  refine ⟨h.size, h.glob, fun n j t v hl ha hv => ?_, fun p u hp hd => ?_⟩
  · obtain ⟨o, h1, h2⟩ := h.ltx n j _ hl
    exact (h.ent n j _ v o hl hv h1).1 (hb j ha) t rfl
  · rcases h.vsd p u hp with ⟨n, i, h1, h2⟩ | ⟨_, h1⟩
    · exact absurd (h.notdst h1) hd
    · exact h1
/-- with a local more -/
theorem SG.pop {ng : Nat} {x : Nat × Option Nat} {v : V} {D : Nat → Prop} {d : Option P} {q : Option Nat} (hd : c.dst f d q) (hq : ∀ t, q = some t → dstp ops t) {e : Env} {tmps : Array Value} (h : SG ng (x :: lt) D (dstp ops) e (v :: loc) (putd d v vs) tmps) : SG ng lt D (dstp ops) e loc vs tmps := by
  refine ⟨h.1, fun n i t u hl hD hu => h.2.1 (n + 1) i t u (by simpa using hl) hD (by simpa using hu), fun p u hp hnd => h.2.2 p u ?_ hnd⟩
  cases d with
  | none => exact hp
  | some r =>
    have : p ≠ r := by
      rintro rfl
      cases q with
      | none => exact hd
      | some t => exact hnd (by rw [hd.1, Nat.add_sub_cancel]; exact hq t rfl)
    simpa [putd, Tr.get_put_ne _ _ this] using hp
theorem TD.pop {x : Nat × Option Nat} {v : V} {i : Nat} {d : Option P} {q : Option Nat} (hd : c.dst f d q) (hq : ∀ t, q = some t → dstp ops t) {e : Env} {tmps : Array Value} (h : TD c f ops ms (x :: lt) (v :: loc) (putd d v vs) i e tmps) : TD c f ops ms lt loc vs i e tmps :=
  ⟨h.1, SG.pop hd hq h.2⟩
theorem dst_lt {d : Option P} {t : Nat} (h : c.dst f d (some t)) : t < c.nt f := by cases d with | none => exact h.2 | some p => exact h.2.2
/-- what goes with a new local, whichever operation it is of -/
theorem DI.vsd_next (h : DI B c f ops ms effs0 dn effs C RD lt L fr e H N loc vs tmps) {i : Nat} {o : Oper} {d : Option P} (hd : c.dst f d o.dst) {e' : Env} (hle : e.le e') {tmps' : Array Value} (ht : ∀ u, o.dst ≠ some u → tmps'.getD u undef = tmps.getD u undef) {v : V} :
    (∀ p u, (putd d v vs).get p = some u → c.keep f p) ∧
    ∀ p u, (putd d v vs).get p = some u → (∃ n j : Nat, ((i, o.dst) :: lt)[n]? = some (j, some (p.toNat - 1)) ∧ (v :: loc)[n]? = some u) ∨ ((∀ n j : Nat, ((i, o.dst) :: lt)[n]? ≠ some (j, some (p.toNat - 1))) ∧ VR e' u (tmps'.getD (p.toNat - 1) undef)) := by
  have old : ∀ p u, vs.get p = some u → o.dst ≠ some (p.toNat - 1) → (∃ n j : Nat, ((i, o.dst) :: lt)[n]? = some (j, some (p.toNat - 1)) ∧ (v :: loc)[n]? = some u) ∨ ((∀ n j : Nat, ((i, o.dst) :: lt)[n]? ≠ some (j, some (p.toNat - 1))) ∧ VR e' u (tmps'.getD (p.toNat - 1) undef)) := by
    intro p u hp hne
    rcases h.vsd p u hp with ⟨n, j, h1, h2⟩ | ⟨h1, h2⟩
    · exact .inl ⟨n + 1, j, by simpa using h1, by simpa using h2⟩
    · refine .inr ⟨fun n j hn => ?_, by rw [ht _ hne]; exact h2.mono hle⟩
      cases n with
      | zero => simp at hn; exact hne hn.2
      | succ n => exact h1 n j (by simpa using hn)
  cases hq : o.dst with
  | none =>
    rw [hq] at hd
    cases d with
    | some p => exact hd.elim
    | none =>
      refine ⟨h.keep, fun p u hp => ?_⟩
      have := old p u hp (by rw [hq]; simp)
      rwa [hq] at this
  | some t =>
    rw [hq] at hd
    cases d with
    | none =>
      refine ⟨h.keep, fun p u hp => ?_⟩
      have hne : o.dst ≠ some (p.toNat - 1) := by
        rw [hq]
        intro hh
        have h9 : @Eq Nat t (p.toNat - 1) := Option.some.inj hh
        exact hd.1 p (by have := P.pos p; omega) (h.keep p u hp)
      have := old p u hp hne
      rwa [hq] at this
    | some q =>
      refine ⟨fun p u hp => ?_, fun p u hp => ?_⟩
      · by_cases hpq : p = q
        · subst hpq; exact hd.2.1
        · exact h.keep p u (by simpa [putd, Tr.get_put_ne _ _ hpq] using hp)
      · by_cases hpq : p = q
        · subst hpq
          have hp : (vs.put (some v) p).get p = some u := hp
          rw [Tr.get_put_same] at hp
          obtain rfl := Option.some.inj hp
          exact .inl ⟨0, i, by simp [hd.1], rfl⟩
        · have hp : vs.get p = some u := by simpa [putd, Tr.get_put_ne _ _ hpq] using hp
          have hne : o.dst ≠ some (p.toNat - 1) := by
            rw [hq]
            intro hh
            have h9 : @Eq Nat t (p.toNat - 1) := Option.some.inj hh
            exact hpq (P.inj (by have := P.pos p; have := hd.1; omega))
          have := old p u hp hne
          rwa [hq] at this
theorem uniq_cons {i : Nat} {q : Option Nat} (hi : ∀ (n : Nat) (d : Option Nat), lt[n]? ≠ some (i, d)) (h : ∀ (n n' i : Nat) (d d' : Option Nat), lt[n]? = some (i, d) → lt[n']? = some (i, d') → n = n') :
    ∀ (n n' j : Nat) (d d' : Option Nat), ((i, q) :: lt)[n]? = some (j, d) → ((i, q) :: lt)[n']? = some (j, d') → n = n' := by
  intro n n' j d d' h1 h2
  cases n with
  | zero =>
    simp at h1
    obtain ⟨rfl, _⟩ := h1
    cases n' with
    | zero => rfl
    | succ n' => exact absurd (by simpa using h2) (hi n' d')
  | succ n =>
    cases n' with
    | zero => simp at h2; obtain ⟨rfl, _⟩ := h2; exact absurd (by simpa using h1) (hi n d)
    | succ n' => rw [h n n' j d d' (by simpa using h1) (by simpa using h2)]
theorem uniqt_cons {i : Nat} {q : Option Nat} (hi : ∀ t, q = some t → ∀ (m j : Nat), lt[m]? ≠ some (j, some t)) (h : ∀ (n n' i i' t : Nat), lt[n]? = some (i, some t) → lt[n']? = some (i', some t) → n = n') :
    ∀ (n n' j j' t : Nat), ((i, q) :: lt)[n]? = some (j, some t) → ((i, q) :: lt)[n']? = some (j', some t) → n = n' := by
  intro n n' j j' t h1 h2
  cases n with
  | zero =>
    simp at h1
    cases n' with
    | zero => rfl
    | succ n' => exact absurd (by simpa using h2) (hi t h1.2 n' j')
  | succ n =>
    cases n' with
    | zero => simp at h2; exact absurd (by simpa using h1) (hi t h2.2 n j)
    | succ n' => rw [h n n' j j' t (by simpa using h1) (by simpa using h2)]
theorem in_cons {i : Nat} {q : Option Nat} {j : Nat} : (∃ (n : Nat) (d : Option Nat), ((i, q) :: lt)[n]? = some (j, d)) ↔ (j = i ∨ ∃ (n : Nat) (d : Option Nat), lt[n]? = some (j, d)) := by
  constructor
  · rintro ⟨n, d, h⟩
    cases n with
    | zero => simp at h; exact .inl h.1.symm
    | succ n => exact .inr ⟨n, d, by simpa using h⟩
  · rintro (rfl | ⟨n, d, h⟩)
    · exact ⟨0, q, rfl⟩
    · exact ⟨n + 1, d, by simpa using h⟩
/-- an operation that does not act has run in the abstract -/
theorem DI.new (h : DI B c f ops ms effs0 dn effs C RD lt L fr e H N loc vs tmps) {i : Nat} {o : Oper} (ho : ops[i]? = some o) (hne : effOp o.op = false) (hC : ¬ C i) {d : Option P} (hd : c.dst f d o.dst) (hn : ∀ t, o.dst = some t → ∀ (m j : Nat), lt[m]? ≠ some (j, some t))
    {v : V} {H' : Tr Ob} {N' : P} {rk : Bool} (hrk : rk = true → readOp o.op = true) (hu : ∀ b ob, H.get b = some ob → b.toNat < N.toNat) (hfr : e N = none) (hB : B.toNat ≤ N.toNat) (g : Gua c ops (TD c f ops ms lt loc vs i) o H N false rk v H' N') (hRD : ∀ j, C j → j ≠ i) :
    HExt H H' ∧ N.toNat ≤ N'.toNat ∧ (H' = H ∧ N' = N ∨ ∃ ob, H' = H.put (some ob) N ∧ N'.toNat = N.toNat + 1) ∧ ∃ fr', DI B c f ops ms effs0 dn effs (fun j => C j ∨ j = i) RD ((i, o.dst) :: lt) L fr' e H' N' (v :: loc) (putd d v vs) tmps := by
  have hnl : ∀ (n : Nat) (q : Option Nat), lt[n]? ≠ some (i, q) := fun n q hl => hC ((h.cov i o ho hne).1 ⟨n, q, hl⟩)
  have hL : ¬ L i := fun hl => let ⟨n, q, a⟩ := h.Llt i hl; hnl n q a
  have hdq : ∀ t, o.dst = some t → dstp ops t := fun t ht => ⟨i, o, ho, ht⟩
  have hpop : ∀ {j : Nat} e tmps, TD c f ops ms ((i, o.dst) :: lt) (v :: loc) (putd d v vs) j e tmps → TD c f ops ms lt loc vs j e tmps := fun e tmps ht => TD.pop hd hdq ht
  obtain ⟨hkeep, hvsd⟩ := h.vsd_next (i := i) (v := v) hd (Env.le.refl e) (tmps' := tmps) (fun _ _ => rfl)
  have fin : ∀ (fr' : Nat → Option P), HExt H H' → N.toNat ≤ N'.toNat → Pend c ops (TD c f ops ms lt loc vs i) o H' True v (fr' i) → (∀ j, j ≠ i → fr' j = fr j) → (∀ i b, fr' i = some b → e b = none ∧ B.toNat ≤ b.toNat ∧ b.toNat < N'.toNat) → (∀ i j b, fr' i = some b → fr' j = some b → i = j) →
      DI B c f ops ms effs0 dn effs (fun j => C j ∨ j = i) RD ((i, o.dst) :: lt) L fr' e H' N' (v :: loc) (putd d v vs) tmps := by
    intro fr' hE hN hp hfo hf1 hf2
    refine ⟨h.ds, h.size, h.glob, hkeep, by simp [h.len], h.ltok.next ho (fun t ht => dst_lt (ht ▸ hd)), ?_, uniq_cons hnl h.uniq, uniqt_cons hn h.uniqt, ?_, hvsd, hf1, hf2, h.closed, ?_, h.split, h.dnL, h.efL, ?_, ?_⟩
    · intro n j q hl
      cases n with
      | zero => simp at hl; obtain ⟨rfl, rfl⟩ := hl; exact ⟨o, ho, rfl⟩
      | succ n => exact h.ltx n j q (by simpa using hl)
    · intro n j q u oj hl hv hoj
      cases n with
      | zero =>
        simp at hl hv
        obtain ⟨rfl, rfl⟩ := hl
        subst hv
        obtain rfl := Option.some.inj (ho.symm.trans hoj)
        exact ⟨fun hl => absurd hl hL, fun _ => hp.trans hpop (fun _ _ _ hb => hb) (fun q => ⟨trivial, fun _ _ hb => hb⟩)⟩
      | succ n =>
        have hl : lt[n]? = some (j, q) := by simpa using hl
        have hji : j ≠ i := by rintro rfl; exact hnl n q hl
        obtain ⟨h1, h2⟩ := h.ent n j q u oj hl (by simpa using hv) hoj
        refine ⟨h1, fun hj => ?_⟩
        rw [hfo j hji]
        exact (h2 hj).trans hpop (fun b ob _ hb => hE b ob hb) (fun q => ⟨q, hE⟩)
    · intro j hj
      exact in_cons.2 (.inr (h.Llt j hj))
    · intro j oj hoj hnej
      rw [in_cons, h.cov j oj hoj hnej]
      exact Or.comm
    · intro j oj hoj hej hin
      rcases in_cons.1 hin with rfl | hin
      · obtain rfl := Option.some.inj (ho.symm.trans hoj)
        rw [hne] at hej; cases hej
      · exact h.ltef j oj hoj hej hin
  have base : ∀ (hE : HExt H H'), N.toNat ≤ N'.toNat → (∀ fq, Pend c ops (TD c f ops ms lt loc vs i) o H' True v fq) → DI B c f ops ms effs0 dn effs (fun j => C j ∨ j = i) RD ((i, o.dst) :: lt) L (fun j => if j = i then none else fr j) e H' N' (v :: loc) (putd d v vs) tmps := by
    intro hE hN hp
    refine fin _ hE hN (by simpa using hp none) (fun j hj => by simp [hj]) (fun j b hb => ?_) (fun j k b hj hk => ?_)
    · by_cases hji : j = i
      · simp [hji] at hb
      · simp [hji] at hb; have := h.frn j b hb; exact ⟨this.1, by omega, by omega⟩
    · by_cases hji : j = i
      · simp [hji] at hj
      · by_cases hki : k = i
        · simp [hki] at hk
        · simp [hji] at hj; simp [hki] at hk; exact h.fri j k b hj hk
  cases g with
  | skip hw => exact ⟨fun _ _ hb => hb, Nat.le_refl _, .inl ⟨rfl, rfl⟩, _, base (fun _ _ hb => hb) (Nat.le_refl _) fun fq => .skip fq hw⟩
  | pure _ hw hh => exact ⟨fun _ _ hb => hb, Nat.le_refl _, .inl ⟨rfl, rfl⟩, _, base (fun _ _ hb => hb) (Nat.le_refl _) fun fq => .pure _ fq hw hh⟩
  | read _ hr hw hh => exact ⟨fun _ _ hb => hb, Nat.le_refl _, .inl ⟨rfl, rfl⟩, _, base (fun _ _ hb => hb) (Nat.le_refl _) fun fq => .read _ fq (hrk hr) hw (fun _ => hh)⟩
  | eff _ _ _ he => cases he
  | fresh ob m _ hw hg hN hh =>
    have hE : HExt H (H.put (some ob) N) := fun b ob' hb => by rw [Tr.get_put_ne _ _ (by rintro rfl; have := hu b ob' hb; omega)]; exact hb
    refine ⟨hE, by omega, .inr ⟨ob, rfl, hN⟩, (fun j => if j = i then some N else fr j), fin _ hE (by omega) ?_ (fun j hj => by simp [hj]) (fun j b hb => ?_) (fun j k b hj hk => ?_)⟩
    · simp only [if_true]
      exact .fresh N ob m hw (Tr.get_put_same _ _ _) hg hh
    · by_cases hji : j = i
      · simp [hji] at hb; subst hb; exact ⟨hfr, hB, by omega⟩
      · simp [hji] at hb; have := h.frn j b hb; exact ⟨this.1, by omega, by omega⟩
    · by_cases hji : j = i <;> by_cases hki : k = i
      · rw [hji, hki]
      · simp [hji] at hj; simp [hki] at hk; subst hj; have := (h.frn k _ hk).2.2; omega
      · simp [hji] at hj; simp [hki] at hk; subst hk; have := (h.frn j _ hj).2.2; omega
      · simp [hji] at hj; simp [hki] at hk; exact h.fri j k b hj hk
/-- an operation that acts is through, in the abstract and in truth -/
theorem DI.act {i : Nat} {effs' : List Nat} (h : DI B c f ops ms effs0 dn (i :: effs') C RD lt L fr e H N loc vs tmps) {o : Oper} (ho : ops[i]? = some o) (hb : ∀ j, bit (ms.getD i 0) j = true → L j) (he : effOp o.op = true) (hnd : i ∉ effs') {d : Option P} (hd : c.dst f d o.dst)
    (hn : ∀ t, o.dst = some t → ∀ (m j : Nat), lt[m]? ≠ some (j, some t)) {e' : Env} {H' : Tr Ob} {N' : P} (hl : Later N e H N e' H' N') {v : V} {x : Value} (hv : VR e' v x) :
    DI B c f ops ms effs0 (dn ++ [i]) effs' C (fun _ => False) ((i, o.dst) :: lt) (fun j => L j ∨ j = i) fr e' H' N' (v :: loc) (putd d v vs) (AMS.putTmp o.dst x tmps) := by
  have hLi : ¬ L i := h.efL i (by simp)
  have hnl : ∀ (n : Nat) (q : Option Nat), lt[n]? ≠ some (i, q) := fun n q hh => hLi (h.dnL i (h.ltef i o ho he ⟨n, q, hh⟩))
  have hdq : ∀ t, o.dst = some t → dstp ops t := fun t ht => ⟨i, o, ho, ht⟩
  have hts : ∀ t, o.dst = some t → t < tmps.size := fun t ht => Nat.lt_of_lt_of_le (dst_lt (ht ▸ hd)) h.size
  have hput : ∀ u, o.dst ≠ some u → (AMS.putTmp o.dst x tmps).getD u undef = tmps.getD u undef := by
    intro u hu
    cases hq : o.dst with
    | none => rfl
    | some t =>
      simp only [AMS.putTmp]
      rw [getD_put (hts t hq), if_neg (by rintro rfl; exact hu hq)]
  obtain ⟨hkeep, hvsd⟩ := h.vsd_next (i := i) (v := v) hd hl.le (tmps' := AMS.putTmp o.dst x tmps) hput
  refine ⟨h.ds, by rw [size_putTmp]; exact h.size, fun p hp => let ⟨l, a, b⟩ := h.glob p hp; ⟨l, hl.le _ _ a, b⟩, hkeep, by simp [h.len], h.ltok.next ho (fun t ht => dst_lt (ht ▸ hd)), ?_, uniq_cons hnl h.uniq, uniqt_cons hn h.uniqt, ?_, hvsd, ?_, h.fri, ?_, ?_, by rw [h.split]; simp, ?_, ?_, ?_, ?_⟩
  · intro n j q hl
    cases n with
    | zero => simp at hl; obtain ⟨rfl, rfl⟩ := hl; exact ⟨o, ho, rfl⟩
    | succ n => exact h.ltx n j q (by simpa using hl)
  · intro n j q u oj hlj hvj hoj
    cases n with
    | zero =>
      simp at hlj hvj
      obtain ⟨rfl, rfl⟩ := hlj
      subst hvj
      refine ⟨fun _ t ht => ?_, fun hh => absurd (.inr rfl) hh⟩
      rw [ht]
      simp only [AMS.putTmp]
      rw [getD_put (hts t ht), if_pos rfl]; exact hv
    | succ n =>
      have hlj : lt[n]? = some (j, q) := by simpa using hlj
      have hji : j ≠ i := by rintro rfl; exact hnl n q hlj
      obtain ⟨h1, h2⟩ := h.ent n j q u oj hlj (by simpa using hvj) hoj
      refine ⟨fun hLj t ht => ?_, fun hj => ?_⟩
      · rcases hLj with hLj | hh
        · have hne : o.dst ≠ some t := fun hh => hn t hh n j (by rw [hlj, ht])
          rw [hput t hne]
          exact (h1 hLj t ht).mono hl.le
        · exact absurd hh hji
      · exact (h2 (fun hh => hj (.inl hh))).trans (fun e tmps ht => TD.pop hd hdq ht) (fun b ob hb hob => by
          have := h.frn j b hb
          rw [hl.keep b this.1 this.2.2]; exact hob) (fun q => q.elim)
  · intro j b hb
    have := h.frn j b hb
    exact ⟨hl.none b this.1 this.2.2, this.2.1, Nat.lt_of_lt_of_le this.2.2 hl.nn⟩
  · intro j hj k hk
    rcases hj with hj | rfl
    · exact .inl (h.closed j hj k hk)
    · exact .inl (hb k hk)
  · intro j hj
    rcases hj with hj | rfl
    · exact in_cons.2 (.inr (h.Llt j hj))
    · exact in_cons.2 (.inl rfl)
  · intro j hj
    rcases List.mem_append.1 hj with hj | hj
    · exact .inl (h.dnL j hj)
    · simp at hj; exact .inr hj
  · intro j hj hL
    rcases hL with hL | rfl
    · exact h.efL j (by simp [hj]) hL
    · exact hnd hj
  · intro j oj hoj hnej
    rw [in_cons, h.cov j oj hoj hnej]
    constructor
    · rintro (rfl | hh)
      · obtain rfl := Option.some.inj (ho.symm.trans hoj)
        rw [he] at hnej; cases hnej
      · exact hh
    · exact .inr
  · intro j oj hoj hej hin
    rcases in_cons.1 hin with rfl | hin
    · simp
    · exact List.mem_append.2 (.inl (h.ltef j oj hoj hej hin))
end
end Go.AM
