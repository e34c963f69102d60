/- Regions, the fifth part: an open order runs. -/
import Derived.Test.YtnekfilglnfgkaaGreatDoorAmReg4
set_option autoImplicit false
set_option linter.unusedVariables false
set_option linter.unusedSimpArgs false
namespace Go.AM
section
variable {B : P} {c : Cfg} {f : Nat} {ops : Array Oper} {ms effs0 dn effs : List Nat} {C RD : Nat → Prop} {lt : List (Nat × Option Nat)} {L : Nat → Prop} {fr : Nat → Option P} {e : Env} {H : Tr Ob} {N : P} {loc : List V} {vs : Tr V} {tmps : Array Value}
variable {Ek : Tr V → Tr Ob → P → A} {X : Nx → Option P → List RAct → List V → Tr V → Tr Ob → P → A}
theorem DI.congC {C' : Nat → Prop} (h : DI B c f ops ms effs0 dn effs C RD lt L fr e H N loc vs tmps) (hC : ∀ (i : Nat) (o : Oper), ops[i]? = some o → effOp o.op = false → (C i ↔ C' i)) : DI B c f ops ms effs0 dn effs C' RD lt L fr e H N loc vs tmps :=
  { h with cov := fun i o ho hn => (h.cov i o ho hn).trans (hC i o ho hn) }
/-- a guard asks what lies ahead -/
theorem DI.grd (h : DI B c f ops ms effs0 dn effs C RD lt L fr e H N loc vs tmps) {i : Nat} {o : Oper} (ho : ops[i]? = some o) : GuardOK ops (TD c f ops ms lt loc vs i) lt loc o := by
  intro n j t w hg hl
  obtain ⟨h1, h2⟩ := h.ltok n j t hl
  exact ⟨h1, fun e tmps ht => ⟨Nat.lt_of_lt_of_le h2 ht.1, fun u hu => ht.2.2.1 n j t u hl (h.ds.grd i o j w ho hg) hu⟩⟩
theorem actsK_nil {loc : List V} {vs : Tr V} {H : Tr Ob} {N : P} : actsK Ek X [] loc vs H N = Ek vs H N := rfl
theorem actsK_cons {a : RAct} {r : List RAct} {loc : List V} {vs : Tr V} {H : Tr Ob} {N : P} : actsK Ek X (a :: r) loc vs H N = actK (fun x d => X x d r) (actsK Ek X r) a loc vs H N := rfl
/-- a stage's new operations run in the abstract -/
theorem new_run {m : Nat} : ∀ {r : List Oper} {i : Nat} {lt : List (Nat × Option Nat)} {l : List RAct} {lt' : List (Nat × Option Nat)}, NewR c f ops ms effs0 m r i lt l lt' → ∀ {fr : Nat → Option P} {H : Tr Ob} {N : P} {loc : List V} {vs : Tr V} {w : World} {tail : List RAct},
    ops.toList.drop i = r → B.toNat ≤ N.toNat → DI B c f ops ms effs0 dn effs (fun j => lo ms effs0 j < m ∨ lo ms effs0 j = m ∧ j < i) (fun j => lo ms effs0 j = m) lt L fr e H N loc vs tmps → WR c e H N w → actsK Ek X (l ++ tail) loc vs H N = true →
    ∃ fr' H' N' loc' vs', actsK Ek X tail loc' vs' H' N' = true ∧ WR c e H' N' w ∧ Later N e H N e H' N' ∧ DI B c f ops ms effs0 dn effs (fun j => lo ms effs0 j ≤ m) (fun j => lo ms effs0 j = m) lt' L fr' e H' N' loc' vs' tmps := by
  intro r i lt l lt' hN
  induction hN with
  | nil i lt =>
    intro fr H N loc vs w tail hr hB hD hW hk
    refine ⟨fr, H, N, loc, vs, hk, hW, Later.refl N e H N, hD.congC fun j o ho hn => ?_⟩
    have hj : j < ops.size := by
      rcases Nat.lt_or_ge j ops.size with hh | hh
      · exact hh
      · rw [Array.getElem?_eq_none hh] at ho; cases ho
    have hi : ops.size ≤ i := by simpa using hr
    omega
  | pass o r i lt l lt' h t ih =>
    intro fr H N loc vs w tail hr hB hD hW hk
    obtain ⟨ho, hr'⟩ := drop_at hr
    refine ih hr' hB (hD.congC fun j oj hoj hn => ?_) hW hk
    by_cases hji : j = i
    · subst hji
      obtain rfl := Option.some.inj (ho.symm.trans hoj)
      have : lo ms effs0 j ≠ m := fun hh => h ⟨hn, hh⟩
      omega
    · omega
  | take o r i lt a l lt' h1 h2 h3 h4 h5 t ih =>
    intro fr H N loc vs w tail hr hB hD hW hk
    obtain ⟨ho, hr'⟩ := drop_at hr
    have hk : actK (fun x d => X x d (l ++ tail)) (actsK Ek X (l ++ tail)) a loc vs H N = true := hk
    cases h3 with
    | bad hb => subst hb; cases h4
    | mk d hd hn hA =>
      rcases act_inv (T := TD c f ops ms lt loc vs i) hA (fun e tmps ht => ht.2) (hD.grd ho) hk with ⟨v, H', N', h6, h7⟩ | ⟨nx, _, h6, _⟩
      · rw [h4] at h7
        obtain ⟨hE, hNN, hform, fr', hD'⟩ := hD.new ho h1 (by omega) hd hn h5 hW.used hW.fresh hB h7 (fun j hj => by rintro rfl; omega)
        have hW' : WR c e H' N' w := by
          rcases hform with ⟨rfl, rfl⟩ | ⟨ob, rfl, hs⟩
          · exact hW
          · exact hW.promise hs ob
        have hLt : Later N e H N e H' N' := by
          refine ⟨Env.le.refl e, hNN, fun _ hb _ => hb, fun b _ hb => ?_⟩
          rcases hform with ⟨rfl, rfl⟩ | ⟨ob, rfl, hs⟩
          · rfl
          · exact Tr.get_put_ne _ _ (by rintro rfl; omega)
        obtain ⟨fr2, H2, N2, loc2, vs2, g1, g2, g3, g4⟩ := ih hr' (by omega) (hD'.congC fun j oj hoj hnj => (by constructor <;> intro hh <;> (by_cases hji : j = i <;> first | (subst hji; omega) | omega))) hW' h6
        exact ⟨fr2, H2, N2, loc2, vs2, g1, g2, hLt.trans (g3.weak hNN), g4⟩
      · rw [h4] at h6; cases h6
/-- what a second look promises -/
def RG (c : Cfg) (f : Nat) (ops : Array Oper) (ms : List Nat) (lt : List (Nat × Option Nat)) (loc : List V) (vs : Tr V) (H : Tr Ob) (j : Nat) (o : Oper) : Prop :=
  ∀ (n : Nat) (d : Option Nat) (v : V), lt[n]? = some (j, d) → loc[n]? = some v → ∀ H' e' N' tmps w, HExt H H' → TD c f ops ms lt loc vs j e' tmps → Region.wanted o (yielded ops tmps) = true → WR c e' H' N' w → ∃ x, VR e' v x ∧ (execOp (evT tmps) o).run c.p w = .ok (.value x) w
theorem ck_run (hD : DI B c f ops ms effs0 dn effs C RD lt L fr e H N loc vs tmps) {i n t : Nat} {o : Oper} {g : RdA} {K : A} (hg : RO c (SG c.ng lt (ahead ms i) (dstp ops)) o g) (hl : lt[n]? = some (i, some t)) (hk : g loc vs H (fun v => getL (fun u => eqV u v K) n loc) = true) :
    K = true ∧ RG c f ops ms lt loc vs H i o := by
  obtain ⟨v, h1, h2⟩ := hg _ _ _ _ hk
  obtain ⟨u, h3, h4⟩ := getL_inv h1
  obtain ⟨rfl, h5⟩ := eqV_inv u h4
  refine ⟨h5, fun n' d v' hl' hv' H' e' N' tmps w hE ht _ hW => ?_⟩
  have := hD.uniq n' n i d _ hl' hl
  subst this
  rw [h3] at hv'
  obtain rfl := Option.some.inj hv'
  exact h2 H' e' N' tmps w hE ht.2 hW
theorem ag_run {m : Nat} (hD : DI B c f ops ms effs0 dn effs C RD lt L fr e H N loc vs tmps) {tail : List RAct} : ∀ {r : List Oper} {i : Nat} {l : List RAct}, AgR c ops ms effs0 m lt r i l → ops.toList.drop i = r → actsK Ek X (l ++ tail) loc vs H N = true →
    actsK Ek X tail loc vs H N = true ∧ ∀ (j : Nat) (o : Oper), i ≤ j → ops[j]? = some o → agCond ms effs0 m o j = true → RG c f ops ms lt loc vs H j o := by
  intro r i l hA
  induction hA with
  | nil i =>
    intro hr hk
    refine ⟨hk, fun j o hij ho _ => ?_⟩
    have hi : ops.size ≤ i := by simpa using hr
    rw [Array.getElem?_eq_none (by omega)] at ho; cases ho
  | pass o r i l h t ih =>
    intro hr hk
    obtain ⟨ho, hr'⟩ := drop_at hr
    obtain ⟨h1, h2⟩ := ih hr' hk
    refine ⟨h1, fun j oj hij hoj hc => ?_⟩
    by_cases hji : j = i
    · subst hji
      obtain rfl := Option.some.inj (ho.symm.trans hoj)
      rw [h] at hc; cases hc
    · exact h2 j oj (by omega) hoj hc
  | ck o r i n t g l hg hgd hl tl ih =>
    intro hr hk
    obtain ⟨ho, hr'⟩ := drop_at hr
    have hk : g loc vs H (fun v => getL (fun u => eqV u v (actsK Ek X (l ++ tail) loc vs H N)) n loc) = true := hk
    obtain ⟨hk, hrg⟩ := ck_run hD hg hl hk
    obtain ⟨h1, h2⟩ := ih hr' hk
    refine ⟨h1, fun j oj hij hoj hc => ?_⟩
    by_cases hji : j = i
    · subst hji
      obtain rfl := Option.some.inj (ho.symm.trans hoj)
      exact hrg
    · exact h2 j oj (by omega) hoj hc
  | ckg o r i n t g n' j' t' w l hg hgd hl hl' tl ih =>
    intro hr hk
    obtain ⟨ho, hr'⟩ := drop_at hr
    have hk : getL (fun u => V.onGrd (fun b => ifK (g loc vs H (fun v => getL (fun u => eqV u v (actsK Ek X (l ++ tail) loc vs H N)) n loc)) (actsK Ek X (l ++ tail) loc vs H N) (sameB b w)) (actsK Ek X (l ++ tail) loc vs H N) u) n' loc = true := hk
    obtain ⟨u, hu, hk⟩ := getL_inv hk
    obtain ⟨g1, g2⟩ := hD.grd ho n' j' t' w hgd hl'
    have fin : actsK Ek X (l ++ tail) loc vs H N = true → RG c f ops ms lt loc vs H i o → actsK Ek X tail loc vs H N = true ∧ ∀ (j : Nat) (o' : Oper), i ≤ j → ops[j]? = some o' → agCond ms effs0 m o' j = true → RG c f ops ms lt loc vs H j o' := by
      intro hk hrg
      obtain ⟨h1, h2⟩ := ih hr' hk
      refine ⟨h1, fun j oj hij hoj hc => ?_⟩
      by_cases hji : j = i
      · subst hji
        obtain rfl := Option.some.inj (ho.symm.trans hoj)
        exact hrg
      · exact h2 j oj (by omega) hoj hc
    rcases V.onGrd_inv hk with ⟨b, rfl, hk⟩ | ⟨rfl, hk⟩
    · rcases ifK_inv hk with ⟨_, hk⟩ | ⟨hb, hk⟩
      · obtain ⟨hk, hrg⟩ := ck_run hD hg hl hk
        exact fin hk hrg
      · refine fin hk fun n2 d2 v2 _ _ H' e' N' tmps w' _ ht hw _ => ?_
        obtain ⟨a1, a2⟩ := g2 e' tmps ht
        have := (a2 _ hu).inv_bool
        simp only [Region.wanted, hgd, yielded_of g1 a1, this] at hw
        have hne : b ≠ w := fun hh => by rw [sameB_iff.2 hh] at hb; cases hb
        simp at hw
        exact absurd hw hne
    · refine fin hk fun n2 d2 v2 _ _ H' e' N' tmps w' _ ht hw _ => ?_
      obtain ⟨a1, a2⟩ := g2 e' tmps ht
      have := (a2 _ hu).inv_und
      simp only [Region.wanted, hgd, yielded_of g1 a1, this] at hw
      simp at hw
/-- behind a stage's acts all that was read holds -/
theorem DI.reads {m : Nat} (h : DI B c f ops ms effs0 dn effs (fun j => lo ms effs0 j ≤ m) (fun j => lo ms effs0 j = m) lt L fr e H N loc vs tmps) (hm : m = dn.length)
    (hrg : ∀ (j : Nat) (o : Oper), ops[j]? = some o → agCond ms effs0 m o j = true → RG c f ops ms lt loc vs H j o) : DI B c f ops ms effs0 dn effs (fun j => lo ms effs0 j ≤ m) (fun _ => True) lt L fr e H N loc vs tmps := by
  refine { h with ent := fun n i d v o hl hv ho => ⟨(h.ent n i d v o hl hv ho).1, fun hL => ?_⟩ }
  have hp := (h.ent n i d v o hl hv ho).2 hL
  have hne : effOp o.op = false := by
    cases he : effOp o.op with
    | false => rfl
    | true => exact absurd (h.dnL i (h.ltef i o ho he ⟨n, d, hl⟩)) hL
  have hlo := (h.cov i o ho hne).1 ⟨n, d, hl⟩
  generalize fr i = fi at hp ⊢
  cases hp with
  | skip _ hw => exact .skip _ hw
  | pure _ _ hw hh => exact .pure _ _ hw hh
  | fresh b ob mk hw hb hg hh => exact .fresh b ob mk hw hb hg hh
  | read _ _ hr hw hh =>
    refine .read _ _ hr hw fun _ => ?_
    rcases Nat.lt_or_eq_of_le hlo with hlt | heq
    · have hhi : m ≤ hiOf ms i effs0 := by
        rw [h.split, hm]
        refine hiOf_ge fun e' he' => ?_
        cases hb : bit (ms.getD e' 0) i with
        | false => rfl
        | true => exact absurd (h.closed e' (h.dnL e' he') i hb) hL
      have hc : agCond ms effs0 m o i = true := by
        unfold agCond
        simp only [hne, hr, Bool.not_false, Bool.and_self, Bool.true_and, Bool.and_eq_true]
        exact ⟨Nat.ble_eq_true_of_le hlt, Nat.ble_eq_true_of_le hhi⟩
      intro H' e' N' tmps' w hE ht hW
      exact hrg i o ho hc n d v hl hv H' e' N' tmps' w hE ht (hw e' tmps' ht) hW
    · exact hh heq
/-- an operation that ran in the abstract runs in truth -/
theorem pend_step {k : List Item} {dfr : List Deferred} {kd : CallKind} {rnd : Option Nat} {cs : List Frame} {w : World} {rest : List Nat} (h : DI B c f ops ms effs0 dn effs C (fun _ => True) lt L fr e H N loc vs tmps) (hW : WR c e H N w)
    {i : Nat} {o : Oper} (ho : ops[i]? = some o) (hne : effOp o.op = false) (hL : ¬ L i) (hb : ∀ j, bit (ms.getD i 0) j = true → L j) (hin : ∃ (n : Nat) (d : Option Nat), lt[n]? = some (i, d)) :
    ∃ e' x w' fr', Go.step c.p (lone (AMS.rf f tmps (.inRegion ops (i :: rest) :: k) dfr kd rnd) cs w) = .next (lone (AMS.rf f (AMS.putTmp o.dst x tmps) (.inRegion ops rest :: k) dfr kd rnd) cs w') ∧
      Later B e H N e' H N ∧ WR c e' H N w' ∧ DI B c f ops ms effs0 dn effs C (fun _ => True) lt (fun j => L j ∨ j = i) fr' e' H N loc vs (AMS.putTmp o.dst x tmps) := by
  obtain ⟨n, d, hl⟩ := hin
  have hd : d = o.dst := by
    obtain ⟨o', h1, h2⟩ := h.ltx n i d hl
    obtain rfl := Option.some.inj (ho.symm.trans h1)
    exact h2.symm
  subst hd
  have hnl : n < loc.length := by
    rw [h.len]
    rcases Nat.lt_or_ge n lt.length with hh | hh
    · exact hh
    · rw [List.getElem?_eq_none hh] at hl; cases hl
  have hv : loc[n]? = some loc[n] := by simp [hnl]
  generalize loc[n] = v at hv
  have ht := h.td hb
  have hp := (h.ent n i o.dst v o hl hv ho).2 hL
  have hts : ∀ t, o.dst = some t → t < tmps.size := fun t hh => Nat.lt_of_lt_of_le (h.ltok n i t (by rw [← hh]; exact hl)).2 h.size
  -- what comes of it
  have fin : ∀ (e' : Env) (x : Value) (w' : World) (fr' : Nat → Option P), Go.step c.p (lone (AMS.rf f tmps (.inRegion ops (i :: rest) :: k) dfr kd rnd) cs w) = .next (lone (AMS.rf f (AMS.putTmp o.dst x tmps) (.inRegion ops rest :: k) dfr kd rnd) cs w') →
      Later B e H N e' H N → WR c e' H N w' → VR e' v x → (∀ j b, fr' j = some b → e' b = none ∧ B.toNat ≤ b.toNat ∧ b.toNat < N.toNat) → (∀ j, j ≠ i → fr' j = fr j) → (∀ j k b, fr' j = some b → fr' k = some b → j = k) →
      ∃ e' x w' fr', Go.step c.p (lone (AMS.rf f tmps (.inRegion ops (i :: rest) :: k) dfr kd rnd) cs w) = .next (lone (AMS.rf f (AMS.putTmp o.dst x tmps) (.inRegion ops rest :: k) dfr kd rnd) cs w') ∧
      Later B e H N e' H N ∧ WR c e' H N w' ∧ DI B c f ops ms effs0 dn effs C (fun _ => True) lt (fun j => L j ∨ j = i) fr' e' H N loc vs (AMS.putTmp o.dst x tmps) := by
    intro e' x w' fr' hs hlt hW' hvx hf1 hf2 hf3
    have hput : ∀ u, o.dst ≠ some u → (AMS.putTmp o.dst x tmps).getD u undef = tmps.getD u undef := by
      intro u hu
      cases hq : o.dst with
      | none => rfl
      | some t =>
        simp only [AMS.putTmp]
        rw [getD_put (hts t hq), if_neg (by rintro rfl; exact hu hq)]
    refine ⟨e', x, w', fr', hs, hlt, hW', ⟨h.ds, by rw [size_putTmp]; exact h.size, fun p hp => let ⟨l, a, b⟩ := h.glob p hp; ⟨l, hlt.le _ _ a, b⟩, h.keep, h.len, h.ltok, h.ltx, h.uniq, h.uniqt, ?_, ?_, hf1, hf3, ?_, ?_, h.split, fun j hj => .inl (h.dnL j hj), ?_, h.cov, h.ltef⟩⟩
    · intro n' j d' u oj hlj huj hoj
      obtain ⟨h1, h2⟩ := h.ent n' j d' u oj hlj huj hoj
      refine ⟨fun hLj t hdt => ?_, fun hj => ?_⟩
      · by_cases hji : j = i
        · subst hji
          have hnn := h.uniq n' n j d' _ hlj hl
          subst hnn
          rw [hlj] at hl
          have hdd : d' = o.dst := congrArg Prod.snd (Option.some.inj hl)
          rw [hv] at huj
          obtain rfl := Option.some.inj huj
          have hdt' : o.dst = some t := by rw [← hdd]; exact hdt
          rw [hdt']
          simp only [AMS.putTmp]
          rw [getD_put (hts t hdt'), if_pos rfl]
          exact hvx
        · have hLj : L j := hLj.resolve_right hji
          have hne' : o.dst ≠ some t := fun hh => by
            have := h.uniqt n' n j i t (by rw [hlj, hdt]) (by rw [hl, hh])
            subst this
            rw [hlj] at hl
            exact hji (congrArg Prod.fst (Option.some.inj hl))
          rw [hput t hne']
          exact (h1 hLj t hdt).mono hlt.le
      · have hji : j ≠ i := fun hh => hj (.inr hh)
        rw [hf2 j hji]
        exact h2 (fun hh => hj (.inl hh))
    · intro p u hp
      rcases h.vsd p u hp with hh | ⟨h1, h2⟩
      · exact .inl hh
      · refine .inr ⟨h1, ?_⟩
        rw [hput _ (fun hh => h1 n i (by rw [hl, hh]))]
        exact h2.mono hlt.le
    · intro j hj q hq
      rcases hj with hj | rfl
      · exact .inl (h.closed j hj q hq)
      · exact .inl (hb q hq)
    · intro j hj
      rcases hj with hj | rfl
      · exact h.Llt j hj
      · exact ⟨n, _, hl⟩
    · intro j hj hLj
      rcases hLj with hLj | rfl
      · exact h.efL j hj hLj
      · have : j ∈ effs0 := by rw [h.split]; exact List.mem_append.2 (.inr hj)
        rw [h.ds.heffs, effsOf_mem] at this
        obtain ⟨_, o', h1, h2⟩ := this
        rw [Nat.sub_zero, Array.getElem?_toList] at h1
        obtain rfl := Option.some.inj (ho.symm.trans h1)
        rw [hne] at h2; cases h2
  have same : ∀ (x : Value), Go.step c.p (lone (AMS.rf f tmps (.inRegion ops (i :: rest) :: k) dfr kd rnd) cs w) = .next (lone (AMS.rf f (AMS.putTmp o.dst x tmps) (.inRegion ops rest :: k) dfr kd rnd) cs w) → VR e v x → _ := fun x hs hx => fin e x w fr hs (Later.refl B e H N) hW hx h.frn (fun _ _ => rfl) h.fri
  generalize hfi : fr i = fi at hp
  cases hp with
  | skip _ hw => exact same undef (AMS.st_opSkip ho (hw e tmps ht)) .und
  | pure _ _ hw hh =>
    obtain ⟨x, h1, h2⟩ := hh e tmps w ht
    exact same x (AMS.st_opVal ho (hw e tmps ht) (.inl h2)) h1
  | read _ _ hr hw hh =>
    obtain ⟨x, h1, h2⟩ := hh trivial H e N tmps w (fun _ _ h => h) ht hW
    exact same x (AMS.st_opVal ho (hw e tmps ht) (.inl h2)) h1
  | fresh b ob mk hw hbo hg hh =>
    obtain ⟨co, size, h1, h2⟩ := hh e tmps ht
    obtain ⟨x, h3, h4⟩ := h2 w
    obtain ⟨f1, f2, f3⟩ := h.frn i b hfi
    have hle := Env.le_with (l := ⟨w.heap.size, 0, size⟩) f1
    refine fin (e.with b ⟨w.heap.size, 0, size⟩) x _ (fun j => if j = i then none else fr j) (AMS.st_opVal ho (hw e tmps ht) (.inl h3)) ⟨hle, Nat.le_refl _, fun b' hb' hlt => ?_, fun _ _ _ => rfl⟩
      (hW.make hbo f1 f3 rfl (h1 _ _ hle) rfl rfl rfl rfl) (h4 _ _ (Env.with_same _ _ _)) (fun j b' hj => ?_) (fun j hj => by simp [hj]) (fun j q b' hj hq => ?_)
    · rw [Env.with_ne _ _ (by rintro rfl; omega)]; exact hb'
    · by_cases hji : j = i
      · simp [hji] at hj
      · simp [hji] at hj
        have := h.frn j b' hj
        refine ⟨?_, this.2⟩
        rw [Env.with_ne _ _ (by rintro rfl; exact hji (h.fri j i b' hj hfi))]
        exact this.1
    · by_cases hji : j = i
      · simp [hji] at hj
      · by_cases hqi : q = i
        · simp [hqi] at hq
        · simp [hji] at hj; simp [hqi] at hq; exact h.fri j q b' hj hq
end
end Go.AM
