/- Regions, the last part: an open order runs through. -/
import Derived.Test.YtnekfilglnfgkaaGreatDoorAmReg5
set_option autoImplicit false
set_option linter.unusedVariables false
set_option linter.unusedSimpArgs false
namespace Go.AM
theorem effsOf_nodup : ∀ (l : List Oper) (k : Nat), (effsOf l k).Nodup
  | [], k => by simp [effsOf]
  | o :: r, k => by
    unfold effsOf
    split
    · rw [List.nodup_cons]
      refine ⟨fun h => ?_, effsOf_nodup r (k + 1)⟩
      have := (effsOf_mem.1 h).1
      omega
    · exact effsOf_nodup r (k + 1)
/-- a region under way whose order is open, ahead of a stage -/
def RegD (B : P) (c : Cfg) (f : Nat) (ops : Array Oper) : Env → Tr Ob → P → List RAct → List V → Tr V → List Nat → Array Value → Prop := fun e H N acts loc vs rest tmps =>
  ∃ ms effs0 dn effs lt L fr, DI B c f ops ms effs0 dn effs (fun j => lo ms effs0 j < dn.length) (fun _ => False) lt L fr e H N loc vs tmps ∧ StR c f ops ms effs0 effs dn.length lt acts ∧ Sched ops.size ms L rest
/-- within a stage: what is still to come -/
inductive MidT (c : Cfg) (f : Nat) (ops : Array Oper) (ms effs0 : List Nat) : List Nat → Nat → List (Nat × Option Nat) → List RAct → Prop
  | nil (m : Nat) (lt : List (Nat × Option Nat)) : MidT c f ops ms effs0 [] m lt []
  | cons (i : Nat) (r : List Nat) (m : Nat) (lt : List (Nat × Option Nat)) (o : Oper) (a : RAct) (l3 : List RAct) (ho : ops[i]? = some o) (ha : OperR c f (SG c.ng lt (ahead ms i) (dstp ops)) lt o a) (t : StR c f ops ms effs0 r (m + 1) ((i, o.dst) :: lt) l3) : MidT c f ops ms effs0 (i :: r) m lt (a :: l3)
section
variable {B : P} {c : Cfg} {f : Nat} {ops : Array Oper} {ms effs0 : List Nat} {e : Env}
variable {k : List Item} {dfr : List Deferred} {kd : CallKind} {rnd : Option Nat} {cs : List Frame} {Q : Prop} {Ek : Tr V → Tr Ob → P → A} {X : Nx → Option P → List RAct → List V → Tr V → Tr Ob → P → A}
theorem DI.vres {dn effs : List Nat} {C RD : Nat → Prop} {lt : List (Nat × Option Nat)} {L : Nat → Prop} {fr : Nat → Option P} {H : Tr Ob} {N : P} {loc : List V} {vs : Tr V} {tmps : Array Value}
    (hD : DI B c f ops ms effs0 dn effs C RD lt L fr e H N loc vs tmps) (hs : OpsSafe c f ops) : VsRes c f e vs tmps := by
  intro p u hp hres
  rcases hD.vsd p u hp with ⟨n, i, h1, h2⟩ | ⟨_, h1⟩
  · obtain ⟨o, h3, h4⟩ := hD.ltx n i _ h1
    cases he : effOp o.op with
    | false => exact absurd hres (hs i o _ h3 he h4)
    | true => exact (hD.ent n i _ u o h1 h2 h3).1 (hD.dnL i (hD.ltef i o h3 he ⟨n, _, h1⟩)) _ rfl
  · exact h1
theorem start_mid {dn effs : List Nat} {lt : List (Nat × Option Nat)} {L : Nat → Prop} {fr : Nat → Option P} {H : Tr Ob} {N : P} {loc : List V} {vs : Tr V} {tmps : Array Value} {acts : List RAct} {w : World}
    (hD : DI B c f ops ms effs0 dn effs (fun j => lo ms effs0 j < dn.length) (fun _ => False) lt L fr e H N loc vs tmps) (hS : StR c f ops ms effs0 effs dn.length lt acts) (hB : B.toNat ≤ N.toNat) (hW : WR c e H N w) (hk : actsK Ek X acts loc vs H N = true) :
    ∃ lt' fr' H' N' loc' vs' tail, actsK Ek X tail loc' vs' H' N' = true ∧ WR c e H' N' w ∧ Later N e H N e H' N' ∧ MidT c f ops ms effs0 effs dn.length lt' tail ∧
      DI B c f ops ms effs0 dn effs (fun j => lo ms effs0 j ≤ dn.length) (fun _ => True) lt' L fr' e H' N' loc' vs' tmps := by
  have hD1 : DI B c f ops ms effs0 dn effs (fun j => lo ms effs0 j < dn.length ∨ lo ms effs0 j = dn.length ∧ j < 0) (fun j => lo ms effs0 j = dn.length) lt L fr e H N loc vs tmps := by
    have h1 : DI B c f ops ms effs0 dn effs (fun j => lo ms effs0 j < dn.length) (fun j => lo ms effs0 j = dn.length) lt L fr e H N loc vs tmps := by
      refine { hD with ent := fun n i d v o hl hv ho => ⟨(hD.ent n i d v o hl hv ho).1, fun hL => ?_⟩ }
      have hne : effOp o.op = false := by
        cases he : effOp o.op with
        | false => rfl
        | true => exact absurd (hD.dnL i (hD.ltef i o ho he ⟨n, d, hl⟩)) hL
      have hlo := (hD.cov i o ho hne).1 ⟨n, d, hl⟩
      exact ((hD.ent n i d v o hl hv ho).2 hL).trans (fun _ _ h => h) (fun _ _ _ h => h) (fun hh => by omega)
    exact h1.congC fun j _ _ _ => by omega
  cases hS with
  | nil _ _ lt1 l1 l2 g1 g2 =>
    obtain ⟨fr', H', N', loc', vs', h1, h2, h3, h4⟩ := new_run (Ek := Ek) (X := X) g1 (by simp) hB hD1 hW hk
    have h1 : actsK Ek X (l2 ++ []) loc' vs' H' N' = true := by rw [List.append_nil]; exact h1
    obtain ⟨h5, h6⟩ := ag_run h4 g2 (by simp) h1
    exact ⟨lt1, fr', H', N', loc', vs', [], h5, h2, h3, .nil _ _, h4.reads rfl fun j o ho hc => h6 j o (Nat.zero_le _) ho hc⟩
  | cons i r _ _ lt1 l1 l2 l3 o a g1 g2 ho ha t =>
    obtain ⟨fr', H', N', loc', vs', h1, h2, h3, h4⟩ := new_run (Ek := Ek) (X := X) g1 (by simp) hB hD1 hW hk
    obtain ⟨h5, h6⟩ := ag_run h4 g2 (by simp) h1
    exact ⟨lt1, fr', H', N', loc', vs', a :: l3, h5, h2, h3, .cons i r _ _ o a l3 ho ha t, h4.reads rfl fun j o ho hc => h6 j o (Nat.zero_le _) ho hc⟩
theorem mid_run (hQ : Q → OpsSafe c f ops) : ∀ (rest : List Nat) {e : Env} {dn effs : List Nat} {lt : List (Nat × Option Nat)} {L : Nat → Prop} {fr : Nat → Option P} {H : Tr Ob} {N : P} {loc : List V} {vs : Tr V} {tmps : Array Value} {tail : List RAct} {w : World},
    DI B c f ops ms effs0 dn effs (fun j => lo ms effs0 j ≤ dn.length) (fun _ => True) lt L fr e H N loc vs tmps → MidT c f ops ms effs0 effs dn.length lt tail → Sched ops.size ms L rest → B.toNat ≤ N.toNat → WR c e H N w → actsK Ek X tail loc vs H N = true →
    RegOut c f ops k dfr kd rnd cs Q Ek X (RegD B c f ops) B e H N (lone (AMS.rf f tmps (.inRegion ops rest :: k) dfr kd rnd) cs w)
  | [], e, dn, effs, lt, L, fr, H, N, loc, vs, tmps, tail, w, hD, hM, hS, hB, hW, hk => by
    cases hS with
    | nil _ hall =>
      cases hM with
      | cons i r _ _ o a l3 ho ha t =>
        have hi : i < ops.size := by
          rcases Nat.lt_or_ge i ops.size with hh | hh
          · exact hh
          · rw [Array.getElem?_eq_none hh] at ho; cases ho
        exact absurd (hall i hi) (hD.efL i (by simp))
      | nil =>
        refine ⟨e, H, N, w, tmps, vs, Later.refl B e H N, hW, .inl ⟨hk, ⟨hD.size, fun p u hp => ⟨hD.keep p u hp, ?_⟩⟩, .one AMS.st_regionEnd⟩⟩
        rcases hD.vsd p u hp with ⟨n, i, h1, h2⟩ | ⟨_, h1⟩
        · obtain ⟨o, h3, h4⟩ := hD.ltx n i _ h1
          have hi : i < ops.size := by
            rcases Nat.lt_or_ge i ops.size with hh | hh
            · exact hh
            · rw [Array.getElem?_eq_none hh] at h3; cases h3
          exact (hD.ent n i _ u o h1 h2 h3).1 (hall i hi) _ rfl
        · exact h1
  | i :: rest, e, dn, effs, lt, L, fr, H, N, loc, vs, tmps, tail, w, hD, hM, hS, hB, hW, hk => by
    cases hS with
    | cons _ _ _ hi hn hb hS =>
      have ho : ops[i]? = some ops[i] := by simp [hi]
      generalize ops[i] = o at ho
      cases he : effOp o.op with
      | false =>
        have hlo : lo ms effs0 i ≤ dn.length := by
          unfold lo
          rw [hD.split]
          refine loOf_le fun j hj => ?_
          cases hbit : bit (ms.getD i 0) j with
          | false => rfl
          | true => exact absurd (hb j hbit) (hD.efL j hj)
        obtain ⟨e', x, w', fr', h1, h2, h3, h4⟩ := pend_step (k := k) (dfr := dfr) (kd := kd) (rnd := rnd) (cs := cs) (rest := rest) hD hW ho he hn hb ((hD.cov i o ho he).2 hlo)
        exact .head h1 h2 (mid_run hQ rest h4 hM hS hB h3 hk)
      | true =>
        have hin : i ∈ effs0 := by
          rw [hD.ds.heffs, effsOf_mem]
          exact ⟨Nat.zero_le _, o, by simpa using ho, he⟩
        have hef : i ∈ effs := by
          rw [hD.split] at hin
          rcases List.mem_append.1 hin with hh | hh
          · exact absurd (hD.dnL i hh) hn
          · exact hh
        cases hM with
        | nil => cases hef
        | cons i1 r _ _ o1 a l3 ho1 ha t =>
          have hii : i = i1 := by
            rcases List.mem_cons.1 hef with hh | hh
            · exact hh
            · obtain ⟨s, q, hsq⟩ := List.append_of_mem hh
              -- what stands ahead of it in the chain
              have hlast : ∃ s' j, i1 :: s = s' ++ [j] := by
                refine ⟨(i1 :: s).dropLast, (i1 :: s).getLast (by simp), ?_⟩
                rw [List.dropLast_concat_getLast]
              obtain ⟨s', j, hs'⟩ := hlast
              have hbit : bit (ms.getD i 0) j = true := by
                refine chain_at hD.ds.chain (a := dn ++ s') (b := q) ?_
                rw [hD.split, hsq, ← List.cons_append, hs']
                simp
              have hj : j ∈ i1 :: r := by
                rw [hsq, ← List.cons_append, hs']
                simp
              exact absurd (hb j hbit) (hD.efL j hj)
          subst hii
          obtain rfl := Option.some.inj (ho.symm.trans ho1)
          have hnd : i ∉ r := by
            have := effsOf_nodup ops.toList 0
            rw [← hD.ds.heffs, hD.split] at this
            have := (List.nodup_append.1 this).2.1
            exact (List.nodup_cons.1 this).1
          cases ha with
          | bad hbad => subst hbad; exact (F_false (n := 300) hk).elim
          | mk d hd hnt hA =>
            have nextD : ∀ {e2 : Env} {H2 : Tr Ob} {N2 : P} {v : V} {x : Value}, Later N e H N e2 H2 N2 → VR e2 v x →
                DI B c f ops ms effs0 (dn ++ [i]) r (fun j => lo ms effs0 j < (dn ++ [i]).length) (fun _ => False) ((i, o.dst) :: lt) (fun j => L j ∨ j = i) fr e2 H2 N2 (v :: loc) (putd d v vs) (AMS.putTmp o.dst x tmps) :=
              fun hl hv => (hD.act ho hb he hnd hd hnt hl hv).congC fun j _ _ _ => by simp; omega
            have ht' : StR c f ops ms effs0 r (dn ++ [i]).length ((i, o.dst) :: lt) l3 := by simpa using t
            have htd := hD.td hb
            have hk : actK (fun x d => X x d l3) (actsK Ek X l3) a loc vs H N = true := hk
            rcases act_inv (T := TD c f ops ms lt loc vs i) hA (fun e tmps ht => ht.2) (hD.grd ho) hk with ⟨v, H', N', h6, h7⟩ | ⟨nx, h5, _, h6, h7⟩
            · obtain ⟨e', x, w', g1, g2, g3, g4⟩ := gua_step (f := f) (k := k) (dfr := dfr) (kd := kd) (rnd := rnd) (cs := cs) (rest := rest) ho htd hW h7
              obtain ⟨lt', fr', H2, N2, loc', vs', tail', q1, q2, q3, q4, q5⟩ := start_mid (Ek := Ek) (X := X) (nextD g2 g4) ht' (Nat.le_trans hB g2.nn) g3 h6
              have hB' : B.toNat ≤ N'.toNat := Nat.le_trans hB g2.nn
              exact .head g1 ((g2.weak hB).trans (q3.weak hB')) (mid_run hQ rest q5 q4 hS (Nat.le_trans hB' q3.nn) q2 q1)
            · exact ⟨e, H, N, w, tmps, vs, Later.refl B e H N, hW, .inr ⟨i, rest, o, nx, d, l3, loc, ho, h5, h6 e tmps htd, h7 e tmps w htd hW, .refl _ _, fun e2 H2 N2 v x hl hv => ⟨ms, effs0, dn ++ [i], r, _, _, fr, nextD hl hv, ht', hS⟩, fun hq p u hp hres => hD.vres (hQ hq) p u hp hres⟩⟩
/-- a region whose order is open -/
theorem draw_run (hQ : Q → OpsSafe c f ops) {rest : List Nat} {acts : List RAct} {H : Tr Ob} {N : P} {loc : List V} {vs : Tr V} {tmps : Array Value} {w : World} (hB : B.toNat ≤ N.toNat) (hR : RegD B c f ops e H N acts loc vs rest tmps) (hW : WR c e H N w) (hk : actsK Ek X acts loc vs H N = true) :
    RegOut c f ops k dfr kd rnd cs Q Ek X (RegD B c f ops) B e H N (lone (AMS.rf f tmps (.inRegion ops rest :: k) dfr kd rnd) cs w) := by
  obtain ⟨ms, effs0, dn, effs, lt, L, fr, hD, hS, hSch⟩ := hR
  obtain ⟨lt', fr', H2, N2, loc', vs', tail', q1, q2, q3, q4, q5⟩ := start_mid (Ek := Ek) (X := X) hD hS hB hW hk
  obtain ⟨e', H', N', w', tmps', vs2, h1, h2, h3⟩ := mid_run (k := k) (dfr := dfr) (kd := kd) (rnd := rnd) (cs := cs) hQ rest q5 q4 hSch (Nat.le_trans hB q3.nn) q2 q1
  exact ⟨e', H', N', w', tmps', vs2, (q3.weak hB).trans h1, h2, h3⟩
end
end Go.AM
