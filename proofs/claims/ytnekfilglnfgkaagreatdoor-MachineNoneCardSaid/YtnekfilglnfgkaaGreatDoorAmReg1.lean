/- Regions, the first part: what an act that ran promises of its operation. -/
import Derived.Test.YtnekfilglnfgkaaGreatDoorAmStep
set_option autoImplicit false
set_option linter.unusedVariables false
set_option linter.unusedSimpArgs false
namespace Go.AM
/-- later: names only got blocks; those ahead of B that stand for nothing yet are untouched -/
structure Later (B : P) (e : Env) (H : Tr Ob) (N : P) (e' : Env) (H' : Tr Ob) (N' : P) : Prop where
  le : e.le e'
  nn : N.toNat ≤ N'.toNat
  none : ∀ b, e b = Option.none → b.toNat < B.toNat → e' b = Option.none
  keep : ∀ b, e b = Option.none → b.toNat < B.toNat → H'.get b = H.get b
theorem Later.refl (B : P) (e : Env) (H : Tr Ob) (N : P) : Later B e H N e H N := ⟨Env.le.refl e, Nat.le_refl _, fun _ h _ => h, fun _ _ _ => rfl⟩
theorem Later.trans {B : P} {e e' e2 : Env} {H H' H2 : Tr Ob} {N N' N2 : P} (h : Later B e H N e' H' N') (k : Later B e' H' N' e2 H2 N2) : Later B e H N e2 H2 N2 :=
  ⟨h.le.trans k.le, Nat.le_trans h.nn k.nn, fun b a l => k.none b (h.none b a l) l, fun b a l => (k.keep b (h.none b a l) l).trans (h.keep b a l)⟩
theorem Later.weak {B B' : P} {e e' : Env} {H H' : Tr Ob} {N N' : P} (h : Later B e H N e' H' N') (hB : B'.toNat ≤ B.toNat) : Later B' e H N e' H' N' :=
  ⟨h.le, h.nn, fun b a l => h.none b a (by omega), fun b a l => h.keep b a (by omega)⟩
theorem Went.later {c : Cfg} {e e' : Env} {H H' : Tr Ob} {N N' : P} {v : V} {w w' : World} {x : Value} (h : Went c e H N v H' N' w e' x w') (hN : N.toNat ≤ N'.toNat) : Later N e H N e' H' N' :=
  ⟨h.le, hN, h.none, h.keep⟩
def putd (d : Option P) (v : V) (vs : Tr V) : Tr V :=
  match d with
  | some p => vs.put (some v) p
  | none => vs
@[simp] theorem putD_eq {d : Option P} {v : V} {vs : Tr V} {K : Tr V → A} : putD d v vs K = K (putd d v vs) := by
  cases d with
  | none => rfl
  | some p => exact putT_eq p vs K
def mkV (m : Mk) (b : P) : V :=
  match m with
  | .ptr => .ptr b 0
  | .slc n c => .slc b 0 n c
  | .map => .map b
@[simp] theorem mkK_eq {m : Mk} {b : P} {K : V → A} : mkK m b K = K (mkV m b) := by cases m <;> rfl
theorem mkV_of {m : Mk} {b : P} {v : V} (h : ∀ K, mkK m b K = K v) : v = mkV m b := by
  have := h (fun u => @decide (u = mkV m b) (Classical.propDecidable _))
  rw [mkK_eq] at this
  simp at this
  exact this
section
variable {c : Cfg} {ops : Array Oper} {T : Env → Array Value → Prop} {o : Oper} {H : Tr Ob} {N : P}
abbrev WantT (ops : Array Oper) (T : Env → Array Value → Prop) (o : Oper) (b : Bool) : Prop := ∀ e tmps, T e tmps → Region.wanted o (yielded ops tmps) = b
/-- what an act that ran promises: the value, and what is in memory then -/
inductive Gua (c : Cfg) (ops : Array Oper) (T : Env → Array Value → Prop) (o : Oper) (H : Tr Ob) (N : P) (ef rk : Bool) : V → Tr Ob → P → Prop
  | skip (h : WantT ops T o false) : Gua c ops T o H N ef rk .und H N
  | pure (v : V) (hw : WantT ops T o true) (h : ∀ e tmps w, T e tmps → ∃ x, VR e v x ∧ (execOp (evT tmps) o).run c.p w = .ok (.value x) w) : Gua c ops T o H N ef rk v H N
  | read (v : V) (hr : rk = true) (hw : WantT ops T o true) (h : ∀ H' e N' tmps w, HExt H H' → T e tmps → WR c e H' N' w → ∃ x, VR e v x ∧ (execOp (evT tmps) o).run c.p w = .ok (.value x) w) : Gua c ops T o H N ef rk v H N
  | fresh (ob : Ob) (m : Mk) (N' : P) (hw : WantT ops T o true) (hg : ob.isGlob = false) (hN : N'.toNat = N.toNat + 1)
      (h : ∀ e tmps, T e tmps → ∃ co size, (∀ e' blk, e.le e' → OR c e' ⟨blk, 0, size⟩ ob co) ∧ ∀ w, ∃ x, (execOp (evT tmps) o).run c.p w = .ok (.value x) (w.alloc co) ∧ ∀ e' b, e' b = some ⟨w.heap.size, 0, size⟩ → VR e' (mkV m b) x) :
      Gua c ops T o H N ef rk (mkV m N) (H.put (some ob) N) N'
  | eff (v : V) (H' : Tr Ob) (N' : P) (he : ef = true) (hw : WantT ops T o true) (hN : N.toNat ≤ N'.toNat)
      (h : ∀ e tmps w, T e tmps → WR c e H N w → ∃ e' x w', Went c e H N v H' N' w e' x w' ∧ ((execOp (evT tmps) o).run c.p w = .ok (.value x) w' ∨ ((execOp (evT tmps) o).run c.p w = .ok .skip w' ∧ x = undef))) :
      Gua c ops T o H N ef rk v H' N'
/-- an act whose operation gives no value -/
def ExitG (c : Cfg) (ops : Array Oper) (T : Env → Array Value → Prop) (o : Oper) (H : Tr Ob) (N : P) (nx : Nx) : Prop :=
  WantT ops T o true ∧ ∀ e tmps w, T e tmps → WR c e H N w → NxR c e w nx ((execOp (evT tmps) o).run c.p w)
theorem opr_inv {S : Srel} {d : Option P} {a : RAct} {X : Nx → Option P → List V → Tr V → Tr Ob → P → A} {ih : Cont} {loc : List V} {vs : Tr V} (h : OpR c S o d a) (hT : ∀ e tmps, T e tmps → S e loc vs tmps) (hw : WantT ops T o true)
    (hk : actK X ih a loc vs H N = true) : (∃ v H' N', ih (v :: loc) (putd d v vs) H' N' = true ∧ Gua c ops T o H N (isEff a) (isRead a) v H' N') ∨ ∃ nx, X nx d loc vs H N = true ∧ isEff a = true ∧ ExitG c ops T o H N nx := by
  cases h with
  | p g h =>
    have hk : g loc vs (fun v => putD d v vs fun vs => ih (v :: loc) vs H N) = true := hk
    obtain ⟨v, h1, h2⟩ := h _ _ _ hk
    rw [putD_eq] at h1
    exact .inl ⟨v, H, N, h1, .pure v hw fun e tmps w ht => h2 e tmps w (hT e tmps ht)⟩
  | r g h =>
    have hk : g loc vs H (fun v => putD d v vs fun vs => ih (v :: loc) vs H N) = true := hk
    obtain ⟨v, h1, h2⟩ := h _ _ _ _ hk
    rw [putD_eq] at h1
    exact .inl ⟨v, H, N, h1, .read v rfl hw fun H' e N' tmps w hE ht hW => h2 H' e N' tmps w hE (hT e tmps ht) hW⟩
  | n g h =>
    have hk : g loc vs (fun o m => putT (some o) N H fun H => mkK m N fun v => succP N fun N => putD d v vs fun vs => ih (v :: loc) vs H N) = true := hk
    obtain ⟨ob, m, h1, h2, h3⟩ := h _ _ _ hk
    rw [putT_eq, mkK_eq] at h1
    obtain ⟨N', h4, h5⟩ := succP_inv h1
    rw [putD_eq] at h5
    refine .inl ⟨mkV m N, _, N', h5, .fresh ob m N' hw h2 h4 fun e tmps ht => ?_⟩
    obtain ⟨co, size, h6, h7⟩ := h3 e tmps (hT e tmps ht)
    refine ⟨co, size, h6, fun w => ?_⟩
    obtain ⟨x, h8, h9⟩ := h7 w
    refine ⟨x, h8, fun e' b hb => ?_⟩
    obtain ⟨v, h10, h11⟩ := h9 e' b hb
    rw [← mkV_of h10]; exact h11
  | e g h =>
    have hk : g loc vs H N (fun v H N => putD d v vs fun vs => ih (v :: loc) vs H N) (fun x H N => X x d loc vs H N) = true := hk
    rcases h _ _ _ _ _ _ hk with ⟨v, H', N', h1, h2, h3⟩ | ⟨nx, h1, h2⟩
    · rw [putD_eq] at h1
      exact .inl ⟨v, H', N', h1, .eff v H' N' rfl hw h2 fun e tmps w ht hW => h3 e tmps w (hT e tmps ht) hW⟩
    · exact .inr ⟨nx, h1, rfl, hw, fun e tmps w ht hW => h2 e tmps w (hT e tmps ht) hW⟩
/-- an act with its guard -/
inductive ActR (c : Cfg) (S : Srel) (lt : List (Nat × Option Nat)) (o : Oper) (d : Option P) : RAct → Prop
  | plain (a : RAct) (h : OpR c S o d a) (hg : o.guard = none) : ActR c S lt o d a
  | guard (n j t : Nat) (w : Bool) (a : RAct) (h : OpR c S o d a) (hg : o.guard = some (j, w)) (hl : lt[n]? = some (j, some t)) : ActR c S lt o d (.g n w d a)
  | fail (d' : Option P) : ActR c S lt o d (.e eFail d')
/-- what is known of the local that a guard asks -/
def GuardOK (ops : Array Oper) (T : Env → Array Value → Prop) (lt : List (Nat × Option Nat)) (loc : List V) (o : Oper) : Prop :=
  ∀ (n j t : Nat) (w : Bool), o.guard = some (j, w) → lt[n]? = some (j, some t) → ((ops[j]?).bind (·.dst)) = some t ∧ ∀ e tmps, T e tmps → t < tmps.size ∧ ∀ u, loc[n]? = some u → VR e u (tmps.getD t undef)
theorem sameB_iff {a b : Bool} : sameB a b = true ↔ a = b := by unfold sameB; rw [eqB_eq]; simp
theorem yielded_of {tmps : Array Value} {j t : Nat} (h : ((ops[j]?).bind (·.dst)) = some t) (ht : t < tmps.size) : yielded ops tmps j = match tmps.getD t undef with | .bool b => some b | _ => none := by
  unfold yielded
  have hd : tmps.getD t undef = tmps[t] := by simp [ht]
  rw [h, hd, Option.bind_some, getElem?_pos tmps t ht]
  generalize tmps[t] = x
  cases x <;> rfl
theorem act_inv {S : Srel} {lt : List (Nat × Option Nat)} {d : Option P} {a : RAct} {X : Nx → Option P → List V → Tr V → Tr Ob → P → A} {ih : Cont} {loc : List V} {vs : Tr V} (h : ActR c S lt o d a) (hT : ∀ e tmps, T e tmps → S e loc vs tmps)
    (hG : GuardOK ops T lt loc o) (hk : actK X ih a loc vs H N = true) : (∃ v H' N', ih (v :: loc) (putd d v vs) H' N' = true ∧ Gua c ops T o H N (isEff a) (isRead a) v H' N') ∨ ∃ nx, X nx d loc vs H N = true ∧ isEff a = true ∧ ExitG c ops T o H N nx := by
  cases h with
  | plain _ h hg => exact opr_inv h hT (fun e tmps _ => by simp [Region.wanted, hg]) hk
  | fail d' => exact (F_false (n := 300) hk).elim
  | guard n j t w a h hg hl =>
    have hk : getL (fun u => V.onGrd (fun b => ifK (actK X ih a loc vs H N) (putD d .und vs fun vs => ih (.und :: loc) vs H N) (sameB b w)) (putD d .und vs fun vs => ih (.und :: loc) vs H N) u) n loc = true := hk
    obtain ⟨u, h1, h2⟩ := getL_inv hk
    obtain ⟨h3, h4⟩ := hG n j t w hg hl
    rcases V.onGrd_inv h2 with ⟨b, rfl, h5⟩ | ⟨rfl, h5⟩
    · rcases ifK_inv h5 with ⟨h6, h7⟩ | ⟨h6, h7⟩
      · have hb := sameB_iff.1 h6
        subst hb
        refine opr_inv (a := a) h hT (fun e tmps ht => ?_) h7
        obtain ⟨h8, h9⟩ := h4 e tmps ht
        have := (h9 _ h1).inv_bool
        simp only [Region.wanted, hg, yielded_of h3 h8, this]
        simp
      · rw [putD_eq] at h7
        refine .inl ⟨_, _, _, h7, .skip fun e tmps ht => ?_⟩
        obtain ⟨h8, h9⟩ := h4 e tmps ht
        have := (h9 _ h1).inv_bool
        simp only [Region.wanted, hg, yielded_of h3 h8, this]
        have hne : b ≠ w := fun hh => by rw [sameB_iff.2 hh] at h6; cases h6
        cases b <;> cases w <;> first | rfl | exact absurd rfl hne
    · rw [putD_eq] at h5
      refine .inl ⟨_, _, _, h5, .skip fun e tmps ht => ?_⟩
      obtain ⟨h8, h9⟩ := h4 e tmps ht
      have := (h9 _ h1).inv_und
      simp only [Region.wanted, hg, yielded_of h3 h8, this]
      simp
end
/-! ### A promise is kept -/
/-- a name that is promised and has no block yet -/
theorem WR.promise {c : Cfg} {e : Env} {H : Tr Ob} {N N' : P} {w : World} (h : WR c e H N w) (hN : N'.toNat = N.toNat + 1) (o : Ob) : WR c e (H.put (some o) N) N' w := by
  have hne : ∀ {b : P} {l : Loc}, e b = some l → b ≠ N := fun {b l} he hh => by subst hh; rw [h.fresh] at he; cases he
  refine ⟨?_, ?_, ?_, ?_, ?_, h.old, h.size, h.os, h.tape, h.output, h.glo⟩
  · intro b o2 l hb he
    rw [Tr.get_put_ne _ _ (hne he)] at hb
    exact h.obj b o2 l hb he
  · intro b l he; have := h.dom b l he; omega
  · intro b o2 hb
    by_cases hbN : b = N
    · subst hbN; omega
    · rw [Tr.get_put_ne _ _ hbN] at hb; have := h.used b o2 hb; omega
  · intro b1 b2 o1 o2 l1 l2 g1 g2 e1 e2
    rw [Tr.get_put_ne _ _ (hne e1)] at g1
    rw [Tr.get_put_ne _ _ (hne e2)] at g2
    exact h.one b1 b2 o1 o2 l1 l2 g1 g2 e1 e2
  · intro b o2 l hb he
    rw [Tr.get_put_ne _ _ (hne he)] at hb
    exact h.own b o2 l hb he
/-- and then it gets one -/
theorem WR.make {c : Cfg} {e : Env} {H : Tr Ob} {N b : P} {w w' : World} (h : WR c e H N w) {o : Ob} {x : Obj} {l : Loc} (hb : H.get b = some o) (he : e b = none) (hbN : b.toNat < N.toNat) (hl : l.blk = w.heap.size)
    (hx : OR c (e.with b l) l o x) (hw : w'.heap = w.heap.push x) (h1 : w'.os = w.os) (h2 : w'.tape = w.tape) (h3 : w'.output = w.output) : WR c (e.with b l) H N w' := by
  have hle : e.le (e.with b l) := Env.le_with he
  have hsz : w'.heap.size = w.heap.size + 1 := by rw [hw]; simp
  have hback : ∀ p m, p ≠ b → e.with b l p = some m → e p = some m := fun p m hp hm => by rwa [Env.with_ne _ _ hp] at hm
  refine ⟨?_, ?_, h.used, ?_, ?_, ?_, by rw [hsz]; have := h.size; omega, h1.trans h.os, h2.trans h.tape, h3.trans h.output, ?_⟩
  · intro b2 o2 l2 hb2 he2
    by_cases hp : b2 = b
    · subst hp
      obtain rfl := Option.some.inj (hb.symm.trans hb2)
      rw [Env.with_same] at he2
      obtain rfl := Option.some.inj he2
      exact ⟨x, by rw [hw, hl]; simp, hx⟩
    · obtain ⟨y, hy, hr⟩ := h.obj b2 o2 l2 hb2 (hback _ _ hp he2)
      refine ⟨y, ?_, hr.mono hle⟩
      have := (h.dom b2 l2 (hback _ _ hp he2)).2
      rw [hw, Array.getElem?_push, if_neg (by omega)]
      exact hy
  · intro b2 l2 he2
    by_cases hp : b2 = b
    · subst hp; rw [Env.with_same] at he2; obtain rfl := Option.some.inj he2; omega
    · have := h.dom b2 l2 (hback _ _ hp he2); omega
  · intro b1 b2 o1 o2 l1 l2 g1 g2 e1 e2 hh
    by_cases hb1 : b1 = b <;> by_cases hb2 : b2 = b
    · rw [hb1, hb2]
    · subst hb1
      rw [Env.with_same] at e1
      obtain rfl := Option.some.inj e1
      have := (h.dom b2 l2 (hback _ _ hb2 e2)).2
      omega
    · subst hb2
      rw [Env.with_same] at e2
      obtain rfl := Option.some.inj e2
      have := (h.dom b1 l1 (hback _ _ hb1 e1)).2
      omega
    · exact h.one b1 b2 o1 o2 l1 l2 g1 g2 (hback _ _ hb1 e1) (hback _ _ hb2 e2) hh
  · intro b2 o2 l2 hb2 he2 hg2
    by_cases hp : b2 = b
    · subst hp
      rw [Env.with_same] at he2
      obtain rfl := Option.some.inj he2
      have := h.size
      omega
    · exact h.own b2 o2 l2 hb2 (hback _ _ hp he2) hg2
  · intro i hi
    have := h.size
    rw [hw, Array.getElem?_push, if_neg (by omega)]
    exact h.old i hi
  · intro p hp
    obtain ⟨m, a, b'⟩ := h.glo p hp
    exact ⟨m, hle _ _ a, b'⟩
section
variable {c : Cfg} {ops : Array Oper} {T : Env → Array Value → Prop} {o : Oper} {H : Tr Ob} {N : P}
/-- the operation's step: what was promised comes true at once -/
theorem gua_step {f : Nat} {tmps : Array Value} {k : List Item} {dfr : List Deferred} {kd : CallKind} {rnd : Option Nat} {cs : List Frame} {w : World} {i : Nat} {rest : List Nat} {v : V} {H' : Tr Ob} {N' : P} {e : Env}
    (ho : ops[i]? = some o) (ht : T e tmps) (hW : WR c e H N w) {ef rk : Bool} (g : Gua c ops T o H N ef rk v H' N') :
    ∃ e' x w', Go.step c.p (lone (AMS.rf f tmps (.inRegion ops (i :: rest) :: k) dfr kd rnd) cs w) = .next (lone (AMS.rf f (AMS.putTmp o.dst x tmps) (.inRegion ops rest :: k) dfr kd rnd) cs w') ∧
      Later N e H N e' H' N' ∧ WR c e' H' N' w' ∧ VR e' v x := by
  cases g with
  | skip h => exact ⟨e, undef, w, AMS.st_opSkip ho (h e tmps ht), Later.refl N e H N, hW, .und⟩
  | pure _ hw h =>
    obtain ⟨x, h1, h2⟩ := h e tmps w ht
    exact ⟨e, x, w, AMS.st_opVal ho (hw e tmps ht) (.inl h2), Later.refl N e H N, hW, h1⟩
  | read _ _ hw h =>
    obtain ⟨x, h1, h2⟩ := h H e N tmps w (fun _ _ h => h) ht hW
    exact ⟨e, x, w, AMS.st_opVal ho (hw e tmps ht) (.inl h2), Later.refl N e H N, hW, h1⟩
  | fresh ob m _ hw hg hN h =>
    obtain ⟨co, size, h1, h2⟩ := h e tmps ht
    obtain ⟨x, h3, h4⟩ := h2 w
    have hle := Env.le_with (l := ⟨w.heap.size, 0, size⟩) hW.fresh
    refine ⟨e.with N ⟨w.heap.size, 0, size⟩, x, _, AMS.st_opVal ho (hw e tmps ht) (.inl h3), ⟨hle, by omega, fun b hb hl => ?_, Keeps.new e H N _⟩, ?_, h4 _ _ (Env.with_same _ _ _)⟩
    · rw [Env.with_ne _ _ (by rintro rfl; omega)]; exact hb
    · exact hW.new (l := ⟨w.heap.size, 0, size⟩) hN rfl hg (h1 _ _ hle) rfl rfl rfl rfl
  | eff _ _ _ _ hw hN h =>
    obtain ⟨e', x, w', h1, h2⟩ := h e tmps w ht hW
    exact ⟨e', x, w', AMS.st_opVal ho (hw e tmps ht) h2, h1.later hN, h1.wr, h1.val⟩
end
end Go.AM
