/- The simulation, the first part: how the abstract machine's state stands for the model's. -/
import Derived.Test.YtnekfilglnfgkaaGreatDoorAmStep2
set_option autoImplicit false
set_option linter.unusedVariables false
set_option linter.unusedSimpArgs false
namespace Go.AM
inductive PERs (e : Env) : List PE → List PanicEntry → Prop
  | nil : PERs e [] []
  | cons (v : V) (x : Value) (r : Bool) (l : List PE) (xs : List PanicEntry) (h : VR e v x) (t : PERs e l xs) : PERs e (.mk v r :: l) ({ v := x, recovered := r } :: xs)
theorem PERs.mono {e e' : Env} (h : e.le e') : ∀ {l : List PE} {xs : List PanicEntry}, PERs e l xs → PERs e' l xs
  | _, _, .nil => .nil
  | _, _, .cons _ _ _ _ _ a t => .cons _ _ _ _ _ (a.mono h) (t.mono h)
theorem PERs.append {e : Env} : ∀ {l m : List PE} {xs ys : List PanicEntry}, PERs e l xs → PERs e m ys → PERs e (l ++ m) (xs ++ ys)
  | _, _, _, _, .nil, h => h
  | _, _, _, _, .cons _ _ _ _ _ a t, h => .cons _ _ _ _ _ a (t.append h)
theorem PERs.drop {e : Env} : ∀ {l : List PE} {xs : List PanicEntry}, PERs e l xs → xs.dropWhile (!·.goexit) = []
  | _, _, .nil => rfl
  | _, _, .cons _ _ _ _ _ a t => by simp [List.dropWhile, t.drop]
inductive ItR (c : Cfg) (f : Nat) : It → Item → Prop
  | code (ic : ICode) (a : Code) (h : CR c f ic a) : ItR c f (.code ic) (.code a)
  | blk (id : Nat) : ItR c f (.blk id) (.inBlock id)
  | lp (ic : ICode) (a : Code) (h : CR c f ic a) : ItR c f (.lp ic) (.inLoop a)
  | scp (ic : ICode) (a : Code) (h : CR c f ic a) : ItR c f (.scp ic) (.inScope a)
  | beg : ItR c f .beg .beginRound
inductive KR (c : Cfg) (f : Nat) : List It → List Item → Prop
  | nil : KR c f [] []
  | cons (it : It) (x : Item) (k : List It) (kk : List Item) (h : ItR c f it x) (t : KR c f k kk) : KR c f (it :: k) (x :: kk)
/-- a region's state -/
def IsReg (B : P) (c : Cfg) (f : Nat) (ops : Array Oper) (Reg : Env → Tr Ob → P → List RAct → List V → Tr V → List Nat → Array Value → Prop) : Prop :=
  Reg = RegS' c f ops ∨ (Reg = RegD B c f ops ∧ (Safe c f → OpsSafe c f ops))
theorem reg_run {B : P} {c : Cfg} {f : Nat} {ops : Array Oper} {Reg : Env → Tr Ob → P → List RAct → List V → Tr V → List Nat → Array Value → Prop} (hr : IsReg B c f ops Reg) {k : List Item} {dfr : List Deferred} {kd : CallKind} {rnd : Option Nat} {cs : List Frame}
    {Ek : Tr V → Tr Ob → P → A} {X : Nx → Option P → List RAct → List V → Tr V → Tr Ob → P → A} {e : Env} {rest : List Nat} {acts : List RAct} {H : Tr Ob} {N : P} {loc : List V} {vs : Tr V} {tmps : Array Value} {w : World} (hB : B.toNat ≤ N.toNat)
    (h : Reg e H N acts loc vs rest tmps) (hW : WR c e H N w) (hk : actsK Ek X acts loc vs H N = true) : RegOut c f ops k dfr kd rnd cs (Safe c f) Ek X Reg B e H N (lone (AMS.rf f tmps (.inRegion ops rest :: k) dfr kd rnd) cs w) := by
  rcases hr with rfl | ⟨rfl, hs⟩
  · exact seq_run acts hB h hW hk
  · exact draw_run hs hB h hW hk
def RcR (c : Cfg) (f : Nat) (rc : FnRec) : Prop := ∃ code lps ent res sf, rc = .mk code lps ent res sf ∧ FnR c f code lps ent res sf
def kdOf : Bool → CallKind
  | true => .deferred
  | false => .normal
inductive RndR (e : Env) : Option P → Option Nat → Prop
  | none : RndR e none none
  | some (b : P) (l : Loc) (h : e b = some l) : RndR e (some b) (some l.blk)
theorem RndR.mono {e e' : Env} (h : e.le e') {b : Option P} {r : Option Nat} : RndR e b r → RndR e' b r
  | .none => .none
  | .some b l a => .some b l (h _ _ a)
/-- what the frame that runs is at -/
inductive CtlA (c : Cfg) (f : Nat) (e : Env) (H : Tr Ob) (N : P) (B : P) : Tr V → Ctl → Array Value → List Item → FrameMode → Prop
  | run (vs : Tr V) (k : List It) (tmps : Array Value) (kk : List Item) (h : KR c f k kk) (hv : c.vsr f e vs tmps) : CtlA c f e H N B vs (.run k) tmps kk .run
  | acts (vs : Tr V) (Reg : Env → Tr Ob → P → List RAct → List V → Tr V → List Nat → Array Value → Prop) (ops : Array Oper) (acts : List RAct) (loc : List V) (k : List It) (rest : List Nat) (tmps : Array Value) (kk : List Item) (hr : IsReg B c f ops Reg)
      (h : Reg e H N acts loc vs rest tmps) (hk : KR c f k kk) : CtlA c f e H N B vs (.run (.acts acts loc :: k)) tmps (.inRegion ops rest :: kk) .run
  | erf (vs : Tr V) (b : P) (lo : Loc) (k : List It) (tmps : Array Value) (kk : List Item) (hb : e b = some lo) (hv : c.vsr f e vs tmps) (hk : KR c f k kk) : CtlA c f e H N B vs (.run (.erf b :: k)) tmps (.endRangeFunc lo.blk :: kk) .run
  | ret (vs : Tr V) (tmps : Array Value) (kk : List Item) (hv : VsRes c f e vs tmps) : CtlA c f e H N B vs .ret tmps kk .returning
  | pan (vs : Tr V) (ch : List PE) (chain : List PanicEntry) (tmps : Array Value) (kk : List Item) (hv : Safe c f → VsRes c f e vs tmps) (hp : PERs e ch chain) : CtlA c f e H N B vs (.pan ch) tmps kk (.panicking chain)
/-- what a frame that waits is at; Mb: bound of the frames below, M: of this one -/
inductive CtlS (c : Cfg) (f : Nat) (e : Env) (H : Tr Ob) (N : P) (Mb M : Nat) : Tr V → Ctl → Array Value → List Item → FrameMode → Prop
  | wait (vs : Tr V) (Reg : Env → Tr Ob → P → List RAct → List V → Tr V → List Nat → Array Value → Prop) (B Bc : P) (ops : Array Oper) (acts : List RAct) (loc : List V) (d : Option P) (k : List It) (i : Nat) (r : List Nat) (o : Oper) (tmps : Array Value) (kk : List Item)
      (hr : IsReg B c f ops Reg) (h0 : Mb ≤ B.toNat) (h1 : B.toNat ≤ Bc.toNat) (h2 : Bc.toNat ≤ M) (ho : ops[i]? = some o) (h : WaitR Reg Bc e H N d acts loc vs tmps o.dst r) (hk : KR c f k kk) (hs : Safe c f → VsRes c f e vs tmps) :
      CtlS c f e H N Mb M vs (.run (.wait d acts loc :: k)) tmps (.inRegion ops (i :: r) :: kk) .run
  | irf (vs : Tr V) (b : P) (lo : Loc) (k : List It) (tmps : Array Value) (kk : List Item) (hb : e b = some lo) (hv : c.vsr f e vs tmps) (hk : KR c f k kk) : CtlS c f e H N Mb M vs (.run (.irf b :: k)) tmps (.inRangeFunc lo.blk :: kk) .run
  | ret (vs : Tr V) (tmps : Array Value) (kk : List Item) (hv : VsRes c f e vs tmps) : CtlS c f e H N Mb M vs .ret tmps kk .returning
  | pan (vs : Tr V) (ch : List PE) (chain : List PanicEntry) (tmps : Array Value) (kk : List Item) (hv : Safe c f → VsRes c f e vs tmps) (hp : PERs e ch chain) : CtlS c f e H N Mb M vs (.pan ch) tmps kk (.panicking chain)
theorem VsRes.mono {c : Cfg} {f : Nat} {e e' : Env} (h : e.le e') {vs : Tr V} {tmps : Array Value} (r : VsRes c f e vs tmps) : VsRes c f e' vs tmps := fun p u hp hr => (r p u hp hr).mono h
theorem vsr_res {c : Cfg} {f : Nat} {e : Env} {vs : Tr V} {tmps : Array Value} (h : c.vsr f e vs tmps) : VsRes c f e vs tmps := fun p u hp _ => (h.2 p u hp).2
theorem CtlS.later {c : Cfg} {f : Nat} {e e' : Env} {H H' : Tr Ob} {N N' B : P} {Mb M : Nat} {vs : Tr V} {ctl : Ctl} {tmps : Array Value} {kk : List Item} {md : FrameMode} (h : CtlS c f e H N Mb M vs ctl tmps kk md) (hl : Later B e H N e' H' N') (hM : M ≤ B.toNat) :
    CtlS c f e' H' N' Mb M vs ctl tmps kk md := by
  cases h with
  | wait Reg B' Bc ops acts loc d k i r o _ kk hr h0 h1 h2 ho h hk hs => exact .wait vs Reg B' Bc ops acts loc d k i r o tmps kk hr h0 h1 h2 ho (h.later (hl.weak (by omega))) hk (fun q => (hs q).mono hl.le)
  | irf b lo k _ kk hb hv hk => exact .irf vs b lo k tmps kk (hl.le _ _ hb) (hv.mono hl.le) hk
  | ret _ _ hv => exact .ret vs _ _ (hv.mono hl.le)
  | pan ch chain _ _ hv hp => exact .pan vs ch chain _ _ (fun q => (hv q).mono hl.le) (hp.mono hl.le)
/-- the frames that wait -/
inductive FsR (c : Cfg) (e : Env) (H : Tr Ob) (N : P) : Nat → List Fr → List Frame → Prop
  | nil (M : Nat) : FsR c e H N M [] []
  | cons (M Mb f : Nat) (rc : FnRec) (vs : Tr V) (ctl : Ctl) (dfr : List Dfr) (dk : Bool) (rnd : Option P) (cs : List Fr) (tmps : Array Value) (todo : List Item) (md : FrameMode) (ds : List Deferred) (ro : Option Nat) (fs : List Frame)
      (hf : RcR c f rc) (hd : DRs e dfr ds) (hn : RndR e rnd ro) (hc : CtlS c f e H N Mb M vs ctl tmps todo md) (hr : rnd ≠ none → cs ≠ []) (h : FsR c e H N Mb cs fs) (hM : Mb ≤ M) :
      FsR c e H N M (.mk f rc vs ctl dfr dk rnd :: cs) (AMS.xf f tmps todo ds md (kdOf dk) ro :: fs)
theorem FsR.later {c : Cfg} {e e' : Env} {H H' : Tr Ob} {N N' B : P} (hl : Later B e H N e' H' N') {M : Nat} {cs : List Fr} {fs : List Frame} (h : FsR c e H N M cs fs) : M ≤ B.toNat → FsR c e' H' N' M cs fs := by
  induction h with
  | nil M => exact fun _ => .nil M
  | cons M Mb f rc vs ctl dfr dk rnd cs tmps todo md ds ro fs hf hd hn hc hr h hM ih =>
    exact fun hB => .cons M Mb f rc vs ctl dfr dk rnd cs tmps todo md ds ro fs hf (hd.mono hl.le) (hn.mono hl.le) (hc.later hl hB) hr (ih (by omega)) hM
def bot (f : Nat) : List Fr → Nat
  | [] => f
  | .mk g _ _ _ _ _ _ :: r => bot g r
theorem bot_cons (g f : Nat) (rc : FnRec) (vs : Tr V) (ctl : Ctl) (dfr : List Dfr) (dk : Bool) (rnd : Option P) (cs : List Fr) : bot g (.mk f rc vs ctl dfr dk rnd :: cs) = bot f cs := rfl
/-- all but what the frame that runs is at -/
structure CxR (c : Cfg) (f0 : Nat) (e : Env) (H : Tr Ob) (N : P) (w : World) (f : Nat) (rc : FnRec) (dfr : List Dfr) (rnd : Option P) (cs : List Fr) (ds : List Deferred) (ro : Option Nat) (fs : List Frame) (M : Nat) : Prop where
  rc : RcR c f rc
  dr : DRs e dfr ds
  rn : RndR e rnd ro
  fs : FsR c e H N M cs fs
  wr : WR c e H N w
  rb : rnd ≠ none → cs ≠ []
  bt : bot f cs = f0
theorem CxR.later {c : Cfg} {f0 : Nat} {e e' : Env} {H H' : Tr Ob} {N N' B : P} {w w' : World} {f : Nat} {rc : FnRec} {dfr : List Dfr} {rnd : Option P} {cs : List Fr} {ds : List Deferred} {ro : Option Nat} {fs : List Frame} {M : Nat}
    (h : CxR c f0 e H N w f rc dfr rnd cs ds ro fs M) (hl : Later B e H N e' H' N') (hM : M ≤ B.toNat) (hW : WR c e' H' N' w') : CxR c f0 e' H' N' w' f rc dfr rnd cs ds ro fs M :=
  ⟨h.rc, h.dr.mono hl.le, h.rn.mono hl.le, h.fs.later hl hM, hW, h.rb, h.bt⟩
/-! ### Arguments go to variables -/
theorem bindK_cons {p : Option P} {ps : List (Option P)} {l : List V} {vs : Tr V} {K : Tr V → A} (h : bindK (p :: ps) l vs K = true) : ∃ v r, l = v :: r ∧ bindK ps r (putd p v vs) K = true := by
  cases l with
  | nil => exact absurd h Bool.false_ne_true
  | cons v r =>
    have h : putD p v vs (fun vs => bindK ps r vs K) = true := h
    rw [putD_eq] at h
    exact ⟨v, r, rfl, h⟩
theorem bindK_nil {l : List V} {vs : Tr V} {K : Tr V → A} (h : bindK [] l vs K = true) : l = [] ∧ K vs = true := by
  cases l with
  | nil => exact ⟨rfl, h⟩
  | cons v r => exact absurd h Bool.false_ne_true
theorem vsr_put {c : Cfg} {f : Nat} {e : Env} {vs : Tr V} {tmps : Array Value} (h : c.vsr f e vs tmps) {d : Option P} {t : Nat} (hd : c.dst f d (some t)) {v : V} {x : Value} (hv : VR e v x) : c.vsr f e (putd d v vs) (tmps.setIfInBounds t x) := by
  have htn : t < c.nt f := dst_lt hd
  have hts : t < tmps.size := Nat.lt_of_lt_of_le htn h.1
  refine ⟨by simpa using h.1, fun p u hp => ?_⟩
  rw [getD_put hts]
  cases d with
  | none =>
    have hk := h.2 p u hp
    have : p.toNat - 1 ≠ t := fun hh => hd.1 p (by have := P.pos p; omega) hk.1
    rw [if_neg this]; exact hk
  | some q =>
    by_cases hpq : p = q
    · subst hpq
      have hp : (vs.put (some v) p).get p = some u := hp
      rw [Tr.get_put_same] at hp
      obtain rfl := Option.some.inj hp
      rw [if_pos (by have := hd.1; omega)]
      exact ⟨hd.2.1, hv⟩
    · have hp : vs.get p = some u := by simpa [putd, Tr.get_put_ne _ _ hpq] using hp
      have : p.toNat - 1 ≠ t := fun hh => hpq (P.inj (by have := P.pos p; have := hd.1; omega))
      rw [if_neg this]
      exact h.2 p u hp
theorem bind_vsr {c : Cfg} {f : Nat} {e : Env} {K : Tr V → A} : ∀ {ps : List (Option P)} {ts : List Tmp} {l : List V} {xs : List Value} {vs : Tr V} {tmps : Array Value}, PatR (c.dst f) ps ts → VRs e l xs → c.vsr f e vs tmps → bindK ps l vs K = true →
    ∃ vs', K vs' = true ∧ ts.length = xs.length ∧ c.vsr f e vs' ((ts.zip xs).foldl (fun tmps (x : Tmp × Value) => tmps.setIfInBounds x.1 x.2) tmps)
  | _, _, l, xs, vs, tmps, .nil, hx, hv, h => by
    obtain ⟨rfl, h⟩ := bindK_nil h
    cases hx
    exact ⟨vs, h, rfl, by simpa using hv⟩
  | _, _, l, xs, vs, tmps, .cons p t ps ts hd hr, hx, hv, h => by
    obtain ⟨v, r, rfl, hb⟩ := bindK_cons h
    cases hx with
    | cons _ x _ xs hvx hx =>
      obtain ⟨vs', h1, h2, h3⟩ := bind_vsr hr hx (vsr_put hv hd hvx) hb
      exact ⟨vs', h1, by simp [h2], by simpa using h3⟩
/-- arguments that lie in the first temporaries already -/
theorem fold_self : ∀ (xs : List Value) (k : Nat) (tmps : Array Value), (∀ j x, xs[j]? = some x → tmps[k + j]? = some x) → ((List.range' k xs.length).zip xs).foldl (fun tmps (x : Tmp × Value) => tmps.setIfInBounds x.1 x.2) tmps = tmps
  | [], k, tmps, _ => by simp
  | x :: xs, k, tmps, h => by
    rw [List.length_cons, List.range'_succ, List.zip_cons_cons, List.foldl_cons]
    have h0 : tmps.setIfInBounds k x = tmps := by
      apply Array.ext_getElem?
      intro i
      by_cases hi : k = i
      · subst hi
        have := h 0 x rfl
        rw [Nat.add_zero] at this
        rw [this]
        have hlt : k < tmps.size := by
          rcases Nat.lt_or_ge k tmps.size with hh | hh
          · exact hh
          · rw [Array.getElem?_eq_none hh] at this; cases this
        simp [hlt]
      · rw [Array.getElem?_setIfInBounds_ne hi]
    rw [h0]
    exact fold_self xs (k + 1) tmps (fun j y hj => by rw [show k + 1 + j = k + (j + 1) by omega]; exact h (j + 1) y (by simpa using hj))
/-! ### Results -/
theorem load_as {P : Program} {t : TypeId} {y x : Value} {w : World} (h : (Instr.loadAt t y).run P w = .ok x w) : (do loadVar t (← asAddr y) : Sem Value).run P w = .ok x w := by
  cases y with
  | pointer b =>
    cases b with
    | some b => simpa [Instr.loadAt, Instr.sureAddr, asAddr] using h
    | none => simp [Instr.loadAt, Instr.sureAddr] at h
  | _ => simp [Instr.loadAt, Instr.sureAddr] at h
theorem resK_inv {c : Cfg} {f : Nat} {e : Env} {N : P} {w : World} {tmps : Array Value} {H : Tr Ob} {vs : Tr V} (hW : WR c e H N w) (hv : VsRes c f e vs tmps) (hres : ∃ fn, c.p.funcs[f]? = some fn) : ∀ {rs : List Res} {xs : List ResultVar} {K : List V → A}, RessR c rs xs →
    (∀ x ∈ xs, ResT c f (match x with | .tmp t => t | .cell t _ => t)) → resK rs vs H K = true → ∃ l ys, K l = true ∧ VRs e l ys ∧
      (xs.mapM (m := Sem) fun | .tmp t => pure (tmps.getD t undef) | .cell a t => do loadVar t (← asAddr (tmps.getD a undef))).run c.p w = .ok ys w
  | _, _, K, .nil, _, h => ⟨[], [], h, .nil, rfl⟩
  | _, _, K, .cons r x rs xs hr ht, hx, h => by
    have hx0 := hx x (by simp)
    have hxr : ∀ x ∈ xs, ResT c f (match x with | .tmp t => t | .cell t _ => t) := fun y hy => hx y (List.mem_cons_of_mem _ hy)
    cases hr with
    | tmp p t hp =>
      have h : getT (F 65) (fun v => resK rs vs H fun t => K (v :: t)) p vs = true := h
      obtain ⟨v, h1, h⟩ := getT_F h
      obtain ⟨l, ys, h2, h3, h4⟩ := resK_inv hW hv hres ht hxr h
      have hvr := hv p v h1 (by rw [hp, Nat.add_sub_cancel]; exact hx0)
      rw [hp, Nat.add_sub_cancel] at hvr
      refine ⟨v :: l, _ :: ys, h2, .cons _ _ _ _ hvr h3, ?_⟩
      simp only [List.mapM_cons, Sem.run_bind, Sem.run_pure, Result.andThen_ok]
      rw [h4]; rfl
    | cell1 p a t d hp hd ha =>
      have h : rLoad1 (oV p) [] vs H (fun v => resK rs vs H fun t => K (v :: t)) = true := h
      have ho : OOK (fun e loc vs tmps => VsRes c f e vs tmps) (oV p) (fun tmps => tmps.getD a undef) := fun loc vs' K' hk => by
        obtain ⟨v, h5, h6⟩ := getT_F hk
        refine ⟨v, h6, fun e' tmps' hS => ?_⟩
        have := hS p v h5 (by rw [hp, Nat.add_sub_cancel]; exact hx0)
        rwa [hp, Nat.add_sub_cancel] at this
      obtain ⟨v, h, h5⟩ := RV.load1 (c := c) hd ha ho _ _ _ _ h
      obtain ⟨x, h6, h7⟩ := h5 H e N tmps w (fun _ _ h => h) hv hW
      obtain ⟨l, ys, h2, h3, h4⟩ := resK_inv hW hv hres ht hxr h
      refine ⟨v :: l, x :: ys, h2, .cons _ _ _ _ h6 h3, ?_⟩
      have h8 := load_as h7
      simp only [List.mapM_cons, Sem.run_bind] at h8 ⊢
      rw [h8]
      simp only [Result.andThen_ok, h4, Sem.run_pure]
    | cellN p a t d i hp hd hi ha =>
      have h : rLoadN i.size (oV p) [] vs H (fun v => resK rs vs H fun t => K (v :: t)) = true := h
      have ho : OOK (fun e loc vs tmps => VsRes c f e vs tmps) (oV p) (fun tmps => tmps.getD a undef) := fun loc vs' K' hk => by
        obtain ⟨v, h5, h6⟩ := getT_F hk
        refine ⟨v, h6, fun e' tmps' hS => ?_⟩
        have := hS p v h5 (by rw [hp, Nat.add_sub_cancel]; exact hx0)
        rwa [hp, Nat.add_sub_cancel] at this
      obtain ⟨v, h, h5⟩ := RV.loadN (c := c) hd ha hi rfl ho _ _ _ _ h
      obtain ⟨x, h6, h7⟩ := h5 H e N tmps w (fun _ _ h => h) hv hW
      obtain ⟨l, ys, h2, h3, h4⟩ := resK_inv hW hv hres ht hxr h
      refine ⟨v :: l, x :: ys, h2, .cons _ _ _ _ h6 h3, ?_⟩
      have h8 := load_as h7
      simp only [List.mapM_cons, Sem.run_bind] at h8 ⊢
      rw [h8]
      simp only [Result.andThen_ok, h4, Sem.run_pure]
theorem oneK_inv {K : V → A} {l : List V} (h : oneK K l = true) : ∃ v, K v = true ∧ ∀ e (ys : List Value), VRs e l ys → VR e v (if h : ys.toArray.size = 1 then ys.toArray[0] else .tuple ys.toArray) := by
  cases l with
  | nil => exact ⟨.und, h, fun e ys hy => by cases hy; exact .und⟩
  | cons v r =>
    cases r with
    | nil => exact ⟨v, h, fun e ys hy => by cases hy with | cons _ x _ xs hx hxs => cases hxs; exact hx⟩
    | cons u r =>
      refine ⟨.tup (v :: u :: r), h, fun e ys hy => ?_⟩
      have hl := hy.length
      rw [dif_neg (by simp at hl ⊢; omega)]
      exact .tup _ _ (by simpa using hy)
theorem results_inv {c : Cfg} {f : Nat} {e : Env} {N : P} {w : World} {tmps : Array Value} {H : Tr Ob} {vs : Tr V} (hW : WR c e H N w) (hv : VsRes c f e vs tmps) {fn : Func} (hfn : c.p.funcs[f]? = some fn) {rs : List Res} (hr : RessR c rs fn.results.toList) {K : V → A}
    (h : resK rs vs H (oneK K) = true) : ∃ v x, K v = true ∧ VR e v x ∧ (results fn tmps).run c.p w = .ok x w := by
  obtain ⟨l, ys, h1, h2, h3⟩ := resK_inv hW hv ⟨fn, hfn⟩ hr (fun x hx => ⟨fn, hfn, List.mem_map.2 ⟨x, hx, by cases x <;> rfl⟩⟩) h
  obtain ⟨v, h4, h5⟩ := oneK_inv h1
  refine ⟨v, _, h4, h5 e ys h2, ?_⟩
  unfold results
  rw [Array.mapM_eq_mapM_toList]
  simp only [Sem.run_bind, Sem.run_map, Sem.run_pure]
  generalize hq : Sem.run c.p (List.mapM _ fn.results.toList) w = q
  have hq2 : q = .ok ys w := by rw [← hq]; exact h3
  subst hq2
  simp only [Result.andThen_ok]
end Go.AM
