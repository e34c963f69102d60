/- What the compiler makes of code, of funcs and of a program. -/
import Derived.Test.YtnekfilglnfgkaaGreatDoorAmReg6
set_option autoImplicit false
set_option linter.unusedVariables false
set_option linter.unusedSimpArgs false
namespace Go.AM
/-- a func's results are no matter of open order -/
def Safe (c : Cfg) (f : Nat) : Prop := ∃ fn body, c.p.funcs[f]? = some fn ∧ fn.body = some body ∧ safeOf (resTmps fn.results.toList) body = true
theorem hasN_mem {t : Nat} : ∀ {l : List Nat}, hasN t l = false → t ∉ l
  | [], _ => by simp
  | u :: r, h => by
    have h : (bif Nat.beq u t then true else hasN t r) = false := h
    cases hb : Nat.beq u t with
    | true => rw [hb] at h; cases h
    | false =>
      rw [hb] at h
      intro hm
      rcases List.mem_cons.1 hm with rfl | hm
      · simp at hb
      · exact hasN_mem h hm
theorem safeOps_inv {rs : List Nat} : ∀ {l : List Oper}, safeOps rs l = true → ∀ o ∈ l, effOp o.op = false → ∀ t, o.dst = some t → t ∉ rs
  | [], _, o, h, _, _, _ => by cases h
  | o :: r, h, o', ho, he, t, hd => by
    have h : (bif effOp o.op then safeOps rs r else (match o.dst with | some t => bif hasN t rs then false else safeOps rs r | none => safeOps rs r)) = true := h
    have htl : safeOps rs r = true := by
      cases h1 : effOp o.op with
      | true => rw [h1] at h; exact h
      | false =>
        rw [h1] at h
        cases h2 : o.dst with
        | none => rw [h2] at h; exact h
        | some t =>
          rw [h2] at h
          simp only [cond_false] at h
          cases h3 : hasN t rs with
          | true => rw [h3] at h; cases h
          | false => rw [h3] at h; exact h
    rcases List.mem_cons.1 ho with rfl | ho
    · rw [he, hd] at h
      simp only [cond_false] at h
      cases h3 : hasN t rs with
      | true => rw [h3] at h; cases h
      | false => exact hasN_mem h3
    · exact safeOps_inv htl o' ho he t hd
inductive RegCR (c : Cfg) (f : Nat) (acts : List RAct) (ops : Array Oper) (draw : Bool) : Prop
  | seq (hd : draw = false) (h : SeqR c f acts ops.toList 0 [])
  | draw (hd : draw = true) (ms effs0 : List Nat) (hds : DS ops ms effs0) (h : StR c f ops ms effs0 effs0 0 [] acts) (hs : Safe c f → OpsSafe c f ops)
  | bad (h : acts = [.e eFail none])
inductive CR (c : Cfg) (f : Nat) : ICode → Code → Prop
  | skip : CR c f .skip .skip
  | reg (id : Nat) (ops : Array Oper) (draw : Bool) (acts : List RAct) (h : RegCR c f acts ops draw) : CR c f (.reg acts) (.region id ops draw)
  | seq (a b : ICode) (a' b' : Code) (h1 : CR c f a a') (h2 : CR c f b b') : CR c f (.seq a b) (.seq a' b')
  | cond (x : Opd) (ox : Operand) (a b : ICode) (a' b' : Code) (h : OOK (SG c.ng [] yes no) x (fun tmps => evT tmps ox)) (h1 : CR c f a a') (h2 : CR c f b b') : CR c f (.cond x a b) (.cond ox a' b')
  | blk (id : Nat) (a : ICode) (a' : Code) (h : CR c f a a') : CR c f (.blk id a) (.block id a')
  | lp (a : ICode) (a' : Code) (h : CR c f a a') : CR c f (.lp a) (.loop a')
  | rf (x : Opd) (ox : Operand) (ps : List (Option P)) (ix : P) (params : Array Tmp) (a b : Code) (h : OOK (SG c.ng [] yes no) x (fun tmps => evT tmps ox)) (hl : c.lc f ix ps params a b) : CR c f (.rf x ps ix) (.rangeFunc ox params a b)
  | ext (id : Nat) : CR c f (.ext id) (.exit id)
  | scp (a : ICode) (a' : Code) (h : CR c f a a') : CR c f (.scp a) (.scope a')
  | lbl (l : Nat) : CR c f (.lbl l) (.label l)
  | got (l : Nat) (a : Code) : CR c f (.got l) a
  | ret : CR c f .ret .ret
/-- the loops over funcs of some code, each behind those in it -/
def loopsOf : Code → List (Array Tmp × Code × Code)
  | .seq a b | .cond _ a b => loopsOf a ++ loopsOf b
  | .block _ b | .loop b | .scope b => loopsOf b
  | .rangeFunc _ ps a b => loopsOf a ++ loopsOf b ++ [(ps, a, b)]
  | _ => []
/-- targets of temporaries -/
inductive PatR (D : Option P → Option Nat → Prop) : List (Option P) → List Tmp → Prop
  | nil : PatR D [] []
  | cons (p : Option P) (t : Tmp) (ps : List (Option P)) (ts : List Tmp) (h : D p (some t)) (r : PatR D ps ts) : PatR D (p :: ps) (t :: ts)
theorem PatR.length {D : Option P → Option Nat → Prop} : ∀ {ps : List (Option P)} {ts : List Tmp}, PatR D ps ts → ps.length = ts.length
  | _, _, .nil => rfl
  | _, _, .cons _ _ _ _ _ r => by simp [r.length]
section
variable {c : Cfg} {f : Nat} {fl : Fl} {raw : Tr TypeInfo}
theorem patsK_inv (hF : FC c f fl) : ∀ {ts : List Tmp} {K : List (Option P) → A}, patsK fl ts K = true → ∃ ps, K ps = true ∧ PatR (c.dst f) ps ts
  | [], K, h => ⟨[], h, .nil⟩
  | t :: r, K, h => by
    obtain ⟨h1, h⟩ := ifK_t h
    obtain ⟨d, h, hd⟩ := dstK_inv hF h
    obtain ⟨ps, h, hps⟩ := patsK_inv hF h
    have h1 : t < fl.nt := Nat.le_of_ble_eq_true h1
    exact ⟨_, h, .cons _ _ _ _ (hd (fun t' ht => by obtain rfl := Option.some.inj ht; rw [← hF.nt]; exact h1)) hps⟩
theorem opd0_inv {x : Operand} {n : Nat} {K : Opd → A} (hF : FC c f fl) (h : opdK fl [] (F n) x K = true) : ∃ g, K g = true ∧ OOK (SG c.ng [] yes no) g (fun tmps => evT tmps x) := by
  rcases opdK_inv (D := yes) (dsts := no) (fun t _ n j hl => by simp at hl) (fun _ _ _ hh => hh) h with h | ⟨g, h1, h2⟩
  · exact (F_false h).elim
  · rw [hF.ng] at h2; exact ⟨g, h1, h2⟩
def LpInv (c : Cfg) (f : Nat) (tot : List (Array Tmp × Code × Code)) (lp : Tr LpC) : Prop := ∀ ix a b, lp.get ix = some (.mk a b) → ∀ q, tot[ix.toNat - 1]? = some q → CR c f a q.2.1 ∧ CR c f b q.2.2
theorem safe2 {rs : List Nat} {a b : Code} (h : (bif safeOf rs a then safeOf rs b else false) = true) : safeOf rs a = true ∧ safeOf rs b = true := by
  cases ha : safeOf rs a with
  | false => rw [ha] at h; cases h
  | true => rw [ha] at h; exact ⟨rfl, h⟩
/-- the code of a func -/
theorem codeK_inv (hP : PC c raw fl.eqs) (hF : FC c f fl) {tot : List (Array Tmp × Code × Code)} (hlc : ∀ ix ps q, tot[ix.toNat - 1]? = some q → PatR (c.dst f) ps q.1.toList → c.lc f ix ps q.1 q.2.1 q.2.2)
    {fn : Func} (hfn : c.p.funcs[f]? = some fn) : ∀ (code : Code) {lp : Tr LpC} {n : P} {K : ICode → Tr LpC → P → A} (hsf : Safe c f → safeOf (resTmps fn.results.toList) code = true) (pre post : List (Array Tmp × Code × Code)), tot = pre ++ loopsOf code ++ post → n.toNat = pre.length + 1 → LpInv c f tot lp → codeK raw fl code lp n K = true →
      ∃ ic lp' n', K ic lp' n' = true ∧ LpInv c f tot lp' ∧ n'.toNat = n.toNat + (loopsOf code).length ∧ CR c f ic code
  | .skip, lp, n, K, hsf, pre, post, ht, hn, hI, h => ⟨.skip, lp, n, h, hI, by simp [loopsOf], .skip⟩
  | .region id ops draw, lp, n, K, hsf, pre, post, ht, hn, hI, h => by
    have h : regionK raw fl ops.toList draw (fun l => K (.reg l) lp n) = true := h
    unfold regionK at h
    cases draw with
    | false =>
      rw [if_neg (by simp)] at h
      obtain ⟨l, h, hl⟩ := seqK_inv hP hF h
      exact ⟨_, lp, n, h, hI, by simp [loopsOf], .reg _ _ _ _ (.seq rfl hl)⟩
    | true =>
      rw [if_pos rfl] at h
      rcases drawK_inv hP hF h with h | ⟨l, ms, effs0, h, hds, hl⟩
      · exact ⟨_, lp, n, h, hI, by simp [loopsOf], .reg _ _ _ _ (.bad rfl)⟩
      · exact ⟨_, lp, n, h, hI, by simp [loopsOf], .reg _ _ _ _ (.draw rfl ms effs0 hds hl fun hs i o t ho he hd hr => by
          have h1 := hsf hs
          obtain ⟨fn', hf', hr'⟩ := hr
          obtain rfl := Option.some.inj (hfn.symm.trans hf')
          exact safeOps_inv (l := ops.toList) h1 o (by rw [← Array.getElem?_toList] at ho; exact List.mem_of_getElem? ho) he t hd hr')⟩
  | .seq a b, lp, n, K, hsf, pre, post, ht, hn, hI, h => by
    have h : codeK raw fl a lp n (fun a lp n => codeK raw fl b lp n fun b lp n => K (.seq a b) lp n) = true := h
    obtain ⟨ia, lp1, n1, h, hI1, hn1, ca⟩ := codeK_inv hP hF hlc hfn a (fun hs => (safe2 (hsf hs)).1) pre (loopsOf b ++ post) (by rw [ht]; simp [loopsOf]) hn hI h
    obtain ⟨ib, lp2, n2, h, hI2, hn2, cb⟩ := codeK_inv hP hF hlc hfn b (fun hs => (safe2 (hsf hs)).2) (pre ++ loopsOf a) post (by rw [ht]; simp [loopsOf]) (by simp; omega) hI1 h
    exact ⟨_, lp2, n2, h, hI2, by simp [loopsOf]; omega, .seq _ _ _ _ ca cb⟩
  | .cond x a b, lp, n, K, hsf, pre, post, ht, hn, hI, h => by
    have h : opdK fl [] (F 211) x (fun x => codeK raw fl a lp n fun a lp n => codeK raw fl b lp n fun b lp n => K (.cond x a b) lp n) = true := h
    obtain ⟨g, h, hg⟩ := opd0_inv hF h
    obtain ⟨ia, lp1, n1, h, hI1, hn1, ca⟩ := codeK_inv hP hF hlc hfn a (fun hs => (safe2 (hsf hs)).1) pre (loopsOf b ++ post) (by rw [ht]; simp [loopsOf]) hn hI h
    obtain ⟨ib, lp2, n2, h, hI2, hn2, cb⟩ := codeK_inv hP hF hlc hfn b (fun hs => (safe2 (hsf hs)).2) (pre ++ loopsOf a) post (by rw [ht]; simp [loopsOf]) (by simp; omega) hI1 h
    exact ⟨_, lp2, n2, h, hI2, by simp [loopsOf]; omega, .cond _ _ _ _ _ _ hg ca cb⟩
  | .block id b, lp, n, K, hsf, pre, post, ht, hn, hI, h => by
    have h : forceNat (fun id => codeK raw fl b lp n fun b lp n => K (.blk id b) lp n) id = true := h
    rw [forceNat_eq] at h
    obtain ⟨ib, lp2, n2, h, hI2, hn2, cb⟩ := codeK_inv hP hF hlc hfn b hsf pre post (by rw [ht]; simp [loopsOf]) hn hI h
    exact ⟨_, lp2, n2, h, hI2, by simp [loopsOf]; omega, .blk _ _ _ cb⟩
  | .loop b, lp, n, K, hsf, pre, post, ht, hn, hI, h => by
    have h : codeK raw fl b lp n (fun b lp n => K (.lp b) lp n) = true := h
    obtain ⟨ib, lp2, n2, h, hI2, hn2, cb⟩ := codeK_inv hP hF hlc hfn b hsf pre post (by rw [ht]; simp [loopsOf]) hn hI h
    exact ⟨_, lp2, n2, h, hI2, by simp [loopsOf]; omega, .lp _ _ cb⟩
  | .rangeFunc x ps a b, lp, n, K, hsf, pre, post, ht, hn, hI, h => by
    have h : opdK fl [] (F 212) x (fun x => codeK raw fl a lp n fun a lp n => codeK raw fl b lp n fun b lp n =>
      patsK fl ps.toList fun ps => getT (putT (some (.mk a b)) n lp fun lp => succP n fun n' => K (.rf x ps n) lp n') (fun _ => F 213) n lp) = true := h
    obtain ⟨g, h, hg⟩ := opd0_inv hF h
    obtain ⟨ia, lp1, n1, h, hI1, hn1, ca⟩ := codeK_inv hP hF hlc hfn a (fun hs => (safe2 (hsf hs)).1) pre (loopsOf b ++ [(ps, a, b)] ++ post) (by rw [ht]; simp [loopsOf]) hn hI h
    obtain ⟨ib, lp2, n2, h, hI2, hn2, cb⟩ := codeK_inv hP hF hlc hfn b (fun hs => (safe2 (hsf hs)).2) (pre ++ loopsOf a) ([(ps, a, b)] ++ post) (by rw [ht]; simp [loopsOf]) (by simp; omega) hI1 h
    obtain ⟨pl, h, hpl⟩ := patsK_inv hF h
    rcases getT_inv h with ⟨_, h⟩ | ⟨_, _, h⟩
    · rw [putT_eq] at h
      obtain ⟨n3, hn3, h⟩ := succP_inv h
      have hpos : tot[n2.toNat - 1]? = some (ps, a, b) := by
        rw [ht]
        have e1 : n2.toNat - 1 = (pre ++ loopsOf a ++ loopsOf b).length := by simp; omega
        have e2 : pre ++ loopsOf (.rangeFunc x ps a b) ++ post = (pre ++ loopsOf a ++ loopsOf b) ++ ((ps, a, b) :: post) := by simp [loopsOf]
        rw [e2, e1, List.getElem?_append_right (Nat.le_refl _)]
        simp
      refine ⟨_, _, n3, h, ?_, by simp [loopsOf]; omega, .rf _ _ _ _ _ _ _ hg (hlc n2 pl (ps, a, b) hpos hpl)⟩
      intro ix a' b' hix q hq
      by_cases hh : ix = n2
      · subst hh
        rw [Tr.get_put_same] at hix
        have := Option.some.inj hix
        injection this with e1 e2
        subst e1 e2
        rw [hpos] at hq
        obtain rfl := Option.some.inj hq
        exact ⟨ca, cb⟩
      · rw [Tr.get_put_ne _ _ hh] at hix
        exact hI2 ix a' b' hix q hq
    · exact (F_false h).elim
  | .exit id, lp, n, K, hsf, pre, post, ht, hn, hI, h => by
    have h : forceNat (fun id => K (.ext id) lp n) id = true := h
    rw [forceNat_eq] at h
    exact ⟨_, lp, n, h, hI, by simp [loopsOf], .ext _⟩
  | .scope b, lp, n, K, hsf, pre, post, ht, hn, hI, h => by
    have h : codeK raw fl b lp n (fun b lp n => K (.scp b) lp n) = true := h
    obtain ⟨ib, lp2, n2, h, hI2, hn2, cb⟩ := codeK_inv hP hF hlc hfn b hsf pre post (by rw [ht]; simp [loopsOf]) hn hI h
    exact ⟨_, lp2, n2, h, hI2, by simp [loopsOf]; omega, .scp _ _ cb⟩
  | .label l, lp, n, K, hsf, pre, post, ht, hn, hI, h => ⟨.lbl l, lp, n, h, hI, by simp [loopsOf], .lbl l⟩
  | .goto l, lp, n, K, hsf, pre, post, ht, hn, hI, h => ⟨.got 0, lp, n, h, hI, by simp [loopsOf], .got _ _⟩
  | .ret, lp, n, K, hsf, pre, post, ht, hn, hI, h => ⟨.ret, lp, n, h, hI, by simp [loopsOf], .ret⟩
  | .refuse w, lp, n, K, hsf, pre, post, ht, hn, hI, h => ⟨.got 0, lp, n, h, hI, by simp [loopsOf], .got _ _⟩
theorem markK_inv {nt : Nat} : ∀ {l : List Nat} {t : Tr Unit} {K : Tr Unit → A}, markK nt l t K = true → ∃ t', K t' = true ∧ ∀ p, (∃ u, t'.get p = some u) ↔ ((∃ u, t.get p = some u) ∨ ∃ x ∈ l, x < nt ∧ p.toNat = x + 1)
  | [], t, K, h => ⟨t, h, fun p => by simp⟩
  | x :: r, t, K, h => by
    have h : ifK (pathK x fun p => putT (some ()) p t fun t => markK nt r t K) (markK nt r t K) (Nat.blt x nt) = true := h
    rcases ifK_inv h with ⟨h1, h⟩ | ⟨h1, h⟩
    · obtain ⟨q, hq, h⟩ := pathK_inv h
      rw [putT_eq] at h
      obtain ⟨t', h, ht⟩ := markK_inv h
      refine ⟨t', h, fun p => ?_⟩
      rw [ht]
      have hx : x < nt := Nat.le_of_ble_eq_true h1
      by_cases hpq : p = q
      · subst hpq
        rw [Tr.get_put_same]
        exact ⟨fun _ => .inr ⟨x, by simp, hx, hq⟩, fun _ => .inl ⟨_, rfl⟩⟩
      · rw [Tr.get_put_ne _ _ hpq]
        constructor
        · rintro (hh | ⟨y, hy, hy2⟩)
          · exact .inl hh
          · exact .inr ⟨y, by simp [hy], hy2⟩
        · rintro (hh | ⟨y, hy, hy2, hy3⟩)
          · exact .inl hh
          · rcases List.mem_cons.1 hy with rfl | hy
            · exact absurd (P.inj (by omega)) hpq
            · exact .inr ⟨y, hy, hy2, hy3⟩
    · obtain ⟨t', h, ht⟩ := markK_inv h
      refine ⟨t', h, fun p => ?_⟩
      rw [ht]
      constructor
      · rintro (hh | ⟨y, hy, hy2⟩)
        · exact .inl hh
        · exact .inr ⟨y, by simp [hy], hy2⟩
      · rintro (hh | ⟨y, hy, hy2, hy3⟩)
        · exact .inl hh
        · rcases List.mem_cons.1 hy with rfl | hy
          · have : Nat.blt y nt = true := Nat.ble_eq_true_of_le hy2
            rw [this] at h1; cases h1
          · exact .inr ⟨y, hy, hy2, hy3⟩
/-- the results of a func -/
inductive ResR (c : Cfg) : Res → ResultVar → Prop
  | tmp (p : P) (t : Nat) (h : p.toNat = t + 1) : ResR c (.tmp p) (.tmp t)
  | cell1 (p : P) (a : Nat) (t : TypeId) (d : TypeDesc) (h : p.toNat = a + 1) (hd : c.p.underlying t = some d) (ha : aggD d = false) : ResR c (.cell (rLoad1 (oV p))) (.cell a t)
  | cellN (p : P) (a : Nat) (t : TypeId) (d : TypeDesc) (i : TypeInfo) (h : p.toNat = a + 1) (hd : c.p.underlying t = some d) (hi : c.p.info? t = some i) (ha : aggD d = true) : ResR c (.cell (rLoadN i.size (oV p))) (.cell a t)
inductive RessR (c : Cfg) : List Res → List ResultVar → Prop
  | nil : RessR c [] []
  | cons (r : Res) (x : ResultVar) (rs : List Res) (xs : List ResultVar) (h : ResR c r x) (t : RessR c rs xs) : RessR c (r :: rs) (x :: xs)
theorem ressK_inv (hr : RawR c.p raw) : ∀ {l : List ResultVar} {K : List Res → A}, ressK raw l K = true → ∃ rs, K rs = true ∧ RessR c rs l
  | [], K, h => ⟨[], h, .nil⟩
  | .tmp t :: r, K, h => by
    have h : pathK t (fun p => ressK raw r fun l => K (.tmp p :: l)) = true := h
    obtain ⟨p, hp, h⟩ := pathK_inv h
    obtain ⟨rs, h, hrs⟩ := ressK_inv hr h
    exact ⟨_, h, .cons _ _ _ _ (.tmp p t hp) hrs⟩
  | .cell a t :: r, K, h => by
    have h : pathK a (fun p => sizeK raw t fun n agg => ressK raw r fun l => ifK (K (.cell (rLoadN n (oV p)) :: l)) (K (.cell (rLoad1 (oV p)) :: l)) agg) = true := h
    obtain ⟨p, hp, h⟩ := pathK_inv h
    obtain ⟨d, i, h1, h2, h⟩ := sizeK_inv hr h
    obtain ⟨rs, h, hrs⟩ := ressK_inv hr h
    rcases ifK_inv h with ⟨h3, h⟩ | ⟨h3, h⟩
    · exact ⟨_, h, .cons _ _ _ _ (.cellN p a t d i hp h1 h2 h3) hrs⟩
    · exact ⟨_, h, .cons _ _ _ _ (.cell1 p a t d hp h1 h3) hrs⟩
end
/-- a func's record -/
structure FnR (c : Cfg) (f : Nat) (code : ICode) (lps : Tr LpC) (ent : List (Option P)) (res : List Res) (sf : Bool) : Prop where
  ex : ∃ fn body, c.p.funcs[f]? = some fn ∧ fn.body = some body ∧ c.nt f = fn.ntmps ∧ CR c f code body ∧ PatR (c.dst f) ent (List.range (fn.params.size + fn.nfree)) ∧ RessR c res fn.results.toList ∧
    LpInv c f (loopsOf body) lps ∧ (sf = true → Safe c f)
/-- the program's configuration -/
def keepOf (p : Program) (f : Nat) (q : P) : Prop := ∃ fn body, p.funcs[f]? = some fn ∧ fn.body = some body ∧ ∃ x ∈ resTmps fn.results.toList ++ openTmps body [], x < fn.ntmps ∧ q.toNat = x + 1
def ntOf (p : Program) (f : Nat) : Nat := ((p.funcs[f]?).map (·.ntmps)).getD 0
def cfg0 (p : Program) (w : World) : Cfg := { p, ng := p.globals.size, keep := keepOf p, nt := ntOf p, lc := fun _ _ _ _ _ _ => False, w0 := w }
def cfg (p : Program) (w : World) : Cfg :=
  { p, ng := p.globals.size, keep := keepOf p, nt := ntOf p, w0 := w,
    lc := fun f ix ps params a b => ∃ fn body, p.funcs[f]? = some fn ∧ fn.body = some body ∧ (loopsOf body)[ix.toNat - 1]? = some (params, a, b) ∧ PatR ((cfg0 p w).dst f) ps params.toList }
theorem fnK_inv {p : Program} {w : World} {raw : Tr TypeInfo} {eqs : List Nat} (hP : PC (cfg p w) raw eqs) {f : Nat} {fn : Func} {body : Code} (hfn : p.funcs[f]? = some fn) (hb : fn.body = some body) {K : FnRec → A} (h : fnK raw p.globals.size eqs fn body K = true) :
    ∃ code lps ent res sf, K (.mk code lps ent res sf) = true ∧ FnR (cfg p w) f code lps ent res sf := by
  unfold fnK at h
  rw [forceNat_eq] at h
  obtain ⟨t, h, ht⟩ := markK_inv h
  have hnt : ntOf p f = fn.ntmps := by simp [ntOf, hfn]
  have hF : FC (cfg p w) f (.mk t fn.ntmps p.globals.size eqs) := by
    refine ⟨rfl, hnt.symm, fun q => ?_⟩
    have := ht q
    simp only [Tr.get_nil] at this
    constructor
    · rintro ⟨fn', body', h1, h2, x, h3, h4, h5⟩
      obtain rfl := Option.some.inj (hfn.symm.trans h1)
      obtain rfl := Option.some.inj (hb.symm.trans h2)
      exact this.2 (.inr ⟨x, h3, h4, h5⟩)
    · intro hh
      rcases this.1 hh with ⟨u, hu⟩ | ⟨x, h3, h4, h5⟩
      · cases hu
      · exact ⟨fn, body, hfn, hb, x, h3, h4, h5⟩
  obtain ⟨code, lps, n', h, hI, _, hC⟩ := codeK_inv (c := cfg p w) (f := f) (fl := .mk t fn.ntmps p.globals.size eqs) (tot := loopsOf body) hP hF (fun ix ps q hq hps => ⟨fn, body, hfn, hb, hq, hps⟩) (fn := fn) hfn body (fun hs => by
    obtain ⟨fn', body', h1, h2, h3⟩ := hs
    obtain rfl := Option.some.inj (hfn.symm.trans h1)
    obtain rfl := Option.some.inj (hb.symm.trans h2)
    exact h3) [] [] (by simp) (by simp [P.toNat]) (fun ix a b hh => by simp [Tr.get_nil] at hh) h
  obtain ⟨ent, h, hent⟩ := patsK_inv hF h
  obtain ⟨res, h, hres⟩ := ressK_inv hP.raw h
  rcases ifK_inv h with ⟨h1, h⟩ | ⟨_, h⟩
  · exact ⟨code, lps, ent, res, true, h, fn, body, hfn, hb, hnt, hC, hent, hres, hI, fun _ => ⟨fn, body, hfn, hb, h1⟩⟩
  · exact ⟨code, lps, ent, res, false, h, fn, body, hfn, hb, hnt, hC, hent, hres, hI, fun hh => by cases hh⟩
def TabR (c : Cfg) (tab : Tr FnRec) : Prop := ∀ q code lps ent res sf, tab.get q = some (.mk code lps ent res sf) → FnR c (q.toNat - 1) code lps ent res sf
theorem fnsK_inv {p : Program} {w : World} {raw : Tr TypeInfo} {eqs : List Nat} (hP : PC (cfg p w) raw eqs) : ∀ {l : List Func} {live : List Bool} {n : P} {tab : Tr FnRec} {K : Tr FnRec → A}, p.funcs.toList.drop (n.toNat - 1) = l → TabR (cfg p w) tab →
    fnsK raw p.globals.size eqs l live n tab K = true → ∃ tab', K tab' = true ∧ TabR (cfg p w) tab'
  | [], live, n, tab, K, _, hT, h => ⟨tab, by cases live <;> exact h, hT⟩
  | fn :: r, [], n, tab, K, _, hT, h => ⟨tab, h, hT⟩
  | fn :: r, b :: live, n, tab, K, hl, hT, h => by
    have hfn : p.funcs[n.toNat - 1]? = some fn := by
      have : (p.funcs.toList.drop (n.toNat - 1))[0]? = some fn := by rw [hl]; rfl
      rw [List.getElem?_drop, Nat.add_zero, Array.getElem?_toList] at this
      exact this
    have hpos := P.pos n
    have hr : ∀ n' : P, n'.toNat = n.toNat + 1 → p.funcs.toList.drop (n'.toNat - 1) = r := by
      intro n' hn
      rw [hn, show n.toNat + 1 - 1 = (n.toNat - 1) + 1 by omega, ← List.drop_drop, hl]; rfl
    have skip : succP n (fun n => fnsK raw p.globals.size eqs r live n tab K) = true → ∃ tab', K tab' = true ∧ TabR (cfg p w) tab' := by
      intro h
      obtain ⟨n', hn, h⟩ := succP_inv h
      exact fnsK_inv hP (hr n' hn) hT h
    unfold fnsK at h
    rcases (ifK_inv h).symm with ⟨_, h⟩ | ⟨_, h⟩
    · exact skip h
    cases hb : fn.body with
    | none =>
      rw [hb] at h
      exact skip h
    | some body =>
      rw [hb] at h
      obtain ⟨code, lps, ent, res, sf, h, hR⟩ := fnK_inv hP hfn hb h
      rw [putT_eq] at h
      obtain ⟨n', hn, h⟩ := succP_inv h
      refine fnsK_inv hP (hr n' hn) (fun q code' lps' ent' res' sf' hq => ?_) h
      by_cases hqn : q = n
      · subst hqn
        rw [Tr.get_put_same] at hq
        have := Option.some.inj hq
        injection this with e1 e2 e3 e4 e5
        subst e1 e2 e3 e4 e5
        exact hR
      · rw [Tr.get_put_ne _ _ hqn] at hq
        exact hT q code' lps' ent' res' sf' hq
theorem typesK_inv {p : Program} : ∀ {l : List TypeInfo} {n : P} {t : Tr TypeInfo} {K : Tr TypeInfo → A}, p.types.toList.drop (n.toNat - 1) = l → RawR p t → typesK l n t K = true → ∃ t', K t' = true ∧ RawR p t'
  | [], n, t, K, _, hT, h => ⟨t, h, hT⟩
  | i :: r, n, t, K, hl, hT, h => by
    have hi : p.types[n.toNat - 1]? = some i := by
      have : (p.types.toList.drop (n.toNat - 1))[0]? = some i := by rw [hl]; rfl
      rw [List.getElem?_drop, Nat.add_zero, Array.getElem?_toList] at this
      exact this
    have hpos := P.pos n
    have h : putT (some i) n t (fun t => succP n fun n => typesK r n t K) = true := h
    rw [putT_eq] at h
    obtain ⟨n', hn, h⟩ := succP_inv h
    refine typesK_inv (by rw [hn, show n.toNat + 1 - 1 = (n.toNat - 1) + 1 by omega, ← List.drop_drop, hl]; rfl) (fun q j hq => ?_) h
    by_cases hqn : q = n
    · subst hqn
      rw [Tr.get_put_same] at hq
      obtain rfl := Option.some.inj hq
      exact hi
    · rw [Tr.get_put_ne _ _ hqn] at hq
      exact hT q j hq
/-- the table of a program's funcs -/
theorem tabK_inv {p : Program} {w : World} {eqs : List Nat} {live : List Bool} (heqs : ∀ t ∈ eqs, eqType p t = true ∧ p.eqGuardType p.depth t = false)
    (hflds : ∀ i ∈ p.types.toList, ∀ fs : Array Field, i.desc = .struct fs → ∀ f ∈ fs.toList, ∃ j, p.info? f.type = some j) {K : Tr FnRec → A} (h : tabK p eqs live K = true) : ∃ tab, K tab = true ∧ TabR (cfg p w) tab := by
  obtain ⟨raw, h, hraw⟩ := typesK_inv (p := p) (by simp [P.toNat]) (fun q j hq => by simp [Tr.get_nil] at hq) h
  rw [forceNat_eq] at h
  exact fnsK_inv ⟨hraw, heqs, hflds⟩ (by simp [P.toNat]) (fun q _ _ _ _ _ hq => by simp [Tr.get_nil] at hq) h
end Go.AM
