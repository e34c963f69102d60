/- The simulation, the last part: the machine's steps. -/
import Derived.Test.YtnekfilglnfgkaaGreatDoorAmSim2
set_option autoImplicit false
set_option linter.unusedVariables false
set_option linter.unusedSimpArgs false
namespace Go.AM
section
variable {c : Cfg} {tab : Tr FnRec} {KE : V → Tr Ob → P → A} {cs0 : List Frame} {f0 : Nat} {R : Run}
theorem Ob.onLoop_inv {K : Nat → Option Jmp → Nat → P → List (Option P) → Tr V → P → A} {o : Ob} (h : Ob.onLoop K o = true) : ∃ st j f ix ps vs d, o = .loop st j f ix ps vs d ∧ K st j f ix ps vs d = true := by
  cases o <;> first | exact absurd h Bool.false_ne_true | exact ⟨_, _, _, _, _, _, _, rfl, h⟩
theorem loop_num {j : Option Jmp} {jc : Option Code} (h : JR j jc) : stNum (if jc.isNone then LoopState.ready else .done) = Option.rec (motive := fun _ => Nat) 0 (fun _ => 2) j := by
  cases j with
  | none => cases jc with
    | none => rfl
    | some a => exact h.elim
  | some j => cases jc with
    | none => cases j <;> exact h.elim
    | some a => rfl
/-- a round of a loop over a func ends -/
theorem endRound_good (hG : Good c KE cs0 f0 R) {f : Nat} {rc : FnRec} {dfr : List Dfr} {dk : Bool} {b : P} {cs : List Fr} {H : Tr Ob} {N : P} {e : Env} {w : World} {ds : List Deferred} {l : Loc} {fs : List Frame} {M : Nat} {tmps : Array Value} {todo : List Item} {j : Option Jmp} {jc : Option Code}
    (hcx : CxR c f0 e H N w f rc dfr (some b) cs ds (some l.blk) fs M) (hb : e b = some l) (hM : M ≤ N.toNat) (hj : JR j jc) (htodo : (todo = [] ∧ jc = none) ∨ (∃ k, todo = .code .ret :: k ∧ jc = some .ret) ∨ (∃ id k, todo = .code (.exit id) :: k ∧ exitTo id k = none ∧ jc = some (.exit id)))
    (h : endRound KE R (.mk f rc dfr dk (some b) cs) b j H N = true) : Out c KE cs0 f0 (lone (AMS.rf f tmps todo ds (kdOf dk) (some l.blk)) (fs ++ cs0) w) := by
  obtain ⟨ob, h1, hob⟩ := getT_F h
  obtain ⟨st, j0, f', ix, ps, lv, d, rfl, h⟩ := Ob.onLoop_inv hob
  rw [putT_eq] at h
  obtain ⟨co, h2, h3, _⟩ := hcx.wr.get h1 hb
  cases h3 with
  | loop _ _ _ _ _ _ _ r ld q1 q2 q3 q4 q5 q6 q7 =>
    have hx : OR c e l (.loop (Option.rec (motive := fun _ => Nat) 0 (fun _ => 2) j) j f' ix ps lv d) (.loop { r with state := if jc.isNone then .ready else .done, pending := jc }) := by
      exact .loop _ _ _ _ _ _ _ _ ld (loop_num hj) hj q3 q4 q5 q6 q7
    have hW' := hcx.wr.put (w' := { w with heap := w.heap.setIfInBounds l.blk (.loop { r with state := if jc.isNone then .ready else .done, pending := jc }) }) h1 hb rfl rfl hx rfl rfl rfl rfl
    have hL : Later N e H N e (H.put (some (.loop (Option.rec (motive := fun _ => Nat) 0 (fun _ => 2) j) j f' ix ps lv d)) b) N := ⟨Env.le.refl e, Nat.le_refl _, fun _ hh _ => hh, Keeps.put _ hb⟩
    have hfs := hcx.fs.later hL hM
    have hbt := hcx.bt
    have hv : ∃ v, VR e v (.bool jc.isNone) ∧ doRet KE R (.mk f rc dfr dk (some b) cs) v (H.put (some (.loop (Option.rec (motive := fun _ => Nat) 0 (fun _ => 2) j) j f' ix ps lv d)) b) N = true := by
      cases j with
      | none => cases jc with
        | none => exact ⟨_, .bool true, h⟩
        | some a => exact hj.elim
      | some j => cases jc with
        | none => cases j <;> exact hj.elim
        | some a => exact ⟨_, .bool false, h⟩
    obtain ⟨v, hv, h⟩ := hv
    cases cs with
    | nil => exact absurd rfl (hcx.rb (by simp))
    | cons fr cs =>
      have h : ifK (finishD R fr cs _ N) (finish R v fr cs _ N) dk = true := h
      cases fs with
      | nil => cases hfs
      | cons c1 fs =>
        rcases ifK_inv h with ⟨rfl, h⟩ | ⟨rfl, h⟩
        · obtain ⟨c2, g1, g2⟩ := finishD_good hG h hfs hW' hM hbt
          exact g2.head (AMS.st_endRoundD h2 htodo g1)
        · exact (finish_good hG h hfs hv hW' hM hbt).head (AMS.st_endRound h2 htodo)
theorem leave_good (hG : Good c KE cs0 f0 R) {f : Nat} {rc : FnRec} {dfr : List Dfr} {dk : Bool} {rnd : Option P} {cs : List Fr} {vs : Tr V} {H : Tr Ob} {N : P} {e : Env} {w : World} {ds : List Deferred} {ro : Option Nat} {fs : List Frame} {M : Nat} {tmps : Array Value} {todo : List Item} {j : Option Jmp} {jc : Option Code}
    (hcx : CxR c f0 e H N w f rc dfr rnd cs ds ro fs M) (hv : c.vsr f e vs tmps) (hM : M ≤ N.toNat) (hj : JR j jc) (htodo : (todo = [] ∧ jc = none) ∨ (∃ k, todo = .code .ret :: k ∧ jc = some .ret) ∨ (∃ id k, todo = .code (.exit id) :: k ∧ exitTo id k = none ∧ jc = some (.exit id)))
    (h : leave KE R (.mk f rc dfr dk rnd cs) vs j H N = true) : Out c KE cs0 f0 (lone (AMS.rf f tmps todo ds (kdOf dk) ro) (fs ++ cs0) w) := by
  have hrn := hcx.rn
  cases hrn with
  | some b l hb => exact endRound_good hG hcx hb hM hj htodo h
  | none =>
    rcases htodo with ⟨rfl, rfl⟩ | ⟨k, rfl, rfl⟩ | ⟨id, k, rfl, _, rfl⟩
    · cases j with
      | some j => cases j <;> exact hj.elim
      | none => exact (hG (B := N) hcx (.ret vs tmps [] (vsr_res hv)) hM (Nat.le_refl _) h).head AMS.st_end
    · cases j with
      | none => exact hj.elim
      | some j =>
        cases j with
        | ret => exact (hG (B := N) hcx (.ret vs tmps _ (vsr_res hv)) hM (Nat.le_refl _) h).head AMS.st_ret
        | ext i => exact hj.elim
        | got i => exact hj.elim
    · cases j with
      | none => exact hj.elim
      | some j =>
        cases j with
        | ret => exact hj.elim
        | ext i => exact (F_false (n := 69) h).elim
        | got i => exact hj.elim
theorem fold_zip (ts : Array Tmp) (xs : Array Value) (tmps : Array Value) : (ts.zip xs).foldl (fun tmps (x : Tmp × Value) => tmps.setIfInBounds x.1 x.2) tmps = (ts.toList.zip xs.toList).foldl (fun tmps (x : Tmp × Value) => tmps.setIfInBounds x.1 x.2) tmps := by
  rw [← Array.foldl_toList, Array.toList_zip]
/-- an operation that gives no value -/
theorem nextK_good (hP : PR c tab) (hG : Good c KE cs0 f0 R) {f : Nat} {rc : FnRec} {dfr : List Dfr} {dk : Bool} {rnd : Option P} {cs : List Fr} {H : Tr Ob} {N : P} {e : Env} {w : World} {ds : List Deferred} {ro : Option Nat} {fs : List Frame} {M : Nat} {B : P}
    {Reg : Env → Tr Ob → P → List RAct → List V → Tr V → List Nat → Array Value → Prop} {ops : Array Oper} {acts : List RAct} {loc : List V} {vs : Tr V} {d : Option P} {k : List It} {kk : List Item} {i : Nat} {r : List Nat} {o : Oper} {tmps : Array Value} {nx : Nx}
    (hcx : CxR c f0 e H N w f rc dfr rnd cs ds ro fs M) (hr : IsReg B c f ops Reg) (hM : M ≤ B.toNat) (hB : B.toNat ≤ N.toNat) (ho : ops[i]? = some o) (hw : Region.wanted o (yielded ops tmps) = true) (hn : NxR c e w nx ((execOp (evT tmps) o).run c.p w))
    (hwt : WaitR Reg N e H N d acts loc vs tmps o.dst r) (hk : KR c f k kk) (hs : Safe c f → VsRes c f e vs tmps) (h : nextK tab R (.mk f rc dfr dk rnd cs) k nx d acts loc vs H N = true) :
    Out c KE cs0 f0 (lone (AMS.rf f tmps (.inRegion ops (i :: r) :: kk) ds (kdOf dk) ro) (fs ++ cs0) w) := by
  have hfs : FsR c e H N N.toNat (.mk f rc vs (.run (.wait d acts loc :: k)) dfr dk rnd :: cs) (AMS.xf f tmps (.inRegion ops (i :: r) :: kk) ds .run (kdOf dk) ro :: fs) :=
    .cons _ M f rc vs _ dfr dk rnd cs tmps _ .run ds ro fs hcx.rc hcx.dr hcx.rn (.wait vs Reg B N ops acts loc d k i r o tmps kk hr hM hB (Nat.le_refl _) ho hwt hk hs) hcx.rb hcx.fs (by omega)
  generalize hq : (execOp (evT tmps) o).run c.p w = q at hn
  cases hn with
  | enter g args as ha =>
    have h : enter tab R g args false (.mk f rc vs (.run (.wait d acts loc :: k)) dfr dk rnd :: cs) H N = true := h
    obtain ⟨⟨fn, b, h1, h2, h3⟩, h4⟩ := enter_good hP hG h ha hfs (Nat.le_refl _) hcx.wr hcx.bt
    rw [AMS.run_call h1 h2 h3] at hq
    exact h4.head (AMS.st_opEnter ho hw hq)
  | round b args as l hb ha =>
    have h : getT (F 70) (fun ob => Ob.onLoop (fun _ _ g ix ps lv _ => pathK g fun p => getT (F 61) (fun rc2 => FnRec.rec (motive := fun _ => A) (fun _ lps _ _ _ => getT (F 71) (fun lc => LpC.rec (motive := fun _ => A)
      (fun a c => bindK ps args lv fun lv => R (.mk g rc2 [] false (some b) (.mk f rc vs (.run (.wait d acts loc :: k)) dfr dk rnd :: cs)) lv (.run [.code a, .beg, .code c]) H N) lc) ix lps) rc2) p tab) ob) b H = true := h
    obtain ⟨ob, h1, hob⟩ := getT_F h
    obtain ⟨st, j0, g, ix, ps, lv, dd, rfl, h⟩ := Ob.onLoop_inv hob
    obtain ⟨p, hp, h⟩ := pathK_inv h
    obtain ⟨rc2, h2, h⟩ := getT_F h
    obtain ⟨code, lps, ent, res, sf⟩ := rc2
    have h : getT (F 71) (fun lc => LpC.rec (motive := fun _ => A)
      (fun a c => bindK ps args lv fun lv => R (.mk g (.mk code lps ent res sf) [] false (some b) (.mk f rc vs (.run (.wait d acts loc :: k)) dfr dk rnd :: cs)) lv (.run [.code a, .beg, .code c]) H N) lc) ix lps = true := h
    obtain ⟨lc, h3, h⟩ := getT_F h
    obtain ⟨a1, a2⟩ := lc
    have h : bindK ps args lv (fun lv => R (.mk g (.mk code lps ent res sf) [] false (some b) (.mk f rc vs (.run (.wait d acts loc :: k)) dfr dk rnd :: cs)) lv (.run [.code a1, .beg, .code a2]) H N) = true := h
    have hR := hP.tab p code lps ent res sf h2
    rw [hp, Nat.add_sub_cancel] at hR
    obtain ⟨co, h4, h5, _⟩ := hcx.wr.get h1 hb
    cases h5 with
    | loop _ _ _ _ _ _ _ lo ld q1 q2 q3 q4 q5 q6 q7 =>
      obtain ⟨fn, body, g1, g2, g3, g4⟩ := hP.lc _ _ _ _ _ _ q5
      obtain ⟨fn', body', g5, g6, _, _, _, _, g7, _⟩ := hR.ex
      obtain rfl := Option.some.inj (g1.symm.trans g5)
      obtain rfl := Option.some.inj (g2.symm.trans g6)
      obtain ⟨ca, cb⟩ := g7 ix a1 a2 h3 _ g3
      obtain ⟨lv', h6, h7, h8⟩ := bind_vsr g4 ha q4 h
      rw [← fold_zip] at h8
      rw [AMS.run_yield h4 (by simpa using h7.symm)] at hq
      subst q3
      refine Out.head (AMS.st_opRound ho hw hq) ?_
      exact hG (B := N) (fs := _ :: fs) ⟨⟨code, lps, ent, res, sf, rfl, hR⟩, .nil, .some b l hb, hfs, hcx.wr, fun _ hh => (by cases hh), hcx.bt⟩ (.run lv' _ _ _ (.cons _ _ _ _ (.code _ _ ca) (.cons _ _ _ _ .beg (.cons _ _ _ _ (.code _ _ cb) .nil))) h8) (Nat.le_refl _) (Nat.le_refl _) h6
  | dfr dd x hd =>
    have hrn := hcx.rn
    cases hrn with
    | some b l hb => exact (F_false (n := 72) h).elim
    | none =>
      have h : putD d .und vs (fun vs => R (.mk f rc (dd :: dfr) dk none cs) vs (.run (.acts acts (.und :: loc) :: k)) H N) = true := h
      rw [putD_eq] at h
      refine Out.head (AMS.st_opDefer ho hw hq) ?_
      exact hG (B := B) ⟨hcx.rc, .cons _ _ _ _ hd hcx.dr, .none, hcx.fs, hcx.wr, hcx.rb, hcx.bt⟩ (.acts _ Reg ops acts _ k r _ kk hr (hwt e H N _ _ (Later.refl _ _ _ _) .und) hk) hM hB h
  | rcv =>
    have hrn := hcx.rn
    cases hrn with
    | some b l hb => exact (F_false (n := 73) h).elim
    | none =>
      have hst := AMS.st_opRecover (P := c.p) (f := f) (tmps := tmps) (k := kk) (dfr := ds) (kd := kdOf dk) (cs := fs ++ cs0) (rest := r) ho hw hq
      -- nothing to recover from
      have nothing : putD d .nifc vs (fun vs => R (.mk f rc dfr dk none cs) vs (.run (.acts acts (.nifc :: loc) :: k)) H N) = true → tryRecover (AMS.rf f tmps (.inRegion ops (i :: r) :: kk) ds (kdOf dk) none) (fs ++ cs0) = none →
          Out c KE cs0 f0 (lone (AMS.rf f tmps (.inRegion ops (i :: r) :: kk) ds (kdOf dk) none) (fs ++ cs0) w) := by
        intro h ht
        rw [putD_eq] at h
        rw [ht] at hst
        refine Out.head hst ?_
        exact hG (B := B) ⟨hcx.rc, hcx.dr, .none, hcx.fs, hcx.wr, hcx.rb, hcx.bt⟩ (.acts _ Reg ops acts _ k r _ kk hr (hwt e H N _ _ (Later.refl _ _ _ _) .nifc) hk) hM hB h
      cases dk with
      | false => exact nothing h (by simp [tryRecover, kdOf])
      | true =>
        have hfs0 := hcx.fs
        have hbt := hcx.bt
        cases hfs0 with
        | nil => exact (F_false (n := 73) h).elim
        | cons _ Mb f2 rc2 vs2 ctl2 dfr2 dk2 rnd2 cs2 tmps2 todo2 md2 ds2 ro2 fs2 hf2 hd2 hn2 hc2 hr2 hfs2 hMb =>
          cases hc2 with
          | wait => exact (F_false (n := 73) h).elim
          | irf => exact (F_false (n := 73) h).elim
          | ret _ _ hv2 => exact nothing h (by simp [tryRecover, kdOf])
          | pan ch chain2 _ _ hv2 hp2 =>
            cases hp2 with
            | nil => exact (F_false (n := 73) h).elim
            | cons u x b l xs hu ht =>
              cases b with
              | true => exact nothing h (by simp [tryRecover, kdOf])
              | false =>
                have h : putD d u vs (fun vs => R (.mk f rc dfr true none (.mk f2 rc2 vs2 (.pan (.mk u true :: l)) dfr2 dk2 rnd2 :: cs2)) vs (.run (.acts acts (u :: loc) :: k)) H N) = true := h
                rw [putD_eq] at h
                have ht' : tryRecover (AMS.rf f tmps (.inRegion ops (i :: r) :: kk) ds (kdOf true) none) (AMS.xf f2 tmps2 todo2 ds2 (.panicking ({ v := x, recovered := false } :: xs)) (kdOf dk2) ro2 :: fs2 ++ cs0) =
                    some (x, AMS.xf f2 tmps2 todo2 ds2 (.panicking ({ v := x, recovered := true } :: xs)) (kdOf dk2) ro2 :: (fs2 ++ cs0)) := by simp [tryRecover, kdOf]
                rw [ht'] at hst
                refine Out.head hst ?_
                exact hG (B := B) (fs := AMS.xf f2 tmps2 todo2 ds2 (.panicking ({ v := x, recovered := true } :: xs)) (kdOf dk2) ro2 :: fs2)
                  ⟨hcx.rc, hcx.dr, .none, .cons _ Mb f2 rc2 vs2 _ dfr2 dk2 rnd2 cs2 tmps2 todo2 _ ds2 ro2 fs2 hf2 hd2 hn2 (.pan vs2 _ _ tmps2 todo2 hv2 (.cons _ _ _ _ _ hu ht)) hr2 hfs2 hMb, hcx.wr, fun hh => absurd rfl hh, hbt⟩
                  (.acts _ Reg ops acts _ k r _ kk hr (hwt e H N _ _ (Later.refl _ _ _ _) hu) hk) hM hB h
  | pan u x hu =>
    have h : R (.mk f rc dfr dk rnd cs) vs (.pan [.mk u false]) H N = true := h
    refine Out.head (AMS.st_opPanic ho hw hq) ?_
    exact hG (B := N) hcx (.pan vs _ _ tmps _ hs (.cons _ _ _ _ _ hu .nil)) (by omega) (Nat.le_refl _) h
/-- what code reads -/
theorem sg_of {f : Nat} {e : Env} {H : Tr Ob} {N : P} {w : World} {vs : Tr V} {tmps : Array Value} (hw : WR c e H N w) (hv : c.vsr f e vs tmps) : SG c.ng [] yes no e [] vs tmps :=
  ⟨hw.glo, fun n i t v hl _ _ => by simp at hl, fun p v hp _ => (hv.2 p v hp).2⟩
theorem loopK_good (hP : PR c tab) (hG : Good c KE cs0 f0 R) {f : Nat} {rc : FnRec} {dfr : List Dfr} {dk : Bool} {rnd : Option P} {cs : List Fr} {vs : Tr V} {H : Tr Ob} {N : P} {e : Env} {w : World} {ds : List Deferred} {ro : Option Nat} {fs : List Frame} {M : Nat} {tmps : Array Value} {k : List It} {kk : List Item}
    {x : Opd} {ox : Operand} {ps : List (Option P)} {ix : P} {params : Array Tmp} {a b : Code}
    (hcx : CxR c f0 e H N w f rc dfr rnd cs ds ro fs M) (hv : c.vsr f e vs tmps) (hM : M ≤ N.toNat) (hk : KR c f k kk) (hx : OOK (SG c.ng [] yes no) x (fun tmps => evT tmps ox)) (hl : c.lc f ix ps params a b)
    (h : loopK tab R (.mk f rc dfr dk rnd cs) vs k x ps ix H N = true) : Out c KE cs0 f0 (lone (AMS.rf f tmps (.code (.rangeFunc ox params a b) :: kk) ds (kdOf dk) ro) (fs ++ cs0) w) := by
  obtain ⟨v, h, hvv⟩ := hx _ _ _ h
  rcases V.onFn_inv h with ⟨g, as, qs, rfl, h⟩ | ⟨b', rfl, hbad⟩
  · obtain ⟨as', qs', hval, ha, hq⟩ := (hvv e tmps (sg_of hcx.wr hv)).inv_fn
    -- one loop, from a world that agrees
    have go : ∀ {e1 : Env} {H1 : Tr Ob} {N1 : P} {w1 : World} {dfr1 : List Dfr} {ds1 : List Deferred} {d : P} {ld : Loc}, Later N e H N e1 H1 N1 → WR c e1 H1 N1 w1 → DRs e1 dfr1 ds1 → e1 d = some ld →
        putT (some (.loop 0 none f ix ps vs d)) N1 H1 (fun H => succP N1 fun N' => appL as (.yld N1 :: qs) fun args => enter tab R g args false (.mk f rc vs (.run (.irf N1 :: k)) dfr1 dk rnd :: cs) H N') = true →
        (∃ fn bd, c.p.funcs[g]? = some fn ∧ fn.body = some bd ∧ fn.name ≠ "runtime.NumGoroutine") ∧
        Out c KE cs0 f0 (lone (Frame.enter c.p g (as' ++ #[Value.func (.yield w1.heap.size) #[] #[]] ++ qs') .normal) (AMS.rf f tmps (.inRangeFunc w1.heap.size :: kk) ds1 (kdOf dk) ro :: (fs ++ cs0))
          (w1.alloc (.loop { state := .ready, pending := none, fn := f, tmps := tmps, params := params, assign := a, body := b, defers := ld.blk }))) := by
      intro e1 H1 N1 w1 dfr1 ds1 d ld hL hW1 hd1 hld h
      rw [putT_eq] at h
      obtain ⟨N2, hN2, h⟩ := succP_inv h
      rw [appL_eq] at h
      have hle := Env.le_with (l := ⟨w1.heap.size, 0, 0⟩) hW1.fresh
      have hW2 := hW1.new (l := ⟨w1.heap.size, 0, 0⟩) (o := .loop 0 none f ix ps vs d) (x := .loop { state := .ready, pending := none, fn := f, tmps := tmps, params := params, assign := a, body := b, defers := ld.blk }) hN2 rfl rfl
        (.loop 0 none f ix ps vs d _ ld rfl trivial rfl ((hv.mono hL.le).mono hle) hl (hle _ _ hld) rfl)
        (w' := w1.alloc (.loop { state := .ready, pending := none, fn := f, tmps := tmps, params := params, assign := a, body := b, defers := ld.blk })) rfl rfl rfl rfl
      have hL2 : Later N1 e1 H1 N1 (e1.with N1 ⟨w1.heap.size, 0, 0⟩) (H1.put (some (.loop 0 none f ix ps vs d)) N1) N2 :=
        ⟨hle, by omega, fun b' hb' hlt => by rw [Env.with_ne _ _ (by rintro rfl; omega)]; exact hb', Keeps.new _ _ _ _⟩
      have hLL := hL.trans (hL2.weak hL.nn)
      have hargs : VRs (e1.with N1 ⟨w1.heap.size, 0, 0⟩) (as ++ (.yld N1 :: qs)) (as' ++ #[Value.func (.yield w1.heap.size) #[] #[]] ++ qs').toList := by
        simp only [Array.toList_append, List.append_assoc]
        refine (ha.mono hLL.le).append (.cons _ _ _ _ ?_ (hq.mono hLL.le))
        exact .yld N1 ⟨w1.heap.size, 0, 0⟩ (Env.with_same _ _ _)
      have hfs2 : FsR c (e1.with N1 ⟨w1.heap.size, 0, 0⟩) (H1.put (some (.loop 0 none f ix ps vs d)) N1) N2 N2.toNat (.mk f rc vs (.run (.irf N1 :: k)) dfr1 dk rnd :: cs) (AMS.xf f tmps (.inRangeFunc w1.heap.size :: kk) ds1 .run (kdOf dk) ro :: fs) :=
        .cons _ M f rc vs _ dfr1 dk rnd cs tmps _ .run ds1 ro fs hcx.rc (hd1.mono hle) (hcx.rn.mono hLL.le) (.irf vs N1 ⟨w1.heap.size, 0, 0⟩ k tmps kk (Env.with_same _ _ _) (hv.mono hLL.le) hk) hcx.rb (hcx.fs.later hLL hM) (by have := hLL.nn; omega)
      exact enter_good (dk := false) hP hG h hargs hfs2 (Nat.le_refl _) hW2 hcx.bt
    have hrn := hcx.rn
    cases hrn with
    | none =>
      have h : putT (some (.dfr (some []))) N H (fun H => succP N fun N' => putT (some (.loop 0 none f ix ps vs N)) N' H fun H => succP N' fun N'' => appL as (.yld N' :: qs) fun args =>
        enter tab R g args false (.mk f rc vs (.run (.irf N' :: k)) (.coll N :: dfr) dk none :: cs) H N'') = true := h
      rw [putT_eq] at h
      obtain ⟨N1, hN1, h⟩ := succP_inv h
      have hle := Env.le_with (l := ⟨w.heap.size, 0, 0⟩) hcx.wr.fresh
      have hW1 := hcx.wr.new (l := ⟨w.heap.size, 0, 0⟩) (o := .dfr (some [])) (x := .deferred (some [])) hN1 rfl rfl (.dfr [] [] .nil) (w' := w.alloc (.deferred (some []))) rfl rfl rfl rfl
      have hL1 : Later N e H N (e.with N ⟨w.heap.size, 0, 0⟩) (H.put (some (.dfr (some []))) N) N1 := ⟨hle, by omega, fun b' hb' hlt => by rw [Env.with_ne _ _ (by rintro rfl; omega)]; exact hb', Keeps.new _ _ _ _⟩
      obtain ⟨⟨fn, bd, g1, g2, g3⟩, hout⟩ := go hL1 hW1 (.cons _ _ _ _ (.coll N ⟨w.heap.size, 0, 0⟩ (Env.with_same _ _ _)) (hcx.dr.mono hle)) (Env.with_same _ _ _) h
      have hst := AMS.st_enterLoop (P := c.p) (f := f) (k := kk) (dfr := ds) (kd := kdOf dk) (cs := fs ++ cs0) (w := w) (params := params) (a := a) (b := b) hval g1 g2 g3
      refine Out.head hst ?_
      have hs : (w.alloc (.deferred (some []))).heap.size = w.heap.size + 1 := by simp
      rw [hs] at hout
      exact hout
    | some b0 l0 hb0 =>
      have h : getT (F 74) (fun ob => Ob.onLoop (fun _ _ _ _ _ _ d => putT (some (.loop 0 none f ix ps vs d)) N H fun H => succP N fun N'' => appL as (.yld N :: qs) fun args =>
        enter tab R g args false (.mk f rc vs (.run (.irf N :: k)) dfr dk (some b0) :: cs) H N'') ob) b0 H = true := h
      obtain ⟨ob, h1, hob⟩ := getT_F h
      obtain ⟨st, j0, f', ix', ps', lv, d, rfl, h⟩ := Ob.onLoop_inv hob
      obtain ⟨co, h4, h5, _⟩ := hcx.wr.get h1 hb0
      cases h5 with
      | loop _ _ _ _ _ _ _ lo ld q1 q2 q3 q4 q5 q6 q7 =>
        obtain ⟨⟨fn, bd, g1, g2, g3⟩, hout⟩ := go (Later.refl N e H N) hcx.wr hcx.dr q6 h
        have hst := AMS.st_enterLoopIn (P := c.p) (f := f) (k := kk) (dfr := ds) (kd := kdOf dk) (cs := fs ++ cs0) (w := w) (params := params) (a := a) (b := b) h4 hval g1 g2 g3
        refine Out.head hst ?_
        rw [q7]
        exact hout
  · exact (F_false hbad).elim
theorem exitK_inv {f id : Nat} {Nn : A} {K : List It → A} : ∀ {k : List It} {kk : List Item}, KR c f k kk → exitK id Nn K k = true → (exitTo id kk = none ∧ Nn = true) ∨ ∃ k' kk', exitTo id kk = some kk' ∧ KR c f k' kk' ∧ K k' = true
  | _, _, .nil, h => .inl ⟨rfl, h⟩
  | _, _, .cons it x k kk hi ht, h => by
    cases hi with
    | blk i =>
      have h : ifK (K k) (exitK id Nn K k) (Nat.beq i id) = true := h
      rcases ifK_inv h with ⟨h1, h⟩ | ⟨h1, h⟩
      · have := Nat.eq_of_beq_eq_true h1
        exact .inr ⟨k, kk, by simp [exitTo, this], ht, h⟩
      · have hne : ¬ i = id := by rintro rfl; simp at h1
        rcases exitK_inv ht h with ⟨h2, h3⟩ | ⟨k', kk', h2, h3⟩
        · exact .inl ⟨by simp [exitTo, hne, h2], h3⟩
        · exact .inr ⟨k', kk', by simp [exitTo, hne, h2], h3⟩
    | code ic a hc =>
      have h : exitK id Nn K k = true := h
      rcases exitK_inv ht h with ⟨h2, h3⟩ | ⟨k', kk', h2, h3⟩
      · exact .inl ⟨by simpa [exitTo] using h2, h3⟩
      · exact .inr ⟨k', kk', by simpa [exitTo] using h2, h3⟩
    | lp ic a hc =>
      have h : exitK id Nn K k = true := h
      rcases exitK_inv ht h with ⟨h2, h3⟩ | ⟨k', kk', h2, h3⟩
      · exact .inl ⟨by simpa [exitTo] using h2, h3⟩
      · exact .inr ⟨k', kk', by simpa [exitTo] using h2, h3⟩
    | scp ic a hc =>
      have h : exitK id Nn K k = true := h
      rcases exitK_inv ht h with ⟨h2, h3⟩ | ⟨k', kk', h2, h3⟩
      · exact .inl ⟨by simpa [exitTo] using h2, h3⟩
      · exact .inr ⟨k', kk', by simpa [exitTo] using h2, h3⟩
    | beg =>
      have h : exitK id Nn K k = true := h
      rcases exitK_inv ht h with ⟨h2, h3⟩ | ⟨k', kk', h2, h3⟩
      · exact .inl ⟨by simpa [exitTo] using h2, h3⟩
      · exact .inr ⟨k', kk', by simpa [exitTo] using h2, h3⟩
/-- a region goes on -/
theorem acts_good (hP : PR c tab) (hG : Good c KE cs0 f0 R) {f : Nat} {rc : FnRec} {dfr : List Dfr} {dk : Bool} {rnd : Option P} {cs : List Fr} {H : Tr Ob} {N : P} {e : Env} {w : World} {ds : List Deferred} {ro : Option Nat} {fs : List Frame} {M : Nat} {B : P}
    {Reg : Env → Tr Ob → P → List RAct → List V → Tr V → List Nat → Array Value → Prop} {ops : Array Oper} {acts : List RAct} {loc : List V} {vs : Tr V} {k : List It} {kk : List Item} {rest : List Nat} {tmps : Array Value}
    (hcx : CxR c f0 e H N w f rc dfr rnd cs ds ro fs M) (hr : IsReg B c f ops Reg) (hM : M ≤ B.toNat) (hB : B.toNat ≤ N.toNat) (hreg : Reg e H N acts loc vs rest tmps) (hk : KR c f k kk)
    (h : actsK (fun vs H N => R (.mk f rc dfr dk rnd cs) vs (.run k) H N) (nextK tab R (.mk f rc dfr dk rnd cs) k) acts loc vs H N = true) :
    Out c KE cs0 f0 (lone (AMS.rf f tmps (.inRegion ops rest :: kk) ds (kdOf dk) ro) (fs ++ cs0) w) := by
  obtain ⟨e', H', N', w', tmps', vs', h1, h2, h3⟩ := reg_run (k := kk) (dfr := ds) (kd := kdOf dk) (rnd := ro) (cs := fs ++ cs0) hr hB hreg hcx.wr h
  have hcx' := hcx.later h1 hM h2
  have hnn := h1.nn
  rcases h3 with ⟨g1, g2, g3⟩ | ⟨i, r, o, nx, d, acts', loc', g1, g2, g3, g4, g5, g6, g7⟩
  · exact (hG (B := N') hcx' (.run vs' k tmps' kk hk g2) (by omega) (Nat.le_refl _) g1).steps g3
  · exact (nextK_good hP hG hcx' hr hM (by omega) g1 g3 g4 g6 hk g7 g2).steps g5
theorem stepCode_good (hP : PR c tab) (hG : Good c KE cs0 f0 R) {f : Nat} {rc : FnRec} {dfr : List Dfr} {dk : Bool} {rnd : Option P} {cs : List Fr} {vs : Tr V} {H : Tr Ob} {N : P} {e : Env} {w : World} {ds : List Deferred} {ro : Option Nat} {fs : List Frame} {M : Nat} {tmps : Array Value} {k : List It} {kk : List Item} {ic : ICode} {a : Code}
    (hcx : CxR c f0 e H N w f rc dfr rnd cs ds ro fs M) (hv : c.vsr f e vs tmps) (hM : M ≤ N.toNat) (hk : KR c f k kk) (hc : CR c f ic a) (h : stepCode tab KE R (.mk f rc dfr dk rnd cs) vs H N k ic = true) :
    Out c KE cs0 f0 (lone (AMS.rf f tmps (.code a :: kk) ds (kdOf dk) ro) (fs ++ cs0) w) := by
  have on : ∀ {k' : List It} {kk' : List Item}, KR c f k' kk' → R (.mk f rc dfr dk rnd cs) vs (.run k') H N = true → Out c KE cs0 f0 (lone (AMS.rf f tmps kk' ds (kdOf dk) ro) (fs ++ cs0) w) :=
    fun hk' h => hG (B := N) hcx (.run vs _ tmps _ hk' hv) hM (Nat.le_refl _) h
  cases hc with
  | skip => exact (on hk h).head AMS.st_skip
  | lbl l => exact (on hk h).head AMS.st_label
  | got l => exact (F_false (n := 76) h).elim
  | ret => exact leave_good hG hcx hv hM (j := some .ret) (jc := some .ret) trivial (.inr (.inl ⟨kk, rfl, rfl⟩)) h
  | seq a b a' b' h1 h2 =>
    have h : R (.mk f rc dfr dk rnd cs) vs (.run (.code a :: .code b :: k)) H N = true := h
    exact (on (.cons _ _ _ _ (.code _ _ h1) (.cons _ _ _ _ (.code _ _ h2) hk)) h).head AMS.st_seq
  | blk id a a' h1 =>
    have h : R (.mk f rc dfr dk rnd cs) vs (.run (.code a :: .blk id :: k)) H N = true := h
    exact (on (.cons _ _ _ _ (.code _ _ h1) (.cons _ _ _ _ (.blk id) hk)) h).head AMS.st_block
  | lp a a' h1 =>
    have h : R (.mk f rc dfr dk rnd cs) vs (.run (.code a :: .lp a :: k)) H N = true := h
    exact (on (.cons _ _ _ _ (.code _ _ h1) (.cons _ _ _ _ (.lp _ _ h1) hk)) h).head AMS.st_loop
  | scp a a' h1 =>
    have h : R (.mk f rc dfr dk rnd cs) vs (.run (.code a :: .scp a :: k)) H N = true := h
    exact (on (.cons _ _ _ _ (.code _ _ h1) (.cons _ _ _ _ (.scp _ _ h1) hk)) h).head AMS.st_scope
  | ext id =>
    have h : exitK id (leave KE R (.mk f rc dfr dk rnd cs) vs (some (.ext id)) H N) (fun k => R (.mk f rc dfr dk rnd cs) vs (.run k) H N) k = true := h
    rcases exitK_inv hk h with ⟨h1, h⟩ | ⟨k', kk', h1, h2, h⟩
    · exact leave_good hG hcx hv hM (j := some (.ext id)) (jc := some (.exit id)) rfl (.inr (.inr ⟨id, kk, rfl, h1, rfl⟩)) h
    · exact (on h2 h).head (AMS.st_exit h1)
  | cond x ox a b a' b' hx h1 h2 =>
    have h : x [] vs (fun v => V.onBool (fun t => ifK (R (.mk f rc dfr dk rnd cs) vs (.run (.code a :: k)) H N) (R (.mk f rc dfr dk rnd cs) vs (.run (.code b :: k)) H N) t) v) = true := h
    obtain ⟨v, h, hvv⟩ := hx _ _ _ h
    obtain ⟨t, rfl, h⟩ := V.onBool_inv h
    have hval := (hvv e tmps ⟨hcx.wr.glo, fun n i t v hl _ _ => by simp at hl, fun p v hp _ => (hv.2 p v hp).2⟩).inv_bool
    rcases ifK_inv h with ⟨rfl, h⟩ | ⟨rfl, h⟩
    · exact (on (.cons _ _ _ _ (.code _ _ h1) hk) h).head (AMS.st_cond hval)
    · exact (on (.cons _ _ _ _ (.code _ _ h2) hk) h).head (AMS.st_cond hval)
  | rf x ox ps ix params a b hx hl => exact loopK_good hP hG hcx hv hM hk hx hl h
  | reg id ops draw acts hreg =>
    have h : actsK (fun vs H N => R (.mk f rc dfr dk rnd cs) vs (.run k) H N) (nextK tab R (.mk f rc dfr dk rnd cs) k) acts [] vs H N = true := h
    cases hreg with
    | bad hb => subst hb; exact (F_false (n := 300) h).elim
    | seq hd hS =>
      subst hd
      refine Out.head AMS.st_region (acts_good hP hG (B := N) hcx (.inl rfl) hM (Nat.le_refl _) (loc := []) (rest := List.range ops.size) (acts := acts) ?_ hk h)
      refine ⟨0, [], by rw [List.range_eq_range', Nat.sub_zero], hS, fun n j t hl => by simp at hl, ⟨hv.1, fun p u hp => (hv.2 p u hp).1, hcx.wr.glo, fun n i t v hl _ _ => by simp at hl, fun p v hp _ => (hv.2 p v hp).2⟩⟩
    | draw hd ms effs0 hds hS hsafe =>
      subst hd
      obtain ⟨t, hst⟩ := AMS.st_draw (P := c.p) (f := f) (tmps := tmps) (k := kk) (dfr := ds) (kd := kdOf dk) (rnd := ro) (cs := fs ++ cs0) (w := w) (ops := ops) (id := id) hP.mix
      refine Out.head hst ?_
      have hcx2 : CxR c f0 e H N w.drew f rc dfr rnd cs ds ro fs M := { hcx with wr := hcx.wr.drew }
      refine acts_good hP hG (B := N) hcx2 (.inr ⟨rfl, hsafe⟩) hM (Nat.le_refl _) (loc := []) (rest := Region.linearise .any ops t) (acts := acts) ?_ hk h
      refine ⟨ms, effs0, [], effs0, [], fun _ => False, fun _ => none, ?_, hS, hds.hms ▸ lin_sched hds.backs t⟩
      exact { ds := hds, size := hv.1, glob := hcx.wr.glo, keep := fun p u hp => (hv.2 p u hp).1, len := rfl, ltok := fun n j t hl => by simp at hl, ltx := fun n i d hl => by simp at hl, uniq := fun n n' i d d' hl => by simp at hl, uniqt := fun n n' i i' t hl => by simp at hl,
              ent := fun n i d v o hl => by simp at hl, vsd := fun p u hp => .inr ⟨fun n i hl => by simp at hl, (hv.2 p u hp).2⟩, frn := fun i b hb => (by cases hb), fri := fun i j b hb => (by cases hb), closed := fun i hi => hi.elim, Llt := fun i hi => hi.elim,
              split := rfl, dnL := fun i hi => (by cases hi), efL := fun i _ hh => hh, cov := fun i o _ _ => ⟨fun ⟨n, d, hl⟩ => by simp at hl, fun hh => by simp at hh⟩, ltef := fun i o _ _ ⟨n, d, hl⟩ => by simp at hl }
theorem endLoop_good (hG : Good c KE cs0 f0 R) {f : Nat} {rc : FnRec} {dfr : List Dfr} {dk : Bool} {rnd : Option P} {cs : List Fr} {vs : Tr V} {H : Tr Ob} {N : P} {e : Env} {w : World} {ds : List Deferred} {ro : Option Nat} {fs : List Frame} {M : Nat} {tmps : Array Value} {k : List It} {kk : List Item} {b : P} {lo : Loc}
    (hcx : CxR c f0 e H N w f rc dfr rnd cs ds ro fs M) (hb : e b = some lo) (hv : c.vsr f e vs tmps) (hM : M ≤ N.toNat) (hk : KR c f k kk) (h : endLoop R (.mk f rc dfr dk rnd cs) vs b H N k = true) :
    Out c KE cs0 f0 (lone (AMS.rf f tmps (.endRangeFunc lo.blk :: kk) ds (kdOf dk) ro) (fs ++ cs0) w) := by
  obtain ⟨ob, h1, hob⟩ := getT_F h
  obtain ⟨st, j, f', ix, ps, lv, d, rfl, h⟩ := Ob.onLoop_inv hob
  obtain ⟨hst, h⟩ := ifK_e h
  rw [putT_eq] at h
  obtain ⟨co, h2, h3, _⟩ := hcx.wr.get h1 hb
  cases h3 with
  | loop _ _ _ _ _ _ _ r ld q1 q2 q3 q4 q5 q6 q7 =>
    have hs : r.state ≠ .busy := by
      intro hh
      rw [hh] at q1
      have : st = 1 := q1.symm
      rw [this] at hst
      cases hst
    have hx : OR c e lo (.loop 3 j f' ix ps lv d) (.loop { r with state := .exhausted }) := .loop _ _ _ _ _ _ _ _ ld rfl q2 q3 q4 q5 q6 q7
    have hW' := hcx.wr.put (w' := { w with heap := w.heap.setIfInBounds lo.blk (.loop { r with state := .exhausted }) }) h1 hb rfl rfl hx rfl rfl rfl rfl
    have hL : Later N e H N e (H.put (some (.loop 3 j f' ix ps lv d)) b) N := ⟨Env.le.refl e, Nat.le_refl _, fun _ hh _ => hh, Keeps.put _ hb⟩
    have hcx' := hcx.later hL hM hW'
    refine Out.head (AMS.st_endLoop h2 hs) ?_
    have on : ∀ {k' : List It} {kk' : List Item}, KR c f k' kk' → R (.mk f rc dfr dk rnd cs) vs (.run k') (H.put (some (.loop 3 j f' ix ps lv d)) b) N = true → Out c KE cs0 f0 (lone (AMS.rf f tmps kk' ds (kdOf dk) ro) (fs ++ cs0) _) :=
      fun hk' h => hG (B := N) hcx' (.run vs _ tmps _ hk' hv) hM (Nat.le_refl _) h
    have key : ∃ k', KR c f k' ((r.pending.map Item.code).toList ++ kk) ∧ R (.mk f rc dfr dk rnd cs) vs (.run k') (H.put (some (.loop 3 j f' ix ps lv d)) b) N = true := by
      clear hx hW' hcx' on
      revert q2
      generalize r.pending = pe
      intro q2
      cases j with
      | none =>
        cases pe with
        | none => exact ⟨k, hk, h⟩
        | some a => exact q2.elim
      | some j =>
        cases pe with
        | none => cases j <;> exact q2.elim
        | some a =>
          cases j with
          | ret =>
            cases a with
            | ret => exact ⟨_, .cons _ _ _ _ (.code _ _ .ret) hk, h⟩
            | _ => exact q2.elim
          | ext i =>
            cases a with
            | exit i' =>
              have hii : i = i' := q2
              subst hii
              exact ⟨_, .cons _ _ _ _ (.code _ _ (.ext i)) hk, h⟩
            | _ => exact q2.elim
          | got i => cases a <;> exact q2.elim
    obtain ⟨k', hk', h⟩ := key
    exact on hk' h
theorem beginR_good (hG : Good c KE cs0 f0 R) {f : Nat} {rc : FnRec} {dfr : List Dfr} {dk : Bool} {rnd : Option P} {cs : List Fr} {vs : Tr V} {H : Tr Ob} {N : P} {e : Env} {w : World} {ds : List Deferred} {ro : Option Nat} {fs : List Frame} {M : Nat} {tmps : Array Value} {k : List It} {kk : List Item}
    (hcx : CxR c f0 e H N w f rc dfr rnd cs ds ro fs M) (hv : c.vsr f e vs tmps) (hM : M ≤ N.toNat) (hk : KR c f k kk) (h : beginR R (.mk f rc dfr dk rnd cs) vs H N k = true) :
    Out c KE cs0 f0 (lone (AMS.rf f tmps (.beginRound :: kk) ds (kdOf dk) ro) (fs ++ cs0) w) := by
  have hrn := hcx.rn
  cases hrn with
  | none => exact (F_false (n := 79) h).elim
  | some b lo hb =>
    have h : getT (F 79) (fun ob => Ob.onLoop (fun st j f ix ps lv d => ifK (putT (some (.loop 1 j f ix ps lv d)) b H fun H => R (.mk _ rc dfr dk (some b) cs) vs (.run k) H N) (F 80) (Nat.beq st 0)) ob) b H = true := h
    obtain ⟨ob, h1, hob⟩ := getT_F h
    obtain ⟨st, j, f', ix, ps, lv, d, rfl, h⟩ := Ob.onLoop_inv hob
    obtain ⟨hst, h⟩ := ifK_t h
    rw [putT_eq] at h
    obtain ⟨co, h2, h3, _⟩ := hcx.wr.get h1 hb
    cases h3 with
    | loop _ _ _ _ _ _ _ r ld q1 q2 q3 q4 q5 q6 q7 =>
      have hs : r.state = .ready := by
        have h0 : st = 0 := Nat.eq_of_beq_eq_true hst
        rw [h0] at q1
        cases hr : r.state <;> rw [hr] at q1 <;> first | rfl | cases q1
      have hx : OR c e lo (.loop 1 j f' ix ps lv d) (.loop { r with state := .busy }) := .loop _ _ _ _ _ _ _ _ ld rfl q2 q3 q4 q5 q6 q7
      have hW' := hcx.wr.put (w' := { w with heap := w.heap.setIfInBounds lo.blk (.loop { r with state := .busy }) }) h1 hb rfl rfl hx rfl rfl rfl rfl
      have hL : Later N e H N e (H.put (some (.loop 1 j f' ix ps lv d)) b) N := ⟨Env.le.refl e, Nat.le_refl _, fun _ hh _ => hh, Keeps.put _ hb⟩
      have hcx' := hcx.later hL hM hW'
      exact (hG (B := N) hcx' (.run vs k tmps kk hk hv) hM (Nat.le_refl _) h).head (AMS.st_beginRound h2 hs)
/-- one step -/
theorem step_good (hP : PR c tab) (hG : Good c KE cs0 f0 R) : Good c KE cs0 f0 (step tab KE R) := by
  intro e H N w f rc dfr dk rnd cs ds ro fs M B vs ctl tmps todo md hcx hc hM hB h
  cases hc with
  | ret _ _ hv => exact stepRet_good hP hG hcx (.ret vs tmps todo hv) hM hB h
  | pan ch chain _ _ hv hp => exact stepPan_good hP hG hcx (.pan vs ch chain tmps todo hv hp) hM hB h
  | acts Reg ops acts loc k rest _ kk hr hreg hk => exact acts_good hP hG hcx hr hM hB hreg hk h
  | erf b lo k _ kk hb hv hk => exact endLoop_good hG hcx hb hv (by omega) hk h
  | run k _ kk hk hv =>
    have hMN : M ≤ N.toNat := by omega
    cases hk with
    | nil => exact leave_good hG hcx hv hMN (j := none) (jc := none) trivial (.inl ⟨rfl, rfl⟩) h
    | cons it x k kk hi hk =>
      have on : ∀ {k' : List It} {kk' : List Item}, KR c f k' kk' → R (.mk f rc dfr dk rnd cs) vs (.run k') H N = true → Out c KE cs0 f0 (lone (AMS.rf f tmps kk' ds (kdOf dk) ro) (fs ++ cs0) w) :=
        fun hk' h => hG (B := N) hcx (.run vs _ tmps _ hk' hv) hMN (Nat.le_refl _) h
      cases hi with
      | code ic a hc => exact stepCode_good hP hG hcx hv hMN hk hc h
      | blk id => exact (on hk h).head AMS.st_inBlock
      | lp ic a hc =>
        have h : R (.mk f rc dfr dk rnd cs) vs (.run (.code ic :: .lp ic :: k)) H N = true := h
        exact (on (.cons _ _ _ _ (.code _ _ hc) (.cons _ _ _ _ (.lp _ _ hc) hk)) h).head AMS.st_inLoop
      | scp ic a hc => exact (on hk h).head AMS.st_inScope
      | beg => exact beginR_good hG hcx hv hMN hk h
theorem run_good (hP : PR c tab) : ∀ n, Good c KE cs0 f0 (run tab KE (fun _ _ _ _ _ => F 0) n)
  | 0 => fun _ _ _ _ h => (F_false (n := 0) h).elim
  | n + 1 => step_good hP (run_good hP n)
end
end Go.AM
