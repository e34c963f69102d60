/- The simulation, the second part: frames entered, left and gone on with. -/
import Derived.Test.YtnekfilglnfgkaaGreatDoorAmSim1
set_option autoImplicit false
set_option linter.unusedVariables false
set_option linter.unusedSimpArgs false
namespace Go.AM
/-- it comes to its end as the abstract machine says -/
def Out (c : Cfg) (KE : V → Tr Ob → P → A) (cs0 : List Frame) (f0 : Nat) (m : Machine) : Prop :=
  ∃ e v x H N w fr, Steps c.p m (lone fr cs0 w) ∧ fr.leaving c.p w (.returned x) ∧ fr.fn = f0 ∧ VR e v x ∧ WR c e H N w ∧ KE v H N = true
theorem Out.steps {c : Cfg} {KE : V → Tr Ob → P → A} {cs0 : List Frame} {f0 : Nat} {m m1 : Machine} (hs : Steps c.p m m1) (h : Out c KE cs0 f0 m1) : Out c KE cs0 f0 m := by
  obtain ⟨e, v, x, H, N, w, fr, h1, h2⟩ := h
  exact ⟨e, v, x, H, N, w, fr, hs.trans h1, h2⟩
theorem Out.head {c : Cfg} {KE : V → Tr Ob → P → A} {cs0 : List Frame} {f0 : Nat} {m m1 : Machine} (hs : Go.step c.p m = .next m1) (h : Out c KE cs0 f0 m1) : Out c KE cs0 f0 m := h.steps (.one hs)
/-- from every state that agrees -/
def Good (c : Cfg) (KE : V → Tr Ob → P → A) (cs0 : List Frame) (f0 : Nat) (R : Run) : Prop :=
  ∀ {e : Env} {H : Tr Ob} {N : P} {w : World} {f : Nat} {rc : FnRec} {dfr : List Dfr} {dk : Bool} {rnd : Option P} {cs : List Fr} {ds : List Deferred} {ro : Option Nat} {fs : List Frame} {M : Nat} {B : P} {vs : Tr V} {ctl : Ctl} {tmps : Array Value} {todo : List Item} {md : FrameMode},
    CxR c f0 e H N w f rc dfr rnd cs ds ro fs M → CtlA c f e H N B vs ctl tmps todo md → M ≤ B.toNat → B.toNat ≤ N.toNat → R (.mk f rc dfr dk rnd cs) vs ctl H N = true →
    Out c KE cs0 f0 (lone (AMS.xf f tmps todo ds md (kdOf dk) ro) (fs ++ cs0) w)
/-- what is known of the program and its table -/
structure PR (c : Cfg) (tab : Tr FnRec) : Prop where
  tab : TabR c tab
  num : ∀ (g : Nat) (fn : Func), c.p.funcs[g]? = some fn → fn.body.isSome = true → fn.name ≠ "runtime.NumGoroutine"
  lc : ∀ f ix ps params a b, c.lc f ix ps params a b → ∃ fn body, c.p.funcs[f]? = some fn ∧ fn.body = some body ∧ (loopsOf body)[ix.toNat - 1]? = some (params, a, b) ∧ PatR (c.dst f) ps params.toList
  mix : c.p.follows .mixedOrders = true
section
variable {c : Cfg} {tab : Tr FnRec} {KE : V → Tr Ob → P → A} {cs0 : List Frame} {f0 : Nat} {R : Run}
theorem RcR.fn {f : Nat} {rc : FnRec} (h : RcR c f rc) : ∃ fn, c.p.funcs[f]? = some fn := by
  obtain ⟨_, _, _, _, _, _, h⟩ := h
  obtain ⟨fn, _, h, _⟩ := h.ex
  exact ⟨fn, h⟩
theorem enter_good (hP : PR c tab) (hG : Good c KE cs0 f0 R) {g : Nat} {args : List V} {as : Array Value} {dk : Bool} {cs : List Fr} {H : Tr Ob} {N : P} {e : Env} {w : World} {fs : List Frame} {M : Nat} (h : enter tab R g args dk cs H N = true) (ha : VRs e args as.toList)
    (hfs : FsR c e H N M cs fs) (hM : M ≤ N.toNat) (hW : WR c e H N w) (hbt : bot g cs = f0) :
    (∃ fn b, c.p.funcs[g]? = some fn ∧ fn.body = some b ∧ fn.name ≠ "runtime.NumGoroutine") ∧ Out c KE cs0 f0 (lone (Frame.enter c.p g as (kdOf dk)) (fs ++ cs0) w) := by
  obtain ⟨p, h1, h⟩ := pathK_inv h
  obtain ⟨rc, h2, h⟩ := getT_F h
  obtain ⟨code, lps, ent, res, sf⟩ := rc
  have hR := hP.tab p code lps ent res sf h2
  rw [h1, Nat.add_sub_cancel] at hR
  obtain ⟨fn, body, h3, h4, h5, h6, h7, h8, h9, h10⟩ := hR.ex
  have h : bindK ent args .nil (fun vs => R (.mk g (.mk code lps ent res sf) [] dk none cs) vs (.run [.code code]) H N) = true := h
  have hname := hP.num g fn h3 (by rw [h4]; rfl)
  refine ⟨⟨fn, body, h3, h4, hname⟩, ?_⟩
  have hvs0 : c.vsr g e .nil (as ++ Array.replicate (fn.ntmps - as.size) undef) := ⟨by rw [h5]; simp; omega, fun p v hp => by simp [Tr.get_nil] at hp⟩
  obtain ⟨vs', hk, hl, hv⟩ := bind_vsr h7 ha hvs0 h
  have hfold : ((List.range (fn.params.size + fn.nfree)).zip as.toList).foldl (fun tmps (x : Tmp × Value) => tmps.setIfInBounds x.1 x.2) (as ++ Array.replicate (fn.ntmps - as.size) undef) = as ++ Array.replicate (fn.ntmps - as.size) undef := by
    have hl' : fn.params.size + fn.nfree = as.toList.length := by simpa using hl
    rw [List.range_eq_range', hl']
    refine fold_self as.toList 0 _ (fun j x hj => ?_)
    rw [Array.getElem?_toList] at hj
    have hlt : j < as.size := by
      rcases Nat.lt_or_ge j as.size with hh | hh
      · exact hh
      · rw [Array.getElem?_eq_none hh] at hj; cases hj
    rw [Nat.zero_add, Array.getElem?_append_left hlt]; exact hj
  rw [hfold] at hv
  have hfr : Frame.enter c.p g as (kdOf dk) = AMS.xf g (as ++ Array.replicate (fn.ntmps - as.size) undef) [.code body] [] .run (kdOf dk) none := by
    simp [Frame.enter, h3, h4]
  rw [hfr]
  exact hG (B := N) ⟨⟨code, lps, ent, res, sf, rfl, hR⟩, .nil, .none, hfs, hW, fun hh => absurd rfl hh, hbt⟩ (.run vs' _ _ _ (.cons _ _ _ _ (.code _ _ h6) .nil) hv) hM (Nat.le_refl _) hk
theorem finish_good (hG : Good c KE cs0 f0 R) {v : V} {fr : Fr} {cs : List Fr} {H : Tr Ob} {N : P} {e : Env} {w : World} {c1 : Frame} {fs : List Frame} {M : Nat} {x : Value} {g : Nat} (h : finish R v fr cs H N = true) (hfs : FsR c e H N M (fr :: cs) (c1 :: fs)) (hv : VR e v x) (hW : WR c e H N w)
    (hM : M ≤ N.toNat) (hbt : bot g (fr :: cs) = f0) : Out c KE cs0 f0 (lone (c1.finish x) (fs ++ cs0) w) := by
  cases hfs with
  | cons _ Mb f rc vs ctl dfr dk rnd _ tmps todo md ds ro _ hf hd hn hc hr hfs hMb =>
    have hbt : bot f cs = f0 := hbt
    cases hc with
    | ret _ _ hv => exact (F_false (n := 62) h).elim
    | pan ch chain _ _ hv hp => exact (F_false (n := 62) h).elim
    | irf b lo k _ kk hb hvv hk =>
      have h : R (.mk f rc dfr dk rnd cs) vs (.run (.erf b :: k)) H N = true := h
      exact hG (B := N) ⟨hf, hd, hn, hfs, hW, hr, hbt⟩ (.erf vs b lo k tmps kk hb hvv hk) (by omega) (Nat.le_refl _) h
    | wait Reg B Bc ops acts loc d k i r o _ kk hr' h0 h1 h2 ho hw hk hs =>
      have h : putD d v vs (fun vs => R (.mk f rc dfr dk rnd cs) vs (.run (.acts acts (v :: loc) :: k)) H N) = true := h
      rw [putD_eq] at h
      have hfin : (AMS.xf f tmps (.inRegion ops (i :: r) :: kk) ds .run (kdOf dk) ro).finish x = AMS.xf f (AMS.putTmp o.dst x tmps) (.inRegion ops r :: kk) ds .run (kdOf dk) ro := AMS.finish_rf ho
      rw [hfin]
      exact hG (B := B) ⟨hf, hd, hn, hfs, hW, hr, hbt⟩ (.acts _ Reg ops acts _ k r _ kk hr' (hw e H N v x (Later.refl _ _ _ _) hv) hk) h0 (by omega) h
theorem finishD_good (hG : Good c KE cs0 f0 R) {fr : Fr} {cs : List Fr} {H : Tr Ob} {N : P} {e : Env} {w : World} {c1 : Frame} {fs : List Frame} {M : Nat} {g : Nat} (h : finishD R fr cs H N = true) (hfs : FsR c e H N M (fr :: cs) (c1 :: fs)) (hW : WR c e H N w)
    (hM : M ≤ N.toNat) (hbt : bot g (fr :: cs) = f0) : ∃ c2, (c2 = match c1.mode with
        | .panicking ({ recovered := true, .. } :: older) =>
          match older.dropWhile (!·.goexit) with
          | [] => { c1 with mode := .returning }
          | rest => { c1 with mode := .panicking rest }
        | _ => c1) ∧ Out c KE cs0 f0 (lone c2 (fs ++ cs0) w) := by
  cases hfs with
  | cons _ Mb f rc vs ctl dfr dk rnd _ tmps todo md ds ro _ hf hd hn hc hr hfs hMb =>
    have hbt : bot f cs = f0 := hbt
    have hcx : CxR c f0 e H N w f rc dfr rnd cs ds ro fs Mb := ⟨hf, hd, hn, hfs, hW, hr, hbt⟩
    cases hc with
    | irf b lo k _ kk hb hvv hk => exact (F_false (n := 63) h).elim
    | wait Reg B Bc ops acts loc d k i r o _ kk hr' h0 h1 h2 ho hw hk hs => exact (F_false (n := 63) h).elim
    | ret _ _ hv =>
      have h : R (.mk f rc dfr dk rnd cs) vs .ret H N = true := h
      exact ⟨_, rfl, hG (B := N) hcx (.ret vs tmps todo hv) (by omega) (Nat.le_refl _) h⟩
    | pan ch chain _ _ hv hp =>
      cases hp with
      | nil => exact (F_false (n := 63) h).elim
      | cons u x r l xs hu ht =>
        obtain ⟨code, lps, ent, res, sf, rfl, hR⟩ := hf
        have h : ifK (ifK (R (.mk f (.mk code lps ent res sf) dfr dk rnd cs) vs .ret H N) (F 63) sf) (R (.mk f (.mk code lps ent res sf) dfr dk rnd cs) vs (.pan (.mk u r :: l)) H N) r = true := h
        rcases ifK_inv h with ⟨rfl, h⟩ | ⟨rfl, h⟩
        · obtain ⟨hsf, h⟩ := ifK_t h
          obtain ⟨_, _, _, _, _, _, _, _, _, hsafe⟩ := hR.ex
          refine ⟨AMS.xf f tmps todo ds .returning (kdOf dk) ro, ?_, hG (B := N) hcx (.ret vs tmps todo (hv (hsafe hsf))) (by omega) (Nat.le_refl _) h⟩
          simp [ht.drop]
        · exact ⟨_, rfl, hG (B := N) hcx (.pan vs _ _ tmps todo hv (.cons _ _ _ _ _ hu ht)) (by omega) (Nat.le_refl _) h⟩
theorem doRet_good (hG : Good c KE cs0 f0 R) {f : Nat} {rc : FnRec} {dfr : List Dfr} {dk : Bool} {rnd : Option P} {cs : List Fr} {v : V} {H : Tr Ob} {N : P} {e : Env} {w : World} {fs : List Frame} {M : Nat} {x : Value} {tmps : Array Value} {todo : List Item} {ro : Option Nat}
    (h : doRet KE R (.mk f rc dfr dk rnd cs) v H N = true) (hfs : FsR c e H N M cs fs) (hv : VR e v x) (hW : WR c e H N w) (hM : M ≤ N.toNat) (hbt : bot f cs = f0) {fn : Func} (hfn : c.p.funcs[f]? = some fn) (hres : (results fn tmps).run c.p w = .ok x w) :
    Out c KE cs0 f0 (lone (AMS.xf f tmps todo [] .returning (kdOf dk) ro) (fs ++ cs0) w) := by
  cases cs with
  | nil =>
    have h : ifK (F 64) (KE v H N) dk = true := h
    obtain ⟨rfl, h⟩ := ifK_e h
    cases hfs
    exact ⟨e, v, x, H, N, w, _, .refl _ _, ⟨rfl, rfl, rfl, fn, hfn, hres⟩, hbt, hv, hW, h⟩
  | cons fr cs =>
    have h : ifK (finishD R fr cs H N) (finish R v fr cs H N) dk = true := h
    cases fs with
    | nil => cases hfs
    | cons c1 fs =>
      rcases ifK_inv h with ⟨rfl, h⟩ | ⟨rfl, h⟩
      · obtain ⟨c2, h1, h2⟩ := finishD_good hG h hfs hW hM hbt
        exact h2.head (AMS.st_returnD hfn hres h1)
      · exact (finish_good hG h hfs hv hW hM hbt).head (AMS.st_return hfn hres)
/-- the deferred calls, one by one -/
theorem unwind_good (hP : PR c tab) (hG : Good c KE cs0 f0 R) {f : Nat} {rc : FnRec} {dfr : List Dfr} {dk : Bool} {rnd : Option P} {cs : List Fr} {vs : Tr V} {ctl : Ctl} {H : Tr Ob} {N : P} {E : A} {e : Env} {w : World} {ds : List Deferred} {ro : Option Nat} {fs : List Frame} {M : Nat} {B : P} {tmps : Array Value} {todo : List Item} {md : FrameMode}
    (hcx : CxR c f0 e H N w f rc dfr rnd cs ds ro fs M) (hc : CtlA c f e H N B vs ctl tmps todo md) (hctl : ctl = .ret ∨ ∃ ch, ctl = .pan ch) (hM : M ≤ B.toNat) (hB : B.toNat ≤ N.toNat) (h : unwind tab R (.mk f rc dfr dk rnd cs) vs ctl H N E = true) :
    Out c KE cs0 f0 (lone (AMS.xf f tmps todo ds md (kdOf dk) ro) (fs ++ cs0) w) ∨ (dfr = [] ∧ ds = [] ∧ E = true) := by
  have hmd : md ≠ .run := by
    rcases hctl with rfl | ⟨ch, rfl⟩ <;> · cases hc <;> (intro hh; cases hh)
  have hS : ∀ M', CtlS c f e H N M M' vs ctl tmps todo md := by
    intro M'
    rcases hctl with rfl | ⟨ch, rfl⟩
    · cases hc with
      | ret _ _ hv => exact .ret _ _ _ hv
    · cases hc with
      | pan _ chain _ _ hv hp => exact .pan _ _ chain _ _ hv hp
  have hdr := hcx.dr
  cases dfr with
  | nil => cases hdr; exact .inr ⟨rfl, rfl, h⟩
  | cons d dfr =>
    left
    cases hdr with
    | cons _ x _ xs hd hdr =>
      cases hd with
      | fn g args as qs ha =>
        have h : enter tab R g args true (.mk f rc vs ctl dfr dk rnd :: cs) H N = true := h
        have hfs : FsR c e H N N.toNat (.mk f rc vs ctl dfr dk rnd :: cs) (AMS.xf f tmps todo xs md (kdOf dk) ro :: fs) := .cons _ M f rc vs ctl dfr dk rnd cs tmps todo md xs ro fs hcx.rc hdr hcx.rn (hS _) hcx.rb hcx.fs (by omega)
        obtain ⟨⟨fn, b, h1, h2, h3⟩, h4⟩ := enter_good (as := as ++ qs) hP hG h ha hfs (Nat.le_refl _) hcx.wr hcx.bt
        exact h4.head (AMS.st_deferred hmd h1 h2 h3)
      | coll b l hb =>
        have h : getT (F 66) (fun ob => Ob.onDfr (fun l => Option.rec (motive := fun _ => A) (F 66) (fun l => appL l dfr fun ds => putT (some (.dfr none)) b H fun H => R (.mk f rc ds dk rnd cs) vs ctl H N) l) ob) b H = true := h
        obtain ⟨ob, h1, h⟩ := getT_F h
        obtain ⟨co, h2, h3, _⟩ := hcx.wr.get h1 hb
        cases h3 with
        | cells => exact (F_false (n := 16) h).elim
        | big => exact (F_false (n := 16) h).elim
        | glob => exact (F_false (n := 16) h).elim
        | map => exact (F_false (n := 16) h).elim
        | loop => exact (F_false (n := 16) h).elim
        | sit => exact (F_false (n := 16) h).elim
        | gone => exact (F_false (n := 66) h).elim
        | dfr l' xs' hl' =>
          have h : appL l' dfr (fun ds => putT (some (.dfr none)) b H fun H => R (.mk f rc ds dk rnd cs) vs ctl H N) = true := h
          rw [appL_eq, putT_eq] at h
          have hW' := hcx.wr.put (w' := { w with heap := w.heap.setIfInBounds l.blk (.deferred none) }) h1 hb rfl rfl (o' := .dfr none) .gone rfl rfl rfl rfl
          have hL : Later N e H N e (H.put (some (.dfr none)) b) N := ⟨Env.le.refl e, Nat.le_refl _, fun _ hh _ => hh, Keeps.put _ hb⟩
          have hfs' := hcx.fs.later hL (by omega)
          refine Out.head (AMS.st_collected hmd h2) (hG (B := N) ⟨hcx.rc, hl'.append hdr, hcx.rn, hfs', hW', hcx.rb, hcx.bt⟩ ?_ (by omega) (Nat.le_refl _) h)
          rcases hctl with rfl | ⟨ch, rfl⟩
          · cases hc with
            | ret _ _ hv => exact .ret _ _ _ hv
          · cases hc with
            | pan _ chain _ _ hv hp => exact .pan _ _ chain _ _ hv hp
theorem stepRet_good (hP : PR c tab) (hG : Good c KE cs0 f0 R) {f : Nat} {rc : FnRec} {dfr : List Dfr} {dk : Bool} {rnd : Option P} {cs : List Fr} {vs : Tr V} {H : Tr Ob} {N : P} {e : Env} {w : World} {ds : List Deferred} {ro : Option Nat} {fs : List Frame} {M : Nat} {B : P} {tmps : Array Value} {todo : List Item} {md : FrameMode}
    (hcx : CxR c f0 e H N w f rc dfr rnd cs ds ro fs M) (hc : CtlA c f e H N B vs .ret tmps todo md) (hM : M ≤ B.toNat) (hB : B.toNat ≤ N.toNat) (h : stepRet tab KE R (.mk f rc dfr dk rnd cs) vs H N = true) :
    Out c KE cs0 f0 (lone (AMS.xf f tmps todo ds md (kdOf dk) ro) (fs ++ cs0) w) := by
  rcases unwind_good hP hG hcx hc (.inl rfl) hM hB h with h | ⟨rfl, rfl, h⟩
  · exact h
  · obtain ⟨code, lps, ent, res, sf, rfl, hR⟩ := hcx.rc
    obtain ⟨fn, body, h3, h4, h5, h6, h7, h8, h9, h10⟩ := hR.ex
    have h : resK res vs H (oneK fun v => doRet KE R (.mk f (.mk code lps ent res sf) [] dk rnd cs) v H N) = true := h
    cases hc with
    | ret _ _ hv =>
      obtain ⟨v, x, h11, h12, h13⟩ := results_inv hcx.wr hv h3 h8 h
      exact doRet_good hG h11 hcx.fs h12 hcx.wr (by omega) hcx.bt h3 h13
theorem stepPan_good (hP : PR c tab) (hG : Good c KE cs0 f0 R) {f : Nat} {rc : FnRec} {dfr : List Dfr} {dk : Bool} {rnd : Option P} {cs : List Fr} {vs : Tr V} {ch : List PE} {H : Tr Ob} {N : P} {e : Env} {w : World} {ds : List Deferred} {ro : Option Nat} {fs : List Frame} {M : Nat} {B : P} {tmps : Array Value} {todo : List Item} {md : FrameMode}
    (hcx : CxR c f0 e H N w f rc dfr rnd cs ds ro fs M) (hc : CtlA c f e H N B vs (.pan ch) tmps todo md) (hM : M ≤ B.toNat) (hB : B.toNat ≤ N.toNat) (h : stepPan tab R (.mk f rc dfr dk rnd cs) vs ch H N = true) :
    Out c KE cs0 f0 (lone (AMS.xf f tmps todo ds md (kdOf dk) ro) (fs ++ cs0) w) := by
  rcases unwind_good hP hG hcx hc (.inr ⟨ch, rfl⟩) hM hB h with h | ⟨rfl, rfl, h⟩
  · exact h
  · obtain ⟨fn, hfn⟩ := hcx.rc.fn
    have hbt := hcx.bt
    have hfs := hcx.fs
    cases cs with
    | nil => exact (F_false (n := 67) h).elim
    | cons fr cs =>
      cases hfs with
      | cons _ Mb f2 rc2 vs2 ctl2 dfr2 dk2 rnd2 _ tmps2 todo2 md2 ds2 ro2 fs hf2 hd2 hn2 hc2 hr2 hfs2 hMb =>
        have hcx2 : CxR c f0 e H N w f2 rc2 dfr2 rnd2 cs ds2 ro2 fs Mb := ⟨hf2, hd2, hn2, hfs2, hcx.wr, hr2, hbt⟩
        cases hc with
        | pan _ chain _ _ hv hp =>
          refine Out.head (AMS.st_panicked hfn) ?_
          have key : ∀ chain2, (Safe c f2 → VsRes c f2 e vs2 tmps2) → ∀ ch2, PERs e ch2 chain2 → R (.mk f2 rc2 dfr2 dk2 rnd2 cs) vs2 (.pan ch2) H N = true → Out c KE cs0 f0 (lone (AMS.xf f2 tmps2 todo2 ds2 (.panicking chain2) (kdOf dk2) ro2) (fs ++ cs0) w) :=
            fun chain2 hv2 ch2 hp2 h => hG (B := N) hcx2 (.pan vs2 ch2 chain2 tmps2 todo2 hv2 hp2) (by omega) (Nat.le_refl _) h
          cases hc2 with
          | ret _ _ hv2 =>
            have h : R (.mk f2 rc2 dfr2 dk2 rnd2 cs) vs2 (.pan ch) H N = true := h
            exact key chain (fun _ => hv2) ch hp h
          | irf b lo k _ kk hb hvv hk =>
            have h : R (.mk f2 rc2 dfr2 dk2 rnd2 cs) vs2 (.pan ch) H N = true := h
            exact key chain (fun _ => vsr_res hvv) ch hp h
          | wait Reg B2 Bc ops acts loc d k i r o _ kk hr' h0 h1 h2 ho hw hk hs =>
            have h : R (.mk f2 rc2 dfr2 dk2 rnd2 cs) vs2 (.pan ch) H N = true := h
            exact key chain hs ch hp h
          | pan ch2 chain2 _ _ hv2 hp2 =>
            have h : appL ch ch2 (fun ch => R (.mk f2 rc2 dfr2 dk2 rnd2 cs) vs2 (.pan ch) H N) = true := h
            rw [appL_eq] at h
            exact key (chain ++ chain2) hv2 (ch ++ ch2) (hp.append hp2) h
end
end Go.AM
