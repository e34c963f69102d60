/- What the compiler makes of operations. -/
import Derived.Test.YtnekfilglnfgkaaGreatDoorAmComp1
set_option autoImplicit false
set_option linter.unusedVariables false
set_option linter.unusedSimpArgs false
namespace Go.AM
def NV (s : Sem Value) : Sem Next := do pure (.value (← s))
theorem run_NV {P : Program} {s : Sem Value} {w w' : World} {x : Value} (h : s.run P w = .ok x w') : (NV s).run P w = .ok (.value x) w' := by simp [NV, h]
/-- an operation that an act only computes -/
def PO (c : Cfg) (S : Srel) (o : Oper) (g : Opd) : Prop :=
  ∀ loc vs K, g loc vs K = true → ∃ v, K v = true ∧ ∀ e tmps w, S e loc vs tmps → ∃ x, VR e v x ∧ (execOp (evT tmps) o).run c.p w = .ok (.value x) w
def RO (c : Cfg) (S : Srel) (o : Oper) (g : RdA) : Prop :=
  ∀ loc vs H K, g loc vs H K = true → ∃ v, K v = true ∧ ∀ H' e N tmps w, HExt H H' → S e loc vs tmps → WR c e H' N w → ∃ x, VR e v x ∧ (execOp (evT tmps) o).run c.p w = .ok (.value x) w
def FO (c : Cfg) (S : Srel) (o : Oper) (g : FrA) : Prop :=
  ∀ loc vs K, g loc vs K = true → ∃ ob m, K ob m = true ∧ ob.isGlob = false ∧ ∀ e tmps, S e loc vs tmps → ∃ co size, (∀ e' blk, e.le e' → OR c e' ⟨blk, 0, size⟩ ob co) ∧
    ∀ w, ∃ x, (execOp (evT tmps) o).run c.p w = .ok (.value x) (w.alloc co) ∧ ∀ e' b, e' b = some ⟨w.heap.size, 0, size⟩ → ∃ v, (∀ K, mkK m b K = K v) ∧ VR e' v x
inductive OpR (c : Cfg) (S : Srel) (o : Oper) (d : Option P) : RAct → Prop
  | p (g : Opd) (h : PO c S o g) : OpR c S o d (.p g d)
  | r (g : RdA) (h : RO c S o g) : OpR c S o d (.r g d)
  | n (g : FrA) (h : FO c S o g) : OpR c S o d (.n g d)
  | e (g : EfA) (h : EV c S g (fun tmps => execOp (evT tmps) o)) : OpR c S o d (.e g d)
section
variable {c : Cfg} {S : Srel} {o : Oper} {d : Option P}
theorem OpR.ofP {g : Opd} {sem : Array Value → Sem Value} (h : PV c.p S g sem) (he : ∀ tmps w x, (sem tmps).run c.p w = .ok x w → (execOp (evT tmps) o).run c.p w = .ok (.value x) w) : OpR c S o d (.p g d) :=
  OpR.p g fun loc vs K hk => let ⟨v, h1, h2⟩ := h loc vs K hk; ⟨v, h1, fun e tmps w hS => let ⟨y, q, t⟩ := h2 e tmps w hS; ⟨y, q, he tmps w y t⟩⟩
theorem OpR.ofR {g : RdA} {sem : Array Value → Sem Value} (h : RV c S g sem) (he : ∀ tmps w x, (sem tmps).run c.p w = .ok x w → (execOp (evT tmps) o).run c.p w = .ok (.value x) w) : OpR c S o d (.r g d) :=
  OpR.r g fun loc vs H K hk => let ⟨v, h1, h2⟩ := h loc vs H K hk; ⟨v, h1, fun H' e N tmps w hE hS hW => let ⟨y, q, t⟩ := h2 H' e N tmps w hE hS hW; ⟨y, q, he tmps w y t⟩⟩
theorem OpR.ofF {g : FrA} {sem : Array Value → Sem Value} (h : FV c S g sem) (he : ∀ tmps w w' x, (sem tmps).run c.p w = .ok x w' → (execOp (evT tmps) o).run c.p w = .ok (.value x) w') : OpR c S o d (.n g d) :=
  OpR.n g fun loc vs K hk => let ⟨ob, m, h1, h2, h3⟩ := h loc vs K hk
    ⟨ob, m, h1, h2, fun e tmps hS => let ⟨co, size, a, b⟩ := h3 e tmps hS; ⟨co, size, a, fun w => let ⟨x, t, q⟩ := b w; ⟨x, he tmps w _ x t, q⟩⟩⟩
theorem PV.str {P : Program} {S : Srel} {x : Opd} {ex : Array Value → Value} {s t : TypeId} {ds : TypeDesc} (hs : P.underlying s = some ds) (hd : P.underlying t = some .string) (hx : OOK S x ex) : PV P S (aStr x) (fun tmps => Go.convert s t (ex tmps)) := by
  intro loc vs K h
  obtain ⟨v, h1, hv⟩ := hx _ _ _ h
  obtain ⟨n, m, rfl, h2⟩ := V.onStr_inv h1
  refine ⟨_, h2, fun e tmps w hS => ⟨_, hv e tmps hS, ?_⟩⟩
  obtain ⟨b, h3, _⟩ := (hv e tmps hS).inv_str
  dsimp only
  rw [h3]
  simp [Go.convert, run_underlying' hs, run_underlying' hd]
theorem EV.fail : EV c S eFail (fun tmps => execOp (evT tmps) o) := fun loc vs H N K X h => (F_false h).elim
end
/-- what an operand's temporary must be: written by one of D -/
def Asks (lt : List (Nat × Option Nat)) (D : Nat → Prop) (x : Operand) : Prop := ∀ t, x = .tmp t → ∀ (n j : Nat), lt[n]? = some (j, some t) → D j
def FlOK (fl : Fl) (dsts : Nat → Prop) : Prop := ∀ p u, fl.t.get p = some u → ¬ dsts (p.toNat - 1)
abbrev mkO (dst : Option Tmp) (op : Op) (ty : TypeId) (pos : String) (af : Array Edge) (g : Option (Nat × Bool)) : Oper := ⟨dst, op, ty, pos, af, g⟩
section
variable {c : Cfg} {raw : Tr TypeInfo} {fl : Fl} {lt : List (Nat × Option Nat)} {D dsts : Nat → Prop} {E : A} {K : RAct → A} {d : Option P} {dst : Option Tmp} {ty : TypeId} {pos : String} {af : Array Edge} {g : Option (Nat × Bool)}
theorem argK {x : Operand} (hx : Asks lt D x) (hfl : FlOK fl dsts) {K : Opd → A} (h : opdK fl lt E x K = true) : E = true ∨ ∃ f, K f = true ∧ OOK (SG fl.ng lt D dsts) f (fun tmps => evT tmps x) := opdK_inv hx hfl h
theorem argsK {xs : List Operand} (hfl : FlOK fl dsts) (hx : ∀ t, Operand.tmp t ∈ xs → ∀ (n j : Nat), lt[n]? = some (j, some t) → D j) {K : List Opd → A} (h : opdsK fl lt E xs K = true) : E = true ∨ ∃ fs, K fs = true ∧ OsOK (SG fl.ng lt D dsts) fs (fun tmps => xs.map (evT tmps)) := opdsK_inv hfl hx h
theorem argOK {x : Option Operand} (hx : ∀ y, x = some y → Asks lt D y) (hfl : FlOK fl dsts) {K : Option Opd → A} (h : opdOK fl lt E x K = true) : E = true ∨ ∃ f, K f = true ∧ f.isSome = x.isSome ∧ OOpt (SG fl.ng lt D dsts) f (fun tmps => x.map (evT tmps)) :=
  opdOK_inv (fun t ht => hx _ ht t rfl) hfl h
/-- a tree of n places out of a list -/
theorem makeB_go {z : List V} : ∀ (fuel i n : Nat) (l : List V) (K : Bt → List V → A), makeB fuel i n z l K = true → n ≤ l.length → 0 < n →
    ∃ b, K b (l.drop n) = true ∧ ∀ j v, b.get j = some v → (i ≤ j → j < i + n → l[j - i]? = some v)
  | 0, i, n, l, K, h, _, _ => absurd h Bool.false_ne_true
  | f + 1, i, n, l, K, h, hn, hp => by
    have h : ifK (List.rec (motive := fun _ => A) (List.rec (motive := fun _ => A) (F 12) (fun v r _ => K (.leaf i v) r) z) (fun v r _ => K (.leaf i v) r) l)
      (forceNat (fun a => forceNat (fun b => forceNat (fun m => makeB f i a z l fun x l => makeB f m b z l fun y l => K (.node m x y) l) (i + a)) (n - a)) (n / 2))
      (Nat.beq n 1) = true := h
    rcases ifK_inv h with ⟨h1, h2⟩ | ⟨h1, h2⟩
    · have := Nat.eq_of_beq_eq_true h1
      subst this
      cases l with
      | nil => simp at hn
      | cons v r =>
        refine ⟨.leaf i v, h2, fun j w hj hij hji => ?_⟩
        have : j = i := by omega
        subst this
        simp [Bt.get] at hj
        simp [hj]
    · have hn1 : n ≠ 1 := by rintro rfl; simp at h1
      rw [forceNat_eq, forceNat_eq, forceNat_eq] at h2
      obtain ⟨b1, h3, h4⟩ := makeB_go f _ _ l _ h2 (by omega) (by omega)
      obtain ⟨b2, h5, h6⟩ := makeB_go f _ _ _ _ h3 (by simp; omega) (by omega)
      refine ⟨.node (i + n / 2) b1 b2, ?_, fun j w hj hij hji => ?_⟩
      · rw [List.drop_drop, show n / 2 + (n - n / 2) = n by omega] at h5
        exact h5
      · by_cases hh : i + n / 2 ≤ j
        · simp only [Bt.get, hh, if_true] at hj
          have := h6 j w hj hh (by omega)
          rw [List.getElem?_drop] at this
          rwa [show n / 2 + (j - (i + n / 2)) = j - i by omega] at this
        · simp only [Bt.get, hh, if_false] at hj
          exact h4 j w hj hij (by omega)
theorem makeB_inv {z : List V} {n : Nat} {K : Bt → List V → A} (h : makeB 40 0 n z z K = true) (hn : z.length = n) : ∃ b, (∀ j v, j < n → b.get j = some v → z[j]? = some v) ∧ ∃ l, K b l = true := by
  by_cases h0 : n = 0
  · subst h0
    have hz : z = [] := List.eq_nil_of_length_eq_zero hn
    subst hz
    have key : ∀ (f : Nat) (i : Nat) (K : Bt → List V → A), makeB f i 0 [] [] K = true → False := by
      intro f
      induction f with
      | zero => intro i K h; exact absurd h Bool.false_ne_true
      | succ f ih =>
        intro i K h
        have h : ifK (F 12) (forceNat (fun a => forceNat (fun b => forceNat (fun m => makeB f i a [] [] fun x l => makeB f m b [] l fun y l => K (.node m x y) l) (i + a)) (0 - a)) (0 / 2)) (Nat.beq 0 1) = true := h
        rcases ifK_inv h with ⟨h1, h2⟩ | ⟨h1, h2⟩
        · exact F_false h2
        · rw [forceNat_eq, forceNat_eq, forceNat_eq] at h2
          exact ih _ _ h2
    exact (key _ _ _ h).elim
  · obtain ⟨b, h1, h2⟩ := makeB_go 40 0 n z K h (by omega) (by omega)
    exact ⟨b, fun j v hj hv => by simpa using h2 j v hv (by omega) (by omega), _, h1⟩
theorem opc_move {x : Operand} (hr : RawR c.p raw) (hfl : FlOK fl dsts) (hx : Asks lt D x) (h : opK raw fl lt d (.move x) E K = true) :
    E = true ∨ ∃ act, K act = true ∧ OpR c (SG fl.ng lt D dsts) (mkO dst (.move x) ty pos af g) d act := by
  unfold opK at h
  rcases argK hx hfl h with h | ⟨f, h, f_ok⟩
  · exact .inl h
  exact .inr ⟨_, h, .ofP (PV.opd f_ok) (fun tmps w x hh => run_NV hh)⟩
theorem opc_assign {x : Operand} (hr : RawR c.p raw) (hfl : FlOK fl dsts) (hx : Asks lt D x) (h : opK raw fl lt d (.assign x) E K = true) :
    E = true ∨ ∃ act, K act = true ∧ OpR c (SG fl.ng lt D dsts) (mkO dst (.assign x) ty pos af g) d act := by
  unfold opK at h
  rcases argK hx hfl h with h | ⟨f, h, f_ok⟩
  · exact .inl h
  exact .inr ⟨_, h, .ofP (PV.opd f_ok) (fun tmps w x hh => run_NV hh)⟩
theorem opc_pick {x a b : Operand} (hr : RawR c.p raw) (hfl : FlOK fl dsts) (hx : Asks lt D x) (ha : Asks lt D a) (hb : Asks lt D b) (h : opK raw fl lt d (.pick x a b) E K = true) :
    E = true ∨ ∃ act, K act = true ∧ OpR c (SG fl.ng lt D dsts) (mkO dst (.pick x a b) ty pos af g) d act := by
  unfold opK at h
  rcases argK hx hfl h with h | ⟨f, h, f_ok⟩
  · exact .inl h
  rcases argK ha hfl h with h | ⟨fa, h, fa_ok⟩
  · exact .inl h
  rcases argK hb hfl h with h | ⟨fb, h, fb_ok⟩
  · exact .inl h
  refine .inr ⟨_, h, .ofP (PV.pick f_ok fa_ok fb_ok) (fun tmps w y hh => ?_)⟩
  show (do pure (Next.value (if ← asBool (evT tmps x) then evT tmps a else evT tmps b)) : Sem Next).run c.p w = _
  cases hv : evT tmps x with
  | bool t => simp [asBool, hv] at hh ⊢; exact hh
  | _ => simp [asBool, hv] at hh
theorem opc_nilCheck {x : Operand} (hr : RawR c.p raw) (hfl : FlOK fl dsts) (hx : Asks lt D x) (h : opK raw fl lt d (.nilCheck x) E K = true) :
    E = true ∨ ∃ act, K act = true ∧ OpR c (SG fl.ng lt D dsts) (mkO dst (.nilCheck x) ty pos af g) d act := by
  unfold opK at h
  rcases argK hx hfl h with h | ⟨f, h, f_ok⟩
  · exact .inl h
  refine .inr ⟨_, h, .p _ fun loc vs K' hk => ?_⟩
  obtain ⟨v, h1, h2⟩ := nil_ok f_ok loc vs K' hk
  refine ⟨v, h1, fun e tmps w hS => ?_⟩
  obtain ⟨h3, a, h4⟩ := h2 e tmps hS
  refine ⟨_, h3, ?_⟩
  simp only [execOp, h4]
  rfl
theorem opc_fieldAddr {s : TypeId} {x : Operand} {f : Nat} (hr : RawR c.p raw) (hfl : FlOK fl dsts) (hx : Asks lt D x) (h : opK raw fl lt d (.fieldAddr s x f) E K = true) :
    E = true ∨ ∃ act, K act = true ∧ OpR c (SG fl.ng lt D dsts) (mkO dst (.fieldAddr s x f) ty pos af g) d act := by
  unfold opK at h
  rcases argK hx hfl h with h | ⟨fx, h, fx_ok⟩
  · exact .inl h
  obtain ⟨ds, i, h1, h2, h⟩ := typeK_inv hr h
  cases ds with
  | struct fs =>
    dsimp only at h
    cases hf : fs.toList[f]? with
    | none => rw [hf] at h; exact .inl h
    | some fd =>
      rw [hf] at h
      obtain ⟨d2, i2, h3, h4, h⟩ := sizeK_inv hr h
      rcases ifK_inv h with ⟨_, h⟩ | ⟨h5, h⟩
      · exact .inl h
      · rw [forceNat_eq] at h
        rw [Array.getElem?_toList] at hf
        exact .inr ⟨_, h, .ofP (PV.fld fx_ok h1 hf h4 (by rintro hh; rw [hh] at h5; cases h5) rfl) (fun tmps w x hh => run_NV hh)⟩
  | _ => exact .inl h
theorem opc_field {s : TypeId} {x : Operand} {f : Nat} (hr : RawR c.p raw) (hfl : FlOK fl dsts) (hx : Asks lt D x) (h : opK raw fl lt d (.field s x f) E K = true) :
    E = true ∨ ∃ act, K act = true ∧ OpR c (SG fl.ng lt D dsts) (mkO dst (.field s x f) ty pos af g) d act := by
  unfold opK at h
  rcases argK hx hfl h with h | ⟨fx, h, fx_ok⟩
  · exact .inl h
  obtain ⟨ds, i, h1, h2, h⟩ := typeK_inv hr h
  cases ds with
  | struct fs =>
    dsimp only at h
    cases hf : fs.toList[f]? with
    | none => rw [hf] at h; exact .inl h
    | some fd =>
      rw [hf] at h
      obtain ⟨d2, i2, h3, h4, h⟩ := sizeK_inv hr h
      rw [forceNat_eq] at h
      rw [Array.getElem?_toList] at hf
      rcases ifK_inv h with ⟨h5, h⟩ | ⟨h5, h⟩
      · exact .inr ⟨_, h, .ofP (PV.fieldN fx_ok h1 hf h3 h4 h5 rfl rfl) (fun tmps w x hh => run_NV hh)⟩
      · exact .inr ⟨_, h, .ofP (PV.field1 fx_ok h1 hf h3 h4 h5 rfl) (fun tmps w x hh => run_NV hh)⟩
  | _ => exact .inl h
theorem opc_indexAddr {t : TypeId} {x y : Operand} (hr : RawR c.p raw) (hfl : FlOK fl dsts) (hx : Asks lt D x) (hy : Asks lt D y) (h : opK raw fl lt d (.indexAddr t x y) E K = true) :
    E = true ∨ ∃ act, K act = true ∧ OpR c (SG fl.ng lt D dsts) (mkO dst (.indexAddr t x y) ty pos af g) d act := by
  unfold opK at h
  rcases argK hx hfl h with h | ⟨fx, h, fx_ok⟩
  · exact .inl h
  rcases argK hy hfl h with h | ⟨fy, h, fy_ok⟩
  · exact .inl h
  obtain ⟨ds, i, h1, h2, h⟩ := typeK_inv hr h
  cases ds with
  | array len el =>
    obtain ⟨d2, i2, h3, h4, h⟩ := sizeK_inv hr h
    exact .inr ⟨_, h, .ofP (PV.ixArr fx_ok fy_ok h1 h4 rfl) (fun tmps w x hh => run_NV hh)⟩
  | slice el =>
    obtain ⟨d2, i2, h3, h4, h⟩ := sizeK_inv hr h
    exact .inr ⟨_, h, .ofP (PV.ixSl fx_ok fy_ok h1 h4 rfl) (fun tmps w x hh => run_NV hh)⟩
  | _ => exact .inl h
theorem opc_index {t : TypeId} {x y : Operand} (hr : RawR c.p raw) (hfl : FlOK fl dsts) (hx : Asks lt D x) (hy : Asks lt D y) (h : opK raw fl lt d (.index t x y) E K = true) :
    E = true ∨ ∃ act, K act = true ∧ OpR c (SG fl.ng lt D dsts) (mkO dst (.index t x y) ty pos af g) d act := by
  unfold opK at h
  rcases argK hx hfl h with h | ⟨fx, h, fx_ok⟩
  · exact .inl h
  rcases argK hy hfl h with h | ⟨fy, h, fy_ok⟩
  · exact .inl h
  obtain ⟨ds, i, h1, h2, h⟩ := typeK_inv hr h
  cases ds with
  | array len el =>
    obtain ⟨d2, i2, h3, h4, h⟩ := sizeK_inv hr h
    rcases ifK_inv h with ⟨h5, h⟩ | ⟨h5, h⟩
    · exact .inr ⟨_, h, .ofP (PV.indN fx_ok fy_ok h1 h3 h4 h5 rfl) (fun tmps w x hh => run_NV hh)⟩
    · exact .inr ⟨_, h, .ofP (PV.ind1 fx_ok fy_ok h1 h3 h4 h5 rfl) (fun tmps w x hh => run_NV hh)⟩
  | string => exact .inr ⟨_, h, .ofP (PV.indS fx_ok fy_ok h1) (fun tmps w x hh => run_NV hh)⟩
  | _ => exact .inl h
theorem opc_unOp {op : UnOp} {t : TypeId} {x : Operand} (hr : RawR c.p raw) (hfl : FlOK fl dsts) (hx : Asks lt D x) (h : opK raw fl lt d (.unOp op t x) E K = true) :
    E = true ∨ ∃ act, K act = true ∧ OpR c (SG fl.ng lt D dsts) (mkO dst (.unOp op t x) ty pos af g) d act := by
  unfold opK at h
  rcases argK hx hfl h with h | ⟨fx, h, fx_ok⟩
  · exact .inl h
  obtain ⟨ds, i, h1, h2, h⟩ := typeK_inv hr h
  cases op <;> cases ds <;> first
    | exact .inl h
    | exact .inr ⟨_, h, .ofP (PV.neg fx_ok) (fun tmps w x hh => run_NV hh)⟩
    | exact .inr ⟨_, h, .ofP (PV.xor fx_ok) (fun tmps w x hh => run_NV hh)⟩
    | exact .inr ⟨_, h, .ofP (PV.not fx_ok) (fun tmps w x hh => run_NV hh)⟩
theorem opc_convert {s t : TypeId} {x : Operand} (hr : RawR c.p raw) (hfl : FlOK fl dsts) (hx : Asks lt D x) (h : opK raw fl lt d (.convert s t x) E K = true) :
    E = true ∨ ∃ act, K act = true ∧ OpR c (SG fl.ng lt D dsts) (mkO dst (.convert s t x) ty pos af g) d act := by
  unfold opK at h
  rcases argK hx hfl h with h | ⟨fx, h, fx_ok⟩
  · exact .inl h
  obtain ⟨ds, i, h1, h2, h⟩ := typeK_inv hr h
  obtain ⟨dt, j, h3, h4, h⟩ := typeK_inv hr h
  cases ds with
  | int k =>
    cases dt with
    | int k' => exact .inr ⟨_, h, .ofP (PV.conv h1 h3 fx_ok) (fun tmps w x hh => run_NV hh)⟩
    | string => exact .inr ⟨_, h, .ofP (PV.chr h1 h3 fx_ok) (fun tmps w x hh => run_NV hh)⟩
    | _ => exact .inl h
  | string =>
    cases dt with
    | string => exact .inr ⟨_, h, .ofP (PV.str h1 h3 fx_ok) (fun tmps w x hh => run_NV hh)⟩
    | _ => exact .inl h
  | _ => exact .inl h
theorem opc_makeInterface {t : TypeId} {x : Operand} (hr : RawR c.p raw) (hfl : FlOK fl dsts) (hx : Asks lt D x) (h : opK raw fl lt d (.makeInterface t x) E K = true) :
    E = true ∨ ∃ act, K act = true ∧ OpR c (SG fl.ng lt D dsts) (mkO dst (.makeInterface t x) ty pos af g) d act := by
  unfold opK at h
  rcases argK hx hfl h with h | ⟨fx, h, fx_ok⟩
  · exact .inl h
  obtain ⟨ds, i, h1, h2, h⟩ := typeK_inv hr h
  cases ds with
  | interface ms => exact .inl h
  | _ => exact .inr ⟨_, h, .ofP (PV.ifc h1 (by intro ms hh; cases hh) fx_ok) (fun tmps w x hh => run_NV hh)⟩
theorem opc_makeFunc {f : Fn} {a q : Array Operand} (hr : RawR c.p raw) (hfl : FlOK fl dsts) (ha : ∀ x ∈ a.toList, Asks lt D x) (hq : ∀ x ∈ q.toList, Asks lt D x) (h : opK raw fl lt d (.makeFunc f a q) E K = true) :
    E = true ∨ ∃ a', K a' = true ∧ OpR c (SG fl.ng lt D dsts) (mkO dst (.makeFunc f a q) ty pos af g) d a' := by
  cases f with
  | func f =>
    unfold opK at h
    rcases argsK hfl (fun t ht => ha _ ht t rfl) h with h | ⟨fa, h, fa_ok⟩
    · exact .inl h
    rcases argsK hfl (fun t ht => hq _ ht t rfl) h with h | ⟨fq, h, fq_ok⟩
    · exact .inl h
    refine .inr ⟨_, h, .ofP (PV.fun' (f := f) fa_ok fq_ok) (fun tmps w x hh => ?_)⟩
    have e1 : (a.toList.map (evT tmps)).toArray = a.map (evT tmps) := by apply Array.toList_inj.1; simp
    have e2 : (q.toList.map (evT tmps)).toArray = q.map (evT tmps) := by apply Array.toList_inj.1; simp
    rw [e1, e2] at hh
    exact run_NV hh
  | _ => exact .inl h
theorem opc_makeMap {t : TypeId} {r : Option Operand} (hr : RawR c.p raw) (hfl : FlOK fl dsts) (h : opK raw fl lt d (.makeMap t r) E K = true) :
    E = true ∨ ∃ a, K a = true ∧ OpR c (SG fl.ng lt D dsts) (mkO dst (.makeMap t r) ty pos af g) d a := by
  unfold opK at h
  cases r with
  | none => exact .inr ⟨_, h, .ofF FV.map (fun tmps w w' x hh => run_NV hh)⟩
  | some r => exact .inl h
theorem opc_makeSlice {t : TypeId} {x y : Operand} (hr : RawR c.p raw) (hfl : FlOK fl dsts) (hx : Asks lt D x) (hy : Asks lt D y) (h : opK raw fl lt d (.makeSlice t x y) E K = true) :
    E = true ∨ ∃ act, K act = true ∧ OpR c (SG fl.ng lt D dsts) (mkO dst (.makeSlice t x y) ty pos af g) d act := by
  unfold opK at h
  rcases argK hx hfl h with h | ⟨fx, h, fx_ok⟩
  · exact .inl h
  rcases argK hy hfl h with h | ⟨fy, h, fy_ok⟩
  · exact .inl h
  obtain ⟨ds, i, h1, h2, h⟩ := typeK_inv hr h
  cases ds with
  | slice el =>
    obtain ⟨d2, i2, h3, h4, h⟩ := typeK_inv hr h
    rw [forceNat_eq] at h
    rcases zeroK_inv hr h with h | ⟨i3, zv, z, h5, h6, h, h7, h8⟩
    · exact .inl h
    · obtain rfl := Option.some.inj (h4.symm.trans h5)
      rw [lenL_zero] at h
      rcases ifK_inv h with ⟨h9, h⟩ | ⟨_, h⟩
      · rcases ifK_inv h with ⟨h10, h⟩ | ⟨_, h⟩
        · exact .inr ⟨_, h, .ofF (FV.make h1 h4 h6 h7 h8 (Nat.eq_of_beq_eq_true h10) (Nat.le_of_ble_eq_true h9) fx_ok fy_ok) (fun tmps w w' x hh => run_NV hh)⟩
        · exact .inl h
      · exact .inl h
  | _ => exact .inl h
theorem opc_slice {t : TypeId} {x : Operand} {lo hi mx : Option Operand} (hr : RawR c.p raw) (hfl : FlOK fl dsts) (hx : Asks lt D x) (hlo : ∀ x, lo = some x → Asks lt D x)
    (hhi : ∀ x, hi = some x → Asks lt D x) (hmx : ∀ x, mx = some x → Asks lt D x) (h : opK raw fl lt d (.slice t x lo hi mx) E K = true) :
    E = true ∨ ∃ a, K a = true ∧ OpR c (SG fl.ng lt D dsts) (mkO dst (.slice t x lo hi mx) ty pos af g) d a := by
  unfold opK at h
  rcases argK hx hfl h with h | ⟨fx, h, fx_ok⟩
  · exact .inl h
  rcases argOK hlo hfl h with h | ⟨fl', h, fl'_s, fl'_ok⟩
  · exact .inl h
  rcases argOK hhi hfl h with h | ⟨fh, h, fh_s, fh_ok⟩
  · exact .inl h
  rcases argOK hmx hfl h with h | ⟨fm, h, fm_s, fm_ok⟩
  · exact .inl h
  obtain ⟨ds, i, h1, h2, h⟩ := typeK_inv hr h
  cases ds with
  | string =>
    cases fm with
    | none =>
      refine .inr ⟨_, h, .ofP (PV.slS h1 fx_ok fl'_ok fh_ok) (fun tmps w x hh => ?_)⟩
      cases mx with
      | none => exact run_NV hh
      | some mx => cases fm_s
    | some fm => exact .inl h
  | slice el =>
    obtain ⟨d2, i2, h3, h4, h⟩ := sizeK_inv hr h
    rcases ifK_inv h with ⟨_, h⟩ | ⟨h5, h⟩
    · exact .inl h
    · have hne : i2.size ≠ 0 := by rintro hh; rw [hh] at h5; cases h5
      cases fm with
      | none => exact .inr ⟨_, h, .ofP (PV.slSl h1 h4 rfl hne fx_ok fl'_ok fh_ok fm_ok (by simp)) (fun tmps w x hh => run_NV hh)⟩
      | some fm =>
        cases fh with
        | none => exact .inl h
        | some fh => exact .inr ⟨_, h, .ofP (PV.slSl h1 h4 rfl hne fx_ok fl'_ok fh_ok fm_ok (by simp)) (fun tmps w x hh => run_NV hh)⟩
  | _ => exact .inl h
theorem opc_load {t : TypeId} {x : Operand} (hr : RawR c.p raw) (hfl : FlOK fl dsts) (hx : Asks lt D x) (h : opK raw fl lt d (.load t x) E K = true) :
    E = true ∨ ∃ act, K act = true ∧ OpR c (SG fl.ng lt D dsts) (mkO dst (.load t x) ty pos af g) d act := by
  unfold opK at h
  rcases argK hx hfl h with h | ⟨fx, h, fx_ok⟩
  · exact .inl h
  obtain ⟨ds, i, h1, h2, h⟩ := sizeK_inv hr h
  rcases ifK_inv h with ⟨h5, h⟩ | ⟨h5, h⟩
  · exact .inr ⟨_, h, .ofR (RV.loadN h1 h5 h2 rfl fx_ok) (fun tmps w x hh => run_NV hh)⟩
  · exact .inr ⟨_, h, .ofR (RV.load1 h1 h5 fx_ok) (fun tmps w x hh => run_NV hh)⟩
theorem opc_store {t : TypeId} {x y : Operand} (hr : RawR c.p raw) (hfl : FlOK fl dsts) (hx : Asks lt D x) (hy : Asks lt D y) (h : opK raw fl lt d (.store t x y) E K = true) :
    E = true ∨ ∃ act, K act = true ∧ OpR c (SG fl.ng lt D dsts) (mkO dst (.store t x y) ty pos af g) d act := by
  unfold opK at h
  rcases argK hx hfl h with h | ⟨fx, h, fx_ok⟩
  · exact .inl h
  rcases argK hy hfl h with h | ⟨fy, h, fy_ok⟩
  · exact .inl h
  obtain ⟨ds, i, h1, h2, h⟩ := sizeK_inv hr h
  rcases ifK_inv h with ⟨h5, h⟩ | ⟨h5, h⟩
  · exact .inr ⟨_, h, .e _ (EV.storeN h2 rfl fx_ok fy_ok)⟩
  · rcases ifK_inv h with ⟨h6, h⟩ | ⟨_, h⟩
    · exact .inr ⟨_, h, .e _ (EV.store1 h2 (Nat.eq_of_beq_eq_true h6) fx_ok fy_ok)⟩
    · exact .inl h
theorem kdK_inv {P : Program} {ds : TypeDesc} {E : A} {K : Nat → A} (h : kdK ds E K = true) : E = true ∨ ∃ k, K k = true ∧ kindOf k (some ds) := by
  cases ds with
  | int k => exact .inr ⟨0, h, rfl⟩
  | string => exact .inr ⟨1, h, rfl⟩
  | bool => exact .inr ⟨2, h, rfl⟩
  | _ => exact .inl h
theorem opc_lookup {t : TypeId} {x y : Operand} {ok : Bool} (hr : RawR c.p raw) (hfl : FlOK fl dsts) (hx : Asks lt D x) (hy : Asks lt D y) (h : opK raw fl lt d (.lookup t x y ok) E K = true) :
    E = true ∨ ∃ act, K act = true ∧ OpR c (SG fl.ng lt D dsts) (mkO dst (.lookup t x y ok) ty pos af g) d act := by
  unfold opK at h
  rcases argK hx hfl h with h | ⟨fx, h, fx_ok⟩
  · exact .inl h
  rcases argK hy hfl h with h | ⟨fy, h, fy_ok⟩
  · exact .inl h
  obtain ⟨ds, i, h1, h2, h⟩ := typeK_inv hr h
  cases ds with
  | map kt el =>
    obtain ⟨dk, j, h3, h4, h⟩ := typeK_inv hr h
    rcases kdK_inv (P := c.p) h with h | ⟨kd, h, h5⟩
    · exact .inl h
    · rcases zeroVK_inv hr h with h | ⟨i2, zv, z, h6, h7, h, h8⟩
      · exact .inl h
      · rcases ifK_inv h with ⟨rfl, h⟩ | ⟨rfl, h⟩
        · exact .inr ⟨_, h, .ofR (RV.look h1 h3 h5 h6 h7 h8 fx_ok fy_ok) (fun tmps w x hh => run_NV hh)⟩
        · exact .inr ⟨_, h, .ofR (RV.look h1 h3 h5 h6 h7 h8 fx_ok fy_ok) (fun tmps w x hh => run_NV hh)⟩
  | _ => exact .inl h
theorem opc_mapUpdate {t : TypeId} {x y z : Operand} (hr : RawR c.p raw) (hfl : FlOK fl dsts) (hx : Asks lt D x) (hy : Asks lt D y) (hz : Asks lt D z) (h : opK raw fl lt d (.mapUpdate t x y z) E K = true) :
    E = true ∨ ∃ act, K act = true ∧ OpR c (SG fl.ng lt D dsts) (mkO dst (.mapUpdate t x y z) ty pos af g) d act := by
  unfold opK at h
  rcases argK hx hfl h with h | ⟨fx, h, fx_ok⟩
  · exact .inl h
  rcases argK hy hfl h with h | ⟨fy, h, fy_ok⟩
  · exact .inl h
  rcases argK hz hfl h with h | ⟨fz, h, fz_ok⟩
  · exact .inl h
  obtain ⟨ds, i, h1, h2, h⟩ := typeK_inv hr h
  cases ds with
  | map kt el =>
    obtain ⟨dk, j, h3, h4, h⟩ := typeK_inv hr h
    rcases kdK_inv (P := c.p) h with h | ⟨kd, h, h5⟩
    · exact .inl h
    · exact .inr ⟨_, h, .e _ (EV.mapPut h1 h3 h5 fx_ok fy_ok fz_ok)⟩
  | _ => exact .inl h
theorem opc_insert {t : TypeId} {x y z : Operand} (hr : RawR c.p raw) (hfl : FlOK fl dsts) (hx : Asks lt D x) (hy : Asks lt D y) (hz : Asks lt D z) (h : opK raw fl lt d (.insert t x y z) E K = true) :
    E = true ∨ ∃ act, K act = true ∧ OpR c (SG fl.ng lt D dsts) (mkO dst (.insert t x y z) ty pos af g) d act := by
  unfold opK at h
  rcases argK hx hfl h with h | ⟨fx, h, fx_ok⟩
  · exact .inl h
  rcases argK hy hfl h with h | ⟨fy, h, fy_ok⟩
  · exact .inl h
  rcases argK hz hfl h with h | ⟨fz, h, fz_ok⟩
  · exact .inl h
  obtain ⟨ds, i, h1, h2, h⟩ := typeK_inv hr h
  cases ds with
  | map kt el =>
    obtain ⟨dk, j, h3, h4, h⟩ := typeK_inv hr h
    rcases kdK_inv (P := c.p) h with h | ⟨kd, h, h5⟩
    · exact .inl h
    · exact .inr ⟨_, h, .e _ (EV.mapPut h1 h3 h5 fx_ok fy_ok fz_ok)⟩
  | _ => exact .inl h
theorem opc_extract {x : Operand} {i : Nat} (hr : RawR c.p raw) (hfl : FlOK fl dsts) (hx : Asks lt D x) (h : opK raw fl lt d (.extract x i) E K = true) :
    E = true ∨ ∃ act, K act = true ∧ OpR c (SG fl.ng lt D dsts) (mkO dst (.extract x i) ty pos af g) d act := by
  unfold opK at h
  rcases argK hx hfl h with h | ⟨fx, h, fx_ok⟩
  · exact .inl h
  exact .inr ⟨_, h, .ofP (PV.ext fx_ok) (fun tmps w x hh => run_NV hh)⟩
theorem opc_alloc {t : TypeId} (hr : RawR c.p raw) (hfl : FlOK fl dsts)  (h : opK raw fl lt d (.alloc t) E K = true) :
    E = true ∨ ∃ act, K act = true ∧ OpR c (SG fl.ng lt D dsts) (mkO dst (.alloc t) ty pos af g) d act := by
  unfold opK at h
  obtain ⟨ds, i, h1, h2, h⟩ := sizeK_inv hr h
  rcases zeroK_inv hr h with h | ⟨i2, zv, z, h3, h4, h, h5, h6⟩
  · exact .inl h
  · rcases ifK_inv h with ⟨_, h⟩ | ⟨_, h⟩
    · exact .inr ⟨_, h, .ofF (FV.alloc h3 h4 h5 h6) (fun tmps w w' x hh => run_NV hh)⟩
    · rw [lenL_zero] at h
      rcases ifK_inv h with ⟨h9, h⟩ | ⟨_, h⟩
      · have h9 := Nat.eq_of_beq_eq_true h9
        obtain ⟨b, h8, l, h⟩ := makeB_inv h (by omega)
        exact .inr ⟨_, h, .ofF (FV.allocB h3 h4 h5 h6 (by omega) h8) (fun tmps w w' x hh => run_NV hh)⟩
      · exact .inl h
theorem opc_box {t : TypeId} {x : Operand} (hr : RawR c.p raw) (hfl : FlOK fl dsts) (hx : Asks lt D x) (h : opK raw fl lt d (.box t x) E K = true) :
    E = true ∨ ∃ act, K act = true ∧ OpR c (SG fl.ng lt D dsts) (mkO dst (.box t x) ty pos af g) d act := by
  unfold opK at h
  rcases argK hx hfl h with h | ⟨fx, h, fx_ok⟩
  · exact .inl h
  obtain ⟨ds, i, h1, h2, h⟩ := sizeK_inv hr h
  rcases ifK_inv h with ⟨h5, h⟩ | ⟨h5, h⟩
  · exact .inr ⟨_, h, .ofF (FV.boxN fx_ok) (fun tmps w w' x hh => run_NV hh)⟩
  · exact .inr ⟨_, h, .ofF (FV.box1 fx_ok) (fun tmps w w' x hh => run_NV hh)⟩
theorem EqsOK.of {P : Program} {eqs : List Nat} (h : ∀ t ∈ eqs, eqType P t = true ∧ P.eqGuardType P.depth t = false) {t : Nat} (hh : hasN t eqs = true) : eqType P t = true ∧ P.eqGuardType P.depth t = false := by
  induction eqs with
  | nil => cases hh
  | cons u r ih =>
    have hh : (bif Nat.beq u t then true else hasN t r) = true := hh
    cases hb : Nat.beq u t with
    | true => have := Nat.eq_of_beq_eq_true hb; subst this; exact h u (by simp)
    | false => rw [hb] at hh; exact ih (fun v hv => h v (by simp [hv])) hh
theorem kindsK_inv {P : Program} (hr : RawR P raw) : ∀ {fs : List Field} {n : Nat} {K : List Nat → A}, flatFs P fs n = true → kindsK raw E fs K = true → E = true ∨ ∃ ks, K ks = true ∧ kindsOf P ks fs n
  | [], n, K, _, h => .inr ⟨[], h, trivial⟩
  | f :: r, n, K, hf, h => by
    simp only [flatFs, Bool.and_eq_true] at hf
    obtain ⟨⟨⟨f1, f2⟩, f3⟩, f4⟩ := hf
    obtain ⟨dd, i, h1, h2, h⟩ := typeK_inv hr h
    have fin : ∀ k, kindOf k (P.underlying f.type) → kindsK raw E r (fun l => K (k :: l)) = true → E = true ∨ ∃ ks, K ks = true ∧ kindsOf P ks (f :: r) n := by
      intro k hk h
      rcases kindsK_inv hr f4 h with h | ⟨ks, h, hks⟩
      · exact .inl h
      · exact .inr ⟨_, h, hk, by simpa using f1, by simpa using f2, hks⟩
    cases dd with
    | int k => exact fin 0 (by rw [h1]; rfl) h
    | string => exact fin 1 (by rw [h1]; rfl) h
    | bool => exact fin 2 (by rw [h1]; rfl) h
    | _ => exact .inl h
theorem eqType_struct {P : Program} {t : TypeId} {fs : Array Field} (ht : P.underlying t = some (.struct fs)) (h : eqType P t = true) : P.stoodInHeld t = false ∧ flatFs P fs.toList 0 = true := by
  simp only [eqType, ht, Bool.and_eq_true] at h
  exact ⟨by simpa using h.1, h.2⟩
theorem nilC_1 {y : Operand} (h : Nat.beq (nilC y) 1 = true) (tmps : Array Value) : evT tmps y = .pointer none := by
  have h := Nat.eq_of_beq_eq_true h
  unfold nilC at h
  split at h <;> first | rfl | cases h
theorem nilC_2 {y : Operand} (h : Nat.beq (nilC y) 2 = true) : ∃ n q, ∀ tmps : Array Value, evT tmps y = .slice none n q := by
  have h := Nat.eq_of_beq_eq_true h
  unfold nilC at h
  split at h <;> first | exact ⟨_, _, fun _ => rfl⟩ | cases h
theorem nilC_3 {y : Operand} (h : Nat.beq (nilC y) 3 = true) (tmps : Array Value) : evT tmps y = .map none := by
  have h := Nat.eq_of_beq_eq_true h
  unfold nilC at h
  split at h <;> first | rfl | cases h
theorem nilC_4 {y : Operand} (h : Nat.beq (nilC y) 4 = true) (tmps : Array Value) : evT tmps y = .nilFunc := by
  have h := Nat.eq_of_beq_eq_true h
  unfold nilC at h
  split at h <;> first | rfl | cases h
theorem nilC_5 {y : Operand} (h : Nat.beq (nilC y) 5 = true) : y = .const .nilIface := by
  have h := Nat.eq_of_beq_eq_true h
  unfold nilC at h
  split at h <;> first | rfl | cases h
theorem binK_inv {P : Program} {S : Srel} (hr : RawR P raw) {eqs : List Nat} (hq : ∀ t ∈ eqs, eqType P t = true ∧ P.eqGuardType P.depth t = false) {op : BinOp} {t : TypeId} {ds : TypeDesc} {x y : Operand} {fx fy : Opd} {K : Opd → A}
    (ht : P.underlying t = some ds) (hx : OOK S fx (fun tmps => evT tmps x)) (hy : OOK S fy (fun tmps => evT tmps y)) (h : binK raw E op ds (hasN t eqs) (nilC x) (nilC y) fx fy K = true) :
    E = true ∨ ∃ f, K f = true ∧ PV P S f (fun tmps => binS op t x y (evT tmps x) (evT tmps y)) := by
  have st : ∀ {fs : Array Field} {neg : Bool} {op : BinOp}, (op = if neg then .neq else .eql) → ds = .struct fs → ifK (kindsK raw E fs.toList fun ks => K (aEqA ks neg fx fy)) E (hasN t eqs) = true →
      E = true ∨ ∃ f, K f = true ∧ PV P S f (fun tmps => binS op t x y (evT tmps x) (evT tmps y)) := by
    intro fs neg op ho hds hh
    subst hds
    rcases ifK_inv hh with ⟨h1, hh⟩ | ⟨_, hh⟩
    · obtain ⟨h2, h3⟩ := EqsOK.of hq h1
      obtain ⟨h4, h5⟩ := eqType_struct ht h2
      rcases kindsK_inv hr h5 hh with hh | ⟨ks, hh, hks⟩
      · exact .inl hh
      · exact .inr ⟨_, hh, PV.eqA ht h4 h3 hks ho hx hy⟩
    · exact .inl hh
  have np : ∀ {el : TypeId} {neg : Bool} {op : BinOp}, (op = if neg then .neq else .eql) → ds = .pointer el → ifK (K (aNilP neg fx)) (ifK (K (aNilP neg fy)) E (Nat.beq (nilC x) 1)) (Nat.beq (nilC y) 1) = true →
      E = true ∨ ∃ f, K f = true ∧ PV P S f (fun tmps => binS op t x y (evT tmps x) (evT tmps y)) := by
    intro el neg op ho hds hh
    subst hds
    rcases ifK_inv hh with ⟨h1, hh⟩ | ⟨_, hh⟩
    · refine .inr ⟨_, hh, ?_⟩
      have := PV.nilP (P := P) (S := S) (xo := x) (yo := y) ⟨el, ht⟩ ho hx
      simp only [nilC_1 h1]
      exact this
    · rcases ifK_inv hh with ⟨h1, hh⟩ | ⟨_, hh⟩
      · refine .inr ⟨_, hh, ?_⟩
        have := PV.nilP' (P := P) (S := S) (xo := x) (yo := y) ⟨el, ht⟩ ho hy
        simp only [nilC_1 h1]
        exact this
      · exact .inl hh
  have ns : ∀ {el : TypeId} {neg : Bool} {op : BinOp}, (op = if neg then .neq else .eql) → ds = .slice el → ifK (K (aNilS neg fx)) E (Nat.beq (nilC y) 2) = true →
      E = true ∨ ∃ f, K f = true ∧ PV P S f (fun tmps => binS op t x y (evT tmps x) (evT tmps y)) := by
    intro el neg op ho hds hh
    subst hds
    rcases ifK_inv hh with ⟨h1, hh⟩ | ⟨_, hh⟩
    · refine .inr ⟨_, hh, ?_⟩
      obtain ⟨n, q, h2⟩ := nilC_2 h1
      have := PV.nilS (P := P) (S := S) (xo := x) (yo := y) ⟨el, ht⟩ ho hx (n := n) (c := q)
      simp only [h2]
      exact this
    · exact .inl hh
  have nm : ∀ {k el : TypeId} {neg : Bool} {op : BinOp}, (op = if neg then .neq else .eql) → ds = .map k el → ifK (K (aNilM neg fx)) E (Nat.beq (nilC y) 3) = true →
      E = true ∨ ∃ f, K f = true ∧ PV P S f (fun tmps => binS op t x y (evT tmps x) (evT tmps y)) := by
    intro k el neg op ho hds hh
    subst hds
    rcases ifK_inv hh with ⟨h1, hh⟩ | ⟨_, hh⟩
    · refine .inr ⟨_, hh, ?_⟩
      have := PV.nilM (P := P) (S := S) (xo := x) (yo := y) ⟨k, el, ht⟩ ho hx
      simp only [nilC_3 h1]
      exact this
    · exact .inl hh
  have nf : ∀ {a b : Array TypeId} {r neg : Bool} {op : BinOp}, (op = if neg then .neq else .eql) → ds = .func a b r → ifK (K (aNilF neg fx)) E (Nat.beq (nilC y) 4) = true →
      E = true ∨ ∃ f, K f = true ∧ PV P S f (fun tmps => binS op t x y (evT tmps x) (evT tmps y)) := by
    intro a b r neg op ho hds hh
    subst hds
    rcases ifK_inv hh with ⟨h1, hh⟩ | ⟨_, hh⟩
    · refine .inr ⟨_, hh, ?_⟩
      have := PV.nilF (P := P) (S := S) (xo := x) (yo := y) ⟨a, b, r, ht⟩ ho hx
      simp only [nilC_4 h1]
      exact this
    · exact .inl hh
  have ni : ∀ {ms : Array (String × TypeId)} {neg : Bool} {op : BinOp}, (op = if neg then .neq else .eql) → ds = .interface ms → ifK (K (aNilI neg fx)) E (Nat.beq (nilC y) 5) = true →
      E = true ∨ ∃ f, K f = true ∧ PV P S f (fun tmps => binS op t x y (evT tmps x) (evT tmps y)) := by
    intro ms neg op ho hds hh
    subst hds
    rcases ifK_inv hh with ⟨h1, hh⟩ | ⟨_, hh⟩
    · refine .inr ⟨_, hh, ?_⟩
      have h2 := nilC_5 h1
      subst h2
      exact PV.nilI (P := P) (S := S) (xo := x) (yo := .const .nilIface) ⟨ms, ht⟩ ho hx ⟨_, rfl⟩
    · exact .inl hh
  cases ds with
  | int k =>
    cases op with
    | add => exact .inr ⟨_, h, PV.int2 hx hy bin_add⟩
    | sub => exact .inr ⟨_, h, PV.int2 hx hy bin_sub⟩
    | mul => exact .inr ⟨_, h, PV.int2 hx hy bin_mul⟩
    | quo => exact .inr ⟨_, h, PV.div hx hy⟩
    | rem => exact .inr ⟨_, h, PV.rem hx hy⟩
    | and => exact .inr ⟨_, h, PV.and hx hy⟩
    | or => exact .inr ⟨_, h, PV.bits hx hy bin_or⟩
    | xor => exact .inr ⟨_, h, PV.bits hx hy bin_xor⟩
    | shl => exact .inr ⟨_, h, PV.shl hx hy⟩
    | eql => exact .inr ⟨_, h, PV.cmp hx hy bin_eql⟩
    | neq => exact .inr ⟨_, h, PV.cmp hx hy bin_neq⟩
    | lss => exact .inr ⟨_, h, PV.lss hx hy⟩
    | leq => exact .inr ⟨_, h, PV.cmp hx hy bin_leq⟩
    | gtr => exact .inr ⟨_, h, PV.cmp hx hy bin_gtr⟩
    | geq => exact .inr ⟨_, h, PV.cmp hx hy bin_geq⟩
    | _ => exact .inl h
  | string =>
    cases op with
    | add => exact .inr ⟨_, h, PV.cat hx hy⟩
    | eql => exact .inr ⟨_, h, PV.eqS (neg := false) rfl hx hy⟩
    | neq => exact .inr ⟨_, h, PV.eqS (neg := true) rfl hx hy⟩
    | _ => exact .inl h
  | bool =>
    cases op with
    | eql => exact .inr ⟨_, h, PV.eqB (neg := false) ht rfl hx hy⟩
    | neq => exact .inr ⟨_, h, PV.eqB (neg := true) ht rfl hx hy⟩
    | _ => exact .inl h
  | pointer el =>
    cases op with
    | eql => exact np (neg := false) rfl rfl h
    | neq => exact np (neg := true) rfl rfl h
    | _ => exact .inl h
  | slice el =>
    cases op with
    | eql => exact ns (neg := false) rfl rfl h
    | neq => exact ns (neg := true) rfl rfl h
    | _ => exact .inl h
  | map k el =>
    cases op with
    | eql => exact nm (neg := false) rfl rfl h
    | neq => exact nm (neg := true) rfl rfl h
    | _ => exact .inl h
  | func a b r =>
    cases op with
    | eql => exact nf (neg := false) rfl rfl h
    | neq => exact nf (neg := true) rfl rfl h
    | _ => exact .inl h
  | interface ms =>
    cases op with
    | eql => exact ni (neg := false) rfl rfl h
    | neq => exact ni (neg := true) rfl rfl h
    | _ => exact .inl h
  | struct fs =>
    cases op with
    | eql => exact st (neg := false) rfl rfl h
    | neq => exact st (neg := true) rfl rfl h
    | _ => exact .inl h
  | _ => exact .inl h
theorem opc_binOp {op : BinOp} {t yt : TypeId} {x y : Operand} (hr : RawR c.p raw) (hq : ∀ t ∈ fl.eqs, eqType c.p t = true ∧ c.p.eqGuardType c.p.depth t = false) (hfl : FlOK fl dsts) (hx : Asks lt D x) (hy : Asks lt D y) (h : opK raw fl lt d (.binOp op t x y yt) E K = true) :
    E = true ∨ ∃ a, K a = true ∧ OpR c (SG fl.ng lt D dsts) (mkO dst (.binOp op t x y yt) ty pos af g) d a := by
  unfold opK at h
  obtain ⟨ds, i, h1, h2, h⟩ := typeK_inv hr h
  rcases argK hx hfl h with h | ⟨fx, h, fx_ok⟩
  · exact .inl h
  rcases argK hy hfl h with h | ⟨fy, h, fy_ok⟩
  · exact .inl h
  rcases binK_inv hr hq h1 fx_ok fy_ok h with h | ⟨f, h, hf⟩
  · exact .inl h
  · exact .inr ⟨_, h, .ofP hf (fun tmps w x hh => run_NV hh)⟩
/-- parts of an aggregate -/
theorem partsK_inv {P : Program} (hr : RawR P raw) (hfl : FlOK fl dsts) {place : Nat → (Nat → TypeId → A) → A} {pl : Nat → Option (Nat × Nat)}
    (hp : ∀ i (K : Nat → TypeId → A), place i K = true → E = true ∨ ∃ off t, K off t = true ∧ ∀ inf, P.info? t = some inf → pl i = some (off, inf.size)) :
    ∀ {ps : List (Nat × Operand)} {K : List Part → A}, (∀ q ∈ ps, Asks lt D q.2) → partsK raw fl lt E place ps K = true → E = true ∨ ∃ parts, K parts = true ∧ PartsOK (SG fl.ng lt D dsts) pl parts (ps.map fun q => (q.1, fun tmps => evT tmps q.2))
  | [], K, _, h => .inr ⟨[], h, .nil⟩
  | (i, x) :: r, K, ha, h => by
    have hx := ha (i, x) (by simp)
    rcases argK hx hfl h with h | ⟨f, h, hf⟩
    · exact .inl h
    rcases hp i _ h with h | ⟨off, t, h, hpl⟩
    · exact .inl h
    obtain ⟨d2, i2, h3, h4, h⟩ := sizeK_inv hr h
    rw [forceNat_eq] at h
    rcases partsK_inv hr hfl hp (fun q hq => ha q (by simp [hq])) h with h | ⟨parts, h, hps⟩
    · exact .inl h
    rcases ifK_inv h with ⟨_, h⟩ | ⟨_, h⟩
    · exact .inr ⟨_, h, .cons _ _ _ _ _ (.many _ _ _ _ _ hf (hpl i2 h4)) hps⟩
    · rcases ifK_inv h with ⟨h6, h⟩ | ⟨_, h⟩
      · have h6 := Nat.eq_of_beq_eq_true h6
        exact .inr ⟨_, h, .cons _ _ _ _ _ (.one _ _ _ _ hf (by rw [hpl i2 h4, h6])) hps⟩
      · exact .inl h
theorem parts_eq (ps : Array (Nat × Operand)) (tmps : Array Value) : ((ps.toList.map fun q => (q.1, fun tmps => evT tmps q.2)).map fun p => (p.1, p.2 tmps)).toArray = ps.map fun (i, x) => (i, evT tmps x) := by
  apply Array.toList_inj.1; simp
theorem opc_build {t : TypeId} {ps : Array (Nat × Operand)} (hr : RawR c.p raw) (hi : ∀ i ∈ c.p.types.toList, ∀ fs : Array Field, i.desc = .struct fs → ∀ f ∈ fs.toList, ∃ j, c.p.info? f.type = some j) (hfl : FlOK fl dsts) (ha : ∀ q ∈ ps.toList, Asks lt D q.2) (h : opK raw fl lt d (.build t ps) E K = true) :
    E = true ∨ ∃ a, K a = true ∧ OpR c (SG fl.ng lt D dsts) (mkO dst (.build t ps) ty pos af g) d a := by
  unfold opK at h
  rcases zeroK_inv hr h with h | ⟨i, zv, z, h1, h2, h, h3, h4⟩
  · exact .inl h
  obtain ⟨ds, i2, h5, h6, h, jt, hj1, hj2⟩ := typeK_from hr h
  obtain rfl := Option.some.inj (h1.symm.trans h6)
  cases ds with
  | struct fs =>
    have hpl : ∀ (i : Nat) (K : Nat → TypeId → A), (match (fs.toList[i]? : Option Field) with | some f => K f.offset f.type | none => E) = true → E = true ∨ ∃ off t, K off t = true ∧ ∀ inf, c.p.info? t = some inf → (fs.map fun f : Field => (f.offset, ((c.p.info? f.type).map (·.size)).getD 0))[i]? = some (off, inf.size) := by
      intro i K h
      cases hf : fs.toList[i]? with
      | none => rw [hf] at h; exact .inl h
      | some f =>
        rw [hf] at h
        refine .inr ⟨_, _, h, fun inf hinf => ?_⟩
        rw [Array.getElem?_toList] at hf
        simp [hf, hinf]
    rcases partsK_inv (P := c.p) hr hfl hpl ha h with h | ⟨parts, h, hps⟩
    · exact .inl h
    · refine .inr ⟨_, h, .ofP (PV.buildS h5 h1 h2 h3 h4 (hi jt hj1 fs hj2) hps) (fun tmps w x hh => ?_)⟩
      rw [parts_eq] at hh
      exact run_NV hh
  | array n el =>
    obtain ⟨d3, i3, h7, h8, h⟩ := sizeK_inv hr h
    rcases partsK_inv (P := c.p) (pl := fun k => some (k * i3.size, i3.size)) hr hfl (fun i K h => .inr ⟨_, _, h, fun inf hinf => by obtain rfl := Option.some.inj (h8.symm.trans hinf); rfl⟩) ha h with h | ⟨parts, h, hps⟩
    · exact .inl h
    · refine .inr ⟨_, h, .ofP (PV.buildA h5 h1 h2 h3 h4 h8 hps) (fun tmps w x hh => ?_)⟩
      rw [parts_eq] at hh
      exact run_NV hh
  | _ => exact .inl h
theorem opc_buildSlice {t : TypeId} {n : Nat} {ps : Array (Nat × Operand)} (hr : RawR c.p raw) (hfl : FlOK fl dsts) (ha : ∀ q ∈ ps.toList, Asks lt D q.2) (h : opK raw fl lt d (.buildSlice t n ps) E K = true) :
    E = true ∨ ∃ a, K a = true ∧ OpR c (SG fl.ng lt D dsts) (mkO dst (.buildSlice t n ps) ty pos af g) d a := by
  unfold opK at h
  obtain ⟨ds, i2, h5, h6, h⟩ := typeK_inv hr h
  cases ds with
  | slice el =>
    obtain ⟨d3, i3, h7, h8, h⟩ := sizeK_inv hr h
    rcases zeroK_inv hr h with h | ⟨i, zv, z, h1, h2, h, h3, h4⟩
    · exact .inl h
    obtain rfl := Option.some.inj (h8.symm.trans h1)
    rw [lenL_zero] at h
    rcases ifK_inv h with ⟨h9, h⟩ | ⟨_, h⟩
    · rcases ifK_inv h with ⟨h10, h⟩ | ⟨_, h⟩
      · rw [forceNat_eq, timesL_eq] at h
        rcases partsK_inv (P := c.p) (pl := fun k => some (k * i3.size, i3.size)) hr hfl (fun i K h => .inr ⟨_, _, h, fun inf hinf => by obtain rfl := Option.some.inj (h8.symm.trans hinf); rfl⟩) ha h with h | ⟨parts, h, hps⟩
        · exact .inl h
        · refine .inr ⟨_, h, .ofF (FV.slice h5 h8 h2 h3 h4 (Nat.eq_of_beq_eq_true h10) (Nat.le_of_ble_eq_true h9) hps) (fun tmps w w' x hh => ?_)⟩
          rw [parts_eq] at hh
          exact run_NV hh
      · exact .inl h
    · exact .inl h
  | _ => exact .inl h
theorem opc_typeAssert {x : Operand} {t a : TypeId} {ok : Bool} (hr : RawR c.p raw) (hfl : FlOK fl dsts) (hx : Asks lt D x) (h : opK raw fl lt d (.typeAssert x t a ok) E K = true) :
    E = true ∨ ∃ a', K a' = true ∧ OpR c (SG fl.ng lt D dsts) (mkO dst (.typeAssert x t a ok) ty pos af g) d a' := by
  cases ok with
  | false => exact .inl h
  | true =>
    unfold opK at h
    rcases argK hx hfl h with h | ⟨fx, h, fx_ok⟩
    · exact .inl h
    obtain ⟨ds, i, h1, h2, h⟩ := typeK_inv hr h
    have fin : (∀ ms, ds ≠ .interface ms) → zeroVK raw a (fun z => K (.p (aTA a z fx) d)) E = true → E = true ∨ ∃ a', K a' = true ∧ OpR c (SG fl.ng lt D dsts) (mkO dst (.typeAssert x t a true) ty pos af g) d a' := by
      intro hn h
      rcases zeroVK_inv hr h with h | ⟨i2, zv, z, h3, h4, h, h5⟩
      · exact .inl h
      · exact .inr ⟨_, h, .ofP (PV.ta h1 hn h3 h4 h5 fx_ok) (fun tmps w x hh => run_NV hh)⟩
    cases ds with
    | interface ms => exact .inl h
    | _ => exact fin (by intro ms hh; cases hh) h
theorem EV.congr {S : Srel} {g : EfA} {s s' : Array Value → Sem Next} (h : EV c S g s) (he : ∀ tmps w, (s' tmps).run c.p w = (s tmps).run c.p w) : EV c S g s' := by
  intro loc vs H N K X hk
  rcases h loc vs H N K X hk with ⟨v, H', N', h1, h2, h3⟩ | ⟨nx, h1, h2⟩
  · exact .inl ⟨v, H', N', h1, h2, fun e tmps w hS hW => by rw [he]; exact h3 e tmps w hS hW⟩
  · exact .inr ⟨nx, h1, fun e tmps w hS hW => by rw [he]; exact h2 e tmps w hS hW⟩
/-- operands one by one -/
inductive OsL (S : Srel) : List Opd → List Operand → Prop
  | nil : OsL S [] []
  | cons (f : Opd) (x : Operand) (fs : List Opd) (xs : List Operand) (h : OOK S f (fun tmps => evT tmps x)) (t : OsL S fs xs) : OsL S (f :: fs) (x :: xs)
theorem OsL.ok {S : Srel} : ∀ {fs : List Opd} {xs : List Operand}, OsL S fs xs → OsOK S fs (fun tmps => xs.map (evT tmps))
  | _, _, .nil => OsOK.nil
  | _, _, .cons _ _ _ _ h t => OsOK.cons h t.ok
theorem opdsK_inv' (hfl : FlOK fl dsts) : ∀ {xs : List Operand} {K : List Opd → A}, (∀ x ∈ xs, Asks lt D x) → opdsK fl lt E xs K = true → E = true ∨ ∃ fs, K fs = true ∧ OsL (SG fl.ng lt D dsts) fs xs
  | [], K, _, h => .inr ⟨[], h, OsL.nil⟩
  | x :: r, K, hD, h => by
    have h : opdK fl lt E x (fun x => opdsK fl lt E r fun l => K (x :: l)) = true := h
    rcases argK (hD x (by simp)) hfl h with h | ⟨f, h1, h2⟩
    · exact .inl h
    · rcases opdsK_inv' hfl (fun x hx => hD x (by simp [hx])) h1 with h | ⟨fs, h3, h4⟩
      · exact .inl h
      · exact .inr ⟨_, h3, .cons _ _ _ _ h2 h4⟩
theorem args_eq (args : Array Operand) (tmps : Array Value) : (args.toList.map (evT tmps)).toArray = args.map (evT tmps) := by apply Array.toList_inj.1; simp
end
end Go.AM
