/- What the compiler makes of types, constants and operands. -/
import Derived.Test.YtnekfilglnfgkaaGreatDoorAmDefC
set_option autoImplicit false
set_option linter.unusedVariables false
set_option linter.unusedSimpArgs false
namespace Go.AM
/-- a table of a program's types -/
def RawR (P : Program) (raw : Tr TypeInfo) : Prop := ∀ p i, raw.get p = some i → P.types[p.toNat - 1]? = some i
section
variable {P : Program} {raw : Tr TypeInfo}
theorem raw_from {t : TypeId} {K : TypeInfo → A} {n : Nat} (hr : RawR P raw) (h : pathK t (fun p => getT (F n) K p raw) = true) : ∃ i, P.info? t = some i ∧ K i = true ∧ i ∈ P.types.toList := by
  obtain ⟨p, h1, h2⟩ := pathK_inv h
  obtain ⟨i, h3, h4⟩ := getT_F h2
  have := hr p i h3
  rw [h1, Nat.add_sub_cancel] at this
  have hlt : t < P.types.size := by
    rcases Nat.lt_or_ge t P.types.size with hh | hh
    · exact hh
    · rw [Array.getElem?_eq_none hh] at this; cases this
  exact ⟨i, by rw [Tables.info?, if_pos hlt]; exact this, h4, Array.mem_toList_iff.2 (Array.mem_of_getElem? this)⟩
theorem raw_at {t : TypeId} {K : TypeInfo → A} {n : Nat} (hr : RawR P raw) (h : pathK t (fun p => getT (F n) K p raw) = true) : ∃ i, P.info? t = some i ∧ K i = true := by
  obtain ⟨p, h1, h2⟩ := pathK_inv h
  obtain ⟨i, h3, h4⟩ := getT_F h2
  have := hr p i h3
  rw [h1, Nat.add_sub_cancel] at this
  have hlt : t < P.types.size := by
    rcases Nat.lt_or_ge t P.types.size with hh | hh
    · exact hh
    · rw [Array.getElem?_eq_none hh] at this; cases this
  exact ⟨i, by rw [Tables.info?, if_pos hlt]; exact this, h4⟩
theorem typeK_from (hr : RawR P raw) {t : TypeId} {K : TypeDesc → TypeInfo → A} (h : typeK raw t K = true) : ∃ d i, P.underlying t = some d ∧ P.info? t = some i ∧ K d i = true ∧ ∃ j ∈ P.types.toList, j.desc = d := by
  obtain ⟨i, h1, h2, h0⟩ := raw_from hr h
  obtain ⟨d, str, size, bytes, hp, al, fal, zero, cmp, ms⟩ := i
  cases d with
  | named a u =>
    obtain ⟨j, h3, h4, h5⟩ := raw_from hr h2
    exact ⟨j.desc, _, by simp [Program.underlying, h1, h3], h1, h4, j, h5, rfl⟩
  | _ => exact ⟨_, _, by simp [Program.underlying, h1], h1, h2, _, h0, rfl⟩
theorem typeK_inv (hr : RawR P raw) {t : TypeId} {K : TypeDesc → TypeInfo → A} (h : typeK raw t K = true) : ∃ d i, P.underlying t = some d ∧ P.info? t = some i ∧ K d i = true := by
  obtain ⟨i, h1, h2⟩ := raw_at hr h
  obtain ⟨d, str, size, bytes, hp, al, fal, zero, cmp, ms⟩ := i
  cases d with
  | named a u =>
    obtain ⟨j, h3, h4⟩ := raw_at hr h2
    exact ⟨j.desc, _, by simp [Program.underlying, h1, h3], h1, h4⟩
  | _ => exact ⟨_, _, by simp [Program.underlying, h1], h1, h2⟩
theorem sizeK_inv (hr : RawR P raw) {t : TypeId} {K : Nat → Bool → A} (h : sizeK raw t K = true) : ∃ d i, P.underlying t = some d ∧ P.info? t = some i ∧ K i.size (aggD d) = true := by
  obtain ⟨d, i, h1, h2, h3⟩ := typeK_inv hr h
  rw [forceNat_eq] at h3
  refine ⟨d, i, h1, h2, ?_⟩
  cases d <;> exact h3
theorem strN_bytes : ∀ l : List UInt8, bytesL l.length (strN l) = l ∧ strN l < 256 ^ l.length
  | [] => ⟨rfl, Nat.lt_of_lt_of_le Nat.zero_lt_one (Nat.le_refl _)⟩
  | b :: l => by
    obtain ⟨h1, h2⟩ := strN_bytes l
    have hb := b.toNat_lt
    have e1 : (b.toNat + 256 * strN l) % 256 = b.toNat := by omega
    have e2 : (b.toNat + 256 * strN l) / 256 = strN l := by omega
    refine ⟨?_, ?_⟩
    · simp only [List.length_cons, bytesL, strN, e1, e2, h1]
      congr 1
      exact UInt8.ofNat_toNat
    · simp only [List.length_cons, strN, Nat.pow_succ]
      omega
theorem const1K_inv {K : V → A} {x : Value} {E : A} (h : const1K K x E = true) : E = true ∨ ∃ v, K v = true ∧ ∀ e, VR e v x := by
  cases x with
  | bool b => cases b <;> exact .inr ⟨_, h, fun e => .bool _⟩
  | int k n =>
    have h : forceInt (fun n => K (.int k n)) n = true := h
    rw [forceInt_eq] at h
    exact .inr ⟨_, h, fun e => .int _ _⟩
  | float k b => exact .inl h
  | complex k a b => exact .inl h
  | string s =>
    have h : forceNat (fun n => forceNat (fun v => K (.str n v)) (strN s.data.toList)) s.size = true := h
    rw [forceNat_eq, forceNat_eq] at h
    obtain ⟨h1, h2⟩ := strN_bytes s.data.toList
    have hl : s.data.toList.length = s.size := by rw [Array.length_toList]; rfl
    rw [hl] at h1 h2
    exact .inr ⟨_, h, fun e => .str _ _ _ h1.symm h2⟩
  | pointer a =>
    cases a with
    | none => exact .inr ⟨_, h, fun e => .nptr⟩
    | some a => exact .inl h
  | slice a n c =>
    cases a with
    | some a => exact .inl h
    | none =>
      cases n with
      | zero => cases c with
        | zero => exact .inr ⟨_, h, fun e => .nslc⟩
        | succ c => exact .inl h
      | succ n => exact .inl h
  | map r =>
    cases r with
    | none => exact .inr ⟨_, h, fun e => .nmap⟩
    | some a => exact .inl h
  | chan r => exact .inl h
  | func fn a c =>
    cases fn with
    | func f =>
      have h : ifK (K (.fn f [] [])) E (Nat.beq (a.size + c.size) 0) = true := h
      rcases ifK_inv h with ⟨h1, h2⟩ | ⟨h1, h2⟩
      · have := Nat.eq_of_beq_eq_true h1
        have ha : a = #[] := Array.eq_empty_of_size_eq_zero (by omega)
        have hc : c = #[] := Array.eq_empty_of_size_eq_zero (by omega)
        subst ha hc
        exact .inr ⟨_, h2, fun e => .fn _ _ _ _ _ .nil .nil⟩
      · exact .inl h2
    | _ => exact .inl h
  | nilFunc => exact .inr ⟨_, h, fun e => .nfn⟩
  | iface t v => exact .inl h
  | nilIface => exact .inr ⟨_, h, fun e => .nifc⟩
  | agg cs => exact .inl h
  | tuple vs =>
    have h : ifK (K .und) E (Nat.beq vs.size 0) = true := h
    rcases ifK_inv h with ⟨h1, h2⟩ | ⟨h1, h2⟩
    · have ha : vs = #[] := Array.eq_empty_of_size_eq_zero (Nat.eq_of_beq_eq_true h1)
      subst ha
      exact .inr ⟨_, h2, fun e => .und⟩
    · exact .inl h2
theorem constsK_inv {E : A} : ∀ {xs : List Value} {K : List V → A}, constsK E xs K = true → E = true ∨ ∃ vs, K vs = true ∧ (∀ e, VRs e vs xs) ∧ Ones xs
  | [], K, h => .inr ⟨[], h, fun e => .nil, by simp [Ones]⟩
  | x :: r, K, h => by
    have h : const1K (fun v => V.one (constsK E r fun l => K (v :: l)) v) x E = true := h
    rcases const1K_inv h with h | ⟨v, h1, h2⟩
    · exact .inl h
    · obtain ⟨h3, h4⟩ := V.one_inv h1
      rcases constsK_inv h3 with h | ⟨vs, h5, h6, h7⟩
      · exact .inl h
      · refine .inr ⟨_, h5, fun e => .cons _ _ _ _ (h2 e) (h6 e), fun y hy => ?_⟩
        rcases List.mem_cons.1 hy with rfl | hy
        · exact h4 (h2 fun _ => none)
        · exact h7 y hy
theorem constK_inv {K : V → A} {x : Value} {E : A} (h : constK K x E = true) : E = true ∨ ∃ v, K v = true ∧ ∀ e, VR e v x := by
  cases x with
  | agg cs =>
    have h : constsK E cs.toList (fun l => K (.agg l)) = true := h
    rcases constsK_inv h with h | ⟨vs, h1, h2, h3⟩
    · exact .inl h
    · exact .inr ⟨_, h1, fun e => .agg _ _ (h2 e) h3⟩
  | _ => exact const1K_inv h
theorem zeroK_inv (hr : RawR P raw) {t : TypeId} {K : List V → A} {E : A} (h : zeroK raw t K E = true) :
    E = true ∨ ∃ i zv z, P.info? t = some i ∧ i.zero = some zv ∧ K z = true ∧ (∀ e, VRs e z zv.cells.toList) ∧ Ones zv.cells.toList := by
  obtain ⟨i, h1, h2⟩ := raw_at hr h
  cases hz : i.zero with
  | none => rw [hz] at h2; exact .inl h2
  | some zv =>
    rw [hz] at h2
    have one : ∀ x : Value, const1K (fun v => V.one (K [v]) v) x E = true → x = zv → E = true ∨ ∃ i zv z, P.info? t = some i ∧ i.zero = some zv ∧ K z = true ∧ (∀ e, VRs e z zv.cells.toList) ∧ Ones zv.cells.toList := by
      intro x hx hxz
      subst hxz
      rcases const1K_inv hx with h | ⟨v, h3, h4⟩
      · exact .inl h
      · obtain ⟨h5, h6⟩ := V.one_inv h3
        have ho := h6 (h4 fun _ => none)
        refine .inr ⟨i, _, [v], h1, hz, h5, fun e => ?_, ?_⟩
        · rw [oneCell_cells ho]; exact .cons _ _ _ _ (h4 e) .nil
        · rw [oneCell_cells ho]; intro y hy; simp at hy; subst hy; exact ho
    cases zv with
    | agg cs =>
      rcases constsK_inv h2 with h | ⟨vs, h3, h4, h5⟩
      · exact .inl h
      · exact .inr ⟨i, _, vs, h1, hz, h3, h4, h5⟩
    | _ => exact one _ h2 rfl
theorem zeroVK_inv (hr : RawR P raw) {t : TypeId} {K : V → A} {E : A} (h : zeroVK raw t K E = true) :
    E = true ∨ ∃ i zv z, P.info? t = some i ∧ i.zero = some zv ∧ K z = true ∧ ∀ e, VR e z zv := by
  obtain ⟨i, h1, h2⟩ := raw_at hr h
  cases hz : i.zero with
  | none => rw [hz] at h2; exact .inl h2
  | some zv =>
    rw [hz] at h2
    rcases constK_inv h2 with h | ⟨v, h3, h4⟩
    · exact .inl h
    · exact .inr ⟨i, zv, v, h1, hz, h3, h4⟩
end
/-! ### Operands -/
def evT (tmps : Array Value) : Operand → Value
  | .tmp t => tmps.getD t undef
  | .const v => v
  | .global g => .pointer (some ⟨g, 0, none⟩)
  | .func f => .func (.func f) #[] #[]
theorem eval_eq (fr : Frame) : fr.eval = evT fr.tmps := by funext x; cases x <;> rfl
theorem placeK_inv {t : Nat} {N : A} {K : Nat → A} : ∀ {lt : List (Nat × Option Nat)} {n : Nat}, placeK t N K lt n = true → (N = true ∧ ∀ (m j : Nat), lt[m]? ≠ some (j, some t)) ∨ ∃ (m j : Nat), lt[m]? = some (j, some t) ∧ K (n + m) = true
  | [], n, h => .inl ⟨h, by simp⟩
  | (i, some u) :: r, n, h => by
    have h : ifK (K n) (placeK t N K r (Nat.succ n)) (Nat.beq t u) = true := h
    rcases ifK_inv h with ⟨h1, h2⟩ | ⟨h1, h2⟩
    · have := Nat.eq_of_beq_eq_true h1
      subst this
      exact .inr ⟨0, i, rfl, h2⟩
    · have hne : t ≠ u := by rintro rfl; simp at h1
      rcases placeK_inv h2 with ⟨h3, h4⟩ | ⟨m, j, h3, h4⟩
      · refine .inl ⟨h3, fun m j hm => ?_⟩
        cases m with
        | zero => simp at hm; exact hne hm.2.symm
        | succ m => exact h4 m j (by simpa using hm)
      · exact .inr ⟨m + 1, j, by simpa using h3, by rw [show n + (m + 1) = n.succ + m by omega]; exact h4⟩
  | (i, none) :: r, n, h => by
    have h : placeK t N K r (Nat.succ n) = true := h
    rcases placeK_inv h with ⟨h3, h4⟩ | ⟨m, j, h3, h4⟩
    · refine .inl ⟨h3, fun m j hm => ?_⟩
      cases m with
      | zero => simp at hm
      | succ m => exact h4 m j (by simpa using hm)
    · exact .inr ⟨m + 1, j, by simpa using h3, by rw [show n + (m + 1) = n.succ + m by omega]; exact h4⟩
theorem placeOf_inv {i : Nat} {N : A} {K : Nat → A} : ∀ {lt : List (Nat × Option Nat)} {n : Nat}, placeOf i N K lt n = true → N = true ∨ ∃ (m t : Nat), lt[m]? = some (i, some t) ∧ K (n + m) = true
  | [], n, h => .inl h
  | (j, some u) :: r, n, h => by
    have h : ifK (K n) (placeOf i N K r (Nat.succ n)) (Nat.beq j i) = true := h
    rcases ifK_inv h with ⟨h1, h2⟩ | ⟨h1, h2⟩
    · have := Nat.eq_of_beq_eq_true h1
      subst this
      exact .inr ⟨0, u, rfl, h2⟩
    · rcases placeOf_inv h2 with h3 | ⟨m, t, h3, h4⟩
      · exact .inl h3
      · exact .inr ⟨m + 1, t, by simpa using h3, by rw [show n + (m + 1) = n.succ + m by omega]; exact h4⟩
  | (j, none) :: r, n, h => by
    have h : placeOf i N K r (Nat.succ n) = true := h
    rcases placeOf_inv h with h3 | ⟨m, t, h3, h4⟩
    · exact .inl h3
    · exact .inr ⟨m + 1, t, by simpa using h3, by rw [show n + (m + 1) = n.succ + m by omega]; exact h4⟩
/-- what an operation may ask for: locals of operations of D; variables but those of dsts -/
def SR (lt : List (Nat × Option Nat)) (D dsts : Nat → Prop) : Srel := fun e loc vs tmps =>
  (∀ (n i t : Nat) v, lt[n]? = some (i, some t) → D i → loc[n]? = some v → VR e v (tmps.getD t undef)) ∧
  (∀ p v, vs.get p = some v → ¬ dsts (p.toNat - 1) → VR e v (tmps.getD (p.toNat - 1) undef))
/-- the names of the package-level variables stand for their blocks -/
def GlobS (ng : Nat) (S : Srel) : Prop := ∀ e loc vs tmps, S e loc vs tmps → ∀ p : P, p.toNat ≤ ng → ∃ l, e p = some l ∧ l.blk + 1 = p.toNat ∧ l.base = 0
def SG (ng : Nat) (lt : List (Nat × Option Nat)) (D dsts : Nat → Prop) : Srel := fun e loc vs tmps =>
  (∀ p : P, p.toNat ≤ ng → ∃ l, e p = some l ∧ l.blk + 1 = p.toNat ∧ l.base = 0) ∧ SR lt D dsts e loc vs tmps
theorem locK_inv {K : Opd → A} {n : Nat} (h : locK K n = true) : ∃ x, K x = true ∧ ∀ loc vs K', x loc vs K' = true → ∃ v, loc[n]? = some v ∧ K' v = true := by
  cases n with
  | zero =>
    refine ⟨_, h, fun loc vs K' hx => ?_⟩
    cases loc with
    | nil => exact absurd hx Bool.false_ne_true
    | cons v r => exact ⟨v, rfl, hx⟩
  | succ m => exact ⟨_, h, fun loc vs K' hx => getL_inv hx⟩
theorem opdK_inv {fl : Fl} {lt : List (Nat × Option Nat)} {D dsts : Nat → Prop} {E : A} {x : Operand} {K : Opd → A} (hD : ∀ t, x = .tmp t → ∀ (n j : Nat), lt[n]? = some (j, some t) → D j)
    (hfl : ∀ p u, fl.t.get p = some u → ¬ dsts (p.toNat - 1)) (h : opdK fl lt E x K = true) : E = true ∨ ∃ f, K f = true ∧ OOK (SG fl.ng lt D dsts) f (fun tmps => evT tmps x) := by
  cases x with
  | tmp t =>
    rcases placeK_inv h with ⟨h1, h2⟩ | ⟨m, j, h1, h2⟩
    · obtain ⟨p, h3, h4⟩ := pathK_inv h1
      rcases getT_inv h4 with ⟨_, h5⟩ | ⟨u, h5, h6⟩
      · exact .inl h5
      · refine .inr ⟨_, h6, fun loc vs K' hk => ?_⟩
        obtain ⟨v, h7, h8⟩ := getT_F hk
        refine ⟨v, h8, fun e tmps hS => ?_⟩
        have := hS.2.2 p v h7 (hfl p u h5)
        rw [h3, Nat.add_sub_cancel] at this
        exact this
    · rw [forceNat_eq, Nat.zero_add] at h2
      obtain ⟨f, h3, h4⟩ := locK_inv h2
      refine .inr ⟨f, h3, fun loc vs K' hk => ?_⟩
      obtain ⟨v, h5, h6⟩ := h4 loc vs K' hk
      exact ⟨v, h6, fun e tmps hS => hS.2.1 m j t v h1 (hD t rfl m j h1) h5⟩
  | const v =>
    have h : constK (fun v => K (oC v)) v E = true := h
    rcases constK_inv h with h | ⟨u, h1, h2⟩
    · exact .inl h
    · exact .inr ⟨_, h1, fun loc vs K' hk => ⟨u, hk, fun e tmps hS => h2 e⟩⟩
  | global g =>
    have h : ifK (pathK g fun p => K (oC (.ptr p 0))) E (Nat.blt g fl.ng) = true := h
    rcases ifK_inv h with ⟨h1, h2⟩ | ⟨h1, h2⟩
    · obtain ⟨p, h3, h4⟩ := pathK_inv h2
      refine .inr ⟨_, h4, fun loc vs K' hk => ⟨_, hk, fun e tmps hS => ?_⟩⟩
      have : g < fl.ng := Nat.le_of_ble_eq_true h1
      obtain ⟨l, a, b, d⟩ := hS.1 p (by omega)
      have := VR.ptr (e := e) p 0 l a
      rw [d, show l.blk = g by omega] at this
      exact this
    · exact .inl h2
  | func f => exact .inr ⟨_, h, fun loc vs K' hk => ⟨_, hk, fun e tmps hS => .fn _ _ _ _ _ .nil .nil⟩⟩
theorem opdsK_inv {fl : Fl} {lt : List (Nat × Option Nat)} {D dsts : Nat → Prop} {E : A} (hfl : ∀ p u, fl.t.get p = some u → ¬ dsts (p.toNat - 1)) : ∀ {xs : List Operand} {K : List Opd → A}, (∀ t, Operand.tmp t ∈ xs → ∀ (n j : Nat), lt[n]? = some (j, some t) → D j) →
    opdsK fl lt E xs K = true → E = true ∨ ∃ fs, K fs = true ∧ OsOK (SG fl.ng lt D dsts) fs (fun tmps => xs.map (evT tmps))
  | [], K, _, h => .inr ⟨[], h, OsOK.nil⟩
  | x :: r, K, hD, h => by
    have h : opdK fl lt E x (fun x => opdsK fl lt E r fun l => K (x :: l)) = true := h
    rcases opdK_inv (D := D) (dsts := dsts) (fun t ht => hD t (by rw [ht]; simp)) hfl h with h | ⟨f, h1, h2⟩
    · exact .inl h
    · rcases opdsK_inv hfl (fun t ht => hD t (by simp [ht])) h1 with h | ⟨fs, h3, h4⟩
      · exact .inl h
      · exact .inr ⟨_, h3, OsOK.cons h2 h4⟩
theorem opdOK_inv {fl : Fl} {lt : List (Nat × Option Nat)} {D dsts : Nat → Prop} {E : A} {x : Option Operand} {K : Option Opd → A} (hD : ∀ t, x = some (.tmp t) → ∀ (n j : Nat), lt[n]? = some (j, some t) → D j)
    (hfl : ∀ p u, fl.t.get p = some u → ¬ dsts (p.toNat - 1)) (h : opdOK fl lt E x K = true) : E = true ∨ ∃ f, K f = true ∧ f.isSome = x.isSome ∧ OOpt (SG fl.ng lt D dsts) f (fun tmps => x.map (evT tmps)) := by
  cases x with
  | none => exact .inr ⟨none, h, rfl, .none⟩
  | some x =>
    have h : opdK fl lt E x (fun x => K (some x)) = true := h
    rcases opdK_inv (D := D) (dsts := dsts) (fun t ht => hD t (by rw [ht])) hfl h with h | ⟨f, h1, h2⟩
    · exact .inl h
    · exact .inr ⟨some f, h1, rfl, .some f _ h2⟩
end Go.AM
