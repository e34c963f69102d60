/- Acts that only compute, the last part: structs compared, aggregates built, parts of texts and slices, shifts. -/
import Derived.Test.YtnekfilglnfgkaaGreatDoorAmOps3
set_option autoImplicit false
set_option linter.unusedVariables false
set_option linter.unusedSimpArgs false
namespace Go.AM
section
variable {P : Program} {S : Srel} {x y z : Opd} {ex ey ez : Array Value → Value} {t : TypeId} {xo yo : Operand}
theorem ifB {K : Bool → A} {b : Bool} (h : ifK (K true) (K false) b = true) : K b = true := by cases b <;> exact h
/-- cells of a kind -/
def kindOf (k : Nat) : Option TypeDesc → Prop
  | some (.int _) => k = 0
  | some .string => k = 1
  | some .bool => k = 2
  | _ => False
theorem eqKind_inv {k : Nat} {K : Bool → A} {v w : V} (h : eqKind k K v w = true) : ∃ r : Bool, K r = true ∧ ∀ (e : Env) (x y : Value) (t : TypeId) (d : Nat) (W : World), VR e v x → VR e w y → kindOf k (P.underlying t) → (Op.equalIn (d + 1) t x y).run P W = .ok r W := by
  rcases k with _ | _ | k
  · have h' : V.onInt (fun i n => V.onInt (fun j m => kEq i j (ifK (K true) (K false) (eqI n m))) w) v = true := h
    obtain ⟨i, n, rfl, h2⟩ := V.onInt_inv h'
    obtain ⟨j, m, rfl, h3⟩ := V.onInt_inv h2
    obtain ⟨rfl, h4⟩ := kEq_inv h3
    refine ⟨_, ifB h4, fun e x y t d W hx hy hk => ?_⟩
    rw [hx.inv_int, hy.inv_int, eqI_iff]
    cases ht : P.underlying t with
    | none => rw [ht] at hk; exact hk.elim
    | some dd => cases dd <;> first | exact run_equalIn_int W d t i _ n m ht | (rw [ht] at hk; first | exact hk.elim | (simp [kindOf] at hk))
  · have h' : V.onStr (fun n s => V.onStr (fun m t => ifK (K true) (K false) (eqS n s m t)) w) v = true := h
    obtain ⟨n, s, rfl, h2⟩ := V.onStr_inv h'
    obtain ⟨m, u, rfl, h3⟩ := V.onStr_inv h2
    refine ⟨_, ifB h3, fun e x y t d W hx hy hk => ?_⟩
    obtain ⟨a, e1, e2, e3⟩ := hx.inv_str
    obtain ⟨b, e4, e5, e6⟩ := hy.inv_str
    rw [e1, e4, eqS_iff e2 e3 e5 e6]
    cases ht : P.underlying t with
    | none => rw [ht] at hk; exact hk.elim
    | some dd => cases dd <;> first | exact run_equalIn_string W d t a b ht | (rw [ht] at hk; first | exact hk.elim | (simp [kindOf] at hk))
  · have h' : V.onBool (fun a => V.onBool (fun b => ifK (K true) (K false) (eqB a b)) w) v = true := h
    obtain ⟨a, rfl, h2⟩ := V.onBool_inv h'
    obtain ⟨b, rfl, h3⟩ := V.onBool_inv h2
    refine ⟨_, ifB h3, fun e x y t d W hx hy hk => ?_⟩
    rw [hx.inv_bool, hy.inv_bool, eqB_eq]
    cases ht : P.underlying t with
    | none => rw [ht] at hk; exact hk.elim
    | some dd => cases dd <;> first | exact run_equalIn_bool W d t a b ht | (rw [ht] at hk; first | exact hk.elim | (exact absurd hk (by show ¬ (k + 2 = _); omega)))
/-- fields of kinds, one behind the other -/
def kindsOf (P : Program) : List Nat → List Field → Nat → Prop
  | [], [], _ => True
  | k :: ks, f :: fs, n => kindOf k (P.underlying f.type) ∧ f.name ≠ "_" ∧ f.offset = n ∧ kindsOf P ks fs (n + 1)
  | _, _, _ => False
theorem eqCells_inv : ∀ {ks : List Nat} {l m : List V} {K : Bool → A}, eqCells ks l m K = true → ∃ r : Bool, K r = true ∧ ∀ (e : Env) (xs ys : Array Value) (fs : List Field) (n d : Nat) (W : World),
    (∀ i v, l[i]? = some v → ∃ x, xs[n + i]? = some x ∧ VR e v x) → (∀ i v, m[i]? = some v → ∃ x, ys[n + i]? = some x ∧ VR e v x) → kindsOf P ks fs n → (Op.eqFields (d + 1) xs ys fs).run P W = .ok r W
  | [], l, m, K, h => ⟨true, h, fun e xs ys fs n d W _ _ hf => by cases fs with | nil => rfl | cons f r => exact hf.elim⟩
  | k :: ks, [], _, _, h => absurd h Bool.false_ne_true
  | k :: ks, _ :: _, [], _, h => absurd h Bool.false_ne_true
  | k :: ks, v :: l, w :: m, K, h => by
    have h' : eqKind k (fun b => ifK (eqCells ks l m K) (K false) b) v w = true := h
    obtain ⟨r, h1, h2⟩ := eqKind_inv (P := P) h'
    have step : ∀ (e : Env) (xs ys : Array Value) (f : Field) (fs : List Field) (n d : Nat) (W : World),
        (∀ i v', (v :: l)[i]? = some v' → ∃ x, xs[n + i]? = some x ∧ VR e v' x) → (∀ i v', (w :: m)[i]? = some v' → ∃ x, ys[n + i]? = some x ∧ VR e v' x) → kindsOf P (k :: ks) (f :: fs) n →
        (Op.eqFields (d + 1) xs ys (f :: fs)).run P W = if r then (Op.eqFields (d + 1) xs ys fs).run P W else .ok false W := by
      intro e xs ys f fs n d W hx hy hf
      obtain ⟨hk, hn, ho, hf⟩ := hf
      obtain ⟨a, ha, hva⟩ := hx 0 v rfl
      obtain ⟨b, hb, hvb⟩ := hy 0 w rfl
      have hag : ∃ dd, P.underlying f.type = some dd ∧ aggD dd = false := by
        cases hu : P.underlying f.type with
        | none => rw [hu] at hk; exact hk.elim
        | some dd => refine ⟨dd, rfl, ?_⟩; cases dd <;> first | rfl | (rw [hu] at hk; exact hk.elim)
      obtain ⟨dd, hu, hagg⟩ := hag
      have hin : ∃ ii, P.info? f.type = some ii := by
        cases hi : P.info? f.type with
        | none => simp [Program.underlying, hi] at hu
        | some ii => exact ⟨ii, rfl⟩
      obtain ⟨ii, hii⟩ := hin
      subst ho
      have e1 := run_part1 hu hii hagg (cs := xs) (off := f.offset) (u := a) (by simpa using ha)
      have e2 := run_part1 hu hii hagg (cs := ys) (off := f.offset) (u := b) (by simpa using hb)
      simp only [Op.eqFields, if_pos hn, Sem.run_bind, e1, e2, Result.andThen_ok, h2 e a b f.type d W hva hvb hk]
      cases r <;> simp
    cases r with
    | false =>
      refine ⟨false, h1, fun e xs ys fs n d W hx hy hf => ?_⟩
      cases fs with
      | nil => exact hf.elim
      | cons f fs => rw [step e xs ys f fs n d W hx hy hf]; rfl
    | true =>
      have h1' : eqCells ks l m K = true := h1
      obtain ⟨r, h3, h4⟩ := eqCells_inv h1'
      refine ⟨r, h3, fun e xs ys fs n d W hx hy hf => ?_⟩
      cases fs with
      | nil => exact hf.elim
      | cons f fs =>
        rw [step e xs ys f fs n d W hx hy hf, if_pos rfl]
        refine h4 e xs ys fs (n + 1) d W (fun i v' hv => ?_) (fun i v' hv => ?_) hf.2.2.2
        · rw [show n + 1 + i = n + (i + 1) by omega]; exact hx (i + 1) v' (by simpa using hv)
        · rw [show n + 1 + i = n + (i + 1) by omega]; exact hy (i + 1) v' (by simpa using hv)
theorem PV.eqA {op : BinOp} {neg : Bool} {ks : List Nat} {fs : Array Field} (ht : P.underlying t = some (.struct fs)) (hp : P.stoodInHeld t = false) (hm : P.eqGuardType P.depth t = false) (hk : kindsOf P ks fs.toList 0)
    (ho : op = if neg then .neq else .eql) (hx : OOK S x ex) (hy : OOK S y ey) : PV P S (aEqA ks neg x y) (fun tmps => binS op t xo yo (ex tmps) (ey tmps)) := by
  intro loc vs K h
  obtain ⟨v, h1, hv⟩ := hx _ _ _ h
  obtain ⟨u, h1, hu⟩ := hy _ _ _ h1
  obtain ⟨l, rfl, h2⟩ := V.onAgg_inv h1
  obtain ⟨m, rfl, h3⟩ := V.onAgg_inv h2
  obtain ⟨r, h4, h5⟩ := eqCells_inv (P := P) h3
  refine ⟨_, negK_inv h4, fun e tmps w hS => ⟨_, .bool _, ?_⟩⟩
  obtain ⟨xs, h6, h7, _⟩ := (hv e tmps hS).inv_agg
  obtain ⟨ys, h8, h9, _⟩ := (hu e tmps hS).inv_agg
  have hfo : P.fieldsOf t = fs := by simp [Program.fieldsOf, ht]
  have hq : (Op.equal t (.agg xs) (.agg ys)).run P w = .ok r w := by
    show (Op.equalIn (9999 + 1) t _ _).run P w = _
    rw [run_equalIn_struct w 9999 t xs ys (by rw [hfo]; exact ht) hp, hfo]
    refine h5 e xs ys fs.toList 0 9998 w (fun i v hv => ?_) (fun i v hv => ?_) hk
    · obtain ⟨q, a, b⟩ := h7.get hv; exact ⟨q, by simpa using a, b⟩
    · obtain ⟨q, a, b⟩ := h9.get hv; exact ⟨q, by simpa using a, b⟩
  dsimp only
  rw [h6, h8]
  exact bin_eq_of ho (run_eqGuard_agg w op t xo yo xs ys hm) hq ⟨rfl, rfl⟩
theorem PV.shl (hx : OOK S x ex) (hy : OOK S y ey) : PV P S (aShl x y) (fun tmps => binS .shl t xo yo (ex tmps) (ey tmps)) := by
  intro loc vs K h
  obtain ⟨v, h1, hv⟩ := hx _ _ _ h
  obtain ⟨u, h1, hu⟩ := hy _ _ _ h1
  obtain ⟨k, n, rfl, h2⟩ := V.onInt_inv h1
  obtain ⟨j, m, rfl, h3⟩ := V.onInt_inv h2
  cases m with
  | negSucc m => exact absurd h3 Bool.false_ne_true
  | ofNat b =>
    obtain ⟨hb, h4⟩ := ifK_t h3
    have hb : b ≤ 64 := Nat.le_of_ble_eq_true hb
    refine ⟨_, wrapK_inv h4, fun e tmps w hS => ⟨_, .int _ _, ?_⟩⟩
    have hk : k.wrap (n * Int.ofNat (Nat.pow 2 b)) = k.wrap (n * 2 ^ (Min.min b k.bits)) := by
      by_cases hle : b ≤ k.bits
      · rw [Nat.min_eq_left hle]; congr 2
      · have hz : ∀ c : Nat, k.bits ≤ c → k.wrap (n * ((2 ^ c : Nat) : Int)) = k.wrap 0 := by
          intro c hc
          have : ((2 ^ c : Nat) : Int) = (2 ^ k.bits : Int) * ((2 ^ (c - k.bits) : Nat) : Int) := by
            rw [show c = k.bits + (c - k.bits) by omega, Nat.pow_add, show k.bits + (c - k.bits) - k.bits = c - k.bits by omega]; push_cast; rfl
          have he : (n * ((2 ^ c : Nat) : Int)) % (2 ^ k.bits : Int) = 0 := by rw [this, ← Int.mul_assoc, Int.mul_comm n, Int.mul_assoc]; exact Int.mul_emod_right _ _
          have hz0 : (0 : Int) % (2 ^ k.bits : Int) = 0 := Int.zero_emod _
          unfold IntKind.wrap
          rw [he, hz0]
        rw [Nat.min_eq_right (by omega)]
        have h1 := hz b (by omega)
        have h2 := hz k.bits (Nat.le_refl _)
        have e1 : Int.ofNat (Nat.pow 2 b) = ((2 ^ b : Nat) : Int) := rfl
        have e2 : (2 : Int) ^ k.bits = ((2 ^ k.bits : Nat) : Int) := by push_cast; rfl
        rw [e1, h1, e2, h2]
    simp only [(hv e tmps hS).inv_int, (hu e tmps hS).inv_int, binS, Sem.run_bind, guard_int, Result.andThen_ok]
    simp only [Go.binOp, Op.shift, Int.ofNat_eq_natCast]
    rw [if_neg (by omega)]
    simp only [Sem.run_pure, Int.toNat_natCast]
    rw [← hk]; rfl
theorem ofInt_neg {k : IntKind} {b : Nat} (hb : b ≤ kMax k) : BitVec.ofInt k.bits (Int.negSucc b) = ~~~ (BitVec.ofNat k.bits b) := by
  apply BitVec.eq_of_toInt_eq
  rw [BitVec.toInt_ofInt, BitVec.toInt_not, BitVec.toNat_ofNat, Int.negSucc_eq, small_mod hb]
  have hp : ((2 ^ k.bits : Nat) : Int) - 1 - (b : Int) = -((b : Int) + 1) + ((2 ^ k.bits : Nat) : Int) := by omega
  have hq : (2 : Int) ^ k.bits = ((2 ^ k.bits : Nat) : Int) := by norm_cast
  rw [hq, hp, Int.add_bmod_right]
theorem PV.xor (hx : OOK S x ex) : PV P S (aXor x) (fun tmps => Op.unary .xor (ex tmps)) := by
  intro loc vs K h
  obtain ⟨v, h1, hv⟩ := hx _ _ _ h
  obtain ⟨k, n, rfl, h2⟩ := V.onInt_inv h1
  have notN : ∀ (m : Nat), m ≤ kMax k → (BitVec.allOnes k.bits ^^^ BitVec.ofNat k.bits m).toNat = 2 ^ k.bits - 1 - m := by
    intro m hm
    rw [BitVec.xor_comm, BitVec.xor_allOnes, BitVec.toNat_not, BitVec.toNat_ofNat, small_mod hm]
  have hbits : kSig k = true → (2 ^ k.bits : Nat) = 2 * kMax k + 2 := by intro hs; cases k <;> first | exact absurd hs Bool.false_ne_true | decide
  have hbitu : kSig k = false → (2 ^ k.bits : Nat) = kMax k + 1 := by intro hs; cases k <;> first | exact absurd hs.symm Bool.false_ne_true | decide
  have hsg : k.signed = kSig k := by cases k <;> rfl
  have hun : ∀ c, Op.unary .xor (.int k c) = Op.intBits .xor k (if k.signed then -1 else k.max) c := fun c => rfl
  rcases ifK_inv h2 with ⟨hs, h3⟩ | ⟨hs, h3⟩
  · have all1 : BitVec.ofInt k.bits (if k.signed = true then -1 else k.max) = BitVec.allOnes k.bits := by
      rw [hsg, hs, if_pos rfl]
      cases k <;> first | exact absurd hs Bool.false_ne_true | decide
    cases n with
    | ofNat m =>
      obtain ⟨hm, h4⟩ := ifK_t h3
      have hm : m ≤ kMax k := Nat.le_of_ble_eq_true hm
      refine ⟨_, h4, fun e tmps w hS => ⟨_, .int _ _, ?_⟩⟩
      have hw : k.wrap ((2 ^ k.bits - 1 - m : Nat) : Int) = Int.negSucc m := by
        have := hbits hs
        rw [wrap_eq, Int.negSucc_eq, this]
        simp only [hs, true_and, if_true]
        generalize kMax k = M at *
        rw [Int.emod_eq_of_lt (by omega) (by omega), if_pos (by omega)]
        omega
      dsimp only
      rw [(hv e tmps hS).inv_int, hun, Int.ofNat_eq_natCast]
      simp only [Op.intBits, all1, BitVec.ofInt_natCast, notN m hm, hw, Sem.run_pure]
    | negSucc m =>
      obtain ⟨hm, h4⟩ := ifK_t h3
      have hm : m ≤ kMax k := Nat.le_of_ble_eq_true hm
      refine ⟨_, h4, fun e tmps w hS => ⟨_, .int _ _, ?_⟩⟩
      have hx : (BitVec.allOnes k.bits ^^^ ~~~ (BitVec.ofNat k.bits m)).toNat = m := by
        rw [BitVec.xor_comm, BitVec.xor_allOnes, BitVec.not_not, BitVec.toNat_ofNat, small_mod hm]
      have hw := wrap_small hm
      dsimp only
      rw [(hv e tmps hS).inv_int, hun]
      simp only [Op.intBits, all1, ofInt_neg hm, hx, Sem.run_pure]
      rw [← Int.ofNat_eq_natCast, hw]
  · have all1 : BitVec.ofInt k.bits (if k.signed = true then -1 else k.max) = BitVec.allOnes k.bits := by
      rw [hsg, hs, if_neg Bool.false_ne_true]
      cases k <;> first | exact absurd hs.symm Bool.false_ne_true | decide
    cases n with
    | negSucc m => exact absurd h3 Bool.false_ne_true
    | ofNat m =>
      obtain ⟨hm, h4⟩ := ifK_t h3
      have hm : m ≤ kMax k := Nat.le_of_ble_eq_true hm
      rw [forceNat_eq] at h4
      refine ⟨_, h4, fun e tmps w hS => ⟨_, .int _ _, ?_⟩⟩
      have hw := wrap_small (k := k) (m := kMax k - m) (by omega)
      have he : 2 ^ k.bits - 1 - m = kMax k - m := by rw [hbitu hs]; omega
      dsimp only
      rw [(hv e tmps hS).inv_int, hun, Int.ofNat_eq_natCast]
      simp only [Op.intBits, all1, BitVec.ofInt_natCast, notN m hm, he, Sem.run_pure]
      rw [← Int.ofNat_eq_natCast, hw]
      rfl
end
end Go.AM
