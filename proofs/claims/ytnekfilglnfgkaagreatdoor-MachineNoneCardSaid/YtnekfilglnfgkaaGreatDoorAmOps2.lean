/- Acts that only compute, the second part: numbers, texts, comparisons, conversions, aggregates, slices. -/
import Derived.Test.YtnekfilglnfgkaaGreatDoorAmOps1
import Derived.Laws.StructEq
import Derived.Laws.Concat
set_option autoImplicit false
set_option linter.unusedVariables false
set_option linter.unusedSimpArgs false
namespace Go.AM
/-- an operation with two operands, as the model does it -/
def binS (op : BinOp) (t : TypeId) (xo yo : Operand) (a b : Value) : Sem Value := do eqGuard op t xo yo a b; Go.binOp op t a b
section
variable {P : Program} {S : Srel} {x y z : Opd} {ex ey ez : Array Value → Value} {t : TypeId} {xo yo : Operand}
theorem guard_int (op : BinOp) (k j : IntKind) (n m : Int) (w : World) : (eqGuard op t xo yo (.int k n) (.int j m)).run P w = .ok () w := by cases op <;> rfl
theorem PV.int2 {op : BinOp} {g : Int → Int → Int} (hx : OOK S x ex) (hy : OOK S y ey) (hg : ∀ k n m w, (Go.binOp op t (.int k n) (.int k m)).run P w = .ok (.int k (k.wrap (g n m))) w) :
    PV P S (aInt2 g x y) (fun tmps => binS op t xo yo (ex tmps) (ey tmps)) := by
  intro loc vs K h
  obtain ⟨v, h1, hv⟩ := hx _ _ _ h
  obtain ⟨u, h1, hu⟩ := hy _ _ _ h1
  obtain ⟨k, n, rfl, h2⟩ := V.onInt_inv h1
  obtain ⟨j, m, rfl, h3⟩ := V.onInt_inv h2
  obtain ⟨rfl, h4⟩ := kEq_inv h3
  refine ⟨_, wrapK_inv h4, fun e tmps w hS => ⟨_, .int _ _, ?_⟩⟩
  simp only [(hv e tmps hS).inv_int, (hu e tmps hS).inv_int, binS, Sem.run_bind, guard_int, Result.andThen_ok, hg]
theorem iAdd_eq (a b : Int) : iAdd a b = a + b := by cases a <;> cases b <;> rfl
theorem iSub_eq (a b : Int) : iSub a b = a - b := by
  cases a with
  | ofNat x => cases b with
    | ofNat y =>
      show Bool.rec (motive := fun _ => Int) (Int.ofNat x - Int.ofNat y) (.ofNat (Nat.sub x y)) (Nat.ble y x) = _
      cases hb : Nat.ble y x with
      | false => rfl
      | true => have := Nat.le_of_ble_eq_true hb; show Int.ofNat (x - y) = _; simp only [Int.ofNat_eq_natCast]; omega
    | negSucc y => rfl
  | negSucc x => rfl
theorem bin_add (k : IntKind) (n m : Int) (w : World) : (Go.binOp .add t (.int k n) (.int k m)).run P w = .ok (.int k (k.wrap (iAdd n m))) w := by simp [Go.binOp, Op.intArith, iAdd_eq]
theorem bin_sub (k : IntKind) (n m : Int) (w : World) : (Go.binOp .sub t (.int k n) (.int k m)).run P w = .ok (.int k (k.wrap (iSub n m))) w := by simp [Go.binOp, Op.intArith, iSub_eq]
theorem bin_mul (k : IntKind) (n m : Int) (w : World) : (Go.binOp .mul t (.int k n) (.int k m)).run P w = .ok (.int k (k.wrap (iMul n m))) w := by simp [Go.binOp, Op.intArith, iMul]
theorem PV.div (hx : OOK S x ex) (hy : OOK S y ey) : PV P S (aDiv x y) (fun tmps => binS .quo t xo yo (ex tmps) (ey tmps)) := by
  intro loc vs K h
  obtain ⟨v, h1, hv⟩ := hx _ _ _ h
  obtain ⟨u, h1, hu⟩ := hy _ _ _ h1
  obtain ⟨k, n, rfl, h2⟩ := V.onInt_inv h1
  obtain ⟨j, m, rfl, h3⟩ := V.onInt_inv h2
  obtain ⟨rfl, h4⟩ := kEq_inv h3
  obtain ⟨h5, h6⟩ := ifK_e h4
  rw [eqI_iff] at h5
  have hm : m ≠ 0 := by simpa using h5
  refine ⟨_, wrapK_inv h6, fun e tmps w hS => ⟨_, .int _ _, ?_⟩⟩
  simp only [(hv e tmps hS).inv_int, (hu e tmps hS).inv_int, binS, Sem.run_bind, guard_int, Result.andThen_ok]
  simp [Go.binOp, Op.intDiv, hm]
theorem PV.rem (hx : OOK S x ex) (hy : OOK S y ey) : PV P S (aRem x y) (fun tmps => binS .rem t xo yo (ex tmps) (ey tmps)) := by
  intro loc vs K h
  obtain ⟨v, h1, hv⟩ := hx _ _ _ h
  obtain ⟨u, h1, hu⟩ := hy _ _ _ h1
  obtain ⟨k, n, rfl, h2⟩ := V.onInt_inv h1
  obtain ⟨j, m, rfl, h3⟩ := V.onInt_inv h2
  obtain ⟨rfl, h4⟩ := kEq_inv h3
  obtain ⟨h5, h6⟩ := ifK_e h4
  rw [eqI_iff] at h5
  have hm : m ≠ 0 := by simpa using h5
  rw [forceInt_eq] at h6
  refine ⟨_, h6, fun e tmps w hS => ⟨_, .int _ _, ?_⟩⟩
  simp only [(hv e tmps hS).inv_int, (hu e tmps hS).inv_int, binS, Sem.run_bind, guard_int, Result.andThen_ok]
  simp [Go.binOp, Op.intDiv, hm]
theorem PV.cmp {op : BinOp} {g : Int → Int → Bool} (hx : OOK S x ex) (hy : OOK S y ey) (hg : ∀ k n m w, (Go.binOp op t (.int k n) (.int k m)).run P w = .ok (.bool (g n m)) w) :
    PV P S (aCmp g x y) (fun tmps => binS op t xo yo (ex tmps) (ey tmps)) := by
  intro loc vs K h
  obtain ⟨v, h1, hv⟩ := hx _ _ _ h
  obtain ⟨u, h1, hu⟩ := hy _ _ _ h1
  obtain ⟨k, n, rfl, h2⟩ := V.onInt_inv h1
  obtain ⟨j, m, rfl, h3⟩ := V.onInt_inv h2
  obtain ⟨rfl, h4⟩ := kEq_inv h3
  refine ⟨_, boolK_inv h4, fun e tmps w hS => ⟨_, .bool _, ?_⟩⟩
  simp only [(hv e tmps hS).inv_int, (hu e tmps hS).inv_int, binS, Sem.run_bind, guard_int, Result.andThen_ok, hg]
theorem bin_eql (k : IntKind) (n m : Int) (w : World) : (Go.binOp .eql t (.int k n) (.int k m)).run P w = .ok (.bool (eqI n m)) w := by simp [Go.binOp, Op.intCmp, eqI_iff]
theorem bin_neq (k : IntKind) (n m : Int) (w : World) : (Go.binOp .neq t (.int k n) (.int k m)).run P w = .ok (.bool (neI n m)) w := by simp [Go.binOp, Op.intCmp, neI, notB_eq, eqI_iff, bne]
theorem bin_lss (k : IntKind) (n m : Int) (w : World) : (Go.binOp .lss t (.int k n) (.int k m)).run P w = .ok (.bool (ltI n m)) w := by simp [Go.binOp, Op.intCmp, ltI_iff]
theorem bin_leq (k : IntKind) (n m : Int) (w : World) : (Go.binOp .leq t (.int k n) (.int k m)).run P w = .ok (.bool (leI n m)) w := by
  have : decide (n ≤ m) = !decide (m < n) := by rw [Bool.eq_iff_iff]; simp
  simp [Go.binOp, Op.intCmp, leI, notB_eq, ltI_iff, this]
theorem bin_gtr (k : IntKind) (n m : Int) (w : World) : (Go.binOp .gtr t (.int k n) (.int k m)).run P w = .ok (.bool (gtI n m)) w := by simp [Go.binOp, Op.intCmp, gtI, ltI_iff]
theorem bin_geq (k : IntKind) (n m : Int) (w : World) : (Go.binOp .geq t (.int k n) (.int k m)).run P w = .ok (.bool (geI n m)) w := by
  have : decide (m ≤ n) = !decide (n < m) := by rw [Bool.eq_iff_iff]; simp
  simp [Go.binOp, Op.intCmp, geI, notB_eq, ltI_iff, this]
theorem PV.lss (hx : OOK S x ex) (hy : OOK S y ey) : PV P S (aLss x y) (fun tmps => binS .lss t xo yo (ex tmps) (ey tmps)) := by
  intro loc vs K h
  obtain ⟨v, h1, hv⟩ := hx _ _ _ h
  obtain ⟨u, h1, hu⟩ := hy _ _ _ h1
  obtain ⟨k, n, rfl, h2⟩ := V.onInt_inv h1
  rcases V.onNum_inv h2 with ⟨j, m, rfl, h3⟩ | ⟨j, lo, hi, rfl, h3⟩
  · obtain ⟨rfl, h4⟩ := kEq_inv h3
    refine ⟨_, boolK_inv h4, fun e tmps w hS => ⟨_, .bool _, ?_⟩⟩
    simp only [(hv e tmps hS).inv_int, (hu e tmps hS).inv_int, binS, Sem.run_bind, guard_int, Result.andThen_ok, bin_lss]
  · obtain ⟨rfl, h4⟩ := kEq_inv h3
    rcases ifK_inv h4 with ⟨h5, h6⟩ | ⟨h5, h6⟩
    · refine ⟨_, h6, fun e tmps w hS => ⟨_, .bool _, ?_⟩⟩
      obtain ⟨m, h7, h8, h9⟩ := (hu e tmps hS).inv_ivl
      rw [ltI_iff] at h5
      have h5 : n < lo := by simpa using h5
      simp only [(hv e tmps hS).inv_int, h7, binS, Sem.run_bind, guard_int, Result.andThen_ok, bin_lss, ltI_iff]
      simp only [decide_eq_true (show n < m by omega)]
    · obtain ⟨h7, h6⟩ := ifK_e h6
      refine ⟨_, h6, fun e tmps w hS => ⟨_, .bool _, ?_⟩⟩
      obtain ⟨m, h8, h9, h10⟩ := (hu e tmps hS).inv_ivl
      rw [ltI_iff] at h7
      have h7 : ¬ n < hi := by simpa using h7
      simp only [(hv e tmps hS).inv_int, h8, binS, Sem.run_bind, guard_int, Result.andThen_ok, bin_lss, ltI_iff]
      simp only [decide_eq_false (show ¬ n < m by omega)]
/-! bits -/
theorem kMax_bits (k : IntKind) : kMax k + 1 ≤ 2 ^ k.bits := by cases k <;> decide
theorem ofInt_small {k : IntKind} {a : Nat} (h : a ≤ kMax k) : (BitVec.ofInt k.bits (a : Int)).toNat = a := by
  have := kMax_bits k
  simp only [BitVec.ofInt_natCast, BitVec.toNat_ofNat]
  exact Nat.mod_eq_of_lt (by omega)
theorem bits_le {k : IntKind} {a : Nat} (n : Nat) (h : a ≤ kMax k) : ∃ j, kMax k + 1 = 2 ^ j := by cases k <;> first | exact ⟨7, by decide⟩ | exact ⟨8, by decide⟩ | exact ⟨15, by decide⟩ | exact ⟨16, by decide⟩ | exact ⟨31, by decide⟩ | exact ⟨32, by decide⟩ | exact ⟨63, by decide⟩ | exact ⟨64, by decide⟩
theorem PV.bits {op : BinOp} {g : Nat → Nat → Nat} (hx : OOK S x ex) (hy : OOK S y ey)
    (hg : ∀ k (a b : Nat) w, a ≤ kMax k → b ≤ kMax k → (Go.binOp op t (.int k a) (.int k b)).run P w = .ok (.int k (g a b)) w) :
    PV P S (aBits g x y) (fun tmps => binS op t xo yo (ex tmps) (ey tmps)) := by
  intro loc vs K h
  obtain ⟨v, h1, hv⟩ := hx _ _ _ h
  obtain ⟨u, h1, hu⟩ := hy _ _ _ h1
  obtain ⟨k, n, rfl, h2⟩ := V.onInt_inv h1
  obtain ⟨j, m, rfl, h3⟩ := V.onInt_inv h2
  obtain ⟨rfl, h4⟩ := kEq_inv h3
  cases n with
  | negSucc n => exact absurd h4 Bool.false_ne_true
  | ofNat a => cases m with
    | negSucc m => exact absurd h4 Bool.false_ne_true
    | ofNat b =>
      obtain ⟨ha, h5⟩ := ifK_t h4
      obtain ⟨hb, h6⟩ := ifK_t h5
      rw [forceNat_eq] at h6
      refine ⟨_, h6, fun e tmps w hS => ⟨_, .int _ _, ?_⟩⟩
      simp only [(hv e tmps hS).inv_int, (hu e tmps hS).inv_int, binS, Sem.run_bind, guard_int, Result.andThen_ok, Int.ofNat_eq_natCast]
      exact hg k a b w (Nat.le_of_ble_eq_true ha) (Nat.le_of_ble_eq_true hb)
theorem op_le {k : IntKind} {a b : Nat} {g : Nat → Nat → Nat} (hg : ∀ j, a < 2 ^ j → b < 2 ^ j → g a b < 2 ^ j) (ha : a ≤ kMax k) (hb : b ≤ kMax k) : g a b ≤ kMax k := by
  obtain ⟨j, hj⟩ := bits_le 0 ha
  have := hg j (by omega) (by omega)
  omega
theorem small_mod {k : IntKind} {a : Nat} (h : a ≤ kMax k) : a % 2 ^ k.bits = a := Nat.mod_eq_of_lt (by have := kMax_bits k; omega)
theorem bin_or (k : IntKind) (a b : Nat) (w : World) (ha : a ≤ kMax k) (hb : b ≤ kMax k) : (Go.binOp .or t (.int k a) (.int k b)).run P w = .ok (.int k ((Nat.lor a b : Nat) : Int)) w := by
  have h : a ||| b ≤ kMax k := op_le (g := (· ||| ·)) (fun j => Nat.or_lt_two_pow) ha hb
  have hw := wrap_small h
  simp only [Int.ofNat_eq_natCast] at hw
  simp [Go.binOp, Op.intBits, BitVec.toNat_or, small_mod ha, small_mod hb, hw]
theorem bin_xor (k : IntKind) (a b : Nat) (w : World) (ha : a ≤ kMax k) (hb : b ≤ kMax k) : (Go.binOp .xor t (.int k a) (.int k b)).run P w = .ok (.int k ((Nat.xor a b : Nat) : Int)) w := by
  have h : a ^^^ b ≤ kMax k := op_le (g := (· ^^^ ·)) (fun j => Nat.xor_lt_two_pow) ha hb
  have hw := wrap_small h
  simp only [Int.ofNat_eq_natCast] at hw
  simp [Go.binOp, Op.intBits, BitVec.toNat_xor, small_mod ha, small_mod hb, hw]
theorem bin_and (k : IntKind) (a b : Nat) (w : World) (ha : a ≤ kMax k) (hb : b ≤ kMax k) : (Go.binOp .and t (.int k a) (.int k b)).run P w = .ok (.int k ((Nat.land a b : Nat) : Int)) w := by
  have h : a &&& b ≤ kMax k := Nat.le_trans Nat.and_le_left ha
  have hw := wrap_small h
  simp only [Int.ofNat_eq_natCast] at hw
  simp [Go.binOp, Op.intBits, BitVec.toNat_and, small_mod ha, small_mod hb, hw]
/-! texts and truth -/
theorem guard_bool (op : BinOp) (a b : Bool) (w : World) : (eqGuard op t xo yo (.bool a) (.bool b)).run P w = .ok () w := by cases op <;> rfl
theorem guard_str (op : BinOp) (a b : ByteArray) (w : World) : (eqGuard op t xo yo (.string a) (.string b)).run P w = .ok () w := by cases op <;> rfl
theorem PV.eqB {op : BinOp} {neg : Bool} (ht : P.underlying t = some .bool) (ho : op = if neg then .neq else .eql) (hx : OOK S x ex) (hy : OOK S y ey) :
    PV P S (aEqB neg x y) (fun tmps => binS op t xo yo (ex tmps) (ey tmps)) := by
  intro loc vs K h
  obtain ⟨v, h1, hv⟩ := hx _ _ _ h
  obtain ⟨u, h1, hu⟩ := hy _ _ _ h1
  obtain ⟨a, rfl, h2⟩ := V.onBool_inv h1
  obtain ⟨b, rfl, h3⟩ := V.onBool_inv h2
  refine ⟨_, boolK_inv h3, fun e tmps w hS => ⟨_, .bool _, ?_⟩⟩
  subst ho
  have hq : (Op.equal t (.bool a) (.bool b)).run P w = .ok (a == b) w := run_equalIn_bool w 9999 t a b ht
  cases neg
  · show (binS .eql t xo yo (ex tmps) (ey tmps)).run P w = .ok (.bool (AM.eqB a b)) w
    simp only [(hv e tmps hS).inv_bool, (hu e tmps hS).inv_bool, binS, Sem.run_bind, guard_bool, Result.andThen_ok, Go.binOp, hq, Sem.run_pure, eqB_eq]
  · show (binS .neq t xo yo (ex tmps) (ey tmps)).run P w = .ok (.bool (notB (AM.eqB a b))) w
    simp only [(hv e tmps hS).inv_bool, (hu e tmps hS).inv_bool, binS, Sem.run_bind, guard_bool, Result.andThen_ok, Go.binOp, hq, Sem.run_pure, eqB_eq, notB_eq]
theorem bytesL_inj : ∀ (n : Nat) {v w : Nat}, bytesL n v = bytesL n w → v < 256 ^ n → w < 256 ^ n → v = w
  | 0, v, w, _, hv, hw => by simp at hv hw; omega
  | n + 1, v, w, h, hv, hw => by
    simp only [bytesL, List.cons.injEq] at h
    obtain ⟨h1, h2⟩ := h
    have h3 := bytesL_inj n h2 (by rw [Nat.pow_succ] at hv; omega) (by rw [Nat.pow_succ] at hw; omega)
    have h4 : v % 256 = w % 256 := by
      have := congrArg UInt8.toNat h1
      simpa using this
    omega
theorem eqS_iff {n v m w : Nat} {a b : ByteArray} (ha : a.data.toList = bytesL n v) (hv : v < 256 ^ n) (hb : b.data.toList = bytesL m w) (hw : w < 256 ^ m) : eqS n v m w = (a.toList == b.toList) := by
  rw [ByteArray.toList_eq, ByteArray.toList_eq, ha, hb, Bool.eq_iff_iff]
  show (Bool.rec (motive := fun _ => Bool) false (Nat.beq v w) (Nat.beq n m) = true) ↔ _
  rw [beq_iff_eq]
  constructor
  · intro h
    cases h1 : Nat.beq n m with
    | false => rw [h1] at h; exact absurd h Bool.false_ne_true
    | true =>
      rw [h1] at h
      rw [Nat.eq_of_beq_eq_true h1, Nat.eq_of_beq_eq_true h]
  · intro h
    have hn : n = m := by simpa using congrArg List.length h
    subst hn
    have := bytesL_inj n h hv hw
    subst this
    simp
theorem PV.eqS {op : BinOp} {neg : Bool} (ho : op = if neg then .neq else .eql) (hx : OOK S x ex) (hy : OOK S y ey) :
    PV P S (aEqS neg x y) (fun tmps => binS op t xo yo (ex tmps) (ey tmps)) := by
  intro loc vs K h
  obtain ⟨v, h1, hv⟩ := hx _ _ _ h
  obtain ⟨u, h1, hu⟩ := hy _ _ _ h1
  obtain ⟨n, s, rfl, h2⟩ := V.onStr_inv h1
  obtain ⟨m, r, rfl, h3⟩ := V.onStr_inv h2
  refine ⟨_, boolK_inv h3, fun e tmps w hS => ⟨_, .bool _, ?_⟩⟩
  obtain ⟨a, h4, h5, h6⟩ := (hv e tmps hS).inv_str
  obtain ⟨b, h7, h8, h9⟩ := (hu e tmps hS).inv_str
  have hq := eqS_iff h5 h6 h8 h9
  subst ho
  cases neg
  · show (binS .eql t xo yo (ex tmps) (ey tmps)).run P w = .ok (.bool (AM.eqS n s m r)) w
    simp only [h4, h7, binS, Sem.run_bind, guard_str, Result.andThen_ok, binOp_string_eql, Sem.run_pure, hq]
  · show (binS .neq t xo yo (ex tmps) (ey tmps)).run P w = .ok (.bool (notB (AM.eqS n s m r))) w
    simp only [h4, h7, binS, Sem.run_bind, guard_str, Result.andThen_ok, binOp_string_neq, Sem.run_pure, hq, notB_eq]
theorem bytesL_cat : ∀ (n m s t : Nat), s < 256 ^ n → bytesL (n + m) (s + t * 256 ^ n) = bytesL n s ++ bytesL m t
  | 0, m, s, t, h => by
    have hs : s = 0 := by simp at h; omega
    subst hs
    simp [bytesL]
  | n + 1, m, s, t, h => by
    have e1 : (s + t * 256 ^ (n + 1)) % 256 = s % 256 := by rw [Nat.pow_succ, ← Nat.mul_assoc, Nat.add_mul_mod_self_right]
    have e2 : (s + t * 256 ^ (n + 1)) / 256 = s / 256 + t * 256 ^ n := by rw [Nat.pow_succ, ← Nat.mul_assoc, Nat.add_mul_div_right _ _ (by omega)]
    rw [show n + 1 + m = (n + m) + 1 by omega, bytesL, e1, e2, bytesL_cat n m (s / 256) t (by rw [Nat.pow_succ] at h; omega)]
    simp [bytesL]
theorem PV.cat (hx : OOK S x ex) (hy : OOK S y ey) : PV P S (aCat x y) (fun tmps => binS .add t xo yo (ex tmps) (ey tmps)) := by
  intro loc vs K h
  obtain ⟨v, h1, hv⟩ := hx _ _ _ h
  obtain ⟨u, h1, hu⟩ := hy _ _ _ h1
  obtain ⟨n, s, rfl, h2⟩ := V.onStr_inv h1
  obtain ⟨m, r, rfl, h3⟩ := V.onStr_inv h2
  obtain ⟨hle, h3⟩ := ifK_t h3
  have hle : n + m ≤ 1048576 := Nat.le_of_ble_eq_true hle
  rw [forceNat_eq, forceNat_eq] at h3
  refine ⟨_, h3, fun e tmps w hS => ?_⟩
  obtain ⟨a, h4, h5, h6⟩ := (hv e tmps hS).inv_str
  obtain ⟨b, h7, h8, h9⟩ := (hu e tmps hS).inv_str
  have ha : a.size = n := by have := congrArg List.length h5; simpa using this
  have hb : b.size = m := by have := congrArg List.length h8; simpa using this
  refine ⟨.string (a ++ b), .str _ _ _ ?_ ?_, ?_⟩
  · show (a ++ b).data.toList = bytesL (n + m) (s + r * 256 ^ n)
    rw [bytesL_cat n m s r h6, ← h5, ← h8]
    simp [ByteArray.data_append]
  · show s + r * 256 ^ n < 256 ^ (n + m)
    rw [Nat.pow_add]
    calc s + r * 256 ^ n < 256 ^ n + r * 256 ^ n := by omega
      _ = (r + 1) * 256 ^ n := by rw [Nat.add_mul]; omega
      _ ≤ 256 ^ m * 256 ^ n := Nat.mul_le_mul_right _ h9
      _ = 256 ^ n * 256 ^ m := Nat.mul_comm _ _
  · simp only [h4, h7, binS, Sem.run_bind, guard_str, Result.andThen_ok, binOp_string_add]
    exact run_string_add_sum w a b (by omega)
end
end Go.AM
