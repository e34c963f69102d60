/- Acts that only compute, the third part: nil, aggregates, conversions, slices. -/
import Derived.Test.YtnekfilglnfgkaaGreatDoorAmOps2
set_option autoImplicit false
set_option linter.unusedVariables false
set_option linter.unusedSimpArgs false
namespace Go.AM
section
variable {P : Program} {S : Srel} {x y z : Opd} {ex ey ez : Array Value → Value} {t : TypeId} {xo yo : Operand}
theorem PV.and (hx : OOK S x ex) (hy : OOK S y ey) : PV P S (aAnd x y) (fun tmps => binS .and t xo yo (ex tmps) (ey tmps)) := by
  intro loc vs K h
  obtain ⟨v, h1, hv⟩ := hx _ _ _ h
  obtain ⟨u, h1, hu⟩ := hy _ _ _ h1
  obtain ⟨k, n, rfl, h2⟩ := V.onInt_inv h1
  obtain ⟨j, m, rfl, h3⟩ := V.onInt_inv h2
  obtain ⟨rfl, h4⟩ := kEq_inv h3
  cases n with
  | negSucc n => exact absurd h4 Bool.false_ne_true
  | ofNat a =>
    obtain ⟨ha, h5⟩ := ifK_t h4
    have ha := Nat.le_of_ble_eq_true ha
    cases m with
    | ofNat b =>
      obtain ⟨hb, h6⟩ := ifK_t h5
      rw [forceNat_eq] at h6
      refine ⟨_, h6, fun e tmps w hS => ⟨_, .int _ _, ?_⟩⟩
      simp only [(hv e tmps hS).inv_int, (hu e tmps hS).inv_int, binS, Sem.run_bind, guard_int, Result.andThen_ok, Int.ofNat_eq_natCast]
      exact bin_and k a b w ha (Nat.le_of_ble_eq_true hb)
    | negSucc b =>
      obtain ⟨hb, h6⟩ := ifK_t h5
      have hb := Nat.le_of_ble_eq_true hb
      rw [forceNat_eq] at h6
      refine ⟨_, h6, fun e tmps w hS => ⟨_, .int _ _, ?_⟩⟩
      simp only [(hv e tmps hS).inv_int, (hu e tmps hS).inv_int, binS, Sem.run_bind, guard_int, Result.andThen_ok, Int.ofNat_eq_natCast]
      have hle : a ^^^ (a &&& b) ≤ kMax k := op_le (g := (· ^^^ ·)) (fun j => Nat.xor_lt_two_pow) ha (Nat.le_trans Nat.and_le_left ha)
      have hw := wrap_small hle
      simp only [Int.ofNat_eq_natCast] at hw
      have hbv : (BitVec.ofInt k.bits (a : Int) &&& BitVec.ofInt k.bits (Int.negSucc b)).toNat = a ^^^ (a &&& b) := by
        have e1 : BitVec.ofInt k.bits (Int.negSucc b) = ~~~ (BitVec.ofNat k.bits b) := by
          apply BitVec.eq_of_toInt_eq
          rw [BitVec.toInt_ofInt, BitVec.toInt_not, BitVec.toNat_ofNat, Int.negSucc_eq, small_mod hb]
          have hp : ((2 ^ k.bits : Nat) : Int) - 1 - (b : Int) = -((b : Int) + 1) + ((2 ^ k.bits : Nat) : Int) := by omega
          have hq : (2 : Int) ^ k.bits = ((2 ^ k.bits : Nat) : Int) := by norm_cast
          rw [hq, hp, Int.add_bmod_right]
        rw [e1]
        apply Nat.eq_of_testBit_eq
        intro i
        rw [BitVec.toNat_and, Nat.testBit_and, BitVec.testBit_toNat, BitVec.testBit_toNat, BitVec.getLsbD_not, ← BitVec.testBit_toNat, ← BitVec.testBit_toNat, BitVec.toNat_ofNat, small_mod hb]
        simp only [BitVec.ofInt_natCast, BitVec.toNat_ofNat, small_mod ha, Nat.testBit_xor, Nat.testBit_and]
        by_cases hi : i < k.bits
        · simp only [hi, decide_true, Bool.true_and]
          cases a.testBit i <;> cases b.testBit i <;> rfl
        · have : a.testBit i = false := Nat.testBit_lt_two_pow (Nat.lt_of_lt_of_le (Nat.lt_of_lt_of_le (Nat.lt_succ_of_le ha) (kMax_bits k)) (Nat.pow_le_pow_right (by omega) (by omega)))
          simp [this]
      have hr : Go.binOp .and t (.int k (a : Int)) (.int k (Int.negSucc b)) = Op.intBits .and k (a : Int) (Int.negSucc b) := by simp [Go.binOp]
      rw [hr]
      simp only [Op.intBits, hbv, hw, Sem.run_pure]
      rfl
theorem eqIn_p (d : Nat) {el : TypeId} (ht : P.underlying t = some (.pointer el)) (b : Option Addr) (w : World) : (Op.equalIn (d + 1) t (.pointer b) (.pointer none)).run P w = .ok b.isNone w := by
  cases b <;> simp [Op.equalIn, run_underlying' ht]
theorem eqIn_p' (d : Nat) {el : TypeId} (ht : P.underlying t = some (.pointer el)) (b : Option Addr) (w : World) : (Op.equalIn (d + 1) t (.pointer none) (.pointer b)).run P w = .ok b.isNone w := by
  simp [Op.equalIn, run_underlying' ht]
theorem eqIn_s (d : Nat) {el : TypeId} (ht : P.underlying t = some (.slice el)) (b : Option Addr) (m c n c' : Nat) (w : World) : (Op.equalIn (d + 1) t (.slice b m c) (.slice none n c')).run P w = .ok b.isNone w := by
  cases b <;> simp [Op.equalIn, run_underlying' ht]
theorem eqIn_m (d : Nat) {k el : TypeId} (ht : P.underlying t = some (.map k el)) (b : Option Nat) (w : World) : (Op.equalIn (d + 1) t (.map b) (.map none)).run P w = .ok b.isNone w := by
  cases b <;> simp [Op.equalIn, run_underlying' ht]
theorem eqIn_f (d : Nat) {p q : Array TypeId} {r : Bool} (ht : P.underlying t = some (.func p q r)) (f : Fn) (a c : Array Value) (w : World) : (Op.equalIn (d + 1) t (.func f a c) .nilFunc).run P w = .ok false w := by
  simp [Op.equalIn, run_underlying' ht]
theorem eqIn_f' (d : Nat) {p q : Array TypeId} {r : Bool} (ht : P.underlying t = some (.func p q r)) (w : World) : (Op.equalIn (d + 1) t .nilFunc .nilFunc).run P w = .ok true w := by
  simp [Op.equalIn, run_underlying' ht]
theorem eqIn_i (d : Nat) {ms : Array (String × TypeId)} (ht : P.underlying t = some (.interface ms)) (u : TypeId) (y : Value) (w : World) : (Op.equalIn (d + 1) t (.iface u y) .nilIface).run P w = .ok false w := by
  simp [Op.equalIn, run_underlying' ht]
theorem eqIn_i' (d : Nat) {ms : Array (String × TypeId)} (ht : P.underlying t = some (.interface ms)) (w : World) : (Op.equalIn (d + 1) t .nilIface .nilIface).run P w = .ok true w := by
  simp [Op.equalIn, run_underlying' ht]
theorem eql_nilp (b : Option Addr) (ht : ∃ el, P.underlying t = some (.pointer el)) (w : World) : (Op.equal t (.pointer b) (.pointer none)).run P w = .ok b.isNone w :=
  let ⟨_, ht⟩ := ht; eqIn_p 9999 ht b w
theorem eql_nilp' (b : Option Addr) (ht : ∃ el, P.underlying t = some (.pointer el)) (w : World) : (Op.equal t (.pointer none) (.pointer b)).run P w = .ok b.isNone w :=
  let ⟨_, ht⟩ := ht; eqIn_p' 9999 ht b w
/-- what a comparison with nil comes to -/
theorem bin_eq_of {op : BinOp} {neg : Bool} {a b : Value} {r : Bool} {w : World} (ho : op = if neg then .neq else .eql) (hg : (eqGuard op t xo yo a b).run P w = .ok () w)
    (hq : (Op.equal t a b).run P w = .ok r w) (hn : (Go.binOp .eql t a b = do pure (.bool (← Op.equal t a b))) ∧ (Go.binOp .neq t a b = do pure (.bool (!(← Op.equal t a b))))) :
    (binS op t xo yo a b).run P w = .ok (.bool (r != neg)) w := by
  subst ho
  cases neg
  · have hg : (eqGuard .eql t xo yo a b).run P w = .ok () w := hg
    show (binS .eql t xo yo a b).run P w = _
    simp [binS, hg, hn.1, hq]
  · have hg : (eqGuard .neq t xo yo a b).run P w = .ok () w := hg
    show (binS .neq t xo yo a b).run P w = _
    simp [binS, hg, hn.2, hq]
theorem PV.nilP {op : BinOp} {neg : Bool} (ht : ∃ el, P.underlying t = some (.pointer el)) (ho : op = if neg then .neq else .eql) (hx : OOK S x ex) :
    PV P S (aNilP neg x) (fun tmps => binS op t xo yo (ex tmps) (.pointer none)) := by
  intro loc vs K h
  obtain ⟨v, h1, hv⟩ := hx _ _ _ h
  have hgd : ∀ (b : Option Addr) (w : World), (eqGuard op t xo yo (.pointer b) (.pointer none)).run P w = .ok () w := by intro b w; cases op <;> rfl
  rcases V.onNilp_inv h1 with ⟨b, o, rfl, h2⟩ | ⟨rfl, h2⟩
  · refine ⟨_, negK_inv h2, fun e tmps w hS => ⟨_, .bool _, ?_⟩⟩
    obtain ⟨l, _, h4⟩ := (hv e tmps hS).inv_ptr
    dsimp only; rw [h4]
    exact bin_eq_of ho (hgd _ w) (eql_nilp _ ht w) ⟨rfl, rfl⟩
  · refine ⟨_, negK_inv h2, fun e tmps w hS => ⟨_, .bool _, ?_⟩⟩
    dsimp only; rw [(hv e tmps hS).inv_nptr]
    exact bin_eq_of ho (hgd _ w) (eql_nilp _ ht w) ⟨rfl, rfl⟩
theorem PV.nilP' {op : BinOp} {neg : Bool} (ht : ∃ el, P.underlying t = some (.pointer el)) (ho : op = if neg then .neq else .eql) (hx : OOK S x ex) :
    PV P S (aNilP neg x) (fun tmps => binS op t xo yo (.pointer none) (ex tmps)) := by
  intro loc vs K h
  obtain ⟨v, h1, hv⟩ := hx _ _ _ h
  have hgd : ∀ (b : Option Addr) (w : World), (eqGuard op t xo yo (.pointer none) (.pointer b)).run P w = .ok () w := by intro b w; cases op <;> rfl
  rcases V.onNilp_inv h1 with ⟨b, o, rfl, h2⟩ | ⟨rfl, h2⟩
  · refine ⟨_, negK_inv h2, fun e tmps w hS => ⟨_, .bool _, ?_⟩⟩
    obtain ⟨l, _, h4⟩ := (hv e tmps hS).inv_ptr
    dsimp only; rw [h4]
    exact bin_eq_of ho (hgd _ w) (eql_nilp' _ ht w) ⟨rfl, rfl⟩
  · refine ⟨_, negK_inv h2, fun e tmps w hS => ⟨_, .bool _, ?_⟩⟩
    dsimp only; rw [(hv e tmps hS).inv_nptr]
    exact bin_eq_of ho (hgd _ w) (eql_nilp' _ ht w) ⟨rfl, rfl⟩
theorem PV.nilS {op : BinOp} {neg : Bool} (ht : ∃ el, P.underlying t = some (.slice el)) (ho : op = if neg then .neq else .eql) (hx : OOK S x ex) {n c : Nat} :
    PV P S (aNilS neg x) (fun tmps => binS op t xo yo (ex tmps) (.slice none n c)) := by
  intro loc vs K h
  obtain ⟨v, h1, hv⟩ := hx _ _ _ h
  obtain ⟨el, ht⟩ := ht
  have hgd : ∀ (b : Option Addr) (m d : Nat) (w : World), (eqGuard op t xo yo (.slice b m d) (.slice none n c)).run P w = .ok () w := by intro b m d w; cases op <;> rfl
  have hq : ∀ (b : Option Addr) (m d : Nat) (w : World), (Op.equal t (.slice b m d) (.slice none n c)).run P w = .ok b.isNone w := by
    intro b m d w
    exact eqIn_s 9999 ht b m d n c w
  have go : ∀ (b : Option Addr) (m d : Nat) (w : World), (binS op t xo yo (.slice b m d) (.slice none n c)).run P w = .ok (.bool (b.isNone != neg)) w := fun b m d w =>
    bin_eq_of ho (hgd b m d w) (hq b m d w) ⟨rfl, rfl⟩
  rcases V.onSl_inv h1 with ⟨b, o, len, c', rfl, h2⟩ | ⟨b, o, len, es, rfl, h2⟩ | ⟨rfl, h2⟩ | ⟨rfl, h2⟩
  · refine ⟨_, negK_inv h2, fun e tmps w hS => ⟨_, .bool _, ?_⟩⟩
    obtain ⟨l, _, h4⟩ := (hv e tmps hS).inv_slc
    dsimp only; rw [h4]; exact go _ _ _ w
  · refine ⟨_, negK_inv h2, fun e tmps w hS => ⟨_, .bool _, ?_⟩⟩
    obtain ⟨l, d, _, _, _, h4⟩ := (hv e tmps hS).inv_slo
    dsimp only; rw [h4]; exact go _ _ _ w
  · refine ⟨_, negK_inv h2, fun e tmps w hS => ⟨_, .bool _, ?_⟩⟩
    dsimp only; rw [(hv e tmps hS).inv_nslc]; exact go _ _ _ w
  · refine ⟨_, negK_inv h2, fun e tmps w hS => ⟨_, .bool _, ?_⟩⟩
    obtain ⟨a, d, h4⟩ := (hv e tmps hS).inv_esl
    dsimp only; rw [h4]; exact go _ _ _ w
theorem PV.nilM {op : BinOp} {neg : Bool} (ht : ∃ k el, P.underlying t = some (.map k el)) (ho : op = if neg then .neq else .eql) (hx : OOK S x ex) :
    PV P S (aNilM neg x) (fun tmps => binS op t xo yo (ex tmps) (.map none)) := by
  intro loc vs K h
  obtain ⟨v, h1, hv⟩ := hx _ _ _ h
  obtain ⟨k, el, ht⟩ := ht
  have hgd : ∀ (b : Option Nat) (w : World), (eqGuard op t xo yo (.map b) (.map none)).run P w = .ok () w := by intro b w; cases op <;> rfl
  have hq : ∀ (b : Option Nat) (w : World), (Op.equal t (.map b) (.map none)).run P w = .ok b.isNone w := by
    intro b w
    exact eqIn_m 9999 ht b w
  rcases V.onMap_inv h1 with ⟨b, rfl, h2⟩ | ⟨rfl, h2⟩
  · refine ⟨_, negK_inv h2, fun e tmps w hS => ⟨_, .bool _, ?_⟩⟩
    obtain ⟨l, _, h4⟩ := (hv e tmps hS).inv_map
    dsimp only; rw [h4]; exact bin_eq_of ho (hgd _ w) (hq _ w) ⟨rfl, rfl⟩
  · refine ⟨_, negK_inv h2, fun e tmps w hS => ⟨_, .bool _, ?_⟩⟩
    dsimp only; rw [(hv e tmps hS).inv_nmap]; exact bin_eq_of ho (hgd _ w) (hq _ w) ⟨rfl, rfl⟩
theorem PV.nilF {op : BinOp} {neg : Bool} (ht : ∃ a b c, P.underlying t = some (.func a b c)) (ho : op = if neg then .neq else .eql) (hx : OOK S x ex) :
    PV P S (aNilF neg x) (fun tmps => binS op t xo yo (ex tmps) .nilFunc) := by
  intro loc vs K h
  obtain ⟨v, h1, hv⟩ := hx _ _ _ h
  obtain ⟨p, q, r, ht⟩ := ht
  have g1 : ∀ (f : Fn) (a c : Array Value) (w : World), (binS op t xo yo (.func f a c) .nilFunc).run P w = .ok (.bool (false != neg)) w := fun f a c w =>
    bin_eq_of ho (by cases op <;> rfl) (eqIn_f 9999 ht f a c w) ⟨rfl, rfl⟩
  rcases V.onNilf_inv h1 with ⟨f, a, c, rfl, h2⟩ | ⟨b, rfl, h2⟩ | ⟨rfl, h2⟩
  · refine ⟨_, negK_inv h2, fun e tmps w hS => ⟨_, .bool _, ?_⟩⟩
    obtain ⟨as, cs, h4, _⟩ := (hv e tmps hS).inv_fn
    dsimp only; rw [h4]; exact g1 _ _ _ w
  · refine ⟨_, negK_inv h2, fun e tmps w hS => ⟨_, .bool _, ?_⟩⟩
    obtain ⟨l, _, h4⟩ := (hv e tmps hS).inv_yld
    dsimp only; rw [h4]; exact g1 _ _ _ w
  · refine ⟨_, negK_inv h2, fun e tmps w hS => ⟨_, .bool _, ?_⟩⟩
    dsimp only; rw [(hv e tmps hS).inv_nfn]
    exact bin_eq_of ho (by cases op <;> rfl) (eqIn_f' 9999 ht w) ⟨rfl, rfl⟩
theorem PV.nilI {op : BinOp} {neg : Bool} (ht : ∃ ms, P.underlying t = some (.interface ms)) (ho : op = if neg then .neq else .eql) (hx : OOK S x ex) (hc : ∃ v, yo = .const v) :
    PV P S (aNilI neg x) (fun tmps => binS op t xo yo (ex tmps) .nilIface) := by
  intro loc vs K h
  obtain ⟨v, h1, hv⟩ := hx _ _ _ h
  obtain ⟨ms, ht⟩ := ht
  obtain ⟨cv, rfl⟩ := hc
  rcases V.onNili_inv h1 with ⟨u, a, rfl, h2⟩ | ⟨rfl, h2⟩
  · refine ⟨_, negK_inv h2, fun e tmps w hS => ⟨_, .bool _, ?_⟩⟩
    obtain ⟨y, h4, _⟩ := (hv e tmps hS).inv_ifc
    dsimp only; rw [h4]
    exact bin_eq_of ho (by cases op <;> rfl) (eqIn_i 9999 ht u y w) ⟨rfl, rfl⟩
  · refine ⟨_, negK_inv h2, fun e tmps w hS => ⟨_, .bool _, ?_⟩⟩
    dsimp only; rw [(hv e tmps hS).inv_nifc]
    refine bin_eq_of ho ?_ (eqIn_i' 9999 ht w) ⟨rfl, rfl⟩
    cases op <;> simp [eqGuard]
theorem PV.neg (hx : OOK S x ex) : PV P S (aNeg x) (fun tmps => Op.unary .neg (ex tmps)) := by
  intro loc vs K h
  obtain ⟨v, h1, hv⟩ := hx _ _ _ h
  obtain ⟨k, n, rfl, h2⟩ := V.onInt_inv h1
  refine ⟨_, wrapK_inv h2, fun e tmps w hS => ⟨_, .int _ _, ?_⟩⟩
  simp [(hv e tmps hS).inv_int, Op.unary, Op.intArith]
theorem PV.not (hx : OOK S x ex) : PV P S (aNot x) (fun tmps => Op.unary .not (ex tmps)) := by
  intro loc vs K h
  obtain ⟨v, h1, hv⟩ := hx _ _ _ h
  obtain ⟨b, rfl, h2⟩ := V.onBool_inv h1
  have h3 : K (.bool (!b)) = true := by cases b <;> exact h2
  refine ⟨_, h3, fun e tmps w hS => ⟨_, .bool _, ?_⟩⟩
  simp [(hv e tmps hS).inv_bool, Op.unary]
theorem PV.conv {k : IntKind} {s d : TypeId} {ds : TypeDesc} (hs : P.underlying s = some ds) (hd : P.underlying d = some (.int k)) (hx : OOK S x ex) : PV P S (aConv k x) (fun tmps => Go.convert s d (ex tmps)) := by
  intro loc vs K h
  obtain ⟨v, h1, hv⟩ := hx _ _ _ h
  obtain ⟨j, n, rfl, h2⟩ := V.onInt_inv h1
  refine ⟨_, wrapK_inv h2, fun e tmps w hS => ⟨_, .int _ _, ?_⟩⟩
  simp [(hv e tmps hS).inv_int, Go.convert, run_underlying' hs, run_underlying' hd, Conv.intToInt]
theorem PV.chr {s d : TypeId} {ds : TypeDesc} (hs : P.underlying s = some ds) (hd : P.underlying d = some .string) (hx : OOK S x ex) : PV P S (aChr x) (fun tmps => Go.convert s d (ex tmps)) := by
  intro loc vs K h
  obtain ⟨v, h1, hv⟩ := hx _ _ _ h
  obtain ⟨j, n, rfl, h2⟩ := V.onInt_inv h1
  cases n with
  | negSucc n => exact absurd h2 Bool.false_ne_true
  | ofNat m =>
    obtain ⟨hm, h3⟩ := ifK_t h2
    have hm : m < 128 := Nat.le_of_ble_eq_true hm
    refine ⟨_, h3, fun e tmps w hS => ?_⟩
    refine ⟨.string ⟨#[UInt8.ofNat m]⟩, .str _ _ _ ?_ (by omega), ?_⟩
    · simp [bytesL, Nat.mod_eq_of_lt (show m < 256 by omega)]
    · have : Utf8.encode (m : Int) = ⟨#[UInt8.ofNat m]⟩ := by
        have hv : Utf8.valid (m : Int) = true := by simp [Utf8.valid]; omega
        simp [Utf8.encode, hv]
        intro h; omega
      simp [(hv e tmps hS).inv_int, Go.convert, run_underlying' hs, run_underlying' hd, Conv.intToString, this]
theorem PV.ext {n : Nat} (hx : OOK S x ex) : PV P S (aExt n x) (fun tmps => Instr.extract (ex tmps) n) := by
  intro loc vs K h
  obtain ⟨v, h1, hv⟩ := hx _ _ _ h
  obtain ⟨ts, rfl, h2⟩ := V.onTup_inv h1
  obtain ⟨u, h3, h4⟩ := getL_inv h2
  refine ⟨u, h4, fun e tmps w hS => ?_⟩
  obtain ⟨cs, h5, h6⟩ := (hv e tmps hS).inv_tup
  obtain ⟨y, h7, h8⟩ := h6.get h3
  rw [Array.getElem?_toList] at h7
  exact ⟨y, h8, by simp [h5, Instr.extract, h7]⟩
theorem PV.ifc {d : TypeDesc} (hd : P.underlying t = some d) (hn : ∀ ms, d ≠ .interface ms) (hx : OOK S x ex) : PV P S (aIfc t x) (fun tmps => Instr.makeInterface t (ex tmps)) := by
  intro loc vs K h
  obtain ⟨v, h1, hv⟩ := hx _ _ _ h
  refine ⟨_, h1, fun e tmps w hS => ⟨_, .ifc _ _ _ (hv e tmps hS), ?_⟩⟩
  simp only [Instr.makeInterface, Sem.run_bind, run_underlying' hd, Result.andThen_ok]
  cases d <;> first | rfl | exact absurd rfl (hn _)
/-- operands -/
def OsOK (S : Srel) (xs : List Opd) (ev : Array Value → List Value) : Prop :=
  ∀ loc vs K, oList xs loc vs K = true → ∃ l, K l = true ∧ ∀ e tmps, S e loc vs tmps → VRs e l (ev tmps)
theorem OsOK.nil : OsOK S [] (fun _ => []) := fun loc vs K h => ⟨[], h, fun _ _ _ => .nil⟩
theorem OsOK.cons {xs : List Opd} {evs : Array Value → List Value} (hx : OOK S x ex) (hs : OsOK S xs evs) : OsOK S (x :: xs) (fun tmps => ex tmps :: evs tmps) := by
  intro loc vs K h
  have h' : x loc vs (fun v => oList xs loc vs fun r => K (v :: r)) = true := h
  obtain ⟨v, h1, hv⟩ := hx _ _ _ h'
  obtain ⟨l, h2, hl⟩ := hs _ _ _ h1
  exact ⟨v :: l, h2, fun e tmps hS => .cons _ _ _ _ (hv e tmps hS) (hl e tmps hS)⟩
theorem PV.fun' {f : Nat} {a c : List Opd} {ea ec : Array Value → List Value} (ha : OsOK S a ea) (hc : OsOK S c ec) : PV P S (aFun f a c) (fun tmps => Instr.makeFunc (.func f) (ea tmps).toArray (ec tmps).toArray) := by
  intro loc vs K h
  obtain ⟨l, h1, hl⟩ := ha _ _ _ h
  obtain ⟨m, h2, hm⟩ := hc _ _ _ h1
  exact ⟨_, h2, fun e tmps w hS => ⟨_, .fn _ _ _ _ _ (by simpa using hl e tmps hS) (by simpa using hm e tmps hS), rfl⟩⟩
theorem PV.max (hx : OOK S x ex) (hy : OOK S y ey) {ts : Array TypeId} {ty : TypeId} : PV P S (aMax x y) (fun tmps => Builtin.max_ ts ty #[ex tmps, ey tmps]) := by
  intro loc vs K h
  obtain ⟨v, h1, hv⟩ := hx _ _ _ h
  obtain ⟨u, h1, hu⟩ := hy _ _ _ h1
  obtain ⟨k, n, rfl, h2⟩ := V.onInt_inv h1
  obtain ⟨j, m, rfl, h3⟩ := V.onInt_inv h2
  rcases ifK_inv h3 with ⟨h4, h5⟩ | ⟨h4, h5⟩ <;> rw [ltI_iff] at h4
  · refine ⟨_, h5, fun e tmps w hS => ⟨_, .int _ _, ?_⟩⟩
    have h4 : n < m := by simpa using h4
    simp [(hv e tmps hS).inv_int, (hu e tmps hS).inv_int, Builtin.max_, Builtin.max2, h4]
  · refine ⟨_, h5, fun e tmps w hS => ⟨_, .int _ _, ?_⟩⟩
    have h4 : ¬ n < m := by simpa using h4
    simp [(hv e tmps hS).inv_int, (hu e tmps hS).inv_int, Builtin.max_, Builtin.max2, h4]
theorem PV.min (hx : OOK S x ex) (hy : OOK S y ey) {ts : Array TypeId} {ty : TypeId} : PV P S (aMin x y) (fun tmps => Builtin.min_ ts ty #[ex tmps, ey tmps]) := by
  intro loc vs K h
  obtain ⟨v, h1, hv⟩ := hx _ _ _ h
  obtain ⟨u, h1, hu⟩ := hy _ _ _ h1
  obtain ⟨k, n, rfl, h2⟩ := V.onInt_inv h1
  obtain ⟨j, m, rfl, h3⟩ := V.onInt_inv h2
  rcases ifK_inv h3 with ⟨h4, h5⟩ | ⟨h4, h5⟩ <;> rw [ltI_iff] at h4
  · refine ⟨_, h5, fun e tmps w hS => ⟨_, .int _ _, ?_⟩⟩
    have h4 : m < n := by simpa using h4
    simp [(hv e tmps hS).inv_int, (hu e tmps hS).inv_int, Builtin.min_, Builtin.min2, h4]
  · refine ⟨_, h5, fun e tmps w hS => ⟨_, .int _ _, ?_⟩⟩
    have h4 : ¬ m < n := by simpa using h4
    simp [(hv e tmps hS).inv_int, (hu e tmps hS).inv_int, Builtin.min_, Builtin.min2, h4]
theorem PV.lenS {ts : Array TypeId} {ty : TypeId} (ht : P.underlying t = some .string) (h0 : ts[0]? = some t) (hx : OOK S x ex) : PV P S (aLenS x) (fun tmps => Builtin.len_ ts ty #[ex tmps]) := by
  intro loc vs K h
  obtain ⟨v, h1, hv⟩ := hx _ _ _ h
  obtain ⟨n, s, rfl, h2⟩ := V.onStr_inv h1
  refine ⟨_, h2, fun e tmps w hS => ⟨_, .int _ _, ?_⟩⟩
  obtain ⟨a, h4, h5, h6⟩ := (hv e tmps hS).inv_str
  have ha : a.size = n := by have := congrArg List.length h5; simpa using this
  simp [h4, Builtin.len_, h0, run_underlying' ht, goInt, ha]
theorem PV.lenSl {el : TypeId} {ts : Array TypeId} {ty : TypeId} (ht : P.underlying t = some (.slice el)) (h0 : ts[0]? = some t) (hx : OOK S x ex) : PV P S (aLenSl x) (fun tmps => Builtin.len_ ts ty #[ex tmps]) := by
  intro loc vs K h
  obtain ⟨v, h1, hv⟩ := hx _ _ _ h
  rcases V.onSl_inv h1 with ⟨b, o, len, c', rfl, h2⟩ | ⟨b, o, len, es, rfl, h2⟩ | ⟨rfl, h2⟩ | ⟨rfl, h2⟩
  · refine ⟨_, h2, fun e tmps w hS => ⟨_, .int _ _, ?_⟩⟩
    obtain ⟨l, _, h4⟩ := (hv e tmps hS).inv_slc
    simp [h4, Builtin.len_, h0, run_underlying' ht, goInt]
  · refine ⟨_, h2, fun e tmps w hS => ⟨_, .int _ _, ?_⟩⟩
    obtain ⟨l, d, _, _, _, h4⟩ := (hv e tmps hS).inv_slo
    simp [h4, Builtin.len_, h0, run_underlying' ht, goInt]
  · refine ⟨_, h2, fun e tmps w hS => ⟨_, .int _ _, ?_⟩⟩
    simp [(hv e tmps hS).inv_nslc, Builtin.len_, h0, run_underlying' ht, goInt]
  · refine ⟨_, h2, fun e tmps w hS => ⟨_, .int _ _, ?_⟩⟩
    obtain ⟨a, d, h4⟩ := (hv e tmps hS).inv_esl
    simp [h4, Builtin.len_, h0, run_underlying' ht, goInt]
theorem PV.ta {xt a : TypeId} {d : TypeDesc} {i : TypeInfo} {zero : V} {zv : Value} (hd : P.underlying a = some d) (hn : ∀ ms, d ≠ .interface ms) (hi : P.info? a = some i) (hz : i.zero = some zv) (hzv : ∀ e, VR e zero zv) (hx : OOK S x ex) :
    PV P S (aTA a zero x) (fun tmps => Instr.typeAssert (ex tmps) xt a true) := by
  intro loc vs K h
  obtain ⟨v, h1, hv⟩ := hx _ _ _ h
  have hnil : ∀ w, (Instr.typeAssert .nilIface xt a true).run P w = .ok (.tuple #[zv, .bool false]) w := by
    intro w
    simp only [Instr.typeAssert, Sem.run_bind, run_underlying' hd, Result.andThen_ok]
    cases d <;> first | exact absurd rfl (hn _) | simp [run_zeroValue' hi hz]
  have hif : ∀ t' y w, (Instr.typeAssert (.iface t' y) xt a true).run P w = .ok (if t' = a then .tuple #[y, .bool true] else .tuple #[zv, .bool false]) w := by
    intro t' y w
    simp only [Instr.typeAssert, Sem.run_bind, run_underlying' hd, Result.andThen_ok]
    by_cases e : t' = a
    · subst e; cases d <;> first | exact absurd rfl (hn _) | simp
    · cases d <;> first | exact absurd rfl (hn _) | simp [run_zeroValue' hi hz, e]
  rcases V.onNili_inv h1 with ⟨u, b, rfl, h2⟩ | ⟨rfl, h2⟩
  · rcases ifK_inv h2 with ⟨h3, h4⟩ | ⟨h3, h4⟩
    · refine ⟨_, h4, fun e tmps w hS => ?_⟩
      obtain ⟨y, h5, h6⟩ := (hv e tmps hS).inv_ifc
      refine ⟨.tuple #[y, .bool true], .tup _ _ (.cons _ _ _ _ h6 (.cons _ _ _ _ (.bool _) .nil)), ?_⟩
      dsimp only; rw [h5, hif, if_pos (Nat.eq_of_beq_eq_true h3)]
    · refine ⟨_, h4, fun e tmps w hS => ?_⟩
      obtain ⟨y, h5, h6⟩ := (hv e tmps hS).inv_ifc
      refine ⟨.tuple #[zv, .bool false], .tup _ _ (.cons _ _ _ _ (hzv e) (.cons _ _ _ _ (.bool _) .nil)), ?_⟩
      dsimp only; rw [h5, hif, if_neg (fun hh => by subst hh; rw [Nat.beq_refl] at h3; cases h3)]
  · refine ⟨_, h2, fun e tmps w hS => ⟨.tuple #[zv, .bool false], .tup _ _ (.cons _ _ _ _ (hzv e) (.cons _ _ _ _ (.bool _) .nil)), ?_⟩⟩
    dsimp only; rw [(hv e tmps hS).inv_nifc, hnil]
end
end Go.AM
