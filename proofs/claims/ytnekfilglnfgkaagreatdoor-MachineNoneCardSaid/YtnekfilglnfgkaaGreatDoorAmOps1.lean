/- Acts that only compute: what each hands on is what the model's operation gives. -/
import Derived.Test.YtnekfilglnfgkaaGreatDoorAmRel
import Derived.Laws.Cells
set_option autoImplicit false
set_option linter.unusedVariables false
set_option linter.unusedSimpArgs false
namespace Go.AM
section inv
variable {e : Env} {x : Value}
theorem VR.inv_int {k : IntKind} {n : Int} (h : VR e (.int k n) x) : x = .int k n := by cases h; rfl
theorem VR.inv_bool {b : Bool} (h : VR e (.bool b) x) : x = .bool b := by cases h; rfl
theorem VR.inv_str {n v : Nat} (h : VR e (.str n v) x) : ∃ s, x = .string s ∧ s.data.toList = bytesL n v ∧ v < 256 ^ n := by cases h; exact ⟨_, rfl, ‹_›, ‹_›⟩
theorem VR.inv_ptr {b : P} {o : Nat} (h : VR e (.ptr b o) x) : ∃ l, e b = some l ∧ x = .pointer (some ⟨l.blk, l.base + o, none⟩) := by cases h; exact ⟨_, ‹_›, rfl⟩
theorem VR.inv_slc {b : P} {o n c : Nat} (h : VR e (.slc b o n c) x) : ∃ l, e b = some l ∧ x = .slice (some ⟨l.blk, l.base + o, none⟩) n c := by cases h; exact ⟨_, ‹_›, rfl⟩
theorem VR.inv_slo {b : P} {o n es : Nat} (h : VR e (.slo b o n es) x) : ∃ l c, e b = some l ∧ c = (l.size - (l.base + o)) / es ∧ n ≤ c ∧ x = .slice (some ⟨l.blk, l.base + o, none⟩) n c := by cases h; exact ⟨_, _, ‹_›, ‹_›, ‹_›, rfl⟩
theorem VR.inv_nslc (h : VR e .nslc x) : x = .slice none 0 0 := by cases h; rfl
theorem VR.inv_esl (h : VR e .esl x) : ∃ a c, x = .slice (some a) 0 c := by cases h; exact ⟨_, _, rfl⟩
theorem VR.inv_nptr (h : VR e .nptr x) : x = .pointer none := by cases h; rfl
theorem VR.inv_nmap (h : VR e .nmap x) : x = .map none := by cases h; rfl
theorem VR.inv_nfn (h : VR e .nfn x) : x = .nilFunc := by cases h; rfl
theorem VR.inv_nifc (h : VR e .nifc x) : x = .nilIface := by cases h; rfl
theorem VR.inv_und (h : VR e .und x) : x = .tuple #[] := by cases h; rfl
theorem VR.inv_map {b : P} (h : VR e (.map b) x) : ∃ l, e b = some l ∧ x = .map (some l.blk) := by cases h; exact ⟨_, ‹_›, rfl⟩
theorem VR.inv_agg {l : List V} (h : VR e (.agg l) x) : ∃ cs, x = .agg cs ∧ VRs e l cs.toList ∧ ∀ y ∈ cs.toList, y.oneCell' = true := by cases h; exact ⟨_, rfl, ‹_›, ‹_›⟩
theorem VR.inv_tup {l : List V} (h : VR e (.tup l) x) : ∃ cs, x = .tuple cs ∧ VRs e l cs.toList := by cases h; exact ⟨_, rfl, ‹_›⟩
theorem VR.inv_ifc {t : Nat} {v : V} (h : VR e (.ifc t v) x) : ∃ y, x = .iface t y ∧ VR e v y := by cases h; exact ⟨_, rfl, ‹_›⟩
theorem VR.inv_fn {f : Nat} {a c : List V} (h : VR e (.fn f a c) x) : ∃ as cs, x = .func (.func f) as cs ∧ VRs e a as.toList ∧ VRs e c cs.toList := by cases h; exact ⟨_, _, rfl, ‹_›, ‹_›⟩
theorem VR.inv_yld {b : P} (h : VR e (.yld b) x) : ∃ l, e b = some l ∧ x = .func (.yield l.blk) #[] #[] := by cases h; exact ⟨_, ‹_›, rfl⟩
theorem VR.inv_ivl {k : IntKind} {lo hi : Int} (h : VR e (.ivl k lo hi) x) : ∃ n, x = .int k n ∧ lo ≤ n ∧ n ≤ hi := by cases h; exact ⟨_, rfl, ‹_›, ‹_›⟩
end inv
abbrev Srel := Env → List V → Tr V → Array Value → Prop
/-- an operand's value -/
def OOK (S : Srel) (x : Opd) (ev : Array Value → Value) : Prop :=
  ∀ loc vs K, x loc vs K = true → ∃ v, K v = true ∧ ∀ e tmps, S e loc vs tmps → VR e v (ev tmps)
/-- an act that only computes -/
def PV (P : Program) (S : Srel) (f : Opd) (sem : Array Value → Sem Value) : Prop :=
  ∀ loc vs K, f loc vs K = true → ∃ v, K v = true ∧ ∀ e tmps w, S e loc vs tmps → ∃ x, VR e v x ∧ (sem tmps).run P w = .ok x w
section
variable {P : Program} {S : Srel} {x y z : Opd} {ex ey ez : Array Value → Value}
def aggD : TypeDesc → Bool
  | .struct _ | .array _ _ => true
  | _ => false
theorem run_underlying' {t : TypeId} {d : TypeDesc} (h : P.underlying t = some d) (w : World) : (underlying t).run P w = .ok d w := by simp [underlying, h]
theorem run_sizeOf' {t : TypeId} {i : TypeInfo} (h : P.info? t = some i) (w : World) : (sizeOf t).run P w = .ok i.size w := by simp [sizeOf, typeInfo, h]
theorem run_zeroValue' {t : TypeId} {i : TypeInfo} {v : Value} (h : P.info? t = some i) (hz : i.zero = some v) (w : World) : (zeroValue t).run P w = .ok v w := by simp [zeroValue, typeInfo, h, hz]
theorem run_isAgg' {t : TypeId} {d : TypeDesc} (h : P.underlying t = some d) (w : World) : (isAgg t).run P w = .ok (aggD d) w := by
  simp only [isAgg, Sem.run_bind, run_underlying' h, Result.andThen_ok]; cases d <;> rfl
theorem boolK_inv {K : V → A} {b : Bool} (h : boolK K b = true) : K (.bool b) = true := by cases b <;> exact h
theorem negK_inv {K : V → A} {b n : Bool} (h : negK n K b = true) : K (.bool (b != n)) = true := by
  cases n with
  | false => have := boolK_inv (K := K) (b := b) h; simpa using this
  | true => have := boolK_inv (K := K) (b := notB b) h; cases b <;> exact this
theorem kEq_inv {j k : IntKind} {K : A} (h : kEq j k K = true) : j = k ∧ K = true := by
  obtain ⟨h1, h2⟩ := ifK_t h
  refine ⟨?_, h2⟩
  cases j <;> cases k <;> first | rfl | exact absurd h1 (by decide)
theorem eqI_iff (a b : Int) : eqI a b = (a == b) := by
  cases a with
  | ofNat x => cases b with
    | ofNat y => show Nat.beq x y = _; rw [Bool.eq_iff_iff]; simp; exact Int.ofNat_inj.symm
    | negSucc y => rfl
  | negSucc x => cases b with
    | ofNat y => rfl
    | negSucc y => show Nat.beq x y = _; rw [Bool.eq_iff_iff]; simp
theorem ltI_iff (a b : Int) : ltI a b = decide (a < b) := by
  cases a with
  | ofNat x => cases b with
    | ofNat y => show Nat.ble (x + 1) y = _; rw [Bool.eq_iff_iff]; simp only [Nat.ble_eq, decide_eq_true_eq, Int.ofNat_eq_natCast]; omega
    | negSucc y => show false = _; rw [eq_comm, decide_eq_false_iff_not]; simp only [Int.ofNat_eq_natCast]; omega
  | negSucc x => cases b with
    | ofNat y => show true = _; rw [eq_comm, decide_eq_true_eq]; simp only [Int.ofNat_eq_natCast]; omega
    | negSucc y => show Nat.ble (y + 1) x = _; rw [Bool.eq_iff_iff]; simp only [Nat.ble_eq, decide_eq_true_eq]; omega
theorem notB_eq (b : Bool) : notB b = !b := by cases b <;> rfl
theorem eqB_eq (a b : Bool) : eqB a b = (a == b) := by cases a <;> cases b <;> rfl
theorem wrap_eq (k : IntKind) (n : Int) : k.wrap n = if kSig k = true ∧ n % (2 * (kMax k : Int) + 2) ≥ (kMax k : Int) + 1 then n % (2 * (kMax k : Int) + 2) - (2 * (kMax k : Int) + 2) else if kSig k = true then n % (2 * (kMax k : Int) + 2) else n % ((kMax k : Int) + 1) := by
  cases k <;> simp only [IntKind.wrap, IntKind.bits, IntKind.signed, Bool.true_and, Bool.false_and, Nat.reduceSub, Int.reducePow, decide_eq_true_eq, Bool.false_eq_true, if_false, ge_iff_le, kMax, kSig, true_and, false_and, if_true] <;> rfl
theorem neg_emod (m : Nat) (D : Int) (h : (m : Int) < D) : (-((m : Int) + 1)) % D = D - (m + 1) := by
  have e : (D - ((m : Int) + 1)) % D = (-((m : Int) + 1)) % D := by rw [show D - ((m : Int) + 1) = -((m : Int) + 1) + D by omega, Int.add_emod_right]
  rw [← e, Int.emod_eq_of_lt (by omega) (by omega)]
theorem wrap_neg {k : IntKind} {m : Nat} (h : m ≤ kMax k) (hs : kSig k = true) : k.wrap (Int.negSucc m) = Int.negSucc m := by
  rw [wrap_eq, Int.negSucc_eq]
  simp only [hs, true_and, if_true]
  generalize kMax k = M at *
  rw [neg_emod m _ (by omega)]
  split <;> omega
theorem wrap_small {k : IntKind} {m : Nat} (h : m ≤ kMax k) : k.wrap (Int.ofNat m) = Int.ofNat m := by
  rw [wrap_eq, Int.ofNat_eq_natCast]
  generalize kMax k = M at *
  rw [Int.emod_eq_of_lt (by omega) (by omega), Int.emod_eq_of_lt (by omega) (by omega)]
  split
  · omega
  · split <;> rfl
theorem wrapK_inv {k : IntKind} {K : Int → A} {n : Int} (h : wrapK k K n = true) : K (k.wrap n) = true := by
  cases n with
  | ofNat m =>
    have h' : forceNat (fun m => ifK (K (.ofNat m)) (forceInt K (k.wrap (.ofNat m))) (Nat.ble m (kMax k))) m = true := h
    rw [forceNat_eq] at h'
    rcases ifK_inv h' with ⟨h1, h2⟩ | ⟨_, h2⟩
    · rw [wrap_small (Nat.le_of_ble_eq_true h1)]; exact h2
    · rwa [forceInt_eq] at h2
  | negSucc m =>
    have h' : forceNat (fun m => ifK (ifK (K (.negSucc m)) (forceInt K (k.wrap (.negSucc m))) (Nat.ble m (kMax k))) (forceInt K (k.wrap (.negSucc m))) (kSig k)) m = true := h
    rw [forceNat_eq] at h'
    rcases ifK_inv h' with ⟨hs, h'⟩ | ⟨_, h2⟩
    · rcases ifK_inv h' with ⟨h1, h2⟩ | ⟨_, h2⟩
      · rw [wrap_neg (Nat.le_of_ble_eq_true h1) hs]; exact h2
      · rwa [forceInt_eq] at h2
    · rwa [forceInt_eq] at h2
theorem PV.opd (hx : OOK S x ex) : PV P S x (fun tmps => pure (ex tmps)) := fun loc vs K h =>
  let ⟨v, h1, h2⟩ := hx loc vs K h
  ⟨v, h1, fun e tmps w hs => ⟨_, h2 e tmps hs, rfl⟩⟩
theorem PV.pick {c a b : Opd} {ec ea eb : Array Value → Value} (hc : OOK S c ec) (ha : OOK S a ea) (hb : OOK S b eb) :
    PV P S (aPick c a b) (fun tmps => do pure (if ← asBool (ec tmps) then ea tmps else eb tmps)) := by
  intro loc vs K h
  obtain ⟨v, h1, hv⟩ := hc _ _ _ h
  obtain ⟨t, rfl, h2⟩ := V.onBool_inv h1
  rcases ifK_inv h2 with ⟨rfl, h3⟩ | ⟨rfl, h3⟩
  · obtain ⟨u, h4, hu⟩ := ha _ _ _ h3
    refine ⟨u, h4, fun e tmps w hs => ⟨_, hu e tmps hs, ?_⟩⟩
    have h5 := (hv e tmps hs).inv_bool
    simp [h5, asBool]
  · obtain ⟨u, h4, hu⟩ := hb _ _ _ h3
    refine ⟨u, h4, fun e tmps w hs => ⟨_, hu e tmps hs, ?_⟩⟩
    have h5 := (hv e tmps hs).inv_bool
    simp [h5, asBool]
/-- a pointer that is not nil, as it is -/
theorem nil_ok (hx : OOK S x ex) : ∀ loc vs K, aNil x loc vs K = true → ∃ v, K v = true ∧ ∀ e tmps, S e loc vs tmps → VR e v (ex tmps) ∧ ∃ a, ex tmps = .pointer (some a) := by
  intro loc vs K h
  obtain ⟨v, h1, hv⟩ := hx _ _ _ h
  obtain ⟨b, o, rfl, h2⟩ := V.onPtr_inv h1
  refine ⟨_, h2, fun e tmps hs => ?_⟩
  obtain ⟨l, h3, h4⟩ := (hv e tmps hs).inv_ptr
  exact ⟨hv e tmps hs, _, h4⟩
theorem addr_add (a : Nat) (o n : Nat) : (Addr.mk a o none).add n = ⟨a, o + n, none⟩ := by
  unfold Addr.add; split <;> simp_all
theorem PV.fld {s f off : Nat} {fs : Array Field} {fd : Field} {i : TypeInfo} (hx : OOK S x ex) (hs : P.underlying s = some (.struct fs)) (hf : fs[f]? = some fd) (hi : P.info? fd.type = some i) (hn : i.size ≠ 0) (ho : off = fd.offset) :
    PV P S (aFld off x) (fun tmps => Instr.fieldAt s (ex tmps) f) := by
  intro loc vs K h
  obtain ⟨v, h1, hv⟩ := hx _ _ _ h
  obtain ⟨b, o, rfl, h2⟩ := V.onPtr_inv h1
  rw [forceNat_eq] at h2
  refine ⟨_, h2, fun e tmps w hS => ?_⟩
  obtain ⟨l, h3, h4⟩ := (hv e tmps hS).inv_ptr
  refine ⟨_, .ptr b _ l h3, ?_⟩
  subst ho
  simp only [Instr.fieldAt, h4, Sem.run_bind, run_underlying' hs, Result.andThen_ok, hf, Instr.sureAddr, Sem.run_pure, fieldPlace, run_sizeOf' hi, if_neg hn, addr_add, Nat.add_assoc, Nat.add_eq]
theorem cut1_inv {K : V → A} {off : Nat} {l : List V} (h : cut1 K off l = true) : ∃ v, l[off]? = some v ∧ K v = true := getL_inv h
theorem cutN_inv {K : V → A} {off n : Nat} {l : List V} (h : cutN K off n l = true) : off + n ≤ l.length ∧ K (.agg ((l.drop off).take n)) = true := by
  obtain ⟨h1, h2⟩ := dropL_inv h
  obtain ⟨h3, h4⟩ := takeL_inv h2
  simp at h3
  exact ⟨by omega, h4⟩
theorem run_part1 {t : TypeId} {d : TypeDesc} {i : TypeInfo} {cs : Array Value} {off : Nat} {u : Value} (hd : P.underlying t = some d) (hi : P.info? t = some i) (ha : aggD d = false) (hu : cs[off]? = some u) (w : World) :
    (part t cs off).run P w = .ok u w := by
  simp [part, run_isAgg' hd, ha, hu]
theorem run_partN {t : TypeId} {d : TypeDesc} {i : TypeInfo} {cs : Array Value} {off : Nat} (hd : P.underlying t = some d) (hi : P.info? t = some i) (ha : aggD d = true) (w : World) :
    (part t cs off).run P w = .ok (.agg (cs.extract off (off + i.size))) w := by
  simp [part, run_isAgg' hd, ha, run_sizeOf' hi]
theorem agg_cut {e : Env} {l : List V} {cs : Array Value} (h : VRs e l cs.toList) (h1 : ∀ y ∈ cs.toList, y.oneCell' = true) (off n : Nat) : VR e (.agg ((l.drop off).take n)) (.agg (cs.extract off (off + n))) := by
  refine .agg _ _ ?_ ?_
  · rw [Array.toList_extract, List.extract_eq_take_drop, Nat.add_sub_cancel_left]
    exact (h.drop off).take n
  · intro y hy
    rw [Array.toList_extract, List.extract_eq_take_drop] at hy
    exact h1 y (List.mem_of_mem_drop (List.mem_of_mem_take hy))
theorem PV.field1 {s f off : Nat} {fs : Array Field} {fd : Field} {d : TypeDesc} {i : TypeInfo} (hx : OOK S x ex) (hs : P.underlying s = some (.struct fs)) (hf : fs[f]? = some fd) (hd : P.underlying fd.type = some d) (hi : P.info? fd.type = some i) (ha : aggD d = false) (ho : off = fd.offset) :
    PV P S (aField1 off x) (fun tmps => Instr.field s (ex tmps) f) := by
  intro loc vs K h
  obtain ⟨v, h1, hv⟩ := hx _ _ _ h
  obtain ⟨l, rfl, h2⟩ := V.onAgg_inv h1
  obtain ⟨u, h3, h4⟩ := cut1_inv h2
  refine ⟨_, h4, fun e tmps w hS => ?_⟩
  obtain ⟨cs, h5, h6, h7⟩ := (hv e tmps hS).inv_agg
  obtain ⟨y, h8, h9⟩ := h6.get h3
  refine ⟨y, h9, ?_⟩
  subst ho
  rw [Array.getElem?_toList] at h8
  simp only [Instr.field, h5, Sem.run_bind, run_underlying' hs, Result.andThen_ok, hf, asAgg, Sem.run_pure, run_part1 hd hi ha h8]
theorem PV.fieldN {s f off n : Nat} {fs : Array Field} {fd : Field} {d : TypeDesc} {i : TypeInfo} (hx : OOK S x ex) (hs : P.underlying s = some (.struct fs)) (hf : fs[f]? = some fd) (hd : P.underlying fd.type = some d) (hi : P.info? fd.type = some i) (ha : aggD d = true) (ho : off = fd.offset) (hn : n = i.size) :
    PV P S (aFieldN off n x) (fun tmps => Instr.field s (ex tmps) f) := by
  intro loc vs K h
  obtain ⟨v, h1, hv⟩ := hx _ _ _ h
  obtain ⟨l, rfl, h2⟩ := V.onAgg_inv h1
  obtain ⟨h3, h4⟩ := cutN_inv h2
  refine ⟨_, h4, fun e tmps w hS => ?_⟩
  obtain ⟨cs, h5, h6, h7⟩ := (hv e tmps hS).inv_agg
  refine ⟨_, agg_cut h6 h7 off n, ?_⟩
  subst ho hn
  simp only [Instr.field, h5, Sem.run_bind, run_underlying' hs, Result.andThen_ok, hf, asAgg, Sem.run_pure, run_partN hd hi ha]
theorem inB_inv {len : Nat} {K : Nat → A} {v : V} (h : inB len K v = true) : ∃ k m, v = .int k (.ofNat m) ∧ m < len ∧ K m = true := by
  obtain ⟨k, n, rfl, h1⟩ := V.onInt_inv h
  cases n with
  | ofNat m =>
    have h2 : ifK (K m) (F 23) (Nat.ble (Nat.succ m) len) = true := h1
    obtain ⟨h3, h4⟩ := ifK_t h2
    exact ⟨k, m, rfl, Nat.le_of_ble_eq_true h3, h4⟩
  | negSucc m => exact absurd h1 Bool.false_ne_true
theorem PV.ixArr {t len : Nat} {el : TypeId} {i : TypeInfo} {n : Nat} (hx : OOK S x ex) (hy : OOK S y ey) (ht : P.underlying t = some (.array len el)) (hi : P.info? el = some i) (hn : n = i.size) :
    PV P S (aIxArr len n x y) (fun tmps => Instr.indexAt t (ex tmps) (ey tmps)) := by
  intro loc vs K h
  obtain ⟨v, h1, hv⟩ := hx _ _ _ h
  obtain ⟨u, h1, hu⟩ := hy _ _ _ h1
  obtain ⟨b, o, rfl, h2⟩ := V.onPtr_inv h1
  obtain ⟨k, m, rfl, h3, h4⟩ := inB_inv h2
  rw [forceNat_eq] at h4
  refine ⟨_, h4, fun e tmps w hS => ?_⟩
  obtain ⟨l, h5, h6⟩ := (hv e tmps hS).inv_ptr
  have hint := (hu e tmps hS).inv_int
  refine ⟨_, .ptr b _ l h5, ?_⟩
  subst hn
  have hm : (0 : Int) ≤ (m : Int) ∧ (m : Int) < (len : Int) := ⟨Int.natCast_nonneg m, by omega⟩
  rw [Int.ofNat_eq_natCast] at hint
  simp only [Instr.indexAt, h6, hint, asIntOf, Sem.run_bind, Sem.run_pure, Result.andThen_ok, run_underlying' ht, Instr.sureAddr, Sem.run_ite, if_pos hm, run_sizeOf' hi, addr_add, Int.ofNat_eq_natCast, Int.toNat_natCast, Nat.add_assoc, Nat.add_eq, Nat.mul_eq]
theorem PV.ixSl {t : Nat} {el : TypeId} {i : TypeInfo} {n : Nat} (hx : OOK S x ex) (hy : OOK S y ey) (ht : P.underlying t = some (.slice el)) (hi : P.info? el = some i) (hn : n = i.size) :
    PV P S (aIxSl n x y) (fun tmps => Instr.indexAt t (ex tmps) (ey tmps)) := by
  intro loc vs K h
  obtain ⟨v, h1, hv⟩ := hx _ _ _ h
  obtain ⟨u, h1, hu⟩ := hy _ _ _ h1
  have key : ∀ (b : AM.P) (o len : Nat), inB len (fun m => forceNat (fun o => K (.ptr b o)) (Nat.add o (Nat.mul m n))) u = true →
      (∀ e tmps, S e loc vs tmps → ∃ l c, e b = some l ∧ ex tmps = .slice (some ⟨l.blk, l.base + o, none⟩) len c) →
      ∃ v, K v = true ∧ ∀ e tmps w, S e loc vs tmps → ∃ z, VR e v z ∧ (Instr.indexAt t (ex tmps) (ey tmps)).run P w = .ok z w := by
    intro b o len h2 hval
    obtain ⟨k, m, rfl, h3, h4⟩ := inB_inv h2
    rw [forceNat_eq] at h4
    refine ⟨_, h4, fun e tmps w hS => ?_⟩
    obtain ⟨l, c, h5, h6⟩ := hval e tmps hS
    have hint := (hu e tmps hS).inv_int
    refine ⟨_, .ptr b _ l h5, ?_⟩
    subst hn
    have hm : (0 : Int) ≤ (m : Int) ∧ (m : Int) < (len : Int) := ⟨Int.natCast_nonneg m, by omega⟩
    rw [Int.ofNat_eq_natCast] at hint
    simp only [Instr.indexAt, h6, hint, asIntOf, Sem.run_bind, Sem.run_pure, Result.andThen_ok, run_underlying' ht, Sem.run_ite, if_pos hm, run_sizeOf' hi, addr_add, Int.ofNat_eq_natCast, Int.toNat_natCast, Nat.add_assoc, Nat.add_eq, Nat.mul_eq]
  rcases V.onSl_inv h1 with ⟨b, o, len, c, rfl, h2⟩ | ⟨b, o, len, es, rfl, h2⟩ | ⟨_, h2⟩ | ⟨_, h2⟩
  · exact key b o len h2 fun e tmps hS => let ⟨l, a, b⟩ := (hv e tmps hS).inv_slc; ⟨l, _, a, b⟩
  · exact key b o len h2 fun e tmps hS => let ⟨l, c, a, _, _, b⟩ := (hv e tmps hS).inv_slo; ⟨l, c, a, b⟩
  · exact (F_false h2).elim
  · exact (F_false h2).elim
theorem PV.ind1 {t len : Nat} {el : TypeId} {d : TypeDesc} {i : TypeInfo} {n : Nat} (hx : OOK S x ex) (hy : OOK S y ey) (ht : P.underlying t = some (.array len el)) (hd : P.underlying el = some d) (hi : P.info? el = some i) (ha : aggD d = false) (hn : n = i.size) :
    PV P S (aInd1 len n x y) (fun tmps => Instr.index t (ex tmps) (ey tmps)) := by
  intro loc vs K h
  obtain ⟨v, h1, hv⟩ := hx _ _ _ h
  obtain ⟨u, h1, hu⟩ := hy _ _ _ h1
  obtain ⟨l, rfl, h2⟩ := V.onAgg_inv h1
  obtain ⟨k, m, rfl, h3, h4⟩ := inB_inv h2
  rw [forceNat_eq] at h4
  obtain ⟨r, h5, h6⟩ := cut1_inv h4
  refine ⟨_, h6, fun e tmps w hS => ?_⟩
  obtain ⟨cs, h7, h8, h9⟩ := (hv e tmps hS).inv_agg
  have hint := (hu e tmps hS).inv_int
  obtain ⟨q, h11, h12⟩ := h8.get h5
  refine ⟨q, h12, ?_⟩
  subst hn
  rw [Array.getElem?_toList] at h11
  have hm : (0 : Int) ≤ (m : Int) ∧ (m : Int) < (len : Int) := ⟨Int.natCast_nonneg m, by omega⟩
  rw [Int.ofNat_eq_natCast] at hint
  simp only [Instr.index, h7, hint, asIntOf, Sem.run_bind, Sem.run_pure, Result.andThen_ok, run_underlying' ht, Sem.run_ite, if_pos hm, run_sizeOf' hi, Int.ofNat_eq_natCast, Int.toNat_natCast]
  exact run_part1 hd hi ha h11 w
theorem PV.indN {t len : Nat} {el : TypeId} {d : TypeDesc} {i : TypeInfo} {n : Nat} (hx : OOK S x ex) (hy : OOK S y ey) (ht : P.underlying t = some (.array len el)) (hd : P.underlying el = some d) (hi : P.info? el = some i) (ha : aggD d = true) (hn : n = i.size) :
    PV P S (aIndN len n x y) (fun tmps => Instr.index t (ex tmps) (ey tmps)) := by
  intro loc vs K h
  obtain ⟨v, h1, hv⟩ := hx _ _ _ h
  obtain ⟨u, h1, hu⟩ := hy _ _ _ h1
  obtain ⟨l, rfl, h2⟩ := V.onAgg_inv h1
  obtain ⟨k, m, rfl, h3, h4⟩ := inB_inv h2
  rw [forceNat_eq] at h4
  obtain ⟨h5, h6⟩ := cutN_inv h4
  refine ⟨_, h6, fun e tmps w hS => ?_⟩
  obtain ⟨cs, h7, h8, h9⟩ := (hv e tmps hS).inv_agg
  have hint := (hu e tmps hS).inv_int
  refine ⟨_, agg_cut h8 h9 _ n, ?_⟩
  subst hn
  have hm : (0 : Int) ≤ (m : Int) ∧ (m : Int) < (len : Int) := ⟨Int.natCast_nonneg m, by omega⟩
  rw [Int.ofNat_eq_natCast] at hint
  simp only [Instr.index, h7, hint, asIntOf, Sem.run_bind, Sem.run_pure, Result.andThen_ok, run_underlying' ht, Sem.run_ite, if_pos hm, run_sizeOf' hi, Int.ofNat_eq_natCast, Int.toNat_natCast, run_partN hd hi ha, Nat.mul_eq]
theorem bytesL_get : ∀ (n v i : Nat), i < n → (bytesL n v)[i]? = some (UInt8.ofNat (v / 256 ^ i % 256))
  | 0, _, _, h => by omega
  | n + 1, v, 0, _ => by simp [bytesL]
  | n + 1, v, i + 1, h => by
    have := bytesL_get n (v / 256) i (by omega)
    simp only [bytesL, List.getElem?_cons_succ, this, Nat.div_div_eq_div_mul, Nat.pow_succ, Nat.mul_comm]
theorem PV.indS {t : Nat} (hx : OOK S x ex) (hy : OOK S y ey) (ht : P.underlying t = some .string) :
    PV P S (aIndS x y) (fun tmps => Instr.index t (ex tmps) (ey tmps)) := by
  intro loc vs K h
  obtain ⟨v, h1, hv⟩ := hx _ _ _ h
  obtain ⟨u, h1, hu⟩ := hy _ _ _ h1
  obtain ⟨n, s, rfl, h2⟩ := V.onStr_inv h1
  obtain ⟨k, m, rfl, h3, h4⟩ := inB_inv h2
  rw [forceNat_eq] at h4
  refine ⟨_, h4, fun e tmps w hS => ?_⟩
  obtain ⟨bs, h5, h6, h7⟩ := (hv e tmps hS).inv_str
  have hint := (hu e tmps hS).inv_int
  refine ⟨_, .int _ _, ?_⟩
  have hm : (0 : Int) ≤ (m : Int) := Int.natCast_nonneg m
  rw [Int.ofNat_eq_natCast] at hint
  have hg : bs[m]? = some (UInt8.ofNat (s / 256 ^ m % 256)) := by
    have := bytesL_get n s m h3
    rw [← h6] at this
    rw [Array.getElem?_toList] at this
    have hsz : m < bs.size := by
      rcases Nat.lt_or_ge m bs.data.size with h' | h'
      · exact h'
      · rw [Array.getElem?_eq_none h'] at this; cases this
    have e1 : bs[m]? = some bs[m] := getElem?_pos bs m hsz
    have e2 : bs.data[m]? = some bs.data[m] := getElem?_pos bs.data m hsz
    rw [e1]
    rw [e2] at this
    exact this
  simp only [Instr.index, h5, hint, asIntOf, Sem.run_bind, Sem.run_pure, Result.andThen_ok, run_underlying' ht, if_pos hm, Int.ofNat_eq_natCast, Int.toNat_natCast, hg]
  have h9 : (UInt8.ofNat (s / 256 ^ m % 256)).toNat = s / 256 ^ m % 256 := by simp
  rw [h9]; rfl
end
end Go.AM
