/- Parts of texts and of slices. -/
import Derived.Test.YtnekfilglnfgkaaGreatDoorAmOps5
set_option autoImplicit false
set_option linter.unusedVariables false
set_option linter.unusedSimpArgs false
namespace Go.AM
section
variable {P : Program} {S : Srel} {x y z : Opd} {ex ey ez : Array Value → Value} {t : TypeId}
inductive OOpt (S : Srel) : Option Opd → (Array Value → Option Value) → Prop
  | none : OOpt S none (fun _ => none)
  | some (x : Opd) (ex : Array Value → Value) (h : OOK S x ex) : OOpt S (some x) (fun tmps => some (ex tmps))
/-- a bound: what is not given is d -/
def Bnd (v : Option Value) (d m : Nat) : Prop :=
  match v with
  | none => m = d
  | some u => ∃ k, u = .int k (m : Int)
theorem bndK_inv {xo : Option Opd} {ev : Array Value → Option Value} (ho : OOpt S xo ev) {loc : List V} {vs : Tr V} {d : Nat} {K : Nat → A} (h : bndK xo loc vs d K = true) :
    ∃ m, K m = true ∧ ∀ e tmps, S e loc vs tmps → Bnd (ev tmps) d m := by
  cases ho with
  | none => exact ⟨d, h, fun _ _ _ => rfl⟩
  | some x ex hx =>
    have h' : x loc vs (fun v => V.onInt (fun _ n => Int.rec (motive := fun _ => A) K (fun _ => F 33) n) v) = true := h
    obtain ⟨v, h1, hv⟩ := hx _ _ _ h'
    obtain ⟨k, n, rfl, h2⟩ := V.onInt_inv h1
    cases n with
    | negSucc n => exact absurd h2 Bool.false_ne_true
    | ofNat m => exact ⟨m, h2, fun e tmps hS => ⟨k, (hv e tmps hS).inv_int⟩⟩
theorem run_bound {k : IntKind} {m y : Nat} {c : BoundsCode} (h : m ≤ y) (w : World) : (Instr.sliceBound (.int k (m : Int)) y c).run P w = .ok m w := by
  have : (0 : Int) ≤ m ∧ (m : Int) ≤ (y : Int) := ⟨by omega, by omega⟩
  simp [Instr.sliceBound, asIntOf, this]
theorem run_bounds2 {b : Bool} {len cap l h : Nat} {lo hi : Option Value} (hh : Bnd hi len h) (hl : Bnd lo 0 l) (h1 : h ≤ cap) (h2 : l ≤ h) (w : World) :
    (Instr.sliceBounds b len cap lo hi none).run P w = .ok (l, h, cap) w := by
  cases hi with
  | none => cases lo with
    | none => cases hh; cases hl; simp [Instr.sliceBounds]
    | some v => obtain ⟨k, rfl⟩ := hl; cases hh; simp [Instr.sliceBounds, run_bound h2]
  | some u =>
    obtain ⟨j, rfl⟩ := hh
    cases lo with
    | none => cases hl; simp [Instr.sliceBounds, run_bound h1]
    | some v => obtain ⟨k, rfl⟩ := hl; simp [Instr.sliceBounds, run_bound h1, run_bound h2]
theorem run_bounds3 {b : Bool} {len cap l h m : Nat} {lo : Option Value} {hi mx : Value} (hm : ∃ k, mx = .int k (m : Int)) (hh : ∃ k, hi = .int k (h : Int)) (hl : Bnd lo 0 l) (h0 : m ≤ cap) (h1 : h ≤ m) (h2 : l ≤ h) (w : World) :
    (Instr.sliceBounds b len cap lo (some hi) (some mx)).run P w = .ok (l, h, m) w := by
  obtain ⟨i, rfl⟩ := hm
  obtain ⟨j, rfl⟩ := hh
  cases lo with
  | none => cases hl; simp [Instr.sliceBounds, run_bound h0, run_bound h1]
  | some v => obtain ⟨k, rfl⟩ := hl; simp [Instr.sliceBounds, run_bound h0, run_bound h1, run_bound h2]
theorem bytesL_drop : ∀ (n s a : Nat), (bytesL n s).drop a = bytesL (n - a) (s / 256 ^ a)
  | n, s, 0 => by simp
  | 0, s, a + 1 => by simp [bytesL]
  | n + 1, s, a + 1 => by
    simp only [bytesL, List.drop_succ_cons, bytesL_drop n (s / 256) a, Nat.div_div_eq_div_mul, Nat.pow_succ, Nat.mul_comm, Nat.add_sub_add_right]
theorem bytesL_take : ∀ (n s m : Nat), m ≤ n → (bytesL n s).take m = bytesL m (s % 256 ^ m)
  | n, s, 0, _ => by simp [bytesL]
  | 0, s, m + 1, h => by omega
  | n + 1, s, m + 1, h => by
    have e1 : s % 256 ^ (m + 1) % 256 = s % 256 := by rw [Nat.pow_succ, Nat.mul_comm]; exact Nat.mod_mul_right_mod s 256 _
    have e2 : s % 256 ^ (m + 1) / 256 = s / 256 % 256 ^ m := by rw [Nat.pow_succ, Nat.mul_comm]; exact Nat.mod_mul_right_div_self s 256 _
    simp only [bytesL, List.take_succ_cons, bytesL_take n (s / 256) m (by omega), e1, e2]
theorem extract_bytes (s : ByteArray) (a h : Nat) : (s.extract a h).data.toList = (s.data.toList.drop a).take (h - a) := by
  simp [ByteArray.data_extract, List.extract_eq_take_drop]
theorem PV.slS {lo hi : Option Opd} {el eh : Array Value → Option Value} (ht : P.underlying t = some .string) (hx : OOK S x ex) (hlo : OOpt S lo el) (hhi : OOpt S hi eh) :
    PV P S (aSlS x lo hi) (fun tmps => Instr.sliceAt t (ex tmps) (el tmps) (eh tmps) none) := by
  intro loc vs K h
  obtain ⟨v, h1, hv⟩ := hx _ _ _ h
  obtain ⟨n, s, rfl, h2⟩ := V.onStr_inv h1
  obtain ⟨b, h3, hb⟩ := bndK_inv hhi h2
  obtain ⟨a, h4, ha⟩ := bndK_inv hlo h3
  obtain ⟨h5, h6⟩ := ifK_t h4
  obtain ⟨h7, h8⟩ := ifK_t h6
  rw [forceNat_eq, forceNat_eq] at h8
  have h5 : b ≤ n := Nat.le_of_ble_eq_true h5
  have h7 : a ≤ b := Nat.le_of_ble_eq_true h7
  refine ⟨_, h8, fun e tmps w hS => ?_⟩
  obtain ⟨bs, h9, h10, h11⟩ := (hv e tmps hS).inv_str
  have hsz : bs.size = n := by have := congrArg List.length h10; simpa using this
  refine ⟨.string (bs.extract a b), .str _ _ _ ?_ (Nat.mod_lt _ (Nat.pow_pos (by omega))), ?_⟩
  · show (bs.extract a b).data.toList = bytesL (b - a) (s / 256 ^ a % 256 ^ (b - a))
    rw [extract_bytes, h10, bytesL_drop, bytesL_take _ _ _ (by omega)]
  · simp only [Instr.sliceAt, Instr.slice, Sem.run_bind, run_underlying' ht, Result.andThen_ok, h9]
    have := run_bounds2 (P := P) (b := false) (len := bs.size) (cap := bs.size) (by rw [hsz]; exact hb e tmps hS) (ha e tmps hS) (by omega) h7 w
    simp [this]
theorem capDiv {S B a s : Nat} (hs : 0 < s) : (S - (B + a * s)) / s = (S - B) / s - a := by
  rw [← Nat.sub_sub, Nat.mul_comm a s, Nat.sub_mul_div]
theorem PV.slSl {lo hi mx : Option Opd} {el eh em : Array Value → Option Value} {elem : TypeId} {i : TypeInfo} {size : Nat} (ht : P.underlying t = some (.slice elem)) (hi' : P.info? elem = some i) (hn : size = i.size) (hpos : size ≠ 0)
    (hx : OOK S x ex) (hlo : OOpt S lo el) (hhi : OOpt S hi eh) (hmx : OOpt S mx em) (hmh : mx.isSome = true → hi.isSome = true) :
    PV P S (aSlSl size x lo hi mx) (fun tmps => Instr.sliceAt t (ex tmps) (el tmps) (eh tmps) (em tmps)) := by
  intro loc vs K h
  obtain ⟨v, h1, hv⟩ := hx _ _ _ h
  -- what the operation gives, bounds given
  have go : ∀ (a : Option Addr) (len cap l h m : Nat) (lo hi mx : Option Value) (w : World), (∀ w, (Instr.sliceBounds true len cap lo hi mx).run P w = .ok (l, h, m) w) →
      (Instr.sliceAt t (.slice a len cap) lo hi mx).run P w = .ok (.slice (if m = l then a else a.map (·.add (l * size))) (h - l) (m - l)) w := by
    intro a len cap l h m lo hi mx w hb
    subst hn
    simp only [Instr.sliceAt, Instr.slice, Sem.run_bind, run_underlying' ht, Result.andThen_ok, hb, run_sizeOf' hi', Sem.run_pure]
  -- the bounds hold
  have bd : ∀ {e tmps} {len cap l h m : Nat}, Bnd (el tmps) 0 l → Bnd (eh tmps) len h → Bnd (em tmps) cap m → (mx = none ∨ ∃ u, eh tmps = some u) → m ≤ cap → h ≤ m → l ≤ h → S e loc vs tmps →
      ∀ w, (Instr.sliceBounds true len cap (el tmps) (eh tmps) (em tmps)).run P w = .ok (l, h, m) w := by
    intro e tmps len cap l h m hl hh hm hmu c0 c1 c2 hS w
    cases hmx with
    | none => cases hm; exact run_bounds2 hh hl c1 c2 w
    | some q eq hq =>
      rcases hmu with hmu | ⟨u, hu⟩
      · cases hmu
      · rw [hu] at hh ⊢
        exact run_bounds3 hm hh hl c0 c1 c2 w
  have hmu : ∀ tmps, mx = none ∨ ∃ u, eh tmps = some u := by
    intro tmps
    cases hmx with
    | none => exact .inl rfl
    | some q eq hq =>
      right
      cases hhi with
      | none => exact absurd (hmh rfl) (by simp)
      | some r er hr => exact ⟨_, rfl⟩
  rcases V.onSl_inv h1 with ⟨b, o, n, c, rfl, h2⟩ | ⟨b, o, n, es, rfl, h2⟩ | ⟨rfl, h2⟩ | ⟨rfl, h2⟩
  · obtain ⟨m, h3, hm⟩ := bndK_inv hmx h2
    obtain ⟨q, h4, hq⟩ := bndK_inv hhi h3
    obtain ⟨a, h5, ha⟩ := bndK_inv hlo h4
    obtain ⟨k1, h6⟩ := ifK_t h5
    obtain ⟨k2, h6⟩ := ifK_t h6
    obtain ⟨k3, h6⟩ := ifK_t h6
    have k1 := Nat.le_of_ble_eq_true k1
    have k2 := Nat.le_of_ble_eq_true k2
    have k3 := Nat.le_of_ble_eq_true k3
    rcases ifK_inv h6 with ⟨k4, h7⟩ | ⟨k4, h7⟩
    · have k4 := Nat.eq_of_beq_eq_true k4
      refine ⟨_, h7, fun e tmps w hS => ?_⟩
      obtain ⟨l, h8, h9⟩ := (hv e tmps hS).inv_slc
      refine ⟨_, .slc b o 0 0 l h8, ?_⟩
      dsimp only
      rw [h9, go _ _ _ a q m _ _ _ w (bd (ha e tmps hS) (hq e tmps hS) (hm e tmps hS) (hmu tmps) k1 k2 k3 hS), if_pos k4.symm]
      rw [show q - a = 0 by omega, show m - a = 0 by omega]
    · rw [forceNat_eq, forceNat_eq, forceNat_eq] at h7
      have k4 : a ≠ m := fun hh => by subst hh; rw [Nat.beq_refl] at k4; cases k4
      refine ⟨_, h7, fun e tmps w hS => ?_⟩
      obtain ⟨l, h8, h9⟩ := (hv e tmps hS).inv_slc
      refine ⟨_, .slc b _ _ _ l h8, ?_⟩
      dsimp only
      rw [h9, go _ _ _ a q m _ _ _ w (bd (ha e tmps hS) (hq e tmps hS) (hm e tmps hS) (hmu tmps) k1 k2 k3 hS), if_neg (fun hh => k4 hh.symm)]
      simp only [Option.map_some, addr_add, Nat.add_assoc]
      rfl
  · obtain ⟨kes, h2⟩ := ifK_t h2
    have kes := Nat.eq_of_beq_eq_true kes
    subst kes
    cases hmx with
    | none =>
      obtain ⟨q, h4, hq⟩ := bndK_inv hhi h2
      obtain ⟨a, h5, ha⟩ := bndK_inv hlo h4
      obtain ⟨k2, h6⟩ := ifK_t h5
      obtain ⟨k3, h6⟩ := ifK_t h6
      have k2 := Nat.le_of_ble_eq_true k2
      have k3 := Nat.le_of_ble_eq_true k3
      rcases ifK_inv h6 with ⟨k4, h7⟩ | ⟨k4, h7⟩
      · have k4 : a < n := Nat.le_of_ble_eq_true k4
        rw [forceNat_eq, forceNat_eq] at h7
        refine ⟨_, h7, fun e tmps w hS => ?_⟩
        obtain ⟨l, c, h8, hc, hnc, h9⟩ := (hv e tmps hS).inv_slo
        refine ⟨_, .slo b (o + a * es) (q - a) es (c - a) l h8 ?_ (by omega), ?_⟩
        · rw [hc, ← Nat.add_assoc, capDiv (by omega)]
        · dsimp only
          rw [h9, go _ _ _ a q c _ _ _ w (fun w => run_bounds2 (hq e tmps hS) (ha e tmps hS) (by omega) k3 w), if_neg (by omega)]
          simp only [Option.map_some, addr_add, Nat.add_assoc]
      · rcases ifK_inv h7 with ⟨k5, h8⟩ | ⟨k5, h8⟩
        · have k5 := Nat.eq_of_beq_eq_true k5
          subst k5
          refine ⟨_, h8, fun e tmps w hS => ?_⟩
          obtain ⟨l, c, h8, hc, hnc, h9⟩ := (hv e tmps hS).inv_slo
          refine ⟨_, .slo b o q es c l h8 hc (by omega), ?_⟩
          dsimp only
          rw [h9, go _ _ _ 0 q c _ _ _ w (fun w => run_bounds2 (hq e tmps hS) (ha e tmps hS) (by omega) k3 w)]
          simp [Addr.add]
        · have k4 : ¬ a < n := fun hh => by rw [Nat.ble_eq_true_of_le hh] at k4; cases k4
          refine ⟨_, h8, fun e tmps w hS => ?_⟩
          obtain ⟨l, c, h8, hc, hnc, h9⟩ := (hv e tmps hS).inv_slo
          have : ∃ z, (if c = a then some (Addr.mk l.blk (l.base + o) none) else (some (Addr.mk l.blk (l.base + o) none)).map (·.add (a * es))) = some z := by split <;> exact ⟨_, rfl⟩
          obtain ⟨z, hz⟩ := this
          refine ⟨_, .esl z (c - a), ?_⟩
          dsimp only
          rw [h9, go _ _ _ a q c _ _ _ w (fun w => run_bounds2 (hq e tmps hS) (ha e tmps hS) (by omega) k3 w), hz, show q - a = 0 by omega]
    | some mo emo hmo =>
      obtain ⟨m, h3, hm⟩ := bndK_inv (OOpt.some mo emo hmo) h2
      obtain ⟨q, h4, hq⟩ := bndK_inv hhi h3
      obtain ⟨a, h5, ha⟩ := bndK_inv hlo h4
      obtain ⟨k1, h6⟩ := ifK_t h5
      obtain ⟨k2, h6⟩ := ifK_t h6
      obtain ⟨k3, h6⟩ := ifK_t h6
      have k1 := Nat.le_of_ble_eq_true k1
      have k2 := Nat.le_of_ble_eq_true k2
      have k3 := Nat.le_of_ble_eq_true k3
      rcases ifK_inv h6 with ⟨k4, h7⟩ | ⟨k4, h7⟩
      · have k4 : a < m := Nat.le_of_ble_eq_true k4
        rw [forceNat_eq, forceNat_eq, forceNat_eq] at h7
        refine ⟨_, h7, fun e tmps w hS => ?_⟩
        obtain ⟨l, c, h8, hc, hnc, h9⟩ := (hv e tmps hS).inv_slo
        refine ⟨_, .slc b _ _ _ l h8, ?_⟩
        dsimp only
        rw [h9, go _ _ _ a q m _ _ _ w (bd (cap := c) (ha e tmps hS) (hq e tmps hS) (show Bnd (some (emo tmps)) c m from hm e tmps hS) (hmu tmps) (by omega) k2 k3 hS), if_neg (by omega)]
        simp only [Option.map_some, addr_add, Nat.add_assoc]
        rfl
      · have k4 : ¬ a < m := fun hh => by rw [Nat.ble_eq_true_of_le hh] at k4; cases k4
        refine ⟨_, h7, fun e tmps w hS => ?_⟩
        obtain ⟨l, c, h8, hc, hnc, h9⟩ := (hv e tmps hS).inv_slo
        refine ⟨_, .esl ⟨l.blk, l.base + o, none⟩ 0, ?_⟩
        dsimp only
        rw [h9, go _ _ _ a q m _ _ _ w (bd (cap := c) (ha e tmps hS) (hq e tmps hS) (show Bnd (some (emo tmps)) c m from hm e tmps hS) (hmu tmps) (by omega) k2 k3 hS), if_pos (by omega), show q - a = 0 by omega, show m - a = 0 by omega]
  · obtain ⟨m, h3, hm⟩ := bndK_inv hmx h2
    obtain ⟨q, h4, hq⟩ := bndK_inv hhi h3
    obtain ⟨a, h5, ha⟩ := bndK_inv hlo h4
    obtain ⟨k1, h6⟩ := ifK_t h5
    have k1 : m + (q + a) = 0 := Nat.eq_of_beq_eq_true k1
    refine ⟨_, h6, fun e tmps w hS => ⟨_, .nslc, ?_⟩⟩
    dsimp only
    rw [(hv e tmps hS).inv_nslc, go _ _ _ a q m _ _ _ w (bd (ha e tmps hS) (hq e tmps hS) (hm e tmps hS) (hmu tmps) (by omega) (by omega) (by omega) hS), if_pos (by omega), show q - a = 0 by omega, show m - a = 0 by omega]
  · cases hmx with
    | some mo emo hmo => exact (F_false h2).elim
    | none =>
      obtain ⟨q, h4, hq⟩ := bndK_inv hhi h2
      obtain ⟨a, h5, ha⟩ := bndK_inv hlo h4
      obtain ⟨k1, h6⟩ := ifK_t h5
      have k1 : q + a = 0 := Nat.eq_of_beq_eq_true k1
      refine ⟨_, h6, fun e tmps w hS => ?_⟩
      obtain ⟨z, c, h7⟩ := (hv e tmps hS).inv_esl
      refine ⟨_, .esl z c, ?_⟩
      dsimp only
      rw [h7, go _ _ _ a q c _ _ _ w (fun w => run_bounds2 (hq e tmps hS) (ha e tmps hS) (by omega) (by omega) w), show a = 0 by omega, show q - 0 = 0 by omega]
      simp [Addr.add]
end
end Go.AM
