/- Open orders: what lies ahead of an operation in every order; every order lists all. -/
import Derived.Test.YtnekfilglnfgkaaGreatDoorAmReg2
import Derived.Orders
set_option autoImplicit false
set_option linter.unusedVariables false
set_option linter.unusedSimpArgs false
namespace Go.AM
theorem bit_zero (j : Nat) : bit 0 j = false := by simp [bit]
theorem bit_or (a b j : Nat) : bit (a ||| b) j = (bit a j || bit b j) := by simp [bit]
theorem bit_pow (n j : Nat) : bit (2 ^ n) j = decide (n = j) := by simp [bit, Nat.testBit_two_pow]
theorem anyMask_bit {o : Oper} {acc : List Nat} {j : Nat} (h : bit (anyMask o acc) j = true) : ∃ e ∈ o.after.toList, Region.binds .any e = true ∧ (e.on = j ∨ bit (acc.getD e.on 0) j = true) := by
  unfold anyMask at h
  have key : ∀ (l : List Edge) (s : Nat), bit (l.foldl (fun s e => if Region.binds .any e then s ||| 2 ^ e.on ||| acc.getD e.on 0 else s) s) j = true →
      bit s j = true ∨ ∃ e ∈ l, Region.binds .any e = true ∧ (e.on = j ∨ bit (acc.getD e.on 0) j = true) := by
    intro l
    induction l with
    | nil => intro s h; exact .inl h
    | cons e r ih =>
      intro s h
      rw [List.foldl_cons] at h
      rcases ih _ h with h | ⟨e', h1, h2⟩
      · by_cases hb : Region.binds .any e = true
        · rw [if_pos hb, bit_or, bit_or, bit_pow] at h
          simp only [Bool.or_eq_true, decide_eq_true_eq] at h
          rcases h with (h | h) | h
          · exact .inl h
          · exact .inr ⟨e, by simp, hb, .inl h⟩
          · exact .inr ⟨e, by simp, hb, .inr h⟩
        · rw [if_neg hb] at h; exact .inl h
      · exact .inr ⟨e', by simp [h1], h2⟩
  rcases key _ 0 h with h | h
  · rw [bit_zero] at h; cases h
  · exact h
theorem masks_eq : ∀ (r : List Oper) (acc : List Nat), ∃ l, masks r acc = acc ++ l ∧ l.length = r.length ∧ ∀ i o, r[i]? = some o → (masks r acc)[acc.length + i]? = some (anyMask o ((masks r acc).take (acc.length + i)))
  | [], acc => ⟨[], by simp [masks], rfl, by simp⟩
  | o :: r, acc => by
    obtain ⟨l, h1, h2, h3⟩ := masks_eq r (acc ++ [anyMask o acc])
    have e0 : masks (o :: r) acc = masks r (acc ++ [anyMask o acc]) := rfl
    refine ⟨anyMask o acc :: l, by rw [e0, h1]; simp, by simp [h2], fun i o' hi => ?_⟩
    rw [e0]
    cases i with
    | zero =>
      simp at hi
      subst hi
      rw [h1]; simp
    | succ i =>
      have := h3 i o' (by simpa using hi)
      rw [show (acc ++ [anyMask o acc]).length + i = acc.length + (i + 1) by simp; omega] at this
      exact this
theorem mask_at {all : List Oper} {i : Nat} {o : Oper} (h : all[i]? = some o) : (masks all []).getD i 0 = anyMask o ((masks all []).take i) := by
  obtain ⟨l, h1, h2, h3⟩ := masks_eq all []
  have := h3 i o h
  simp only [List.length_nil, Nat.zero_add] at this
  rw [List.getD_eq_getElem?_getD, this]
  rfl
/-- edges point back -/
def Backs (all : List Oper) : Prop := ∀ i o, all[i]? = some o → ∀ e ∈ o.after.toList, Region.binds .any e = true → e.on < i
/-- what is closed under edges is closed under bits -/
theorem closed_bits {all : List Oper} (L : Nat → Prop) (hL : ∀ i, L i → ∃ o, all[i]? = some o) (hc : ∀ i o, L i → all[i]? = some o → ∀ e ∈ o.after.toList, Region.binds .any e = true → L e.on) :
    ∀ i, L i → ∀ j, bit ((masks all []).getD i 0) j = true → L j := by
  intro i
  induction i using Nat.strongRecOn with
  | ind i ih =>
    intro hi j hj
    obtain ⟨o, ho⟩ := hL i hi
    rw [mask_at ho] at hj
    obtain ⟨e, h1, h2, h3⟩ := anyMask_bit hj
    have he := hc i o hi ho e h1 h2
    rcases h3 with rfl | h3
    · exact he
    · by_cases hlt : e.on < i
      · refine ih e.on hlt he j ?_
        rw [List.getD_eq_getElem?_getD] at h3 ⊢
        rwa [List.getElem?_take_of_lt hlt] at h3
      · rw [List.getD_eq_getElem?_getD, List.getElem?_eq_none (by simp; omega)] at h3
        simp [bit_zero] at h3
/-- an order that keeps to what lies ahead, and lists all -/
inductive Sched (n : Nat) (ms : List Nat) : (Nat → Prop) → List Nat → Prop
  | nil (L : Nat → Prop) (h : ∀ i, i < n → L i) : Sched n ms L []
  | cons (L : Nat → Prop) (i : Nat) (r : List Nat) (hi : i < n) (hn : ¬ L i) (hb : ∀ j, bit (ms.getD i 0) j = true → L j) (t : Sched n ms (fun j => L j ∨ j = i) r) : Sched n ms L (i :: r)
def unl (listed : Array Bool) (l : List Nat) : Nat := l.countP fun i => !listed.getD i true
theorem unl_set {listed : Array Bool} {k : Nat} : ∀ {l : List Nat}, l.Nodup → k ∈ l → listed.getD k true = false → unl (listed.setIfInBounds k true) l + 1 = unl listed l
  | [], _, h, _ => by cases h
  | a :: r, hn, hk, hl => by
    have hks : k < listed.size := by
      rcases Nat.lt_or_ge k listed.size with hh | hh
      · exact hh
      · simp [Array.getElem?_eq_none hh] at hl
    have other : ∀ i, i ≠ k → (listed.setIfInBounds k true).getD i true = listed.getD i true := by
      intro i hi
      have : k ≠ i := fun hh => hi hh.symm
      simp [Array.getElem?_setIfInBounds_ne this]
    have same : (listed.setIfInBounds k true).getD k true = true := by simp [hks]
    rw [List.nodup_cons] at hn
    unfold unl
    by_cases hak : a = k
    · subst hak
      rw [List.countP_cons_of_neg (by rw [same]; simp), List.countP_cons_of_pos (by rw [hl]; simp)]
      congr 1
      apply List.countP_congr
      intro i hi
      rw [other i (fun hh => hn.1 (hh ▸ hi))]
    · have hkr : k ∈ r := by rcases List.mem_cons.1 hk with rfl | h; exact absurd rfl hak; exact h
      have ih := unl_set (listed := listed) hn.2 hkr hl
      unfold unl at ih
      rw [List.countP_cons, List.countP_cons, other a hak, ← ih]
      omega
theorem go_sched {ops : Array Oper} (hb : Backs ops.toList) : ∀ (fuel t : Nat) (listed : Array Bool), listed.size = ops.size → unl listed (List.range ops.size) = fuel →
    (∀ i o, listed.getD i false = true → ops[i]? = some o → ∀ e ∈ o.after.toList, Region.binds .any e = true → listed.getD e.on false = true) →
    Sched ops.size (masks ops.toList []) (fun i => listed.getD i false = true) (Region.linearise.go .any ops fuel t listed [])
  | 0, t, listed, hs, hu, hc => by
    simp only [Region.linearise.go, List.reverse_nil]
    refine .nil _ fun i hi => ?_
    have : (!listed.getD i true) = false := by
      cases hh : (!listed.getD i true) with
      | false => rfl
      | true =>
        have := (List.countP_pos_iff (p := fun i => !listed.getD i true) (l := List.range ops.size)).2 ⟨i, List.mem_range.2 hi, hh⟩
        unfold unl at hu
        omega
    have his : i < listed.size := by omega
    simp [his] at this ⊢
    exact this
  | fuel + 1, t, listed, hs, hu, hc => by
    simp only [Region.linearise.go]
    generalize hrs : (List.range ops.size).filter (fun i => !listed.getD i true && ((ops[i]?).map (·.after.all fun e => !Region.binds .any e || listed.getD e.on false)).getD false) = rs
    have hmem : ∀ i, i ∈ rs ↔ i < ops.size ∧ listed.getD i true = false ∧ ∃ o, ops[i]? = some o ∧ ∀ e ∈ o.after.toList, Region.binds .any e = true → listed.getD e.on false = true := by
      intro i
      rw [← hrs, List.mem_filter, List.mem_range]
      constructor
      · rintro ⟨h1, h2⟩
        simp only [Bool.and_eq_true, Bool.not_eq_true'] at h2
        refine ⟨h1, h2.1, ops[i], by simp [h1], fun e he hbe => ?_⟩
        have h3 := h2.2
        simp only [getElem?_pos ops i h1, Option.map_some, Option.getD_some] at h3
        rw [Array.all_eq_true_iff_forall_mem] at h3
        have := h3 e (by simpa using he)
        simpa [hbe] using this
      · rintro ⟨h1, h2, o, h3, h4⟩
        refine ⟨h1, ?_⟩
        simp only [Bool.and_eq_true, Bool.not_eq_true']
        refine ⟨h2, ?_⟩
        simp only [h3, Option.map_some, Option.getD_some]
        rw [Array.all_eq_true_iff_forall_mem]
        intro e he
        by_cases hbe : Region.binds .any e = true
        · simpa [hbe] using h4 e (by simpa using he) hbe
        · simp [hbe]
    -- the first that is not listed is ready
    have hne : rs ≠ [] := by
      have hpos : 0 < unl listed (List.range ops.size) := by omega
      obtain ⟨k, hk1, hk2⟩ := List.countP_pos_iff.1 hpos
      have : ∀ n k, k < n → k < ops.size → (!listed.getD k true) = true → ∃ i, i ∈ rs := by
        intro n
        induction n with
        | zero => intro k h; omega
        | succ n ih =>
          intro k hkn hks hk
          by_cases hall : ∃ i, i < k ∧ (!listed.getD i true) = true
          · obtain ⟨i, hi, hi2⟩ := hall
            exact ih i (by omega) (by omega) hi2
          · refine ⟨k, (hmem k).2 ⟨hks, by simpa using hk, ops[k], by simp [hks], fun e he hbe => ?_⟩⟩
            have hlt := hb k ops[k] (by simp [hks]) e he hbe
            have h5 : ¬ (!listed.getD e.on true) = true := fun hh => hall ⟨e.on, hlt, hh⟩
            have h6 : e.on < listed.size := by omega
            simp [h6] at h5 ⊢
            exact h5
      obtain ⟨i, hi⟩ := this (k + 1) k (by omega) (List.mem_range.1 hk1) hk2
      intro hh; rw [hh] at hi; cases hi
    have hlen : 0 < rs.length := by cases rs with | nil => exact absurd rfl hne | cons => simp
    have hlt := Nat.mod_lt t hlen
    have hget : rs[t % rs.length]? = some (rs[t % rs.length]) := getElem?_pos rs _ hlt
    rw [hget]
    simp only []
    generalize rs[t % rs.length] = i at hget
    have hi := (hmem i).1 (List.mem_of_getElem? hget)
    obtain ⟨h1, h2, o, h3, h4⟩ := hi
    rw [linearise_go_acc, List.reverse_singleton, List.singleton_append]
    have his : i < listed.size := by omega
    have hset : ∀ j, (listed.setIfInBounds i true).getD j false = true ↔ (listed.getD j false = true ∨ j = i) := by
      intro j
      by_cases hji : j = i
      · subst hji; simp [his]
      · have : i ≠ j := fun hh => hji hh.symm
        simp [hji, Array.getElem?_setIfInBounds_ne this]
    have hcl := closed_bits (all := ops.toList) (fun j => listed.getD j false = true ∨ j = i)
      (fun j hj => by
        have : j < ops.size := by
          rcases hj with hj | rfl
          · rcases Nat.lt_or_ge j listed.size with hh | hh
            · omega
            · simp [Array.getElem?_eq_none hh] at hj
          · exact h1
        exact ⟨ops[j], by simp [this]⟩)
      (fun j oj hj hoj e he hbe => by
        rw [Array.getElem?_toList] at hoj
        rcases hj with hj | rfl
        · exact .inl (hc j oj hj hoj e he hbe)
        · obtain rfl := Option.some.inj (h3.symm.trans hoj)
          exact .inl (h4 e he hbe))
    refine .cons _ i _ h1 (fun hh => ?_) (fun j hj => ?_) ?_
    · simp [his] at h2 hh; rw [h2] at hh; cases hh
    · rcases hcl i (.inr rfl) j hj with hh | rfl
      · exact hh
      · rw [mask_at (o := o) (by simpa using h3)] at hj
        obtain ⟨e, e1, e2, e3⟩ := anyMask_bit hj
        have hlt2 := hb j o (by simpa using h3) e e1 e2
        rcases e3 with e3 | e3
        · omega
        · -- a bit of something listed: closed without i
          have hcl2 := closed_bits (all := ops.toList) (fun j => listed.getD j false = true)
            (fun j hj => by
              have : j < ops.size := by
                rcases Nat.lt_or_ge j listed.size with hh | hh
                · omega
                · simp [Array.getElem?_eq_none hh] at hj
              exact ⟨ops[j], by simp [this]⟩)
            (fun j oj hj hoj e he hbe => hc j oj hj (by simpa using hoj) e he hbe)
          refine hcl2 e.on (h4 e e1 e2) j ?_
          rw [List.getD_eq_getElem?_getD] at e3 ⊢
          rwa [List.getElem?_take_of_lt hlt2] at e3
    · have ih := go_sched hb fuel (t / rs.length) (listed.setIfInBounds i true) (by simpa using hs) (by
          have := unl_set (listed := listed) (k := i) List.nodup_range (List.mem_range.2 h1) h2
          omega) (fun j oj hj hoj e he hbe => by
          rw [hset] at hj ⊢
          rcases hj with hj | rfl
          · exact .inl (hc j oj hj hoj e he hbe)
          · obtain rfl := Option.some.inj (h3.symm.trans hoj)
            exact .inl (h4 e he hbe))
      have : (fun j => (listed.setIfInBounds i true).getD j false = true) = fun j => listed.getD j false = true ∨ j = i := by
        funext j; exact propext (hset j)
      rw [this] at ih
      exact ih
theorem lin_sched {ops : Array Oper} (hb : Backs ops.toList) (t : Nat) : Sched ops.size (masks ops.toList []) (fun _ => False) (Region.linearise .any ops t) := by
  have h := go_sched hb ops.size t (Array.replicate ops.size false) (by simp) (by
      unfold unl
      have : (List.range ops.size).countP (fun i => !(Array.replicate ops.size false).getD i true) = (List.range ops.size).length := by
        rw [List.countP_eq_length]
        intro i hi
        have := List.mem_range.1 hi
        simp [this]
      rw [this]; simp) (fun i o hi => by
      by_cases h : i < ops.size
      · simp [h] at hi
      · simp [h] at hi)
  have : (fun i => (Array.replicate ops.size false).getD i false = true) = fun _ => False := by
    funext i
    apply propext
    constructor
    · intro hi
      by_cases h : i < ops.size
      · simp [h] at hi
      · simp [h] at hi
    · intro hi; exact hi.elim
  rw [this] at h
  exact h
/-! ### The operations that act -/
theorem effsOf_mem : ∀ {l : List Oper} {k i : Nat}, i ∈ effsOf l k ↔ k ≤ i ∧ ∃ o, l[i - k]? = some o ∧ effOp o.op = true
  | [], k, i => by simp [effsOf]
  | o :: r, k, i => by
    have ih := effsOf_mem (l := r) (k := k + 1) (i := i)
    have tail : (k + 1 ≤ i ∧ ∃ o, r[i - (k + 1)]? = some o ∧ effOp o.op = true) ↔ (k < i ∧ ∃ o', (o :: r)[i - k]? = some o' ∧ effOp o'.op = true) := by
      constructor
      · rintro ⟨h, o', h1, h2⟩
        exact ⟨h, o', by rw [show i - k = (i - (k + 1)) + 1 by omega]; simpa using h1, h2⟩
      · rintro ⟨h, o', h1, h2⟩
        exact ⟨h, o', by rw [show i - k = (i - (k + 1)) + 1 by omega] at h1; simpa using h1, h2⟩
    unfold effsOf
    split
    · rename_i he
      rw [List.mem_cons, ih, tail]
      constructor
      · rintro (rfl | ⟨h, h2⟩)
        · exact ⟨Nat.le_refl _, o, by simp, he⟩
        · exact ⟨by omega, h2⟩
      · rintro ⟨h, h2⟩
        rcases Nat.lt_or_eq_of_le h with h | rfl
        · exact .inr ⟨h, h2⟩
        · exact .inl rfl
    · rename_i he
      rw [ih, tail]
      constructor
      · rintro ⟨h, h2⟩; exact ⟨by omega, h2⟩
      · rintro ⟨h, h2⟩
        rcases Nat.lt_or_eq_of_le h with h | rfl
        · exact ⟨h, h2⟩
        · obtain ⟨o', h3, h4⟩ := h2
          simp at h3
          subst h3
          exact absurd h4 he
theorem chain_at {ms : List Nat} : ∀ {l : List Nat}, chain ms l = true → ∀ {a b : List Nat} {j i : Nat}, l = a ++ j :: i :: b → bit (ms.getD i 0) j = true
  | [], _, a, b, j, i, h => by simp at h
  | [_], _, a, b, j, i, h => by
    have := congrArg List.length h
    simp at this
    omega
  | x :: y :: r, hc, a, b, j, i, h => by
    simp only [chain, Bool.and_eq_true] at hc
    cases a with
    | nil => simp at h; obtain ⟨rfl, rfl, rfl⟩ := h; exact hc.1
    | cons z a => simp at h; exact chain_at hc.2 h.2
theorem hiOf_ge {ms : List Nat} {i : Nat} : ∀ {done effs : List Nat}, (∀ e ∈ done, bit (ms.getD e 0) i = false) → done.length ≤ hiOf ms i (done ++ effs)
  | [], effs, _ => by simp
  | e :: r, effs, h => by
    have h1 := h e (by simp)
    have := hiOf_ge (ms := ms) (i := i) (done := r) (effs := effs) (fun e he => h e (by simp [he]))
    simp only [List.cons_append, hiOf, h1, Bool.false_eq_true, if_false, List.length_cons]
    omega
theorem loOf_le {m : Nat} {done effs : List Nat} (h : ∀ e ∈ effs, bit m e = false) : loOf m (done ++ effs) ≤ done.length := by
  unfold loOf
  rw [List.filter_append]
  have : effs.filter (bit m ·) = [] := by
    rw [List.filter_eq_nil_iff]
    intro e he
    rw [h e he]; simp
  rw [this, List.append_nil]
  exact List.length_filter_le _ _
/-! ### The compiler's checks -/
theorem depT_inv {m t : Nat} : ∀ {l : List Oper} {k : Nat}, depT m t l k = true → ∀ j o, l[j]? = some o → o.dst = some t → bit m (k + j) = true
  | [], k, _, j, o, h, _ => by simp at h
  | o :: r, k, h, j, o', hj, hd => by
    have h : (bif dstIs t o.dst then (bif bit m k then depT m t r (k + 1) else false) else depT m t r (k + 1)) = true := h
    cases j with
    | zero =>
      simp at hj
      subst hj
      have : dstIs t o.dst = true := by rw [hd]; simp [dstIs]
      rw [this] at h
      cases hb : bit m k with
      | true => simp [hb]
      | false => rw [hb] at h; cases h
    | succ j =>
      have h2 : depT m t r (k + 1) = true := by
        cases h3 : dstIs t o.dst with
        | false => rw [h3] at h; exact h
        | true =>
          rw [h3] at h
          cases hb : bit m k with
          | true => rw [hb] at h; exact h
          | false => rw [hb] at h; cases h
      have := depT_inv h2 j o' (by simpa using hj) hd
      rwa [show k + 1 + j = k + (j + 1) by omega] at this
theorem depsOf_inv {m : Nat} {all : List Oper} : ∀ {l : List Operand}, depsOf m all l = true → ∀ t, Operand.tmp t ∈ l → ∀ j o, all[j]? = some o → o.dst = some t → bit m j = true
  | [], _, t, h, _, _, _, _ => by cases h
  | x :: r, h, t, ht, j, o, hj, hd => by
    cases x with
    | tmp u =>
      have h : (bif depT m u all 0 then depsOf m all r else false) = true := h
      cases hb : depT m u all 0 with
      | false => rw [hb] at h; cases h
      | true =>
        rw [hb] at h
        rcases List.mem_cons.1 ht with hh | hh
        · cases hh
          have := depT_inv hb j o hj hd
          rwa [Nat.zero_add] at this
        · exact depsOf_inv h t hh j o hj hd
    | const v => rcases List.mem_cons.1 ht with hh | hh; cases hh; exact depsOf_inv (l := r) h t hh j o hj hd
    | global v => rcases List.mem_cons.1 ht with hh | hh; cases hh; exact depsOf_inv (l := r) h t hh j o hj hd
    | func v => rcases List.mem_cons.1 ht with hh | hh; cases hh; exact depsOf_inv (l := r) h t hh j o hj hd
theorem depsB_inv {ms : List Nat} {all : List Oper} : ∀ {l : List Oper} {k : Nat}, depsB ms all l k = true → ∀ i o, l[i]? = some o → edgesB (k + i) o = true ∧ guardB (ms.getD (k + i) 0) o.guard = true ∧ depsOf (ms.getD (k + i) 0) all o.op.operands.toList = true
  | [], k, _, i, o, h => by simp at h
  | o :: r, k, h, i, o', hi => by
    have h : (bif edgesB k o then (bif guardB (ms.getD k 0) o.guard then (bif depsOf (ms.getD k 0) all o.op.operands.toList then depsB ms all r (k + 1) else false) else false) else false) = true := h
    cases h1 : edgesB k o with
    | false => rw [h1] at h; cases h
    | true =>
      rw [h1] at h
      cases h2 : guardB (ms.getD k 0) o.guard with
      | false => rw [h2] at h; cases h
      | true =>
        rw [h2] at h
        cases h3 : depsOf (ms.getD k 0) all o.op.operands.toList with
        | false => rw [h3] at h; cases h
        | true =>
          rw [h3] at h
          cases i with
          | zero => simp at hi; subst hi; exact ⟨h1, h2, h3⟩
          | succ i =>
            have := depsB_inv (l := r) (k := k + 1) h i o' (by simpa using hi)
            rwa [show k + 1 + i = k + (i + 1) by omega] at this
theorem edgesB_inv {i : Nat} {o : Oper} (h : edgesB i o = true) : ∀ e ∈ o.after.toList, Region.binds .any e = true → e.on < i := by
  intro e he hb
  have := List.all_eq_true.1 h e he
  rw [hb] at this
  exact Nat.le_of_ble_eq_true this
/-- what is known of a region whose order is open -/
structure DS (ops : Array Oper) (ms effs : List Nat) : Prop where
  hms : ms = masks ops.toList []
  heffs : effs = effsOf ops.toList 0
  chain : AM.chain ms effs = true
  deps : ∀ (i : Nat) (o : Oper), ops[i]? = some o → ∀ t, Operand.tmp t ∈ o.op.operands.toList → ∀ (j : Nat) (o' : Oper), ops[j]? = some o' → o'.dst = some t → bit (ms.getD i 0) j = true
  grd : ∀ (i : Nat) (o : Oper) (j : Nat) (w : Bool), ops[i]? = some o → o.guard = some (j, w) → bit (ms.getD i 0) j = true
  backs : Backs ops.toList
theorem DS.of {ops : Array Oper} (h1 : AM.chain (masks ops.toList []) (effsOf ops.toList 0) = true) (h2 : depsB (masks ops.toList []) ops.toList ops.toList 0 = true) : DS ops (masks ops.toList []) (effsOf ops.toList 0) := by
  have key := fun i o (hi : ops.toList[i]? = some o) => depsB_inv h2 i o hi
  simp only [Nat.zero_add] at key
  refine ⟨rfl, rfl, h1, fun i o ho t ht j o' hj hd => depsOf_inv (key i o (by simpa using ho)).2.2 t ht j o' (by simpa using hj) hd, fun i o j w ho hg => ?_, fun i o ho e he hb => edgesB_inv (key i o ho).1 e he hb⟩
  have := (key i o (by simpa using ho)).2.1
  rw [hg] at this
  exact this
end Go.AM
