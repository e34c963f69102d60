/- The abstract machine's lists and trees: what each function on them hands on. -/
import Derived.Test.YtnekfilglnfgkaaGreatDoorAmDef
set_option autoImplicit false
namespace Go.AM
theorem F_false {n : Nat} (h : F n = true) : False := Bool.false_ne_true h
theorem ifK_inv {t e : A} {b : Bool} (h : ifK t e b = true) : (b = true ∧ t = true) ∨ (b = false ∧ e = true) := by
  cases b
  · exact .inr ⟨rfl, h⟩
  · exact .inl ⟨rfl, h⟩
/-- where the other way falls -/
theorem ifK_t {t : A} {n : Nat} {b : Bool} (h : ifK t (F n) b = true) : b = true ∧ t = true := by
  cases b
  · exact absurd h Bool.false_ne_true
  · exact ⟨rfl, h⟩
theorem ifK_e {e : A} {n : Nat} {b : Bool} (h : ifK (F n) e b = true) : b = false ∧ e = true := by
  cases b
  · exact ⟨rfl, h⟩
  · exact absurd h Bool.false_ne_true
@[simp] theorem forceNat_eq (K : Nat → A) (n : Nat) : forceNat K n = K n := by cases n <;> rfl
@[simp] theorem forceInt_eq (K : Int → A) (n : Int) : forceInt K n = K n := by
  cases n with
  | ofNat m => show forceNat (fun m => K (.ofNat m)) m = _; simp
  | negSucc m => show forceNat (fun m => K (.negSucc m)) m = _; simp
theorem getL_inv {α : Type} {K : α → A} : ∀ {n : Nat} {l : List α}, getL K n l = true → ∃ v, l[n]? = some v ∧ K v = true
  | 0, [], h => absurd h Bool.false_ne_true
  | 0, v :: _, h => ⟨v, rfl, h⟩
  | n + 1, [], h => absurd h Bool.false_ne_true
  | n + 1, _ :: r, h => by
    have : getL K n r = true := h
    obtain ⟨v, h1, h2⟩ := getL_inv this
    exact ⟨v, by simpa using h1, h2⟩
theorem setL_inv {α : Type} {v : α} : ∀ {n : Nat} {l : List α} {K : List α → A}, setL v n l K = true → n < l.length ∧ K (l.set n v) = true
  | 0, [], _, h => absurd h Bool.false_ne_true
  | 0, _ :: _, _, h => ⟨by simp, h⟩
  | _ + 1, [], _, h => absurd h Bool.false_ne_true
  | n + 1, a :: r, K, h => by
    have : setL v n r (fun r => K (a :: r)) = true := h
    obtain ⟨h1, h2⟩ := setL_inv this
    exact ⟨by simpa using h1, h2⟩
theorem dropL_inv {α : Type} {K : List α → A} : ∀ {n : Nat} {l : List α}, dropL K n l = true → n ≤ l.length ∧ K (l.drop n) = true
  | 0, _, h => ⟨Nat.zero_le _, h⟩
  | _ + 1, [], h => absurd h Bool.false_ne_true
  | n + 1, _ :: r, h => by
    have : dropL K n r = true := h
    obtain ⟨h1, h2⟩ := dropL_inv this
    exact ⟨by simpa using h1, h2⟩
theorem takeL_inv {α : Type} : ∀ {n : Nat} {l : List α} {K : List α → A}, takeL n l K = true → n ≤ l.length ∧ K (l.take n) = true
  | 0, _, _, h => ⟨Nat.zero_le _, h⟩
  | _ + 1, [], _, h => absurd h Bool.false_ne_true
  | n + 1, a :: r, K, h => by
    have : takeL n r (fun r => K (a :: r)) = true := h
    obtain ⟨h1, h2⟩ := takeL_inv this
    exact ⟨by simpa using h1, h2⟩
@[simp] theorem appL_eq {α : Type} : ∀ (l m : List α) (K : List α → A), appL l m K = K (l ++ m)
  | [], _, _ => rfl
  | a :: r, m, K => (appL_eq r m fun r => K (a :: r))
/-- what overL and spliceL come to -/
def over {α : Type} : List α → List α → List α
  | [], l => l
  | v :: vs, _ :: l => v :: over vs l
  | v :: vs, [] => v :: vs
theorem overL_inv {α : Type} : ∀ {vs l : List α} {K : List α → A}, overL vs l K = true → vs.length ≤ l.length ∧ K (over vs l) = true
  | [], _, _, h => ⟨Nat.zero_le _, h⟩
  | _ :: _, [], _, h => absurd h Bool.false_ne_true
  | v :: vs, _ :: r, K, h => by
    have : overL vs r (fun r => K (v :: r)) = true := h
    obtain ⟨h1, h2⟩ := overL_inv this
    exact ⟨by simpa using h1, h2⟩
theorem over_eq {α : Type} : ∀ (vs l : List α), vs.length ≤ l.length → over vs l = vs ++ l.drop vs.length
  | [], _, _ => rfl
  | v :: vs, _ :: l, h => by simp [over, over_eq vs l (by simpa using h)]
  | _ :: _, [], h => by simp at h
theorem spliceL_inv {α : Type} {vs : List α} : ∀ {n : Nat} {l : List α} {K : List α → A}, spliceL vs n l K = true →
    n + vs.length ≤ l.length ∧ K (l.take n ++ vs ++ l.drop (n + vs.length)) = true
  | 0, l, K, h => by
    have : overL vs l K = true := h
    obtain ⟨h1, h2⟩ := overL_inv this
    rw [over_eq _ _ h1] at h2
    exact ⟨by simpa using h1, by simpa using h2⟩
  | _ + 1, [], _, h => absurd h Bool.false_ne_true
  | n + 1, a :: r, K, h => by
    have : spliceL vs n r (fun r => K (a :: r)) = true := h
    obtain ⟨h1, h2⟩ := spliceL_inv this
    refine ⟨by simp; omega, ?_⟩
    rw [show n + 1 + vs.length = (n + vs.length) + 1 by omega]
    simpa using h2
theorem lenL_eq {α : Type} : ∀ (l : List α) (n : Nat) (K : Nat → A), lenL l n K = K (n + l.length)
  | [], _, _ => rfl
  | a :: r, n, K => by
    have : lenL (a :: r) n K = forceNat (fun n => lenL r n K) (Nat.succ n) := rfl
    rw [this, forceNat_eq, lenL_eq r]
    simp [Nat.add_comm, Nat.add_left_comm]
@[simp] theorem lenL_zero {α : Type} (l : List α) (K : Nat → A) : lenL l 0 K = K l.length := by rw [lenL_eq, Nat.zero_add]
theorem timesL_eq {z : List V} : ∀ {n : Nat} {K : List V → A}, timesL z n K = K (List.replicate n z).flatten
  | 0, _ => rfl
  | n + 1, K => by
    have : timesL z (n + 1) K = timesL z n (fun r => appL z r K) := rfl
    rw [this, timesL_eq, appL_eq]
    rfl
/-! ### Trees by paths -/
def Tr.get {α : Type} : P → Tr α → Option α
  | _, .nil => none
  | .h, .node _ v _ => v
  | .o p, .node l _ _ => l.get p
  | .i p, .node _ _ r => r.get p
def Tr.put {α : Type} (v : Option α) : P → Tr α → Tr α
  | .h, .nil => .node .nil v .nil
  | .h, .node l _ r => .node l v r
  | .o p, .nil => .node (Tr.put v p .nil) none .nil
  | .o p, .node l w r => .node (l.put v p) w r
  | .i p, .nil => .node .nil none (Tr.put v p .nil)
  | .i p, .node l w r => .node l w (r.put v p)
theorem Tr.get_nil {α : Type} (p : P) : (Tr.nil : Tr α).get p = none := by cases p <;> rfl
theorem getT_inv {α : Type} {f : A} {K : α → A} : ∀ {p : P} {t : Tr α}, getT f K p t = true → (t.get p = none ∧ f = true) ∨ ∃ v, t.get p = some v ∧ K v = true
  | .h, .nil, h => .inl ⟨rfl, h⟩
  | .o _, .nil, h => .inl ⟨rfl, h⟩
  | .i _, .nil, h => .inl ⟨rfl, h⟩
  | .h, .node _ none _, h => .inl ⟨rfl, h⟩
  | .h, .node _ (some v) _, h => .inr ⟨v, rfl, h⟩
  | .o p, .node l _ _, h => by
    have : getT f K p l = true := h
    exact getT_inv (p := p) (t := l) this
  | .i p, .node _ _ r, h => by
    have : getT f K p r = true := h
    exact getT_inv (p := p) (t := r) this
theorem getT_F {α : Type} {n : Nat} {K : α → A} {p : P} {t : Tr α} (h : getT (F n) K p t = true) : ∃ v, t.get p = some v ∧ K v = true :=
  (getT_inv h).resolve_left fun h => F_false h.2
@[simp] theorem putT_eq {α : Type} {v : Option α} : ∀ (p : P) (t : Tr α) (K : Tr α → A), putT v p t K = K (t.put v p)
  | .h, .nil, _ => rfl
  | .h, .node _ _ _, _ => rfl
  | .o p, .nil, K => (putT_eq p .nil fun l => K (.node l none .nil))
  | .o p, .node l w r, K => (putT_eq p l fun l => K (.node l w r))
  | .i p, .nil, K => (putT_eq p .nil fun r => K (.node .nil none r))
  | .i p, .node l w r, K => (putT_eq p r fun r => K (.node l w r))
theorem Tr.get_put {α : Type} (v : Option α) : ∀ (p q : P) (t : Tr α), (t.put v p).get q = if q = p then v else t.get q
  | .h, .h, t => by cases t <;> simp [Tr.put, Tr.get]
  | .h, .o q, t => by cases t <;> simp [Tr.put, Tr.get, Tr.get_nil]
  | .h, .i q, t => by cases t <;> simp [Tr.put, Tr.get, Tr.get_nil]
  | .o p, .h, t => by cases t <;> simp [Tr.put, Tr.get]
  | .i p, .h, t => by cases t <;> simp [Tr.put, Tr.get]
  | .o p, .o q, .nil => by simp [Tr.put, Tr.get, Tr.get_put v p q, Tr.get_nil]
  | .o p, .o q, .node l w r => by simp [Tr.put, Tr.get, Tr.get_put v p q]
  | .i p, .i q, .nil => by simp [Tr.put, Tr.get, Tr.get_put v p q, Tr.get_nil]
  | .i p, .i q, .node l w r => by simp [Tr.put, Tr.get, Tr.get_put v p q]
  | .o p, .i q, .nil => by simp [Tr.put, Tr.get, Tr.get_nil]
  | .o p, .i q, .node l w r => by simp [Tr.put, Tr.get]
  | .i p, .o q, .nil => by simp [Tr.put, Tr.get, Tr.get_nil]
  | .i p, .o q, .node l w r => by simp [Tr.put, Tr.get]
@[simp] theorem Tr.get_put_same {α : Type} (v : Option α) (p : P) (t : Tr α) : (t.put v p).get p = v := by simp [Tr.get_put]
theorem Tr.get_put_ne {α : Type} (v : Option α) {p q : P} (t : Tr α) (h : q ≠ p) : (t.put v p).get q = t.get q := by simp [Tr.get_put, h]
def P.toNat : P → Nat
  | .h => 1
  | .o p => 2 * p.toNat
  | .i p => 2 * p.toNat + 1
theorem P.pos : ∀ p : P, 0 < p.toNat
  | .h => by simp [P.toNat]
  | .o p => by have := P.pos p; simp [P.toNat]; omega
  | .i p => by simp [P.toNat]
theorem P.inj : ∀ {p q : P}, p.toNat = q.toNat → p = q
  | .h, .h, _ => rfl
  | .h, .o q, e => by have := P.pos q; simp [P.toNat] at e; omega
  | .h, .i q, e => by have := P.pos q; simp [P.toNat] at e; omega
  | .o p, .h, e => by have := P.pos p; simp [P.toNat] at e; omega
  | .i p, .h, e => by have := P.pos p; simp [P.toNat] at e; omega
  | .o p, .o q, e => by rw [P.inj (p := p) (q := q) (by simp [P.toNat] at e; omega)]
  | .i p, .i q, e => by rw [P.inj (p := p) (q := q) (by simp [P.toNat] at e; omega)]
  | .o p, .i q, e => by simp [P.toNat] at e; omega
  | .i p, .o q, e => by simp [P.toNat] at e; omega
theorem succP_inv : ∀ {p : P} {K : P → A}, succP p K = true → ∃ q, q.toNat = p.toNat + 1 ∧ K q = true
  | .h, _, e => ⟨_, rfl, e⟩
  | .o p, _, e => ⟨.i p, rfl, e⟩
  | .i p, K, h => by
    have : succP p (fun p => K (.o p)) = true := h
    obtain ⟨q, h1, h2⟩ := succP_inv this
    exact ⟨_, by simp [P.toNat]; omega, h2⟩
theorem pathN_inv : ∀ {fuel n : Nat} {K : P → A}, pathN fuel n K = true → 0 < n → ∃ p, p.toNat = n ∧ K p = true
  | 0, _, _, h, _ => absurd h Bool.false_ne_true
  | f + 1, n, K, h, hn => by
    have h' : ifK (K .h) (ifK (pathN f (n / 2) fun p => K (.o p)) (pathN f (n / 2) fun p => K (.i p)) (Nat.beq (n % 2) 0)) (Nat.beq n 1) = true := h
    rcases ifK_inv h' with ⟨h1, h2⟩ | ⟨h1, h2⟩
    · exact ⟨.h, by simp [P.toNat]; exact (Nat.eq_of_beq_eq_true h1).symm, h2⟩
    · have hn1 : n ≠ 1 := fun e => by subst e; simp at h1
      rcases ifK_inv h2 with ⟨h3, h4⟩ | ⟨h3, h4⟩
      · obtain ⟨p, e, k⟩ := pathN_inv h4 (by omega)
        have := Nat.eq_of_beq_eq_true h3
        exact ⟨_, by simp [P.toNat]; omega, k⟩
      · obtain ⟨p, e, k⟩ := pathN_inv h4 (by omega)
        have : n % 2 ≠ 0 := fun e => by rw [e] at h3; simp at h3
        exact ⟨_, by simp [P.toNat]; omega, k⟩
theorem pathK_inv {t : Nat} {K : P → A} (h : pathK t K = true) : ∃ p, p.toNat = t + 1 ∧ K p = true := by
  unfold pathK at h
  rw [forceNat_eq] at h
  exact pathN_inv h (by omega)
theorem eqP_inv {K : A} : ∀ {p q : P}, eqP K p q = true → p = q ∧ K = true
  | .h, .h, h => ⟨rfl, h⟩
  | .h, .o _, h => absurd h Bool.false_ne_true
  | .h, .i _, h => absurd h Bool.false_ne_true
  | .o _, .h, h => absurd h Bool.false_ne_true
  | .i _, .h, h => absurd h Bool.false_ne_true
  | .o _, .i _, h => absurd h Bool.false_ne_true
  | .i _, .o _, h => absurd h Bool.false_ne_true
  | .o p, .o q, h => by
    have : eqP K p q = true := h
    obtain ⟨rfl, k⟩ := eqP_inv this
    exact ⟨rfl, k⟩
  | .i p, .i q, h => by
    have : eqP K p q = true := h
    obtain ⟨rfl, k⟩ := eqP_inv this
    exact ⟨rfl, k⟩
/-! ### Great arrays -/
def Bt.get (i : Nat) : Bt → Option V
  | .leaf ix v => if ix = i then some v else none
  | .node half l r => if half ≤ i then r.get i else l.get i
def Bt.put (v : V) (i : Nat) : Bt → Bt
  | .leaf ix w => if ix = i then .leaf ix v else .leaf ix w
  | .node half l r => if half ≤ i then .node half l (r.put v i) else .node half (l.put v i) r
theorem getB_inv {K : V → A} {i : Nat} : ∀ {t : Bt}, getB K i t = true → ∃ v, t.get i = some v ∧ K v = true
  | .leaf ix v, h => by
    have h' : ifK (K v) (F 10) (Nat.beq ix i) = true := h
    obtain ⟨h1, h2⟩ := ifK_t h'
    exact ⟨v, by simp [Bt.get, Nat.eq_of_beq_eq_true h1], h2⟩
  | .node half l r, h => by
    have h' : ifK (getB K i r) (getB K i l) (Nat.ble half i) = true := h
    rcases ifK_inv h' with ⟨h1, h2⟩ | ⟨h1, h2⟩
    · obtain ⟨v, e, k⟩ := getB_inv h2
      exact ⟨v, by simp [Bt.get, Nat.le_of_ble_eq_true h1, e], k⟩
    · obtain ⟨v, e, k⟩ := getB_inv h2
      have : ¬ half ≤ i := fun hh => by rw [Nat.ble_eq_true_of_le hh] at h1; exact absurd h1 (by simp)
      exact ⟨v, by simp [Bt.get, this, e], k⟩
theorem setB_inv {v : V} {i : Nat} : ∀ {t : Bt} {K : Bt → A}, setB v i t K = true → (t.get i).isSome = true ∧ K (t.put v i) = true
  | .leaf ix w, K, h => by
    have h' : ifK (K (.leaf ix v)) (F 11) (Nat.beq ix i) = true := h
    obtain ⟨h1, h2⟩ := ifK_t h'
    have := Nat.eq_of_beq_eq_true h1
    exact ⟨by simp [Bt.get, this], by simpa [Bt.put, this] using h2⟩
  | .node half l r, K, h => by
    have h' : ifK (setB v i r fun r => K (.node half l r)) (setB v i l fun l => K (.node half l r)) (Nat.ble half i) = true := h
    rcases ifK_inv h' with ⟨h1, h2⟩ | ⟨h1, h2⟩
    · obtain ⟨e, k⟩ := setB_inv h2
      have := Nat.le_of_ble_eq_true h1
      exact ⟨by simpa [Bt.get, this] using e, by simpa [Bt.put, this] using k⟩
    · obtain ⟨e, k⟩ := setB_inv h2
      have : ¬ half ≤ i := fun hh => by rw [Nat.ble_eq_true_of_le hh] at h1; exact absurd h1 (by simp)
      exact ⟨by simpa [Bt.get, this] using e, by simpa [Bt.put, this] using k⟩
theorem Bt.get_put_same {v : V} {i : Nat} : ∀ {t : Bt}, (t.get i).isSome = true → (t.put v i).get i = some v
  | .leaf ix w, h => by
    by_cases e : ix = i
    · simp [Bt.put, Bt.get, e]
    · simp [Bt.get, e] at h
  | .node half l r, h => by
    by_cases e : half ≤ i
    · simp only [Bt.put, e, if_true, Bt.get] at h ⊢; exact Bt.get_put_same h
    · simp only [Bt.put, e, if_false, Bt.get] at h ⊢; exact Bt.get_put_same h
theorem Bt.get_put_ne {v : V} {i j : Nat} (hij : j ≠ i) : ∀ {t : Bt}, (t.put v i).get j = t.get j
  | .leaf ix w => by
    by_cases e : ix = i
    · have : i ≠ j := fun h => hij h.symm
      simp [Bt.put, Bt.get, e, this]
    · simp [Bt.put, e]
  | .node half l r => by
    by_cases e : half ≤ i
    · by_cases e2 : half ≤ j
      · simp [Bt.put, Bt.get, e, e2, Bt.get_put_ne hij]
      · simp [Bt.put, Bt.get, e, e2]
    · by_cases e2 : half ≤ j
      · simp [Bt.put, Bt.get, e, e2]
      · simp [Bt.put, Bt.get, e, e2, Bt.get_put_ne hij]
theorem manyB_inv {t : Bt} : ∀ {n i : Nat} {K : List V → A}, manyB t n i K = true → ∃ l, l.length = n ∧ (∀ j v, l[j]? = some v → t.get (i + j) = some v) ∧ K l = true
  | 0, _, _, h => ⟨[], rfl, by simp, h⟩
  | n + 1, i, K, h => by
    have h' : getB (fun v => forceNat (fun i => manyB t n i fun r => K (v :: r)) (Nat.succ i)) i t = true := h
    obtain ⟨v, e, k⟩ := getB_inv h'
    rw [forceNat_eq] at k
    obtain ⟨l, h1, h2, h3⟩ := manyB_inv k
    refine ⟨v :: l, by simp [h1], ?_, h3⟩
    intro j w hw
    cases j with
    | zero => simp at hw; subst hw; simpa using e
    | succ j => have := h2 j w (by simpa using hw); rw [show i + (j + 1) = i.succ + j by omega]; exact this
/-- cells from i on -/
def Bt.puts (t : Bt) : Nat → List V → Bt
  | _, [] => t
  | i, v :: vs => (t.put v i).puts (i + 1) vs
theorem putB_inv : ∀ {vs : List V} {i : Nat} {t : Bt} {K : Bt → A}, putB vs i t K = true → (∀ j, j < vs.length → (t.get (i + j)).isSome = true) ∧ K (t.puts i vs) = true
  | [], _, _, _, h => ⟨by simp, h⟩
  | v :: vs, i, t, K, h => by
    have h' : setB v i t (fun t => forceNat (fun i => putB vs i t K) (Nat.succ i)) = true := h
    obtain ⟨e, k⟩ := setB_inv h'
    rw [forceNat_eq] at k
    obtain ⟨h1, h2⟩ := putB_inv k
    refine ⟨fun j hj => ?_, h2⟩
    cases j with
    | zero => simpa using e
    | succ j =>
      have := h1 j (by simp at hj; omega)
      rw [show i + (j + 1) = i.succ + j by omega]
      rwa [Bt.get_put_ne (by omega)] at this
theorem Bt.get_puts : ∀ (vs : List V) (i : Nat) (t : Bt) (j : Nat), (∀ k, k < vs.length → (t.get (i + k)).isSome = true) →
    (t.puts i vs).get j = if i ≤ j ∧ j < i + vs.length then vs[j - i]? else t.get j
  | [], i, t, j, _ => by simp [Bt.puts]; omega
  | v :: vs, i, t, j, h => by
    have h0 : (t.get i).isSome = true := by simpa using h 0 (by simp)
    rw [Bt.puts, Bt.get_puts vs (i + 1) (t.put v i) j (fun k hk => by
      rw [Bt.get_put_ne (by omega), show i + 1 + k = i + (k + 1) by omega]; exact h (k + 1) (by simp; omega))]
    by_cases e : j = i
    · subst e; simp [Bt.get_put_same h0]; intros; omega
    · rw [Bt.get_put_ne e]
      by_cases e2 : i + 1 ≤ j ∧ j < i + 1 + vs.length
      · rw [if_pos e2, if_pos (by simp; omega), show j - i = (j - (i + 1)) + 1 by omega]; simp
      · rw [if_neg e2, if_neg (by simp; omega)]
end Go.AM
