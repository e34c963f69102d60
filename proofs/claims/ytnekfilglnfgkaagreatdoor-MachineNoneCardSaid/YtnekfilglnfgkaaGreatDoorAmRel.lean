/- How the abstract machine's values and heaps stand for the model's: block names stand for blocks by an environment, which only grows. -/
import Derived.Test.YtnekfilglnfgkaaGreatDoorAmData
import Derived.Laws.Sem
set_option autoImplicit false
set_option linter.unusedVariables false
namespace Go.AM
/-- where a name's cells lie: a block, the first cell, how many cells the block has -/
structure Loc where
  blk : Nat
  base : Nat
  size : Nat
abbrev Env := P → Option Loc
def Env.le (e e' : Env) : Prop := ∀ b l, e b = some l → e' b = some l
theorem Env.le.refl (e : Env) : e.le e := fun _ _ h => h
theorem Env.le.trans {a b c : Env} (h : a.le b) (k : b.le c) : a.le c := fun x l hx => k x l (h x l hx)
def bytesL : Nat → Nat → List UInt8
  | 0, _ => []
  | n + 1, v => UInt8.ofNat (v % 256) :: bytesL n (v / 256)
@[simp] theorem length_bytesL : ∀ (n v : Nat), (bytesL n v).length = n
  | 0, _ => rfl
  | n + 1, v => by simp [bytesL, length_bytesL n]
mutual
inductive VR (e : Env) : V → Value → Prop
  | int (k : IntKind) (n : Int) : VR e (.int k n) (.int k n)
  | bool (b : Bool) : VR e (.bool b) (.bool b)
  | str (n v : Nat) (s : ByteArray) (h : s.data.toList = bytesL n v) (hv : v < 256 ^ n) : VR e (.str n v) (.string s)
  | ptr (b : P) (off : Nat) (l : Loc) (h : e b = some l) : VR e (.ptr b off) (.pointer (some ⟨l.blk, l.base + off, none⟩))
  | slc (b : P) (off len cap : Nat) (l : Loc) (h : e b = some l) : VR e (.slc b off len cap) (.slice (some ⟨l.blk, l.base + off, none⟩) len cap)
  | slo (b : P) (off len es cap : Nat) (l : Loc) (h : e b = some l) (hc : cap = (l.size - (l.base + off)) / es) (hl : len ≤ cap) : VR e (.slo b off len es) (.slice (some ⟨l.blk, l.base + off, none⟩) len cap)
  | und : VR e .und (.tuple #[])
  | nptr : VR e .nptr (.pointer none)
  | nslc : VR e .nslc (.slice none 0 0)
  | nmap : VR e .nmap (.map none)
  | nfn : VR e .nfn .nilFunc
  | nifc : VR e .nifc .nilIface
  | map (b : P) (l : Loc) (h : e b = some l) : VR e (.map b) (.map (some l.blk))
  | fn (f : Nat) (a c : List V) (as cs : Array Value) (ha : VRs e a as.toList) (hc : VRs e c cs.toList) : VR e (.fn f a c) (.func (.func f) as cs)
  | yld (b : P) (l : Loc) (h : e b = some l) : VR e (.yld b) (.func (.yield l.blk) #[] #[])
  | ifc (t : Nat) (v : V) (x : Value) (h : VR e v x) : VR e (.ifc t v) (.iface t x)
  | agg (l : List V) (cs : Array Value) (h : VRs e l cs.toList) (h1 : ∀ x ∈ cs.toList, x.oneCell' = true) : VR e (.agg l) (.agg cs)
  | tup (l : List V) (cs : Array Value) (h : VRs e l cs.toList) : VR e (.tup l) (.tuple cs)
  | ivl (k : IntKind) (lo hi n : Int) (h : lo ≤ n) (h' : n ≤ hi) : VR e (.ivl k lo hi) (.int k n)
  | flt (k : FloatKind) (bits : Nat) : VR e (.flt k bits) (.float k bits)
  | esl (a : Addr) (cap : Nat) : VR e .esl (.slice (some a) 0 cap)
inductive VRs (e : Env) : List V → List Value → Prop
  | nil : VRs e [] []
  | cons (v : V) (x : Value) (l : List V) (xs : List Value) (h : VR e v x) (t : VRs e l xs) : VRs e (v :: l) (x :: xs)
end
mutual
theorem VR.mono {e e' : Env} (h : e.le e') : ∀ {v : V} {x : Value}, VR e v x → VR e' v x
  | _, _, .int k n => .int k n
  | _, _, .bool b => .bool b
  | _, _, .str n v s a b => .str n v s a b
  | _, _, .ptr b off l a => .ptr b off l (h _ _ a)
  | _, _, .slc b off len cap l a => .slc b off len cap l (h _ _ a)
  | _, _, .slo b off len es cap l a c d => .slo b off len es cap l (h _ _ a) c d
  | _, _, .und => .und
  | _, _, .nptr => .nptr
  | _, _, .nslc => .nslc
  | _, _, .nmap => .nmap
  | _, _, .nfn => .nfn
  | _, _, .nifc => .nifc
  | _, _, .map b l a => .map b l (h _ _ a)
  | _, _, .fn f a c as cs ha hc => .fn f a c as cs (VRs.mono h ha) (VRs.mono h hc)
  | _, _, .yld b l a => .yld b l (h _ _ a)
  | _, _, .ifc t v x a => .ifc t v x (VR.mono h a)
  | _, _, .agg l cs a b => .agg l cs (VRs.mono h a) b
  | _, _, .tup l cs a => .tup l cs (VRs.mono h a)
  | _, _, .ivl k lo hi n a b => .ivl k lo hi n a b
  | _, _, .flt k b => .flt k b
  | _, _, .esl a c => .esl a c
theorem VRs.mono {e e' : Env} (h : e.le e') : ∀ {l : List V} {xs : List Value}, VRs e l xs → VRs e' l xs
  | _, _, .nil => .nil
  | _, _, .cons v x l xs a t => .cons v x l xs (VR.mono h a) (VRs.mono h t)
end
theorem VRs.length {e : Env} : ∀ {l : List V} {xs : List Value}, VRs e l xs → l.length = xs.length
  | _, _, .nil => rfl
  | _, _, .cons _ _ _ _ _ t => by simp [VRs.length t]
theorem VRs.get {e : Env} : ∀ {l : List V} {xs : List Value}, VRs e l xs → ∀ {n : Nat} {v : V}, l[n]? = some v → ∃ x, xs[n]? = some x ∧ VR e v x
  | _, _, .nil, _, _, h => by simp at h
  | _, _, .cons v x l xs a t, 0, w, h => by simp at h; subst h; exact ⟨x, rfl, a⟩
  | _, _, .cons v x l xs a t, n + 1, w, h => by obtain ⟨y, h1, h2⟩ := VRs.get t (n := n) (v := w) (by simpa using h); exact ⟨y, by simpa using h1, h2⟩
theorem VRs.of_get {e : Env} : ∀ {l : List V} {xs : List Value}, l.length = xs.length → (∀ (n : Nat) v x, l[n]? = some v → xs[n]? = some x → VR e v x) → VRs e l xs
  | [], [], _, _ => .nil
  | v :: l, x :: xs, h, k => .cons _ _ _ _ (k 0 v x rfl rfl) (VRs.of_get (by simpa using h) fun n v x a b => k (n + 1) v x (by simpa using a) (by simpa using b))
  | [], _ :: _, h, _ => by simp at h
  | _ :: _, [], h, _ => by simp at h
theorem VRs.append {e : Env} : ∀ {l m : List V} {xs ys : List Value}, VRs e l xs → VRs e m ys → VRs e (l ++ m) (xs ++ ys)
  | _, _, _, _, .nil, h => h
  | _, _, _, _, .cons _ _ _ _ a t, h => .cons _ _ _ _ a (VRs.append t h)
theorem VRs.drop {e : Env} : ∀ {l : List V} {xs : List Value} (n : Nat), VRs e l xs → VRs e (l.drop n) (xs.drop n)
  | _, _, 0, h => h
  | _, _, n + 1, .nil => by simpa using VRs.nil
  | _, _, n + 1, .cons _ _ _ _ _ t => by simpa using VRs.drop n t
theorem VRs.take {e : Env} : ∀ {l : List V} {xs : List Value} (n : Nat), VRs e l xs → VRs e (l.take n) (xs.take n)
  | _, _, 0, h => by simpa using VRs.nil
  | _, _, n + 1, .nil => by simpa using VRs.nil
  | _, _, n + 1, .cons _ _ _ _ a t => by simpa using VRs.cons _ _ _ _ a (VRs.take n t)
theorem VRs.set {e : Env} : ∀ {l : List V} {xs : List Value} (n : Nat) {v : V} {x : Value}, VRs e l xs → VR e v x → VRs e (l.set n v) (xs.set n x)
  | _, _, _, _, _, .nil, _ => by simpa using VRs.nil
  | _, _, 0, _, _, .cons _ _ _ _ a t, h => by simpa using VRs.cons _ _ _ _ h t
  | _, _, n + 1, _, _, .cons _ _ _ _ a t, h => by simpa using VRs.cons _ _ _ _ a (VRs.set n t h)
/-- 'V.one': a value of one cell -/
theorem V.one_inv {K : A} {v : V} (h : V.one K v = true) : K = true ∧ ∀ {e : Env} {x : Value}, VR e v x → x.oneCell' = true := by
  cases v <;> first
    | exact absurd h Bool.false_ne_true
    | exact ⟨h, fun r => by cases r <;> rfl⟩
/-! ### The world -/
noncomputable def oneShape : Value → Option Nat
  | .int k _ => some (kNum k)
  | .string _ => some 8
  | .bool _ => some 9
  | _ => none
def JR : Option Jmp → Option Code → Prop
  | none, none => True
  | some .ret, some .ret => True
  | some (.ext i), some (.exit j) => i = j
  | _, _ => False
inductive DR (e : Env) : Dfr → Deferred → Prop
  | fn (f : Nat) (args : List V) (as cs : Array Value) (h : VRs e args (as ++ cs).toList) : DR e (.fn f args) { target := .fn (.func f) cs, args := as }
  | coll (b : P) (l : Loc) (h : e b = some l) : DR e (.coll b) { target := .collected l.blk, args := #[] }
inductive DRs (e : Env) : List Dfr → List Deferred → Prop
  | nil : DRs e [] []
  | cons (d : Dfr) (x : Deferred) (l : List Dfr) (xs : List Deferred) (h : DR e d x) (t : DRs e l xs) : DRs e (d :: l) (x :: xs)
theorem DR.mono {e e' : Env} (h : e.le e') {d : Dfr} {x : Deferred} : DR e d x → DR e' d x
  | .fn f args as cs a => .fn f args as cs (a.mono h)
  | .coll b l a => .coll b l (h _ _ a)
theorem DRs.mono {e e' : Env} (h : e.le e') : ∀ {l : List Dfr} {xs : List Deferred}, DRs e l xs → DRs e' l xs
  | _, _, .nil => .nil
  | _, _, .cons _ _ _ _ a t => .cons _ _ _ _ (a.mono h) (t.mono h)
theorem DRs.append {e : Env} : ∀ {l m : List Dfr} {xs ys : List Deferred}, DRs e l xs → DRs e m ys → DRs e (l ++ m) (xs ++ ys)
  | _, _, _, _, .nil, h => h
  | _, _, _, _, .cons _ _ _ _ a t, h => .cons _ _ _ _ a (DRs.append t h)
/-- what is known of the program that runs: which temporaries of a func are kept; how many it has; of a loop over a func: its code; and the world in which all began -/
structure Cfg where
  p : Program
  ng : Nat
  keep : Nat → P → Prop
  nt : Nat → Nat
  lc : Nat → P → List (Option P) → Array Tmp → Code → Code → Prop
  w0 : World
/-- where a temporary is kept: nowhere, or at its path -/
def Cfg.dst (c : Cfg) (f : Nat) (d : Option P) (t : Option Nat) : Prop :=
  match d, t with
  | none, none => True
  | some p, some t => p.toNat = t + 1 ∧ c.keep f p ∧ t < c.nt f
  | none, some t => (∀ p, p.toNat = t + 1 → ¬ c.keep f p) ∧ t < c.nt f
  | some _, none => False
/-- a func's variables -/
def Cfg.vsr (c : Cfg) (f : Nat) (e : Env) (vs : Tr V) (tmps : Array Value) : Prop :=
  c.nt f ≤ tmps.size ∧ ∀ p v, vs.get p = some v → c.keep f p ∧ VR e v (tmps.getD (p.toNat - 1) undef)
def stNum : LoopState → Nat
  | .ready => 0 | .busy => 1 | .done => 2 | .exhausted => 3
structure CellsR (e : Env) (l : Loc) (get : Nat → Option V) (n : Nat) (o : Obj) : Prop where
  ex : ∃ c t fr, o = .cells c t fr ∧ c.size = l.size ∧ l.base + n ≤ c.size ∧ (∀ i, l.base ≤ i → i < c.size → ¬ (fr.1 ≤ i ∧ i < fr.2)) ∧
    ∀ i v, i < n → get i = some v → ∃ x, c[l.base + i]? = some x ∧ VR e v x ∧ x.oneCell' = true
def MapR (e : Env) (es : List (V × V)) (o : Obj) : Prop :=
  ∃ ces clock, o = .map ces clock ∧ (∃ cl : List MapEntry, cl.Perm ces.toList ∧ VRs e (es.map (·.1)) (cl.map (·.key)) ∧ VRs e (es.map (·.2)) (cl.map (·.val))) ∧
    (ces.toList.map (·.key)).Nodup ∧ (∃ s, ∀ x ∈ ces.toList, oneShape x.key = some s) ∧ (ces.toList.map (·.born)).Nodup ∧ ∀ x ∈ ces.toList, x.born < clock
inductive OR (c : Cfg) (e : Env) (l : Loc) : Ob → Obj → Prop
  | cells (cs : List V) (opn : Bool) (o : Obj) (h : CellsR e l (fun i => cs[i]?) cs.length o) : OR c e l (.cells cs opn) o
  | big (t : Bt) (n : Nat) (o : Obj) (h : CellsR e l (fun i => t.get i) n o) : OR c e l (.big t n) o
  | glob (t : Bt) (n : Nat) (o : Obj) (h : CellsR e l (fun i => t.get i) n o) : OR c e l (.glob t n) o
  | map (es : List (V × V)) (o : Obj) (h : MapR e es o) : OR c e l (.map es) o
  | loop (st : Nat) (pend : Option Jmp) (f : Nat) (ix : P) (ps : List (Option P)) (vs : Tr V) (d : P) (r : Loop) (ld : Loc) (h1 : stNum r.state = st) (h2 : JR pend r.pending) (h3 : r.fn = f)
      (h4 : c.vsr f e vs r.tmps) (h5 : c.lc f ix ps r.params r.assign r.body) (h6 : e d = some ld) (h7 : r.defers = ld.blk) : OR c e l (.loop st pend f ix ps vs d) (.loop r)
  | dfr (ds : List Dfr) (xs : List Deferred) (h : DRs e ds xs) : OR c e l (.dfr (some ds)) (.deferred (some xs))
  | gone : OR c e l (.dfr none) (.deferred none)
  | sit (n v pos : Nat) (s : ByteArray) (h : VR e (.str n v) (.string s)) : OR c e l (.sit n v pos) (.stringIter s pos)
theorem CellsR.mono {e e' : Env} (h : e.le e') {l : Loc} {g : Nat → Option V} {n : Nat} {o : Obj} (r : CellsR e l g n o) : CellsR e' l g n o := by
  obtain ⟨c, t, fr, h1, h2, h3, h4, h5⟩ := r.ex
  exact ⟨c, t, fr, h1, h2, h3, h4, fun i v hi hv => let ⟨x, a, b, d⟩ := h5 i v hi hv; ⟨x, a, b.mono h, d⟩⟩
theorem Cfg.vsr.mono {c : Cfg} {f : Nat} {e e' : Env} (h : e.le e') {vs : Tr V} {tmps : Array Value} (r : c.vsr f e vs tmps) : c.vsr f e' vs tmps :=
  ⟨r.1, fun p v hp => let ⟨a, b⟩ := r.2 p v hp; ⟨a, b.mono h⟩⟩
theorem OR.mono {c : Cfg} {e e' : Env} (h : e.le e') {l : Loc} {o : Ob} {x : Obj} : OR c e l o x → OR c e' l o x
  | .cells cs opn o a => .cells cs opn o (a.mono h)
  | .big t n o a => .big t n o (a.mono h)
  | .glob t n o a => .glob t n o (a.mono h)
  | .map es o a => .map es o (by
      obtain ⟨ces, clock, h1, ⟨cl, h2, h3, h4⟩, h5⟩ := a
      exact ⟨ces, clock, h1, ⟨cl, h2, h3.mono h, h4.mono h⟩, h5⟩)
  | .loop st pend f ix ps vs d r ld h1 h2 h3 h4 h5 h6 h7 => .loop st pend f ix ps vs d r ld h1 h2 h3 (h4.mono h) h5 (h _ _ h6) h7
  | .dfr ds xs a => .dfr ds xs (a.mono h)
  | .gone => .gone
  | .sit n v pos s a => .sit n v pos s (a.mono h)
def Ob.isGlob : Ob → Bool
  | .glob .. => true
  | _ => false
structure WR (c : Cfg) (e : Env) (H : Tr Ob) (N : P) (w : World) : Prop where
  obj : ∀ b o l, H.get b = some o → e b = some l → ∃ x, w.heap[l.blk]? = some x ∧ OR c e l o x
  dom : ∀ b l, e b = some l → b.toNat < N.toNat ∧ l.blk < w.heap.size
  used : ∀ b o, H.get b = some o → b.toNat < N.toNat
  one : ∀ b b' o o' l l', H.get b = some o → H.get b' = some o' → e b = some l → e b' = some l' → l.blk = l'.blk → b = b'
  own : ∀ b o l, H.get b = some o → e b = some l → o.isGlob = false → c.w0.heap.size ≤ l.blk
  old : ∀ i, i < c.w0.heap.size → w.heap[i]? = c.w0.heap[i]?
  size : c.w0.heap.size ≤ w.heap.size
  os : w.os = c.w0.os
  tape : w.tape = c.w0.tape
  output : w.output = c.w0.output
  glo : ∀ p, p.toNat ≤ c.ng → ∃ l, e p = some l ∧ l.blk + 1 = p.toNat ∧ l.base = 0
/-- no name that stands for nothing yet is touched -/
def Keeps (e : Env) (N : P) (H H' : Tr Ob) : Prop := ∀ b, e b = none → b.toNat < N.toNat → H'.get b = H.get b
theorem Keeps.refl (e : Env) (N : P) (H : Tr Ob) : Keeps e N H H := fun _ _ _ => rfl
/-- a block's object is another one -/
def World.setObj' (w : World) (b : Nat) (o : Obj) : World := { w with heap := w.heap.setIfInBounds b o }
theorem WR.get {c : Cfg} {e : Env} {H : Tr Ob} {N : P} {w : World} (h : WR c e H N w) {b : P} {o : Ob} {l : Loc} (hb : H.get b = some o) (he : e b = some l) :
    ∃ x, w.heap[l.blk]? = some x ∧ OR c e l o x ∧ l.blk < w.heap.size := by
  obtain ⟨x, h1, h2⟩ := h.obj b o l hb he
  exact ⟨x, h1, h2, (h.dom b l he).2⟩
/-- one object is turned -/
theorem WR.put {c : Cfg} {e : Env} {H : Tr Ob} {N : P} {w w' : World} (h : WR c e H N w) {b : P} {o o' : Ob} {l : Loc} (hb : H.get b = some o) (he : e b = some l) (hg : o.isGlob = false) (hg' : o'.isGlob = false)
    {x : Obj} (hx : OR c e l o' x) (hw : w'.heap = w.heap.setIfInBounds l.blk x) (h1 : w'.os = w.os) (h2 : w'.tape = w.tape) (h3 : w'.output = w.output) : WR c e (H.put (some o') b) N w' := by
  have hl := (h.dom b l he).2
  have hown := h.own b o l hb he hg
  have hsz : w'.heap.size = w.heap.size := by rw [hw]; simp
  refine ⟨?_, ?_, ?_, ?_, ?_, ?_, by rw [hsz]; exact h.size, h1.trans h.os, h2.trans h.tape, h3.trans h.output, h.glo⟩
  · intro b2 o2 l2 hb2 he2
    by_cases hbb : b2 = b
    · subst hbb
      rw [Tr.get_put_same] at hb2
      obtain rfl := Option.some.inj hb2
      obtain rfl := Option.some.inj (he.symm.trans he2)
      exact ⟨x, by rw [hw]; simp [hl], hx⟩
    · rw [Tr.get_put_ne _ _ hbb] at hb2
      obtain ⟨y, hy, hr⟩ := h.obj b2 o2 l2 hb2 he2
      refine ⟨y, ?_, hr⟩
      have : l2.blk ≠ l.blk := fun hh => hbb (h.one b2 b o2 o l2 l hb2 hb he2 he hh)
      rw [hw, Array.getElem?_setIfInBounds_ne (fun hh => this hh.symm)]
      exact hy
  · intro b2 l2 he2; rw [hsz]; exact h.dom b2 l2 he2
  · intro b2 o2 hb2
    by_cases hbb : b2 = b
    · subst hbb; exact (h.dom b2 l he).1
    · rw [Tr.get_put_ne _ _ hbb] at hb2; exact h.used b2 o2 hb2
  · intro b1 b2 o1 o2 l1 l2 g1 g2 e1 e2 hh
    have k1 : ∃ o, H.get b1 = some o := by
      by_cases hbb : b1 = b
      · subst hbb; exact ⟨o, hb⟩
      · rw [Tr.get_put_ne _ _ hbb] at g1; exact ⟨_, g1⟩
    have k2 : ∃ o, H.get b2 = some o := by
      by_cases hbb : b2 = b
      · subst hbb; exact ⟨o, hb⟩
      · rw [Tr.get_put_ne _ _ hbb] at g2; exact ⟨_, g2⟩
    obtain ⟨q1, k1⟩ := k1
    obtain ⟨q2, k2⟩ := k2
    exact h.one b1 b2 q1 q2 l1 l2 k1 k2 e1 e2 hh
  · intro b2 o2 l2 hb2 he2 hg2
    by_cases hbb : b2 = b
    · subst hbb
      obtain rfl := Option.some.inj (he.symm.trans he2)
      exact hown
    · rw [Tr.get_put_ne _ _ hbb] at hb2; exact h.own b2 o2 l2 hb2 he2 hg2
  · intro i hi
    rw [hw, Array.getElem?_setIfInBounds_ne (by omega)]
    exact h.old i hi
theorem Keeps.put {e : Env} {N : P} {H : Tr Ob} {b : P} {l : Loc} (o : Option Ob) (he : e b = some l) : Keeps e N H (H.put o b) := fun b2 h2 _ =>
  Tr.get_put_ne _ _ (fun hh => by subst hh; rw [he] at h2; cases h2)
/-- a name that is not used yet gets a new block -/
def Env.with (e : Env) (b : P) (l : Loc) : Env := fun p => if p = b then some l else e p
theorem Env.le_with {e : Env} {b : P} {l : Loc} (h : e b = none) : e.le (e.with b l) := fun p m hp => by
  unfold Env.with
  by_cases hb : p = b
  · subst hb; rw [h] at hp; cases hp
  · rw [if_neg hb]; exact hp
@[simp] theorem Env.with_same (e : Env) (b : P) (l : Loc) : e.with b l b = some l := by simp [Env.with]
theorem Env.with_ne (e : Env) {b p : P} (l : Loc) (h : p ≠ b) : e.with b l p = e p := by simp [Env.with, h]
theorem WR.fresh {c : Cfg} {e : Env} {H : Tr Ob} {N : P} {w : World} (h : WR c e H N w) : e N = none := by
  cases he : e N with
  | none => rfl
  | some l => exact absurd (h.dom N l he).1 (Nat.lt_irrefl _)
/-- a new block, under the next name -/
theorem WR.new {c : Cfg} {e : Env} {H : Tr Ob} {N N' : P} {w w' : World} (h : WR c e H N w) (hN : N'.toNat = N.toNat + 1) {o : Ob} {x : Obj} {l : Loc} (hl : l.blk = w.heap.size) (hg : o.isGlob = false)
    (hx : OR c (e.with N l) l o x) (hw : w'.heap = w.heap.push x) (h1 : w'.os = w.os) (h2 : w'.tape = w.tape) (h3 : w'.output = w.output) : WR c (e.with N l) (H.put (some o) N) N' w' := by
  have hle : e.le (e.with N l) := Env.le_with h.fresh
  have hsz : w'.heap.size = w.heap.size + 1 := by rw [hw]; simp
  have hback : ∀ b m, b ≠ N → e.with N l b = some m → e b = some m := fun b m hb hm => by rwa [Env.with_ne _ _ hb] at hm
  refine ⟨?_, ?_, ?_, ?_, ?_, ?_, by rw [hsz]; have := h.size; omega, h1.trans h.os, h2.trans h.tape, h3.trans h.output, ?_⟩
  · intro b2 o2 l2 hb2 he2
    by_cases hb : b2 = N
    · subst hb
      rw [Tr.get_put_same] at hb2
      obtain rfl := Option.some.inj hb2
      rw [Env.with_same] at he2
      obtain rfl := Option.some.inj he2
      exact ⟨x, by rw [hw, hl]; simp, hx⟩
    · rw [Tr.get_put_ne _ _ hb] at hb2
      obtain ⟨y, hy, hr⟩ := h.obj b2 o2 l2 hb2 (hback _ _ hb he2)
      refine ⟨y, ?_, hr.mono hle⟩
      have := (h.dom b2 l2 (hback _ _ hb he2)).2
      rw [hw, Array.getElem?_push, if_neg (by omega)]
      exact hy
  · intro b2 l2 he2
    by_cases hb : b2 = N
    · subst hb; rw [Env.with_same] at he2; obtain rfl := Option.some.inj he2; omega
    · have := h.dom b2 l2 (hback _ _ hb he2); omega
  · intro b2 o2 hb2
    by_cases hb : b2 = N
    · subst hb; omega
    · rw [Tr.get_put_ne _ _ hb] at hb2; have := h.used b2 o2 hb2; omega
  · intro b1 b2 o1 o2 l1 l2 g1 g2 e1 e2 hh
    by_cases hb1 : b1 = N <;> by_cases hb2 : b2 = N
    · rw [hb1, hb2]
    · subst hb1
      rw [Env.with_same] at e1
      obtain rfl := Option.some.inj e1
      have := (h.dom b2 l2 (hback _ _ hb2 e2)).2
      omega
    · subst hb2
      rw [Env.with_same] at e2
      obtain rfl := Option.some.inj e2
      have := (h.dom b1 l1 (hback _ _ hb1 e1)).2
      omega
    · rw [Tr.get_put_ne _ _ hb1] at g1
      rw [Tr.get_put_ne _ _ hb2] at g2
      exact h.one b1 b2 o1 o2 l1 l2 g1 g2 (hback _ _ hb1 e1) (hback _ _ hb2 e2) hh
  · intro b2 o2 l2 hb2 he2 hg2
    by_cases hb : b2 = N
    · subst hb
      rw [Env.with_same] at he2
      obtain rfl := Option.some.inj he2
      have := h.size
      omega
    · rw [Tr.get_put_ne _ _ hb] at hb2; exact h.own b2 o2 l2 hb2 (hback _ _ hb he2) hg2
  · intro i hi
    have := h.size
    rw [hw, Array.getElem?_push, if_neg (by omega)]
    exact h.old i hi
  · intro p hp
    obtain ⟨m, a, b⟩ := h.glo p hp
    exact ⟨m, hle _ _ a, b⟩
theorem Keeps.new (e : Env) (H : Tr Ob) (N : P) (o : Option Ob) : Keeps e N H (H.put o N) := fun b _ hb =>
  Tr.get_put_ne _ _ (fun hh => by subst hh; exact absurd hb (Nat.lt_irrefl _))
/-- only a draw lies between -/
theorem WR.same {c : Cfg} {e : Env} {H : Tr Ob} {N : P} {w w' : World} (h : WR c e H N w) (hw : w'.heap = w.heap) (h1 : w'.os = w.os) (h2 : w'.tape = w.tape) (h3 : w'.output = w.output) : WR c e H N w' :=
  ⟨fun b o l a b' => by rw [hw]; exact h.obj b o l a b', fun b l a => by rw [hw]; exact h.dom b l a, h.used, h.one, h.own, fun i hi => by rw [hw]; exact h.old i hi, by rw [hw]; exact h.size, h1.trans h.os, h2.trans h.tape, h3.trans h.output, h.glo⟩
end Go.AM
