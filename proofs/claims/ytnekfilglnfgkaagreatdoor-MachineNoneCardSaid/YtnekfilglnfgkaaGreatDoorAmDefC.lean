/- The abstract machine's compiler: from the model's code. -/
import Derived.Test.YtnekfilglnfgkaaGreatDoorAmApp5
set_option autoImplicit false
set_option linter.unusedVariables false
namespace Go.AM
noncomputable section
/-! ### From the model's code -/
/-- of a func: which temporaries are kept between regions; how many temporaries there are; how many package-level variables -/
inductive Fl where | mk (t : Tr Unit) (nt ng : Nat) (eqs : List Nat)
def Fl.t (f : Fl) : Tr Unit := Fl.rec (motive := fun _ => Tr Unit) (fun t _ _ _ => t) f
def Fl.nt (f : Fl) : Nat := Fl.rec (motive := fun _ => Nat) (fun _ n _ _ => n) f
def Fl.ng (f : Fl) : Nat := Fl.rec (motive := fun _ => Nat) (fun _ _ n _ => n) f
def Fl.eqs (f : Fl) : List Nat := Fl.rec (motive := fun _ => List Nat) (fun _ _ _ l => l) f
/-- structs that '==' may compare cell by cell -/
def flatFs (p : Program) : List Field → Nat → Bool
  | [], _ => true
  | f :: r, n => (f.name != "_") && (f.offset == n) && (match p.underlying f.type with | some (.int _) | some .string | some .bool => true | _ => false) && flatFs p r (n + 1)
def eqType (p : Program) (t : TypeId) : Bool :=
  match p.underlying t with
  | some (.struct fs) => !p.stoodInHeld t && flatFs p fs.toList 0
  | _ => false
def hasN (t : Nat) : List Nat → Bool
  | [] => false
  | u :: r => bif Nat.beq u t then true else hasN t r
def typeK (raw : Tr TypeInfo) (t : TypeId) (K : TypeDesc → TypeInfo → A) : A :=
  pathK t fun p => getT (F 200) (fun i => match i.desc with
    | .named _ u => pathK u fun q => getT (F 200) (fun j => K j.desc i) q raw
    | d => K d i) p raw
/-- its cells, and is it an aggregate? -/
def sizeK (raw : Tr TypeInfo) (t : TypeId) (K : Nat → Bool → A) : A :=
  typeK raw t fun d i => forceNat (fun n => match d with | .struct _ => K n true | .array _ _ => K n true | _ => K n false) i.size
def strN : List UInt8 → Nat
  | [] => 0
  | b :: l => b.toNat + 256 * strN l
def const1K (K : V → A) (x : Value) (E : A) : A :=
  match x with
  | .bool b => ifK (K (.bool true)) (K (.bool false)) b
  | .int k n => forceInt (fun n => K (.int k n)) n
  | .string s => forceNat (fun n => forceNat (fun v => K (.str n v)) (strN s.data.toList)) s.size
  | .pointer none => K .nptr
  | .slice none 0 0 => K .nslc
  | .map none => K .nmap
  | .nilFunc => K .nfn
  | .nilIface => K .nifc
  | .func (.func f) a c => ifK (K (.fn f [] [])) E (Nat.beq (a.size + c.size) 0)
  | .tuple vs => ifK (K .und) E (Nat.beq vs.size 0)
  | _ => E
def constsK (E : A) : List Value → (List V → A) → A
  | [], K => K []
  | x :: r, K => const1K (fun v => V.one (constsK E r fun l => K (v :: l)) v) x E
def constK (K : V → A) (x : Value) (E : A) : A :=
  match x with
  | .agg cs => constsK E cs.toList fun l => K (.agg l)
  | x => const1K K x E
/-- the cells of a type's zero value -/
def zeroK (raw : Tr TypeInfo) (t : TypeId) (K : List V → A) (E : A) : A :=
  pathK t fun p => getT (F 201) (fun i => match i.zero with
    | some (.agg cs) => constsK E cs.toList K
    | some x => const1K (fun v => V.one (K [v]) v) x E
    | none => E) p raw
def zeroVK (raw : Tr TypeInfo) (t : TypeId) (K : V → A) (E : A) : A :=
  pathK t fun p => getT (F 201) (fun i => match i.zero with
    | some x => constK K x E
    | none => E) p raw
/-- which local holds a temporary: its place in the list; 'lt': op's number and temporary, the last first -/
def placeK (t : Nat) (N : A) (K : Nat → A) : List (Nat × Option Nat) → Nat → A
  | [], _ => N
  | (_, some u) :: r, n => ifK (K n) (placeK t N K r (Nat.succ n)) (Nat.beq t u)
  | (_, none) :: r, n => placeK t N K r (Nat.succ n)
def placeOf (j : Nat) (N : A) (K : Nat → A) : List (Nat × Option Nat) → Nat → A
  | [], _ => N
  | (i, some _) :: r, n => ifK (K n) (placeOf j N K r (Nat.succ n)) (Nat.beq i j)
  | (_, none) :: r, n => placeOf j N K r (Nat.succ n)
def locK (K : Opd → A) (n : Nat) : A := Nat.rec (motive := fun _ => A) (K oL0) (fun m _ => K (oL (Nat.succ m))) n
def opdK (fl : Fl) (lt : List (Nat × Option Nat)) (E : A) (x : Operand) (K : Opd → A) : A :=
  match x with
  | .tmp t => placeK t (pathK t fun p => getT E (fun _ => K (oV p)) p fl.t) (fun n => forceNat (fun n => locK K n) n) lt 0
  | .const v => constK (fun v => K (oC v)) v E
  | .global g => ifK (pathK g fun p => K (oC (.ptr p 0))) E (Nat.blt g fl.ng)
  | .func f => K (oC (.fn f [] []))
def opdsK (fl : Fl) (lt : List (Nat × Option Nat)) (E : A) : List Operand → (List Opd → A) → A
  | [], K => K []
  | x :: r, K => opdK fl lt E x fun x => opdsK fl lt E r fun l => K (x :: l)
def opdOK (fl : Fl) (lt : List (Nat × Option Nat)) (E : A) (x : Option Operand) (K : Option Opd → A) : A :=
  match x with
  | none => K none
  | some x => opdK fl lt E x fun x => K (some x)
/-- parts of a struct or an array: place and size by number -/
def partsK (raw : Tr TypeInfo) (fl : Fl) (lt : List (Nat × Option Nat)) (E : A) (place : Nat → (Nat → TypeId → A) → A) : List (Nat × Operand) → (List Part → A) → A
  | [], K => K []
  | (i, x) :: r, K => opdK fl lt E x fun x => place i fun off t => sizeK raw t fun n agg =>
      forceNat (fun off => partsK raw fl lt E place r fun l => ifK (K (.many off n x :: l)) (ifK (K (.one off x :: l)) E (Nat.beq n 1)) agg) off
/-- which nil a constant is -/
def nilC : Operand → Nat
  | .const (.pointer none) => 1
  | .const (.slice none _ _) => 2
  | .const (.map none) => 3
  | .const .nilFunc => 4
  | .const .nilIface => 5
  | _ => 0
def kdK (d : TypeDesc) (E : A) (K : Nat → A) : A :=
  match d with
  | .int _ => K 0
  | .string => K 1
  | .bool => K 2
  | _ => E
def kindsK (raw : Tr TypeInfo) (E : A) : List Field → (List Nat → A) → A
  | [], K => K []
  | f :: r, K => typeK raw f.type fun d _ => match d with
    | .int _ => kindsK raw E r fun l => K (0 :: l)
    | .string => kindsK raw E r fun l => K (1 :: l)
    | .bool => kindsK raw E r fun l => K (2 :: l)
    | _ => E
def binK (raw : Tr TypeInfo) (E : A) (op : BinOp) (d : TypeDesc) (se : Bool) (nx ny : Nat) (x y : Opd) (K : Opd → A) : A :=
  match d, op with
  | .int _, .add => K (aInt2 iAdd x y)
  | .int _, .sub => K (aInt2 iSub x y)
  | .int _, .mul => K (aInt2 iMul x y)
  | .int _, .quo => K (aDiv x y)
  | .int _, .rem => K (aRem x y)
  | .int _, .and => K (aAnd x y)
  | .int _, .or => K (aBits Nat.lor x y)
  | .int _, .xor => K (aBits Nat.xor x y)
  | .int _, .shl => K (aShl x y)
  | .int _, .eql => K (aCmp eqI x y)
  | .int _, .neq => K (aCmp neI x y)
  | .int _, .lss => K (aLss x y)
  | .int _, .leq => K (aCmp leI x y)
  | .int _, .gtr => K (aCmp gtI x y)
  | .int _, .geq => K (aCmp geI x y)
  | .string, .add => K (aCat x y)
  | .string, .eql => K (aEqS false x y)
  | .string, .neq => K (aEqS true x y)
  | .bool, .eql => K (aEqB false x y)
  | .bool, .neq => K (aEqB true x y)
  | .pointer _, .eql => ifK (K (aNilP false x)) (ifK (K (aNilP false y)) E (Nat.beq nx 1)) (Nat.beq ny 1)
  | .pointer _, .neq => ifK (K (aNilP true x)) (ifK (K (aNilP true y)) E (Nat.beq nx 1)) (Nat.beq ny 1)
  | .slice _, .eql => ifK (K (aNilS false x)) E (Nat.beq ny 2)
  | .slice _, .neq => ifK (K (aNilS true x)) E (Nat.beq ny 2)
  | .map _ _, .eql => ifK (K (aNilM false x)) E (Nat.beq ny 3)
  | .map _ _, .neq => ifK (K (aNilM true x)) E (Nat.beq ny 3)
  | .func _ _ _, .eql => ifK (K (aNilF false x)) E (Nat.beq ny 4)
  | .func _ _ _, .neq => ifK (K (aNilF true x)) E (Nat.beq ny 4)
  | .interface _, .eql => ifK (K (aNilI false x)) E (Nat.beq ny 5)
  | .interface _, .neq => ifK (K (aNilI true x)) E (Nat.beq ny 5)
  | .struct fs, .eql => ifK (kindsK raw E fs.toList fun ks => K (aEqA ks false x y)) E se
  | .struct fs, .neq => ifK (kindsK raw E fs.toList fun ks => K (aEqA ks true x y)) E se
  | _, _ => E
/-- a call of a builtin function -/
def builtinK (raw : Tr TypeInfo) (d : Option P) (b : Builtin) (xs : List Opd) (ats : List TypeId) (E : A) (K : RAct → A) : A :=
  match b, xs, ats with
  | .len, [x], [t] => typeK raw t fun ds _ => match ds with
    | .string => K (.p (aLenS x) d)
    | .slice _ => K (.p (aLenSl x) d)
    | .map _ _ => K (.r (rLenM x) d)
    | _ => E
  | .append, [x, y], [t, u] => typeK raw t fun ds _ => typeK raw u fun du _ => match ds, du with
    | .slice e, .slice _ => typeK raw e fun _ i => forceNat (fun n => zeroK raw e (fun z => lenL z 0 fun k =>
        ifK (ifK (ifK E (K (.e (eApp n x y) d)) (Nat.beq n 0)) E (Nat.beq k n)) E (Nat.ble i.bytes 1048576)) E) i.size
    | _, _ => E
  | .max, [x, y], [t, _] => typeK raw t fun ds _ => match ds with
    | .int _ => K (.p (aMax x y) d)
    | _ => E
  | .min, [x, y], [t, _] => typeK raw t fun ds _ => match ds with
    | .int _ => K (.p (aMin x y) d)
    | _ => E
  | .delete, [m, k], [t, _] => typeK raw t fun ds _ => match ds with
    | .map kt _ => typeK raw kt fun dk _ => kdK dk E fun kd => K (.e (eDel kd m k) d)
    | _ => E
  | .recover, [], _ => K (.e eRcv d)
  | .panic, [x], _ => K (.e (ePan x) d)
  | _, _, _ => E
/-- an operation as an act; E: what is not taken -/
def opK (raw : Tr TypeInfo) (fl : Fl) (lt : List (Nat × Option Nat)) (d : Option P) (o : Op) (E : A) (K : RAct → A) : A :=
  let arg (x : Operand) (K : Opd → A) : A := opdK fl lt E x K
  match o with
  | .move x | .assign x => arg x fun x => K (.p x d)
  | .pick c a b => arg c fun c => arg a fun a => arg b fun b => K (.p (aPick c a b) d)
  | .nilCheck x => arg x fun x => K (.p (aNil x) d)
  | .fieldAddr s x f => arg x fun x => typeK raw s fun ds _ => match ds with
    | .struct fs => match fs.toList[f]? with
      | some fd => sizeK raw fd.type fun n _ => ifK E (forceNat (fun off => K (.p (aFld off x) d)) fd.offset) (Nat.beq n 0)
      | none => E
    | _ => E
  | .field s x f => arg x fun x => typeK raw s fun ds _ => match ds with
    | .struct fs => match fs.toList[f]? with
      | some fd => sizeK raw fd.type fun n agg => forceNat (fun off => ifK (K (.p (aFieldN off n x) d)) (K (.p (aField1 off x) d)) agg) fd.offset
      | none => E
    | _ => E
  | .indexAddr t x i => arg x fun x => arg i fun i => typeK raw t fun ds _ => match ds with
    | .array len e => sizeK raw e fun n _ => K (.p (aIxArr len n x i) d)
    | .slice e => sizeK raw e fun n _ => K (.p (aIxSl n x i) d)
    | _ => E
  | .index t x i => arg x fun x => arg i fun i => typeK raw t fun ds _ => match ds with
    | .array len e => sizeK raw e fun n agg => ifK (K (.p (aIndN len n x i) d)) (K (.p (aInd1 len n x i) d)) agg
    | .string => K (.p (aIndS x i) d)
    | _ => E
  | .binOp op t x y _ => typeK raw t fun ds _ => arg x fun x' => arg y fun y' => binK raw E op ds (hasN t fl.eqs) (nilC x) (nilC y) x' y' fun f => K (.p f d)
  | .unOp op t x => arg x fun x => typeK raw t fun ds _ => match op, ds with
    | .neg, .int _ => K (.p (aNeg x) d)
    | .xor, .int _ => K (.p (aXor x) d)
    | .not, .bool => K (.p (aNot x) d)
    | _, _ => E
  | .convert s t x => arg x fun x => typeK raw s fun ds _ => typeK raw t fun dt _ => match ds, dt with
    | .int _, .int k => K (.p (aConv k x) d)
    | .int _, .string => K (.p (aChr x) d)
    | .string, .string => K (.p (aStr x) d)
    | _, _ => E
  | .makeInterface t x => arg x fun x => typeK raw t fun ds _ => match ds with
    | .interface _ => E
    | _ => K (.p (aIfc t x) d)
  | .makeFunc (.func f) a c => opdsK fl lt E a.toList fun a => opdsK fl lt E c.toList fun c => K (.p (aFun f a c) d)
  | .makeMap _ none => K (.n fMap d)
  | .makeSlice t l c => arg l fun l => arg c fun c => typeK raw t fun ds _ => match ds with
    | .slice e => typeK raw e fun _ i => forceNat (fun s => zeroK raw e (fun z => lenL z 0 fun k => ifK (ifK (K (.n (fMake z l c) d)) E (Nat.beq k s)) E (Nat.ble i.bytes 268435456)) E) i.size
    | _ => E
  | .slice t x lo hi mx => arg x fun x => opdOK fl lt E lo fun lo => opdOK fl lt E hi fun hi => opdOK fl lt E mx fun mx => typeK raw t fun ds _ => match ds, mx with
    | .string, none => K (.p (aSlS x lo hi) d)
    | .slice e, mx => sizeK raw e fun n _ => ifK E (match mx, hi with
        | some _, none => E
        | mx, hi => K (.p (aSlSl n x lo hi mx) d)) (Nat.beq n 0)
    | _, _ => E
  | .load t a => arg a fun a => sizeK raw t fun n agg => ifK (K (.r (rLoadN n a) d)) (K (.r (rLoad1 a) d)) agg
  | .store t a x => arg a fun a => arg x fun x => sizeK raw t fun n agg => ifK (K (.e (eStoreN n a x) d)) (ifK (K (.e (eStore1 a x) d)) E (Nat.beq n 1)) agg
  | .lookup t m k ok => arg m fun m => arg k fun k => typeK raw t fun ds _ => match ds with
    | .map kt e => typeK raw kt fun dk _ => kdK dk E fun kd => zeroVK raw e (fun z => ifK (K (.r (rLook kd z true m k) d)) (K (.r (rLook kd z false m k) d)) ok) E
    | _ => E
  | .mapUpdate t m k x | .insert t m k x => arg m fun m => arg k fun k => arg x fun x => typeK raw t fun ds _ => match ds with
    | .map kt _ => typeK raw kt fun dk _ => kdK dk E fun kd => K (.e (eMapPut kd m k x) d)
    | _ => E
  | .extract x i => arg x fun x => K (.p (aExt i x) d)
  | .alloc t => sizeK raw t fun n _ => zeroK raw t (fun z => ifK (K (.n (fAlloc (.cells z false)) d))
      (lenL z 0 fun k => ifK (makeB 40 0 n z z fun b _ => K (.n (fAlloc (.big b n)) d)) E (Nat.beq k n)) (Nat.ble n 40)) E
  | .box t x => arg x fun x => sizeK raw t fun _ agg => ifK (K (.n (fBoxN x) d)) (K (.n (fBox1 x) d)) agg
  | .build t ps => zeroK raw t (fun z => typeK raw t fun ds _ => match ds with
    | .struct fs => partsK raw fl lt E (fun i K => match fs.toList[i]? with | some f => K f.offset f.type | none => E) ps.toList fun ps => K (.p (aBuild z ps) d)
    | .array _ e => sizeK raw e fun n _ => partsK raw fl lt E (fun i K => K (i * n) e) ps.toList fun ps => K (.p (aBuild z ps) d)
    | _ => E) E
  | .buildSlice t n ps => typeK raw t fun ds _ => match ds with
    | .slice e => sizeK raw e fun s _ => zeroK raw e (fun z => lenL z 0 fun k => ifK (ifK (forceNat (fun n => timesL z n fun z => partsK raw fl lt E (fun i K => K (i * s) e) ps.toList fun ps => K (.n (fSlice z n ps) d)) n) E (Nat.beq k s)) E (Nat.ble (n * s) 16777216)) E
    | _ => E
  | .typeAssert x _ a true => arg x fun x => typeK raw a fun ds _ => match ds with
    | .interface _ => E
    | _ => zeroVK raw a (fun z => K (.p (aTA a z x) d)) E
  | .call { callee := .builtin b, args, argTypes } => opdsK fl lt E args.toList fun xs => builtinK raw d b xs argTypes.toList E K
  | .call { callee := .value (.func f), args, .. } => opdsK fl lt E args.toList fun xs => K (.e (eCall f xs) d)
  | .call { callee := .value f, args, .. } => arg f fun f => opdsK fl lt E args.toList fun xs => K (.e (eCallV f xs) d)
  | .defer { callee := .value f, args, .. } => arg f fun f => opdsK fl lt E args.toList fun xs => K (.e (eDefer f xs) d)
  | .panic x => arg x fun x => K (.e (ePan x) d)
  | _ => E
/-- where an operation's value is kept behind its region, if anywhere -/
def dstK (fl : Fl) (d : Option Nat) (K : Option P → A) : A :=
  match d with
  | none => K none
  | some t => pathK t fun p => getT (K none) (fun _ => K (some p)) p fl.t
/-- may an operation write there? A temporary that there is, which no operation of its region wrote -/
def newTmp (fl : Fl) (lt : List (Nat × Option Nat)) (d : Option Nat) (N K : A) : A :=
  match d with
  | none => K
  | some t => ifK (placeK t K (fun _ => N) lt 0) N (Nat.blt t fl.nt)
def guardK (lt : List (Nat × Option Nat)) (d : Option P) (g : Option (Nat × Bool)) (a : RAct) (E : A) (K : RAct → A) : A :=
  match g with
  | none => K a
  | some (j, w) => placeOf j E (fun n => forceNat (fun n => ifK (K (.g n true d a)) (K (.g n false d a)) w) n) lt 0
/-- 'fl': which temporaries are kept; 'fo': which of them an operand may ask for -/
def operK (raw : Tr TypeInfo) (fl fo : Fl) (lt : List (Nat × Option Nat)) (o : Oper) (K : RAct → A) : A :=
  newTmp fl lt o.dst (K (.e eFail none)) (dstK fl o.dst fun d => opK raw fo lt d o.op (K (.e eFail none)) fun a => guardK lt d o.guard a (K (.e eFail none)) K)
/-- a region in the text's order -/
def seqK (raw : Tr TypeInfo) (fl : Fl) : List Oper → Nat → List (Nat × Option Nat) → (List RAct → A) → A
  | [], _, _, K => K []
  | o :: r, i, lt, K => operK raw fl fl lt o fun a => seqK raw fl r (i + 1) ((i, o.dst) :: lt) fun l => K (a :: l)
def isEff : RAct → Bool
  | .e _ _ => true
  | .g _ _ _ a => isEff a
  | _ => false
def isRead : RAct → Bool
  | .r _ _ => true
  | .g _ _ _ a => isRead a
  | _ => false
/-! ### A region whose order is open: its acts run in one order, what may come elsewhere is looked at again there -/
def bit (m i : Nat) : Bool := Nat.testBit m i
def anyMask (o : Oper) (acc : List Nat) : Nat :=
  o.after.toList.foldl (fun s e => if Region.binds .any e then s ||| 2 ^ e.on ||| acc.getD e.on 0 else s) 0
/-- of each operation those that are ahead of it in every order, as bits -/
def masks : List Oper → List Nat → List Nat
  | [], acc => acc
  | o :: r, acc => masks r (acc ++ [anyMask o acc])
/-- does it (perhaps) act? -/
def effOp : Op → Bool
  | .move _ | .assign _ | .pick .. | .alloc _ | .box .. | .build .. | .buildSlice .. | .load .. | .nilCheck _ | .binOp .. | .unOp .. | .convert .. | .makeInterface .. | .makeFunc .. | .makeMap .. | .makeSlice ..
  | .slice .. | .fieldAddr .. | .field .. | .indexAddr .. | .index .. | .lookup .. | .typeAssert .. | .extract .. => false
  | .call { callee := .builtin b, .. } => match b with | .len | .cap | .max | .min => false | _ => true
  | _ => true
def effsOf : List Oper → Nat → List Nat
  | [], _ => []
  | o :: r, i => if effOp o.op then i :: effsOf r (i + 1) else effsOf r (i + 1)
def chain (ms : List Nat) : List Nat → Bool
  | i :: j :: r => bit (ms.getD j 0) i && chain ms (j :: r)
  | _ => true
/-- how many of the acting operations are ahead of it in every order -/
def loOf (m : Nat) (effs : List Nat) : Nat := (effs.filter (bit m ·)).length
/-- before which of the acting operations it comes in every order -/
def hiOf (ms : List Nat) (i : Nat) : List Nat → Nat
  | [] => 0
  | e :: r => if bit (ms.getD e 0) i then 0 else hiOf ms i r + 1
def dstIs (t : Nat) (d : Option Nat) : Bool := match d with | some u => Nat.beq t u | none => false
/-- is whoever writes a temporary ahead, as bits say? -/
def depT (m t : Nat) : List Oper → Nat → Bool
  | [], _ => true
  | o :: r, j => bif dstIs t o.dst then (bif bit m j then depT m t r (j + 1) else false) else depT m t r (j + 1)
def depsOf (m : Nat) (all : List Oper) : List Operand → Bool
  | [] => true
  | .tmp t :: r => bif depT m t all 0 then depsOf m all r else false
  | _ :: r => depsOf m all r
def guardB (m : Nat) : Option (Nat × Bool) → Bool
  | none => true
  | some (j, _) => bit m j
def edgesB (i : Nat) (o : Oper) : Bool := o.after.toList.all fun e => bif Region.binds .any e then Nat.blt e.on i else true
/-- each operation asks for what is ahead of it in every order -/
def depsB (ms : List Nat) (all : List Oper) : List Oper → Nat → Bool
  | [], _ => true
  | o :: r, i => bif edgesB i o then (bif guardB (ms.getD i 0) o.guard then (bif depsOf (ms.getD i 0) all o.op.operands.toList then depsB ms all r (i + 1) else false) else false) else false
/-- what a region's operations write is not asked for among what is kept -/
def lessK : List Oper → Tr Unit → (Tr Unit → A) → A
  | [], t, K => K t
  | o :: r, t, K => match o.dst with
    | some d => pathK d fun p => putT none p t fun t => lessK r t K
    | none => lessK r t K
/-- may it look into memory? -/
def readOp : Op → Bool
  | .load .. | .lookup .. | .convert .. => true
  | .call { callee := .builtin b, .. } => match b with | .len | .cap => true | _ => false
  | _ => false
section
variable (raw : Tr TypeInfo) (fl fo : Fl) (ms effs : List Nat) (all : List Oper)
/-- stage m: the operations that may come then for the first time -/
def newK (m : Nat) (E : A) : List Oper → Nat → List (Nat × Option Nat) → (List RAct → List (Nat × Option Nat) → A) → A
  | [], _, lt, K => K [] lt
  | o :: r, i, lt, K =>
    bif !effOp o.op && Nat.beq (loOf (ms.getD i 0) effs) m then
      operK raw fl fo lt o fun a => bif isEff a then E else bif isRead a && !readOp o.op then E else newK m E r (i + 1) ((i, o.dst) :: lt) fun l lt => K (a :: l) lt
    else newK m E r (i + 1) lt K
/-- an act that looks again -/
def ckK (lt : List (Nat × Option Nat)) (E : A) (i : Nat) (o : Oper) (g : RdA) (R : (List RAct → A) → A) (K : List RAct → A) : A :=
  placeOf i E (fun n => forceNat (fun n => match o.guard with
    | none => R fun l => K (.ck n g :: l)
    | some (j, w) => placeOf j E (fun n' => forceNat (fun n' => R fun l => K (.gc n' w (.ck n g) :: l)) n') lt 0) n) lt 0
/-- stage m: the operations that looked into memory before and may still come -/
def againK (m : Nat) (lt : List (Nat × Option Nat)) (E : A) : List Oper → Nat → (List RAct → A) → A
  | [], _, K => K []
  | o :: r, i, K =>
    bif (!effOp o.op && readOp o.op) && (Nat.blt (loOf (ms.getD i 0) effs) m && Nat.ble m (hiOf ms i effs)) then
      opK raw fo lt none o.op E fun a => match a with
        | .r f _ => ckK lt E i o f (fun K => againK m lt E r (i + 1) K) K
        | .p f _ => ckK lt E i o (fun l vs _ => f l vs) (fun K => againK m lt E r (i + 1) K) K
        | _ => E
    else againK m lt E r (i + 1) K
def stagesK (E : A) : List Nat → Nat → List (Nat × Option Nat) → (List RAct → A) → A
  | [], m, lt, K => newK raw fl fo ms effs m E all 0 lt fun l1 lt => againK raw fo ms effs m lt E all 0 fun l2 => appL l1 l2 K
  | e :: r, m, lt, K => newK raw fl fo ms effs m E all 0 lt fun l1 lt => againK raw fo ms effs m lt E all 0 fun l2 =>
      match all[e]? with
      | some o => operK raw fl fo lt o fun a => stagesK E r (m + 1) ((e, o.dst) :: lt) fun l3 => appL l2 (a :: l3) fun l => appL l1 l K
      | none => E
end
def drawK (raw : Tr TypeInfo) (fl : Fl) (ops : List Oper) (E : A) (K : List RAct → A) : A :=
  let ms := masks ops []
  let effs := effsOf ops 0
  bif chain ms effs then (bif depsB ms ops ops 0 then lessK ops fl.t fun t => stagesK raw fl (.mk t fl.nt fl.ng fl.eqs) ms effs ops E effs 0 [] K else E) else E
/-! ### Code and functions -/
def regionK (raw : Tr TypeInfo) (fl : Fl) (ops : List Oper) (draw : Bool) (K : List RAct → A) : A :=
  if draw then drawK raw fl ops (K [.e eFail none]) K else seqK raw fl ops 0 [] K
def patsK (fl : Fl) : List Tmp → (List (Option P) → A) → A
  | [], K => K []
  | t :: r, K => ifK (dstK fl (some t) fun p => patsK fl r fun l => K (p :: l)) (F 210) (Nat.blt t fl.nt)
def codeK (raw : Tr TypeInfo) (fl : Fl) : Code → Tr LpC → P → (ICode → Tr LpC → P → A) → A
  | .skip, lp, n, K => K .skip lp n
  | .region _ ops draw, lp, n, K => regionK raw fl ops.toList draw fun l => K (.reg l) lp n
  | .seq a b, lp, n, K => codeK raw fl a lp n fun a lp n => codeK raw fl b lp n fun b lp n => K (.seq a b) lp n
  | .cond c a b, lp, n, K => opdK fl [] (F 211) c fun x => codeK raw fl a lp n fun a lp n => codeK raw fl b lp n fun b lp n => K (.cond x a b) lp n
  | .block id b, lp, n, K => forceNat (fun id => codeK raw fl b lp n fun b lp n => K (.blk id b) lp n) id
  | .loop b, lp, n, K => codeK raw fl b lp n fun b lp n => K (.lp b) lp n
  | .rangeFunc f ps a b, lp, n, K => opdK fl [] (F 212) f fun x => codeK raw fl a lp n fun a lp n => codeK raw fl b lp n fun b lp n =>
      patsK fl ps.toList fun ps => getT (putT (some (.mk a b)) n lp fun lp => succP n fun n' => K (.rf x ps n) lp n') (fun _ => F 213) n lp
  | .exit id, lp, n, K => forceNat (fun id => K (.ext id) lp n) id
  | .scope b, lp, n, K => codeK raw fl b lp n fun b lp n => K (.scp b) lp n
  | .label l, lp, n, K => K (.lbl l) lp n
  | .goto _, lp, n, K => K (.got 0) lp n
  | .ret, lp, n, K => K .ret lp n
  | .refuse _, lp, n, K => K (.got 0) lp n
/-- the temporaries that a region reads and did not write, and that code reads -/
def openIn (defs : List Nat) (xs : List Operand) (acc : List Nat) : List Nat :=
  xs.foldl (fun acc x => match x with | .tmp t => if defs.contains t || acc.contains t then acc else t :: acc | _ => acc) acc
def openOps : List Oper → List Nat → List Nat → List Nat
  | [], _, acc => acc
  | o :: r, defs, acc => openOps r (o.dst.toList ++ defs) (openIn defs o.op.operands.toList acc)
def openTmps : Code → List Nat → List Nat
  | .region _ ops _, acc => openOps ops.toList [] acc
  | .seq a b, acc => openTmps b (openTmps a acc)
  | .cond c a b, acc => openTmps b (openTmps a (openIn [] [c] acc))
  | .block _ b, acc | .loop b, acc | .scope b, acc => openTmps b acc
  | .rangeFunc f ps a b, acc => openTmps b (openTmps a (ps.toList ++ openIn [] [f] acc))
  | _, acc => acc
def markK (nt : Nat) : List Nat → Tr Unit → (Tr Unit → A) → A
  | [], fl, K => K fl
  | t :: r, fl, K => ifK (pathK t fun p => putT (some ()) p fl fun fl => markK nt r fl K) (markK nt r fl K) (Nat.blt t nt)
def resTmps (rs : List ResultVar) : List Nat := rs.map fun | .tmp t => t | .cell t _ => t
def ressK (raw : Tr TypeInfo) : List ResultVar → (List Res → A) → A
  | [], K => K []
  | .tmp t :: r, K => pathK t fun p => ressK raw r fun l => K (.tmp p :: l)
  | .cell a t :: r, K => pathK a fun p => sizeK raw t fun n agg => ressK raw r fun l => ifK (K (.cell (rLoadN n (oV p)) :: l)) (K (.cell (rLoad1 (oV p)) :: l)) agg
/-- no result is written by an operation whose place is open, but by those that act -/
def safeOps (rs : List Nat) : List Oper → Bool
  | [] => true
  | o :: r => bif effOp o.op then safeOps rs r else (match o.dst with | some t => bif hasN t rs then false else safeOps rs r | none => safeOps rs r)
def safeOf (rs : List Nat) : Code → Bool
  | .region _ ops true => safeOps rs ops.toList
  | .seq a b | .cond _ a b | .rangeFunc _ _ a b => bif safeOf rs a then safeOf rs b else false
  | .block _ b | .loop b | .scope b => safeOf rs b
  | _ => true
def fnK (raw : Tr TypeInfo) (ng : Nat) (eqs : List Nat) (fn : Func) (c : Code) (K : FnRec → A) : A :=
  forceNat (fun nt => markK nt (resTmps fn.results.toList ++ openTmps c []) .nil fun t =>
    codeK raw (.mk t nt ng eqs) c .nil .h fun ic lps _ => patsK (.mk t nt ng eqs) (List.range (fn.params.size + fn.nfree)) fun ent => ressK raw fn.results.toList fun rs => ifK (K (.mk ic lps ent rs true)) (K (.mk ic lps ent rs false)) (safeOf (resTmps fn.results.toList) c)) fn.ntmps
def fnsK (raw : Tr TypeInfo) (ng : Nat) (eqs : List Nat) : List Func → List Bool → P → Tr FnRec → (Tr FnRec → A) → A
  | [], _, _, tab, K => K tab
  | _ :: _, [], _, tab, K => K tab
  | fn :: r, b :: live, n, tab, K => ifK (match fn.body with
    | some c => fnK raw ng eqs fn c fun rc => putT (some rc) n tab fun tab => succP n fun n => fnsK raw ng eqs r live n tab K
    | none => succP n fun n => fnsK raw ng eqs r live n tab K) (succP n fun n => fnsK raw ng eqs r live n tab K) b
def typesK : List TypeInfo → P → Tr TypeInfo → (Tr TypeInfo → A) → A
  | [], _, t, K => K t
  | i :: r, n, t, K => putT (some i) n t fun t => succP n fun n => typesK r n t K
def tabK (p : Program) (eqs : List Nat) (live : List Bool) (K : Tr FnRec → A) : A := typesK p.types.toList .h .nil fun raw => forceNat (fun ng => fnsK raw ng eqs p.funcs.toList live .h .nil K) p.globals.size
def startP (n : Nat) (K : P → A) : A := pathK n K
/-- a call, from a heap that holds nothing but what is given -/
def callK (p : Program) (eqs : List Nat) (live : List Bool) (f : Nat) (args : List V) (H : Tr Ob) (KE : V → Tr Ob → P → A) (K0 : Run) (n : Nat) : A :=
  tabK p eqs live fun tab => pathK p.globals.size fun N => enter tab (run tab KE K0 n) f args false [] H N
end
end Go.AM
