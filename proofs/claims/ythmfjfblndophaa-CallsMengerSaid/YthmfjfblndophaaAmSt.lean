/- The staged evaluator: the abstract machine's runs as plain terms, what is known of values laid apart. -/
/- The staged evaluator is sound: what it answers the abstract machine answers. -/
/- The staged evaluator is sound: operations. -/
/- The staged evaluator is sound: regions, code, bodies. -/
import Derived.Test.YthmfjfblndophaaAmDef

namespace Go.AM

/-- A value of which something is known. -/
inductive SV where
  | int (k : IntKind) (n : Int)
  | bool (b : Bool)
  | kb (b : Bool)
  | ptr (b o : Nat)
  | fn (f : FuncId) (xs ys : List Value)
  | opq (v : Value)
  | und
  | top

def SV.val : SV → Value
  | .int k n => .int k n
  | .bool b => .bool b
  | .kb b => .bool b
  | .ptr b o => .pointer (some ⟨b, o, none⟩)
  | .fn f xs ys => .func (.func f) xs.toArray ys.toArray
  | .opq v => v
  | .und => undef
  | .top => undef

def liftV (v : Value) : SV :=
  match v with
  | .int k n => .int k n
  | .bool b => .kb b
  | v => .opq v

abbrev SEnv := Nat → SV

def evS (env : SEnv) : Operand → SV
  | .tmp i => env i
  | .const v => liftV v
  | .global g => .ptr g 0
  | .func f => .fn f [] []

/-- The plain functions of the staged evaluator. -/
structure Sc where
  add : IntKind → Int → Int → Int
  sub : IntKind → Int → Int → Int
  mul : IntKind → Int → Int → Int
  quo : IntKind → Int → Int → Int
  rem : IntKind → Int → Int → Int
  and : IntKind → Int → Int → Int
  or : IntKind → Int → Int → Int
  xor : IntKind → Int → Int → Int
  andNot : IntKind → Int → Int → Int
  shl : IntKind → Int → Int → Int
  shr : IntKind → Int → Int → Int
  wr : IntKind → Int → Int
  com : IntKind → Int → Int
  lt : Int → Int → Bool
  le : Int → Int → Bool
  eq : Int → Int → Bool
  not : Bool → Bool
  min : Int → Int → Int
  max : Int → Int → Int
  nx : H → Nat
  same : H → H → Bool
  off : Nat → Nat → Nat
  at_ : Nat → Int → Nat → Nat
  fre : Nat → Nat → Nat → Nat → Nat → Nat → Nat → Bool
  freq : Nat → Nat → Bool → Bool
  fres : Value → Nat → Bool → Bool
  frem : Value → Nat → Bool → Bool
  gv : List Value → Nat → Value
  frew : Nat → Value → Nat → Bool
  twm : Value → Value → Bool

/-- The steps of the staged evaluator. -/
structure Xs (R : Type) where
  ifB : Bool → Option R → Option R → Option R
  ck : Bool → Option R → Option R
  asI : IntKind → Value → (Int → Option R) → Option R
  asK : Value → (Int → Option R) → Option R
  asB : Value → (Bool → Option R) → Option R
  asP : Value → (Nat → Nat → Option R) → Option R
  nz : Int → Option R → Option R
  nn : Int → Option R → Option R
  ld : H → TypeId → Nat → Nat → (Value → Option R) → Option R
  st : H → TypeId → Nat → Nat → Value → (H → Option R) → Option R
  al : H → TypeId → List Value → (H → Option R) → Option R
  bx : H → TypeId → Value → (H → Option R) → Option R
  bld : TypeId → List (Nat × Value) → (Value → Option R) → Option R
  bls : H → TypeId → Nat → List (Nat × Value) → (Value → H → Option R) → Option R
  nil : Value → Option R → Option R
  eqv : TypeId → Value → Value → (Bool → Option R) → Option R
  mks : H → TypeId → Int → Int → (Value → H → Option R) → Option R
  mkm : H → (H → Option R) → Option R
  sli : H → TypeId → Value → Option Value → Option Value → Option Value → (Value → Option R) → Option R
  fld : TypeId → Value → Nat → (Value → Option R) → Option R
  six : Value → Int → Nat → (Nat → Nat → Option R) → Option R
  aix : Nat → Int → Option R → Option R
  inx : TypeId → Value → Int → (Value → Option R) → Option R
  lok : H → TypeId → Value → Value → Bool → (Value → Option R) → Option R
  mup : H → TypeId → Value → Value → Value → (H → Option R) → Option R
  ext : Value → Nat → (Value → Option R) → Option R
  len : Value → (Int → Option R) → Option R
  mlen : H → Value → (Int → Option R) → Option R
  app : H → TypeId → TypeId → Value → Value → (Value → H → Option R) → Option R
  call : H → FuncId → List Value → (Value → H → Option R) → Option R
  callV : H → Value → List Value → (Value → H → Option R) → Option R
  onE : Ex → Nat → Option R → Option R → Option R
  onR : Ex → Option R → Option R
  lp : (List Value → H → Option (Ex × List Value × H)) → List Value → H → (Ex → List Value → H → Option R) → Option R
  out : Ex → List Value → H → Option (Ex × List Value × H)
  cpy : H → TypeId → Value → Value → (Int → H → Option R) → Option R
  clr : H → TypeId → Value → (H → Option R) → Option R
  men : H → TypeId → Value → Value → (Value → H → Option R) → Option R
  est : H → Value → Value → Value → (H → Option R) → Option R
  del : H → TypeId → Value → Value → (H → Option R) → Option R

section
variable (P : Program) (E : Env) (S : Sc)

def putS (env : SEnv) (d : Option Tmp) (v : SV) : SEnv :=
  match d with
  | some d => fun i => cond (Nat.beq i d) v (env i)
  | none => env

def setK (env : SEnv) (c : Operand) (b : Bool) : SEnv :=
  match c with
  | .tmp d => fun i => cond (Nat.beq i d) (.kb b) (env i)
  | _ => env

variable {R : Type} (X : Xs R)

def toI (k : IntKind) (s : SV) (K : Int → Option R) : Option R :=
  match s with
  | .int k' n => if k' = k then K n else none
  | .opq v => X.asI k v K
  | _ => none

def toK (s : SV) (K : Int → Option R) : Option R :=
  match s with
  | .int _ n => K n
  | .opq v => X.asK v K
  | _ => none

def toV (s : SV) (K : Value → Option R) : Option R :=
  match s with
  | .top => none
  | s => K s.val

def toS (s : SV) (K : SV → Option R) : Option R :=
  match s with
  | .top => none
  | s => K s

def toVs : List SV → (List Value → Option R) → Option R
  | [], K => K []
  | s :: l, K => toV s fun v => toVs l fun vs => K (v :: vs)

def toVo (s : Option SV) (K : Option Value → Option R) : Option R :=
  match s with
  | none => K none
  | some s => toV s fun v => K (some v)

def toPs : List (Nat × SV) → (List (Nat × Value) → Option R) → Option R
  | [], K => K []
  | (i, s) :: l, K => toV s fun v => toPs l fun vs => K ((i, v) :: vs)

def toP (s : SV) (K : Nat → Nat → Option R) : Option R :=
  match s with
  | .ptr b o => K b o
  | .opq v => X.asP v K
  | _ => none

def toC (s : SV) (K : Bool → Option R) : Option R :=
  match s with
  | .kb true => K true
  | .kb false => K false
  | .bool q => X.ifB q (K true) (K false)
  | .opq v => X.asB v fun q => X.ifB q (K true) (K false)
  | _ => none

def shape (t : TypeId) (v : Value) (K : SV → Option R) : Option R :=
  match P.underlying t with
  | some (.int k) => X.asI k v fun n => K (.int k n)
  | some .bool => X.asB v fun b => K (.bool b)
  | _ => K (.opq v)

def arithT (op : BinOp) (k : IntKind) (a b : Int) (K : SV → Option R) : Option R :=
  match op with
  | .add => K (.int k (S.add k a b))
  | .sub => K (.int k (S.sub k a b))
  | .mul => K (.int k (S.mul k a b))
  | .quo => X.nz b (K (.int k (S.quo k a b)))
  | .rem => X.nz b (K (.int k (S.rem k a b)))
  | .and => K (.int k (S.and k a b))
  | .or => K (.int k (S.or k a b))
  | .xor => K (.int k (S.xor k a b))
  | .andNot => K (.int k (S.andNot k a b))
  | .eql => K (.bool (S.eq a b))
  | .neq => K (.bool (S.not (S.eq a b)))
  | .lss => K (.bool (S.lt a b))
  | .leq => K (.bool (S.le a b))
  | .gtr => K (.bool (S.lt b a))
  | .geq => K (.bool (S.le b a))
  | _ => none

def binT (op : BinOp) (t : TypeId) (x y : SV) (K : SV → Option R) : Option R :=
  match P.underlying t with
  | some (.int k) =>
    match op with
    | .shl => toI X k x fun a => toK X y fun b => X.nn b (K (.int k (S.shl k a b)))
    | .shr => toI X k x fun a => toK X y fun b => X.nn b (K (.int k (S.shr k a b)))
    | op => toI X k x fun a => toI X k y fun b => arithT S X op k a b K
  | _ =>
    match op with
    | .eql => toV x fun x => toV y fun y => X.eqv t x y fun b => K (.bool b)
    | .neq => toV x fun x => toV y fun y => X.eqv t x y fun b => K (.bool (S.not b))
    | _ => none

def unT (op : UnOp) (t : TypeId) (x : SV) (K : SV → Option R) : Option R :=
  match op with
  | .not =>
    match x with
    | .kb true => K (.kb false)
    | .kb false => K (.kb true)
    | .bool b => K (.bool (S.not b))
    | .opq v => X.asB v fun b => K (.bool (S.not b))
    | _ => none
  | .neg => match P.underlying t with
    | some (.int k) => toI X k x fun a => K (.int k (S.sub k 0 a))
    | _ => none
  | .xor => match P.underlying t with
    | some (.int k) => toI X k x fun a => K (.int k (S.com k a))
    | _ => none
  | _ => none

def fieldOff (s : TypeId) (f : Nat) : Option Nat :=
  match P.underlying s with
  | some (.struct fs) => (fs[f]?).bind fun f => (size? P f.type).bind fun n => if n = 0 then none else some f.offset
  | _ => none

def opT (o : Oper) (env : SEnv) (h : H) (K : SV → H → Option R) : Option R :=
  if !(o.op.operands.toList.all (okOperand E)) then none else
  let e := evS env
  match o.op with
  | .move x | .assign x => toS (e x) fun s => K s h
  | .pick c a b => toC X (e c) fun q => if q then toS (e a) fun s => K s h else toS (e b) fun s => K s h
  | .alloc t => match zero? P t with
    | some z => X.al h t z.cells.toList fun h' => K (.ptr (S.nx h) 0) h'
    | none => none
  | .box t x => match size? P t with
    | some _ => toV (e x) fun x => X.bx h t x fun h' => K (.ptr (S.nx h) 0) h'
    | none => none
  | .build t ps => toPs (ps.toList.map fun (i, x) => (i, e x)) fun ps => X.bld t ps fun v => K (.opq v) h
  | .buildSlice t n ps => toPs (ps.toList.map fun (i, x) => (i, e x)) fun ps => X.bls h t n ps fun v h' => K (.opq v) h'
  | .load t a => toP X (e a) fun b o => X.ld h t b o fun v => shape P X t v fun s => K s h
  | .store t a x => toP X (e a) fun b o => toV (e x) fun v => X.st h t b o v fun h' => K .und h'
  | .nilCheck x => match e x with
    | .ptr b o => K (.ptr b o) h
    | .fn f a b => K (.fn f a b) h
    | .opq v => X.nil v (K (.opq v) h)
    | _ => none
  | .binOp b t x y _ => binT P S X b t (e x) (e y) fun s => K s h
  | .unOp b t x => unT P S X b t (e x) fun s => K s h
  | .convert s d x => match P.underlying s, P.underlying d with
    | some (.int ks), some (.int kd) => toI X ks (e x) fun n => K (.int kd (S.wr kd n)) h
    | _, _ => none
  | .makeFunc fn first captured => match fn with
    | .func f => toVs (first.toList.map e) fun xs => toVs (captured.toList.map e) fun ys => K (.fn f xs ys) h
    | _ => none
  | .makeMap _ r => match r with
    | none => X.mkm h fun h' => K (.opq (.map (some (S.nx h)))) h'
    | some _ => none
  | .makeSlice t l c => toK X (e l) fun a => toK X (e c) fun b => X.mks h t a b fun v h' => K (.opq v) h'
  | .slice t x lo hi mx => toV (e x) fun x => toVo (lo.map e) fun lo => toVo (hi.map e) fun hi => toVo (mx.map e) fun mx => X.sli h t x lo hi mx fun v => K (.opq v) h
  | .fieldAddr s x f => toP X (e x) fun b o => match fieldOff P s f with
    | some d => K (.ptr b (if d = 0 then o else S.off o d)) h
    | none => none
  | .field s x f => toV (e x) fun x => X.fld s x f fun v => shape P X o.type v fun s => K s h
  | .indexAddr t x i => match P.underlying t with
    | some (.slice el) => match size? P el with
      | some s => toV (e x) fun x => toK X (e i) fun i => X.six x i s fun b o => K (.ptr b o) h
      | none => none
    | some (.array n el) => match size? P el with
      | some s => toP X (e x) fun b o => toK X (e i) fun i => X.aix n i (K (.ptr b (S.at_ o i s)) h)
      | none => none
    | _ => none
  | .index t x i => toV (e x) fun x => toK X (e i) fun i => X.inx t x i fun v => shape P X o.type v fun s => K s h
  | .lookup t m k ok => toV (e m) fun m => toV (e k) fun k => X.lok h t m k ok fun v => shape P X o.type v fun s => K s h
  | .mapUpdate t m k x | .insert t m k x => toV (e m) fun m => toV (e k) fun k => toV (e x) fun x => X.mup h t m k x fun h' => K .und h'
  | .mapEntry t m k => toV (e m) fun m => toV (e k) fun k => X.men h t m k fun v h' => K (.opq v) h'
  | .entryStore _ m s x => toV (e m) fun m => toV (e s) fun s => toV (e x) fun x => X.est h m s x fun h' => K .und h'
  | .extract x i => toV (e x) fun x => X.ext x i fun v => shape P X o.type v fun s => K s h
  | .call c => match c.callee with
    | .builtin .len => match c.argTypes.toList, c.args.toList with
      | t :: _, [x] => match P.underlying t with
        | some (.slice _) => toV (e x) fun x => X.len x fun n => K (.int .i64 n) h
        | some (.map _ _) => toV (e x) fun x => X.mlen h x fun n => K (.int .i64 n) h
        | _ => none
      | _, _ => none
    | .builtin .append => match c.argTypes.toList, c.args.toList with
      | [s, t], [x, y] => toV (e x) fun x => toV (e y) fun y => X.app h s t x y fun v h' => K (.opq v) h'
      | _, _ => none
    | .builtin .copy => match c.argTypes.toList, c.args.toList with
      | t :: _, [x, y] => toV (e x) fun x => toV (e y) fun y => X.cpy h t x y fun n h' => K (.int .i64 n) h'
      | _, _ => none
    | .builtin .clear => match c.argTypes.toList, c.args.toList with
      | t :: _, [x] => toV (e x) fun x => X.clr h t x fun h' => K .und h'
      | _, _ => none
    | .builtin .delete => match c.argTypes.toList, c.args.toList with
      | t :: _, [x, y] => toV (e x) fun x => toV (e y) fun y => X.del h t x y fun h' => K .und h'
      | _, _ => none
    | .builtin .min => match P.underlying o.type, c.args.toList with
      | some (.int k), [x, y] => toI X k (e x) fun a => toI X k (e y) fun b => K (.int k (S.min a b)) h
      | _, _ => none
    | .builtin .max => match P.underlying o.type, c.args.toList with
      | some (.int k), [x, y] => toI X k (e x) fun a => toI X k (e y) fun b => K (.int k (S.max a b)) h
      | _, _ => none
    | .value f => match e f with
      | .fn f xs ys => toVs (c.args.toList.map e) fun as => X.call h f (xs ++ as ++ ys) fun v h' => shape P X o.type v fun s => K s h'
      | .opq v => toVs (c.args.toList.map e) fun as => X.callV h v as fun v h' => shape P X o.type v fun s => K s h'
      | _ => none
    | _ => none
  | _ => none

/-- May the operation be wanted? -/
def wantT (all : Array Oper) (o : Oper) (N : Nat) (env : SEnv) (K : Bool → SEnv → Option R) : Option R :=
  match o.guard with
  | none => K true env
  | some (j, w) => match (all[j]?).bind (·.dst) with
    | some d => if d < N then
        match env d with
        | .und => K false env
        | s => toC X s fun q => K (q == w) (setK env (.tmp d) q)
      else none
    | none => K false env

def okDst (N : Nat) (d : Option Tmp) : Bool :=
  match d with
  | some d => decide (d < N)
  | none => true

def opsT (N : Nat) (all : Array Oper) : List Oper → SEnv → H → (SEnv → H → Option R) → Option R
  | [], env, h, K => K env h
  | o :: rest, env, h, K =>
    if okDst N o.dst then
      wantT X all o N env fun q env =>
        if q then opT P E S X o env h fun v h => opsT N all rest (putS env o.dst v) h K
        else opsT N all rest (putS env o.dst .und) h K
    else none

/-- What an operation touches, as far as it is known. -/
inductive FPT where
  | pure
  | ld (b o n : Nat)
  | rd
  | rs (v : Value)
  | rm (v : Value)
  | st (b o n : Nat)
  | md
  | al
  | wm (v : Value)

def FPT.fp : FPT → FP
  | .pure => .pure
  | .ld b o n => .ld b o n
  | .rd => .rd
  | .rs v => match v with
    | .slice (some ⟨b, _, none⟩) _ _ => .rb b
    | .slice none _ _ => .pure
    | _ => .rd
  | .rm v => match v with
    | .map (some b) => .rb b
    | _ => .rd
  | .st b o n => .st b o n
  | .md => .md
  | .al => .al
  | .wm v => match v with
    | .map (some b) => .wb b
    | _ => .md

structure DidT where
  i : Nat
  f : FPT
  lo : Nat
  q : Bool

def DidT.did (d : DidT) : Did := ⟨d.i, d.f.fp, d.lo, d.q⟩

def fpT (env : SEnv) (o : Oper) (K : FPT → Option R) : Option R :=
  let at_ (st : Bool) (ty : TypeId) (a : SV) : Option R :=
    toP X a fun b o => match size? P ty with
      | some n => if n = 0 then none else K (if st then .st b o n else .ld b o n)
      | none => none
  match o.op with
  | .move _ | .assign _ | .pick .. | .build .. | .nilCheck _ | .binOp .. | .unOp .. | .convert .. | .makeFunc .. | .fieldAddr .. | .field ..
  | .indexAddr .. | .index .. | .extract .. => K .pure
  | .load ty a => at_ false ty (evS env a)
  | .store ty a _ => at_ true ty (evS env a)
  | .lookup _ m _ _ => toV (evS env m) fun v => K (.rm v)
  | .slice _ x _ _ _ => toV (evS env x) fun v => K (.rs v)
  | .call c => match c.callee with
    | .builtin .len => match (c.argTypes[0]?).bind P.underlying with
      | some (.slice _) => K .pure
      | _ => K .rd
    | .builtin .min => K .pure
    | .builtin .max => K .pure
    | _ => K .md
  | .mapUpdate _ m _ _ => toV (evS env m) fun v => K (.wm v)
  | .insert _ m _ _ => toV (evS env m) fun v => K (.wm v)
  | .mapEntry _ m _ => toV (evS env m) fun v => K (.wm v)
  | .entryStore _ m _ _ => toV (evS env m) fun v => K (.wm v)
  | .alloc _ | .box .. | .buildSlice .. | .makeSlice .. | .makeMap .. => K .md
  | _ => none

def isIntS : SV → Bool
  | .int _ _ => true
  | _ => false

def fpTA (al : Bool) (env : SEnv) (o : Oper) (K : FPT → Option R) : Option R :=
  if al && allocKind P o then (if o.op.operands.toList.all fun x => isIntS (evS env x) then K .al else none)
  else if al && lookKind o then fpT P X env o fun _ => K .rd
  else fpT P X env o K

def freeT (x y : DidT) (K : Option R) : Option R :=
  match x.f, y.f with
  | .pure, _ => K
  | _, .pure => K
  | .ld b o n, .st b' o' n' => X.ck (S.fre b y.lo o n b' o' n') K
  | .st b' o' n', .ld b o n => X.ck (S.fre b x.lo o n b' o' n') K
  | .ld b _ _, .md => X.ck (S.freq b y.lo y.q) K
  | .md, .ld b _ _ => X.ck (S.freq b x.lo x.q) K
  | .rs v, .md => X.ck (S.fres v y.lo y.q) K
  | .md, .rs v => X.ck (S.fres v x.lo x.q) K
  | .rm v, .md => X.ck (S.frem v y.lo y.q) K
  | .md, .rm v => X.ck (S.frem v x.lo x.q) K
  | .ld b _ _, .al => X.ck (S.freq b y.lo y.q) K
  | .al, .ld b _ _ => X.ck (S.freq b x.lo x.q) K
  | .rs v, .al => X.ck (S.fres v y.lo y.q) K
  | .al, .rs v => X.ck (S.fres v x.lo x.q) K
  | .rm v, .al => X.ck (S.frem v y.lo y.q) K
  | .al, .rm v => X.ck (S.frem v x.lo x.q) K
  | .md, .al => K
  | .st _ _ _, .al => K
  | .al, .al => K
  | .wm _, .al => K
  | .ld b _ _, .wm v => X.ck (S.frew b v y.lo) K
  | .wm v, .ld b _ _ => X.ck (S.frew b v x.lo) K
  | .ld _ _ _, .ld _ _ _ => K
  | .ld _ _ _, .rd => K
  | .rd, .ld _ _ _ => K
  | .rd, .rd => K
  | .ld _ _ _, .rs _ => K
  | .rs _, .ld _ _ _ => K
  | .ld _ _ _, .rm _ => K
  | .rm _, .ld _ _ _ => K
  | .rd, .rs _ => K
  | .rs _, .rd => K
  | .rd, .rm _ => K
  | .rm _, .rd => K
  | .rs _, .rs _ => K
  | .rs _, .rm _ => K
  | .rm _, .rs _ => K
  | .rm _, .rm _ => K
  | _, _ => none

def twinT (x y : DidT) (K : Option R) : Option R :=
  match x.f, y.f with
  | .rm v, .wm v' => X.ck (S.twm v v') K
  | _, _ => none

def logT (all : Array Oper) (B : Nat) (y : DidT) : List DidT → Option R → Option R
  | [], K => K
  | d :: l, K => if B.testBit d.i then logT all B y l K else if twinOps all d.i y.i then twinT S X d y (logT all B y l K) else freeT S X d y (logT all B y l K)

def drawT (N : Nat) (all : Array Oper) (B : Array Nat) : List Oper → Nat → List DidT → SEnv → H → (SEnv → H → Option R) → Option R
  | [], _, _, env, h, K => K env h
  | o :: rest, j, log, env, h, K =>
    if okDst N o.dst then
      wantT X all o N env fun q env =>
        if q then fpTA P X (needAl P all) env o fun f => opT P E S X o env h fun v h' =>
          logT S X all (B.getD j 0) ⟨j, f, S.nx h, S.same h' h⟩ log
            (drawT N all B rest (j + 1) (⟨j, f, S.nx h, S.same h' h⟩ :: log) (putS env o.dst v) h' K)
        else drawT N all B rest (j + 1) log (putS env o.dst .und) h K
    else none

def writ : Code → List Nat
  | .region _ all _ => (all.toList.filterMap (·.dst)).eraseDups
  | .seq a b => (writ a ++ writ b).eraseDups
  | .cond _ a b => (writ a ++ writ b).eraseDups
  | .block _ c => writ c
  | .loop c => writ c
  | _ => []

def exitsOf : Code → List Nat
  | .seq a b => (exitsOf a ++ exitsOf b).eraseDups
  | .cond _ a b => (exitsOf a ++ exitsOf b).eraseDups
  | .block id c => (exitsOf c).filter (· != id)
  | .loop c => exitsOf c
  | .exit id => [id]
  | _ => []

def retsOf : Code → Bool
  | .seq a b => retsOf a || retsOf b
  | .cond _ a b => retsOf a || retsOf b
  | .block _ c => retsOf c
  | .loop c => retsOf c
  | .ret => true
  | _ => false

def rdOps : List Oper → List Nat → List Nat
  | [], _ => []
  | o :: l, w => ((AM.reads o).filter fun i => !w.contains i) ++ rdOps l (match o.dst with
    | some d => d :: w
    | none => w)

def kill : Code → List Nat
  | .region _ all _ => all.toList.filterMap (·.dst)
  | .seq a b => kill a ++ kill b
  | .cond _ a b => (kill a).filter fun i => (kill b).contains i
  | _ => []

def ue : Code → List Nat
  | .region _ all _ => (rdOps all.toList []).eraseDups
  | .seq a b => (ue a ++ (ue b).filter fun i => !(kill a).contains i).eraseDups
  | .cond c a b => ((match c with
    | .tmp i => [i]
    | _ => []) ++ ue a ++ ue b).eraseDups
  | .block _ c => ue c
  | .loop c => ue c
  | _ => []

/-- The temporaries that a loop carries. -/
def carr (c : Code) (lv : List Nat) : List Nat := (writ c).filter fun i => (ue c).contains i || lv.contains i

def posn (i : Nat) : List Nat → Nat → Option Nat
  | [], _ => none
  | x :: l, j => cond (Nat.beq x i) (some j) (posn i l (j + 1))

def mixed (c : Code) (lv : List Nat) (env : SEnv) (ws : List Value) : SEnv := fun i =>
  match posn i (carr c lv) 0 with
  | some j => .opq (S.gv ws j)
  | none => if (writ c).contains i then .top else env i

def onEx (e : Ex) (K : Ex → Option R) : List Nat → Bool → Option R
  | [], true => X.onR e (K .ret)
  | [], false => none
  | i :: l, r => X.onE e i (K (.exit i)) (onEx e K l r)

end

def codeT (P : Program) (E : Env) (S : Sc) (X : (R : Type) → Xs R) (N : Nat) : Code → List Nat → (R : Type) → SEnv → H → (Ex → SEnv → H → Option R) → Option R
  | .skip, _, _, env, h, K => K .normal env h
  | .region _ all false, _, R, env, h, K => opsT P E S (X R) N all all.toList env h fun env h => K .normal env h
  | .region _ all true, _, R, env, h, K =>
    if okOrder P all then drawT P E S (X R) N (order P all) (Region.before (order P all)) (order P all).toList 0 [] env h fun env h => K .normal env h else none
  | .seq a b, lv, R, env, h, K => codeT P E S X N a (ue b ++ lv) R env h fun e env h =>
    match e with
    | .normal => codeT P E S X N b lv R env h K
    | e => K e env h
  | .cond c a b, lv, R, env, h, K =>
    if !okOperand E c then none else
    toC (X R) (evS env c) fun q =>
      if q then codeT P E S X N a lv R (setK env c true) h K else codeT P E S X N b lv R (setK env c false) h K
  | .block id c, lv, R, env, h, K => codeT P E S X N c lv R env h fun e env h =>
    match e with
    | .exit i => if i = id then K .normal env h else K (.exit i) env h
    | e => K e env h
  | .loop c, lv, R, env, h, K =>
    toVs ((carr c lv).map env) fun ws =>
    (X R).lp
      (fun ws h => codeT P E S X N c (ue c ++ lv) (Ex × List Value × H) (mixed S c lv env ws) h fun e env h => toVs ((carr c lv).map env) fun ws => (X R).out e ws h)
      ws h
      fun e ws h => onEx (X R) e (fun e => K e (mixed S c lv env ws) h) (exitsOf c) (retsOf c)
  | .exit id, _, _, env, h, K => K (.exit id) env h
  | .ret, _, _, env, h, K => K .ret env h
  | _, _, _, _, _, _ => none

section
variable (P : Program) {R : Type} (X : Xs R)

def resT (env : SEnv) (h : H) : List ResultVar → List Value → (List Value → Option R) → Option R
  | [], acc, K => K acc.reverse
  | .tmp i :: l, acc, K => toV (env i) fun v => resT env h l (v :: acc) K
  | .cell a ty :: l, acc, K => toP X (env a) fun b o => X.ld h ty b o fun v => resT env h l (v :: acc) K

def resL (l : List ResultVar) : List Nat := l.map fun
  | .tmp i => i
  | .cell i _ => i

def res1 : List Value → Value
  | [v] => v
  | vs => .tuple vs.toArray
end

def bodyT (P : Program) (E : Env) (S : Sc) (X : (R : Type) → Xs R) (f : FuncId) (R : Type) (args : List SV) (h : H) (K : Value → H → Option R) : Option R :=
  match P.funcs[f]? with
  | some fn =>
    match fn.body with
    | some c =>
      if fn.name = "runtime.NumGoroutine" then none
      else if args.length ≤ fn.ntmps then
        codeT P E S X fn.ntmps c (resL fn.results.toList) R (fun i => args.getD i .und) h fun e env h =>
          match e with
          | .exit _ => none
          | _ => resT (X R) env h fn.results.toList [] fun vs => K (res1 vs) h
      else none
    | none => none
  | none => none

/-! ### The meaning of the steps -/

def add (k : IntKind) (a b : Int) : Int := k.wrap (a + b)
def sub (k : IntKind) (a b : Int) : Int := k.wrap (a - b)
def mul (k : IntKind) (a b : Int) : Int := k.wrap (a * b)
def quo (k : IntKind) (a b : Int) : Int := k.wrap (a.tdiv b)
def rem (_ : IntKind) (a b : Int) : Int := a.tmod b
def and (k : IntKind) (a b : Int) : Int := k.wrap (BitVec.ofInt k.bits a &&& BitVec.ofInt k.bits b).toNat
def or (k : IntKind) (a b : Int) : Int := k.wrap (BitVec.ofInt k.bits a ||| BitVec.ofInt k.bits b).toNat
def xor (k : IntKind) (a b : Int) : Int := k.wrap (BitVec.ofInt k.bits a ^^^ BitVec.ofInt k.bits b).toNat
def andNot (k : IntKind) (a b : Int) : Int := k.wrap (BitVec.ofInt k.bits a &&& ~~~BitVec.ofInt k.bits b).toNat
def shl (k : IntKind) (a b : Int) : Int := k.wrap (a * 2 ^ min b.toNat k.bits)
def shr (k : IntKind) (a b : Int) : Int := a.fdiv (2 ^ min b.toNat k.bits)
def wr (k : IntKind) (a : Int) : Int := k.wrap a
def com (k : IntKind) (a : Int) : Int := xor k (if k.signed then -1 else k.max) a
def lt (a b : Int) : Bool := decide (a < b)
def le (a b : Int) : Bool := decide (a ≤ b)
def eq (a b : Int) : Bool := a == b
def imin (a b : Int) : Int := if b < a then b else a
def imax (a b : Int) : Int := if a < b then b else a
def nx (h : H) : Nat := h.nx
def same (h h' : H) : Bool := decide (h.wr = h'.wr)
def off (o d : Nat) : Nat := o + d
def at_ (o : Nat) (i : Int) (s : Nat) : Nat := o + i.toNat * s
def fre (b lo o n b' o' n' : Nat) : Bool := decide (b < lo) && decide (b ≠ b' ∨ o + n ≤ o' ∨ o' + n' ≤ o)
def freq (b lo : Nat) (q : Bool) : Bool := decide (b < lo) && q
def fres (v : Value) (lo : Nat) (q : Bool) : Bool :=
  match v with
  | .slice (some ⟨b, _, none⟩) _ _ => decide (b < lo) && q
  | .slice none _ _ => true
  | _ => false
def frew (b : Nat) (v : Value) (lo : Nat) : Bool :=
  match v with
  | .map (some b') => decide (b < lo) && decide (b ≠ b')
  | _ => false
def frem (v : Value) (lo : Nat) (q : Bool) : Bool :=
  match v with
  | .map (some b) => decide (b < lo) && q
  | _ => false
def twm (v v' : Value) : Bool :=
  match v, v' with
  | .map (some b), .map (some b') => b == b'
  | _, _ => false
def gv (ws : List Value) (i : Nat) : Value := ws.getD i undef

def ifB {R : Type} (b : Bool) (x y : Option R) : Option R := if b then x else y
def ck {R : Type} (b : Bool) (x : Option R) : Option R := if b then x else none
def asI {R : Type} (k : IntKind) (v : Value) (K : Int → Option R) : Option R :=
  match v with
  | .int k' n => if k' = k then K n else none
  | _ => none
def asK {R : Type} (v : Value) (K : Int → Option R) : Option R :=
  match v with
  | .int _ n => K n
  | _ => none
def asB {R : Type} (v : Value) (K : Bool → Option R) : Option R :=
  match v with
  | .bool b => K b
  | _ => none
def asP {R : Type} (v : Value) (K : Nat → Nat → Option R) : Option R :=
  match v with
  | .pointer (some ⟨b, o, none⟩) => K b o
  | _ => none
def nz {R : Type} (b : Int) (x : Option R) : Option R := if b = 0 then none else x
def nn {R : Type} (b : Int) (x : Option R) : Option R := if b < 0 then none else x

section
variable (P : Program) (rec : Rec) (k : Nat) {R : Type}
def ld (h : H) (t : TypeId) (b o : Nat) (K : Value → Option R) : Option R := (load P t (.pointer (some ⟨b, o, none⟩)) h).bind K
def st (h : H) (t : TypeId) (b o : Nat) (v : Value) (K : H → Option R) : Option R := (store P t (.pointer (some ⟨b, o, none⟩)) v h).bind K
def al (h : H) (t : TypeId) (cs : List Value) (K : H → Option R) : Option R := K (h.new (.row cs t true))
def bx (h : H) (t : TypeId) (v : Value) (K : H → Option R) : Option R := K (h.new (.row v.cells.toList t true))
def bld (t : TypeId) (ps : List (Nat × Value)) (K : Value → Option R) : Option R := (build P t ps).bind K
def bls (h : H) (t : TypeId) (n : Nat) (ps : List (Nat × Value)) (K : Value → H → Option R) : Option R :=
  (buildSlice P t n ps h).bind fun (v, h) => K v h
def nil (v : Value) (x : Option R) : Option R :=
  match v with
  | .pointer (some _) => x
  | .func (.func _) _ _ => x
  | _ => none
def eqv (t : TypeId) (x y : Value) (K : Bool → Option R) : Option R :=
  match binOp P .eql t x y with
  | some (.bool q) => K q
  | _ => none
def mks (h : H) (t : TypeId) (a b : Int) (K : Value → H → Option R) : Option R :=
  (makeSlice P t (.int .i64 a) (.int .i64 b) h).bind fun (v, h) => K v h
def mkm (h : H) (K : H → Option R) : Option R := K (h.new (.mp [] 0))
def sli (h : H) (t : TypeId) (v : Value) (lo hi mx : Option Value) (K : Value → Option R) : Option R := (slice P t v lo hi mx h).bind K
def fld (t : TypeId) (v : Value) (f : Nat) (K : Value → Option R) : Option R := (field P t v f).bind K
def six (v : Value) (i : Int) (s : Nat) (K : Nat → Nat → Option R) : Option R :=
  match v with
  | .slice (some ⟨b, o, none⟩) n _ => if 0 ≤ i ∧ i < n then K b (o + i.toNat * s) else none
  | _ => none
def aix (n : Nat) (i : Int) (x : Option R) : Option R := if 0 ≤ i ∧ i < n then x else none
def inx (t : TypeId) (v : Value) (i : Int) (K : Value → Option R) : Option R := (index P t v (.int .i64 i)).bind K
def lok (h : H) (t : TypeId) (m x : Value) (ok : Bool) (K : Value → Option R) : Option R := (lookup P t m x ok h).bind K
def mup (h : H) (t : TypeId) (m x v : Value) (K : H → Option R) : Option R := (mapUpdate P t m x v h).bind K
def men (h : H) (t : TypeId) (m x : Value) (K : Value → H → Option R) : Option R := (mapEntry P t m x h).bind fun (v, h) => K v h
def est (h : H) (m s x : Value) (K : H → Option R) : Option R := (entryStore m s x h).bind K
def del (h : H) (t : TypeId) (m x : Value) (K : H → Option R) : Option R := (deleteM P [t] m x h).bind fun (_, h') => K h'
def ext (v : Value) (i : Nat) (K : Value → Option R) : Option R :=
  match v with
  | .tuple vs => (vs[i]?).bind K
  | _ => none
def len (v : Value) (K : Int → Option R) : Option R :=
  match v with
  | .slice _ n _ => K n
  | _ => none
def mlen (h : H) (v : Value) (K : Int → Option R) : Option R :=
  match v with
  | .map none => K 0
  | .map (some b) => match h.blk b with
    | some (.mp es _) => K es.length
    | _ => none
  | _ => none
def app (h : H) (s t : TypeId) (x y : Value) (K : Value → H → Option R) : Option R := (append P [s, t] x y h).bind fun (v, h) => K v h
def cpy (h : H) (t : TypeId) (d x : Value) (K : Int → H → Option R) : Option R :=
  match copyS P [t] d x h with
  | some (.int .i64 n, h') => K n h'
  | _ => none
def clr (h : H) (t : TypeId) (x : Value) (K : H → Option R) : Option R := (clearS P [t] x h).bind fun (_, h') => K h'
def calls (h : H) (f : FuncId) (xs : List Value) (K : Value → H → Option R) : Option R := (rec f xs.toArray h).bind fun (v, h) => K v h
def callsV (h : H) (v : Value) (xs : List Value) (K : Value → H → Option R) : Option R := (callV rec v xs.toArray h).bind fun (v, h) => K v h
def onE (e : Ex) (i : Nat) (x y : Option R) : Option R :=
  match e with
  | .exit j => if j = i then x else y
  | _ => y
def onR (e : Ex) (x : Option R) : Option R :=
  match e with
  | .ret => x
  | _ => none
def lpGo (F : List Value → H → Option (Ex × List Value × H)) : Nat → List Value → H → Option (Ex × List Value × H)
  | 0, _, _ => none
  | m + 1, ws, h => (F ws h).bind fun (e, ws, h) =>
    match e with
    | .normal => lpGo F m ws h
    | e => some (e, ws, h)
def lp (F : List Value → H → Option (Ex × List Value × H)) (ws : List Value) (h : H) (K : Ex → List Value → H → Option R) : Option R :=
  (lpGo F k ws h).bind fun (e, ws, h) => K e ws h
end
def out (e : Ex) (ws : List Value) (h : H) : Option (Ex × List Value × H) := some (e, ws, h)

def SC : Sc where
  add := add
  sub := sub
  mul := mul
  quo := quo
  rem := rem
  and := and
  or := or
  xor := xor
  andNot := andNot
  shl := shl
  shr := shr
  wr := wr
  com := com
  lt := lt
  le := le
  eq := eq
  not := Bool.not
  min := imin
  max := imax
  nx := nx
  same := same
  off := off
  at_ := at_
  fre := fre
  freq := freq
  fres := fres
  frem := frem
  frew := frew
  twm := twm
  gv := gv

def XC (P : Program) (rec : Rec) (k : Nat) (R : Type) : Xs R where
  ifB := ifB
  ck := ck
  asI := asI
  asK := asK
  asB := asB
  asP := asP
  nz := nz
  nn := nn
  ld := ld P
  st := st P
  al := al
  bx := bx
  bld := bld P
  bls := bls P
  nil := nil
  eqv := eqv P
  mks := mks P
  mkm := mkm
  sli := sli P
  fld := fld P
  six := six
  aix := aix
  inx := inx P
  lok := lok P
  mup := mup P
  ext := ext
  len := len
  mlen := mlen
  app := app P
  call := calls rec
  callV := callsV rec
  onE := onE
  onR := onR
  lp := lp k
  out := out
  cpy := cpy P
  clr := clr P
  men := men P
  est := est
  del := del P

end Go.AM

namespace Go.AM

/-- The value is what is known of it. -/
def Is (s : SV) (v : Value) : Prop := s = .top ∨ s.val = v

theorem Is.rfl' (s : SV) : Is s s.val := .inr rfl

/-- The temporaries, and what is known of them. -/
def TE (N : Nat) (t : Array Value) (env : SEnv) : Prop := t.size = N ∧ ∀ i, Is (env i) (t.getD i undef)

theorem liftV_val (v : Value) : (liftV v).val = v := by cases v <;> rfl

theorem TE.ev {N : Nat} {t : Array Value} {env : SEnv} (h : TE N t env) (x : Operand) : Is (evS env x) (ev t x) := by
  cases x with
  | tmp i => exact h.2 i
  | const v => exact .inr (liftV_val v)
  | global g => exact .inr rfl
  | func f => exact .inr rfl

theorem getD_set {t : Array Value} {d : Nat} (hd : d < t.size) (v : Value) (i : Nat) : (t.setIfInBounds d v).getD i undef = if i = d then v else t.getD i undef := by
  rw [Array.getD_eq_getD_getElem?, Array.getElem?_setIfInBounds, Array.getD_eq_getD_getElem?]
  by_cases h : d = i
  · subst h; simp [hd]
  · simp [h, Ne.symm h]

theorem TE.put {N : Nat} {t : Array Value} {env : SEnv} (h : TE N t env) {d : Option Tmp} (hd : okDst N d = true) {s : SV} {v : Value} (hs : Is s v) : TE N (put t d v) (putS env d s) := by
  cases d with
  | none => exact h
  | some d =>
    have hlt : d < N := of_decide_eq_true hd
    refine ⟨by simp [AM.put, h.1], fun i => ?_⟩
    simp only [AM.put, putS]
    rw [getD_set (by rw [h.1]; exact hlt)]
    by_cases hi : i = d
    · subst hi; simpa using hs
    · have : Nat.beq i d = false := Bool.eq_false_iff.2 fun h => hi (Nat.eq_of_beq_eq_true h)
      simpa [hi, this] using h.2 i

theorem TE.setK {N : Nat} {t : Array Value} {env : SEnv} (h : TE N t env) {c : Operand} {b : Bool} (hc : AM.ev t c = .bool b) : TE N t (setK env c b) := by
  cases c with
  | tmp d =>
    refine ⟨h.1, fun i => ?_⟩
    simp only [AM.setK]
    by_cases hi : i = d
    · subst hi
      have : Nat.beq i i = true := by simp
      rw [this]
      exact .inr hc.symm
    · have : Nat.beq i d = false := Bool.eq_false_iff.2 fun h => hi (Nat.eq_of_beq_eq_true h)
      rw [this]
      exact h.2 i
  | const v => exact h
  | global g => exact h
  | func f => exact h

section
variable {P : Program} {E : Env} {rec : Rec} {k : Nat} {R : Type} {r : R}

theorem toI_some {kd : IntKind} {s : SV} {v : Value} {K : Int → Option R} (hs : Is s v) (h : toI (XC P rec k R) kd s K = some r) : ∃ n, v = .int kd n ∧ K n = some r := by
  cases s with
  | int k' n =>
    simp only [toI] at h
    split at h
    · rename_i e; subst e; exact ⟨n, (hs.resolve_left (by simp)).symm, h⟩
    · cases h
  | opq v =>
    replace h : asI kd v K = some r := h
    unfold asI at h
    split at h
    · split at h
      · rename_i e; subst e; exact ⟨_, (hs.resolve_left (by simp)).symm, h⟩
      · cases h
    · cases h
  | _ => cases h

theorem toK_some {s : SV} {v : Value} {K : Int → Option R} (hs : Is s v) (h : toK (XC P rec k R) s K = some r) : ∃ kd n, v = .int kd n ∧ K n = some r := by
  cases s with
  | int k' n => exact ⟨k', n, (hs.resolve_left (by simp)).symm, h⟩
  | opq v =>
    replace h : asK v K = some r := h
    unfold asK at h
    split at h
    · exact ⟨_, _, (hs.resolve_left (by simp)).symm, h⟩
    · cases h
  | _ => cases h

theorem toP_some {s : SV} {v : Value} {K : Nat → Nat → Option R} (hs : Is s v) (h : toP (XC P rec k R) s K = some r) : ∃ b o, v = .pointer (some ⟨b, o, none⟩) ∧ K b o = some r := by
  cases s with
  | ptr b o => exact ⟨b, o, (hs.resolve_left (by simp)).symm, h⟩
  | opq v =>
    replace h : asP v K = some r := h
    unfold asP at h
    split at h
    · exact ⟨_, _, (hs.resolve_left (by simp)).symm, h⟩
    · cases h
  | _ => cases h

theorem toV_some {s : SV} {v : Value} {K : Value → Option R} (hs : Is s v) (h : toV s K = some r) : K v = some r := by
  unfold toV at h
  split at h
  · cases h
  · rename_i hn; rw [hs.resolve_left hn] at h; exact h

theorem toS_some {s : SV} {v : Value} {K : SV → Option R} (hs : Is s v) (h : toS s K = some r) : ∃ s' : SV, Is s' v ∧ K s' = some r := by
  unfold toS at h
  split at h
  · cases h
  · exact ⟨s, hs, h⟩

theorem toVs_some {t : Array Value} {env : SEnv} {N : Nat} (ht : TE N t env) : ∀ (l : List Operand) {K : List Value → Option R}, toVs (l.map (evS env)) K = some r → K (l.map (AM.ev t)) = some r := by
  intro l
  induction l with
  | nil => intro K h; exact h
  | cons x l ih => intro K h; exact ih (toV_some (ht.ev x) h)

theorem toPs_some {t : Array Value} {env : SEnv} {N : Nat} (ht : TE N t env) : ∀ (l : List (Nat × Operand)) {K : List (Nat × Value) → Option R}, toPs (l.map fun (i, x) => (i, evS env x)) K = some r →
    K (l.map fun (i, x) => (i, AM.ev t x)) = some r := by
  intro l
  induction l with
  | nil => intro K h; exact h
  | cons x l ih => intro K h; exact ih (toV_some (ht.ev x.2) h)

theorem toVo_some {t : Array Value} {env : SEnv} {N : Nat} (ht : TE N t env) (x : Option Operand) {K : Option Value → Option R} (h : toVo (x.map (evS env)) K = some r) : K (x.map (AM.ev t)) = some r := by
  cases x with
  | none => exact h
  | some x => exact toV_some (K := fun v => K (some v)) (ht.ev x) h

theorem ifB_some {b : Bool} {K : Bool → Option R} (h : ifB b (K true) (K false) = some r) : K b = some r := by
  cases b <;> exact h

theorem toC_some {s : SV} {v : Value} {K : Bool → Option R} (hs : Is s v) (h : toC (XC P rec k R) s K = some r) : ∃ b, v = .bool b ∧ K b = some r := by
  cases s with
  | kb b => cases b <;> exact ⟨_, (hs.resolve_left (by simp)).symm, h⟩
  | bool b => exact ⟨b, (hs.resolve_left (by simp)).symm, ifB_some (K := K) h⟩
  | opq v =>
    replace h : asB v (fun q => ifB q (K true) (K false)) = some r := h
    unfold asB at h
    split at h
    · exact ⟨_, (hs.resolve_left (by simp)).symm, ifB_some (K := K) h⟩
    · cases h
  | _ => cases h

theorem shape_some {t : TypeId} {v : Value} {K : SV → Option R} (h : shape P (XC P rec k R) t v K = some r) : ∃ s : SV, Is s v ∧ K s = some r := by
  unfold shape at h
  split at h
  · have h : asI _ v _ = some r := h
    unfold asI at h
    split at h
    · split at h
      · rename_i e; subst e; exact ⟨_, .inr rfl, h⟩
      · cases h
    · cases h
  · have h : asB v _ = some r := h
    unfold asB at h
    split at h
    · exact ⟨_, .inr rfl, h⟩
    · cases h
  · exact ⟨_, .inr rfl, h⟩

theorem eqv_some {t : TypeId} {x y : Value} {K : Bool → Option R} (h : eqv P t x y K = some r) : ∃ q, binOp P .eql t x y = some (.bool q) ∧ binOp P .neq t x y = some (.bool (!q)) ∧ K q = some r := by
  unfold eqv at h
  split at h
  · rename_i q hq
    refine ⟨q, hq, ?_, h⟩
    unfold binOp at hq ⊢
    split at hq
    · simp only at hq ⊢
      split at hq
      · rename_i e
        simp only [intBin, Option.some.injEq, Value.bool.injEq] at hq
        rw [if_pos e]
        simp only [intBin]
        rw [← hq]
        rfl
      · cases hq
    · split at hq
      · cases hq
      · rename_i e
        rw [if_neg e]
        simp only [Option.map_eq_some_iff] at hq ⊢
        obtain ⟨q', h1, h2⟩ := hq
        cases h2
        exact ⟨_, h1, rfl⟩
    · simp only [Option.map_eq_some_iff] at hq ⊢
      obtain ⟨q', h1, h2⟩ := hq
      cases h2
      exact ⟨_, h1, rfl⟩
  · cases h

theorem arithT_some {b : BinOp} {kd : IntKind} {x y : Int} {K : SV → Option R} (h : arithT SC (XC P rec k R) b kd x y K = some r) : ∃ s : SV, intBin b kd x y = some s.val ∧ K s = some r := by
  cases b <;> simp only [arithT] at h <;> first | cases h; done | skip
  case quo =>
    have h : nz y _ = some r := h
    unfold nz at h
    split at h
    · cases h
    · rename_i e
      exact ⟨_, by simp only [intBin]; rw [if_neg e]; rfl, h⟩
  case rem =>
    have h : nz y _ = some r := h
    unfold nz at h
    split at h
    · cases h
    · rename_i e
      exact ⟨_, by simp only [intBin]; rw [if_neg e]; rfl, h⟩
  all_goals exact ⟨_, rfl, h⟩

theorem binT_some {b : BinOp} {t : TypeId} {x y : SV} {vx vy : Value} (hx : Is x vx) (hy : Is y vy) {K : SV → Option R} (hh : binT P SC (XC P rec k R) b t x y K = some r) : ∃ s : SV, binOp P b t vx vy = some s.val ∧ K s = some r := by
  have key : ∀ kd, (toI (XC P rec k R) kd x fun a => toI (XC P rec k R) kd y fun c => arithT SC (XC P rec k R) b kd a c K) = some r → b ≠ .shl → b ≠ .shr → ∃ s : SV, binOp P b t vx vy = some s.val ∧ K s = some r := by
    intro kd h h1 h2
    obtain ⟨a, ha, h⟩ := toI_some hx h
    obtain ⟨c, hc, h⟩ := toI_some hy h
    obtain ⟨s, hs, h⟩ := arithT_some h
    refine ⟨s, ?_, h⟩
    rw [ha, hc]
    cases b <;> first | (exact absurd rfl h1) | (exact absurd rfl h2) | (simp only [binOp, if_true]; exact hs)
  have key2 : ∀ kd, (toI (XC P rec k R) kd x fun a => toK (XC P rec k R) y fun c => nn c (K (.int kd (shl kd a c)))) = some r → b = .shl → ∃ s : SV, binOp P b t vx vy = some s.val ∧ K s = some r := by
    intro kd h h1
    subst h1
    clear hh
    obtain ⟨a, ha, h⟩ := toI_some hx h
    obtain ⟨kc, c, hc, h⟩ := toK_some hy h
    unfold nn at h
    split at h
    · cases h
    · rename_i e
      exact ⟨_, by rw [ha, hc]; simp only [binOp]; rw [if_neg e]; rfl, h⟩
  have key3 : ∀ kd, (toI (XC P rec k R) kd x fun a => toK (XC P rec k R) y fun c => nn c (K (.int kd (shr kd a c)))) = some r → b = .shr → ∃ s : SV, binOp P b t vx vy = some s.val ∧ K s = some r := by
    intro kd h h1
    subst h1
    clear hh
    obtain ⟨a, ha, h⟩ := toI_some hx h
    obtain ⟨kc, c, hc, h⟩ := toK_some hy h
    unfold nn at h
    split at h
    · cases h
    · rename_i e
      exact ⟨_, by rw [ha, hc]; simp only [binOp]; rw [if_neg e]; rfl, h⟩
  unfold binT at hh
  split at hh
  · split at hh
    · exact key2 _ hh rfl
    · exact key3 _ hh rfl
    · rename_i h1 h2
      exact key _ hh h1 h2
  · split at hh
    · replace hh := toV_some hy (toV_some hx hh)
      obtain ⟨q, h1, h2, h3⟩ := eqv_some hh
      exact ⟨.bool q, h1, h3⟩
    · replace hh := toV_some hy (toV_some hx hh)
      obtain ⟨q, h1, h2, h3⟩ := eqv_some hh
      exact ⟨.bool (!q), h2, h3⟩
    · cases hh

theorem unT_some {b : UnOp} {t : TypeId} {x : SV} {vx : Value} (hx : Is x vx) {K : SV → Option R} (h : unT P SC (XC P rec k R) b t x K = some r) : ∃ s : SV, unOp b vx = some s.val ∧ K s = some r := by
  unfold unT at h
  split at h
  · split at h
    · rw [← hx.resolve_left (by simp)]; exact ⟨_, rfl, h⟩
    · rw [← hx.resolve_left (by simp)]; exact ⟨_, rfl, h⟩
    · rw [← hx.resolve_left (by simp)]; exact ⟨_, rfl, h⟩
    · rw [← hx.resolve_left (by simp)]
      have h : asB _ _ = some r := h
      unfold asB at h
      split at h
      · exact ⟨_, rfl, h⟩
      · cases h
    · cases h
  · split at h
    · obtain ⟨n, hn, h⟩ := toI_some hx h
      refine ⟨_, ?_, h⟩
      rw [hn]
      rfl
    · cases h
  · split at h
    · obtain ⟨n, hn, h⟩ := toI_some hx h
      refine ⟨_, ?_, h⟩
      rw [hn]
      rfl
    · cases h
  · cases h

theorem len_some {v : Value} {K : Int → Option R} (h : len v K = some r) : ∃ b n c, v = .slice b n c ∧ K n = some r := by
  unfold len at h
  split at h
  · exact ⟨_, _, _, rfl, h⟩
  · cases h

theorem bind_some' {α β : Type} {x : Option α} {f : α → Option β} {b : β} (h : x.bind f = some b) : ∃ a, x = some a ∧ f a = some b := Option.bind_eq_some_iff.1 h

theorem map_val (t : Array Value) (l : Array Operand) : l.map (AM.ev t) = (l.toList.map (AM.ev t)).toArray := by
  apply Array.ext'
  simp only [Array.toList_map]

end
end Go.AM

namespace Go.AM

section
variable {P : Program} {E : Env} {rec : Rec} {k : Nat} {R : Type} {r : R}

theorem ld_some {h : H} {ty : TypeId} {b o : Nat} {K : Value → Option R} (hh : ld P h ty b o K = some r) : ∃ v, load P ty (.pointer (some ⟨b, o, none⟩)) h = some v ∧ K v = some r := bind_some' hh

theorem fieldAddr_off {s : TypeId} {f b o d : Nat} (h : fieldOff P s f = some d) : fieldAddr P s (.pointer (some ⟨b, o, none⟩)) f = some (.pointer (some ⟨b, o + d, none⟩)) := by
  unfold fieldOff at h
  unfold fieldAddr
  split at h
  · rename_i fs e
    simp only [e]
    obtain ⟨g, h1, h⟩ := bind_some' h
    obtain ⟨n, h2, h⟩ := bind_some' h
    split at h
    · cases h
    · rename_i e1
      cases h
      rw [h1, Option.bind_some, h2, Option.bind_some, if_neg e1]
  · cases h

theorem mks_kind {t : TypeId} {ka kb : IntKind} {a b : Int} {h : H} : makeSlice P t (.int ka a) (.int kb b) h = makeSlice P t (.int .i64 a) (.int .i64 b) h := by
  unfold makeSlice
  cases P.underlying t with
  | none => rfl
  | some d => cases d <;> rfl

theorem inx_kind {t : TypeId} {v : Value} {ka : IntKind} {a : Int} : index P t v (.int ka a) = index P t v (.int .i64 a) := by
  unfold index
  cases P.underlying t with
  | none => rfl
  | some d => cases d <;> first | rfl | (cases v <;> rfl)

theorem opT_some {N : Nat} {t : Array Value} {env : SEnv} (ht : TE N t env) {o : Oper} {h : H} {K : SV → H → Option R} (hh : opT P E SC (XC P rec k R) o env h K = some r) :
    ∃ (s : SV) (v : Value) (h' : H), op P E rec t o h = some (v, h') ∧ Is s v ∧ K s h' = some r := by
  obtain ⟨dst, x, ty, pos, aft, gu⟩ := o
  unfold opT at hh
  unfold op
  split at hh
  · cases hh
  · rename_i hok
    rw [if_neg hok]
    cases x with
    | move x =>
      obtain ⟨s, h1, h2⟩ := toS_some (ht.ev x) hh
      exact ⟨s, _, h, rfl, h1, h2⟩
    | assign x =>
      obtain ⟨s, h1, h2⟩ := toS_some (ht.ev x) hh
      exact ⟨s, _, h, rfl, h1, h2⟩
    | pick c a b =>
      obtain ⟨q, hq, h1⟩ := toC_some (ht.ev c) hh
      simp only [hq]
      cases q
      · obtain ⟨s, h2, h3⟩ := toS_some (ht.ev b) h1
        exact ⟨s, _, h, rfl, h2, h3⟩
      · obtain ⟨s, h2, h3⟩ := toS_some (ht.ev a) h1
        exact ⟨s, _, h, rfl, h2, h3⟩
    | alloc t' =>
      simp only at hh
      split at hh
      · rename_i z hz
        exact ⟨.ptr h.nx 0, _, _, by simp only [alloc, hz]; rfl, .inr rfl, hh⟩
      · cases hh
    | box t' x =>
      simp only at hh
      split at hh
      · rename_i n hn
        replace hh := toV_some (ht.ev x) hh
        exact ⟨.ptr h.nx 0, _, _, by simp only [box, hn]; rfl, .inr rfl, hh⟩
      · cases hh
    | build t' ps =>
      replace hh := toPs_some ht ps.toList hh
      obtain ⟨v, h1, h2⟩ := bind_some' hh
      refine ⟨.opq v, v, h, ?_, .inr rfl, h2⟩
      simp only [h1]; rfl
    | buildSlice t' n ps =>
      replace hh := toPs_some ht ps.toList hh
      obtain ⟨⟨v, h'⟩, h1, h2⟩ := bind_some' hh
      exact ⟨.opq v, v, h', h1, .inr rfl, h2⟩
    | load t' a =>
      obtain ⟨b, o, ha, h1⟩ := toP_some (ht.ev a) hh
      obtain ⟨v, hv, h2⟩ := ld_some h1
      obtain ⟨s, hs, h3⟩ := shape_some h2
      refine ⟨s, v, h, ?_, hs, h3⟩
      simp only [ha, hv]; rfl
    | store t' a x =>
      obtain ⟨b, o, ha, h1⟩ := toP_some (ht.ev a) hh
      replace h1 := toV_some (ht.ev x) h1
      obtain ⟨h', hv, h2⟩ := bind_some' h1
      refine ⟨.und, undef, h', ?_, .inr rfl, h2⟩
      simp only [ha, hv]; rfl
    | nilCheck x =>
      simp only at hh ⊢
      have hx := ht.ev x
      split at hh
      · rename_i b o e; rw [e] at hx; exact ⟨.ptr b o, _, h, by rw [← hx.resolve_left (by simp)]; rfl, .inr rfl, hh⟩
      · rename_i f a b e; rw [e] at hx; exact ⟨.fn f a b, _, h, by rw [← hx.resolve_left (by simp)]; rfl, .inr rfl, hh⟩
      · rename_i v e
        rw [e] at hx
        rw [← hx.resolve_left (by simp)]
        replace hh : nil v (K (.opq v) h) = some r := hh
        unfold nil at hh
        split at hh
        · exact ⟨_, _, h, rfl, .inr rfl, hh⟩
        · exact ⟨_, _, h, rfl, .inr rfl, hh⟩
        · cases hh
      · cases hh
    | binOp b t' x y yt =>
      obtain ⟨s, h1, h2⟩ := binT_some (ht.ev x) (ht.ev y) hh
      refine ⟨s, _, h, ?_, .inr rfl, h2⟩
      simp only [h1]; rfl
    | unOp b t' x =>
      obtain ⟨s, h1, h2⟩ := unT_some (ht.ev x) hh
      refine ⟨s, _, h, ?_, .inr rfl, h2⟩
      simp only [h1]; rfl
    | convert s d x =>
      simp only at hh
      split at hh
      · rename_i ks kd e1 e2
        obtain ⟨n, hn, h1⟩ := toI_some (ht.ev x) hh
        refine ⟨.int kd (wr kd n), _, h, ?_, .inr rfl, h1⟩
        simp only [hn, convert, e1, e2]; rfl
      · cases hh
    | makeFunc fn first captured =>
      simp only at hh ⊢
      split at hh
      · rename_i f
        replace hh := toVs_some ht captured.toList (toVs_some ht first.toList hh)
        refine ⟨_, _, h, rfl, ?_, hh⟩
        rw [map_val, map_val]
        exact .inr rfl
      · cases hh
    | makeMap t' re =>
      simp only at hh ⊢
      split at hh
      · exact ⟨.opq (.map (some h.nx)), _, _, rfl, .inr rfl, hh⟩
      · cases hh
    | makeSlice t' l c =>
      obtain ⟨ka, a, ha, h1⟩ := toK_some (ht.ev l) hh
      obtain ⟨kb, b, hb, h2⟩ := toK_some (ht.ev c) h1
      obtain ⟨⟨v, h'⟩, h3, h4⟩ := bind_some' h2
      refine ⟨.opq v, v, h', ?_, .inr rfl, h4⟩
      simp only [ha, hb]
      rw [mks_kind]
      exact h3
    | slice t' x lo hi mx =>
      replace hh := toV_some (ht.ev x) hh
      replace hh := toVo_some ht lo hh
      replace hh := toVo_some ht hi hh
      replace hh := toVo_some ht mx hh
      obtain ⟨v, h1, h2⟩ := bind_some' hh
      refine ⟨.opq v, v, h, ?_, .inr rfl, h2⟩
      simp only [h1]; rfl
    | fieldAddr s x f =>
      obtain ⟨b, o, ha, h1⟩ := toP_some (ht.ev x) hh
      split at h1
      · rename_i d hd
        refine ⟨_, _, h, ?_, .inr rfl, h1⟩
        simp only [ha, fieldAddr_off hd]
        by_cases hd0 : d = 0
        · subst hd0; rfl
        · rw [if_neg hd0]; rfl
      · cases h1
    | field s x f =>
      replace hh := toV_some (ht.ev x) hh
      obtain ⟨v, h1, h2⟩ := bind_some' hh
      obtain ⟨s', hs, h3⟩ := shape_some h2
      refine ⟨s', v, h, ?_, hs, h3⟩
      simp only [h1]; rfl
    | indexAddr t' x i =>
      simp only at hh
      split at hh
      · rename_i el hu
        split at hh
        · rename_i s hs
          replace hh := toV_some (ht.ev x) hh
          obtain ⟨ki, i', hi, h1⟩ := toK_some (ht.ev i) hh
          replace h1 : six (ev t x) i' s (fun b o => K (.ptr b o) h) = some r := h1
          unfold six at h1
          split at h1
          · rename_i b o n c hx
            split at h1
            · rename_i hb
              refine ⟨.ptr b (o + i'.toNat * s), _, h, ?_, .inr rfl, h1⟩
              simp only [hi, hx, indexAddr, hu, hs]
              rw [if_pos hb]; rfl
            · cases h1
          · cases h1
        · cases hh
      · rename_i n el hu
        split at hh
        · rename_i s hs
          obtain ⟨b, o, hx, hh⟩ := toP_some (ht.ev x) hh
          obtain ⟨ki, i', hi, h1⟩ := toK_some (ht.ev i) hh
          replace h1 : aix _ _ _ = some r := h1
          unfold aix at h1
          split at h1
          · rename_i hb
            refine ⟨.ptr b (at_ o i' s), _, h, ?_, .inr rfl, h1⟩
            simp only [hi, hx, indexAddr, hu, hs]
            rw [if_pos hb]; rfl
          · cases h1
        · cases hh
      · cases hh
    | index t' x i =>
      replace hh := toV_some (ht.ev x) hh
      obtain ⟨ki, i', hi, h1⟩ := toK_some (ht.ev i) hh
      obtain ⟨v, h2, h3⟩ := bind_some' h1
      obtain ⟨s', hs, h4⟩ := shape_some h3
      refine ⟨s', v, h, ?_, hs, h4⟩
      simp only [hi]
      rw [inx_kind, h2]; rfl
    | lookup t' m x ok =>
      replace hh := toV_some (ht.ev x) (toV_some (ht.ev m) hh)
      obtain ⟨v, h1, h2⟩ := bind_some' hh
      obtain ⟨s', hs, h3⟩ := shape_some h2
      refine ⟨s', v, h, ?_, hs, h3⟩
      simp only [h1]; rfl
    | mapUpdate t' m x y =>
      replace hh := toV_some (ht.ev y) (toV_some (ht.ev x) (toV_some (ht.ev m) hh))
      obtain ⟨h', h1, h2⟩ := bind_some' hh
      refine ⟨.und, undef, h', ?_, .inr rfl, h2⟩
      simp only [h1]; rfl
    | insert t' m x y =>
      replace hh := toV_some (ht.ev y) (toV_some (ht.ev x) (toV_some (ht.ev m) hh))
      obtain ⟨h', h1, h2⟩ := bind_some' hh
      refine ⟨.und, undef, h', ?_, .inr rfl, h2⟩
      simp only [h1]; rfl
    | mapEntry t' m x =>
      replace hh := toV_some (ht.ev x) (toV_some (ht.ev m) hh)
      obtain ⟨⟨v, h'⟩, h1, h2⟩ := bind_some' hh
      exact ⟨.opq v, v, h', h1, .inr rfl, h2⟩
    | entryStore t' m x y =>
      replace hh := toV_some (ht.ev y) (toV_some (ht.ev x) (toV_some (ht.ev m) hh))
      obtain ⟨h', h1, h2⟩ := bind_some' hh
      refine ⟨.und, undef, h', ?_, .inr rfl, h2⟩
      simp only [h1]; rfl
    | extract x i =>
      replace hh := toV_some (ht.ev x) hh
      replace hh : ext _ _ _ = some r := hh
      unfold ext at hh
      split at hh
      · rename_i vs hx
        obtain ⟨v, h1, h2⟩ := bind_some' hh
        obtain ⟨s', hs, h3⟩ := shape_some h2
        refine ⟨s', v, h, ?_, hs, h3⟩
        simp only [hx, h1]; rfl
      · cases hh
    | call c =>
      obtain ⟨ca, as, tys⟩ := c
      simp only at hh ⊢
      cases ca with
      | value f =>
        simp only at hh ⊢
        have hf := ht.ev f
        split at hh
        · rename_i f' xs ys e
          replace hh := toVs_some ht as.toList hh
          obtain ⟨⟨v, h'⟩, h1, h2⟩ := bind_some' hh
          obtain ⟨s', hs, h3⟩ := shape_some h2
          refine ⟨s', v, h', ?_, hs, h3⟩
          rw [e] at hf
          rw [← hf.resolve_left (by simp), map_val]
          rw [← h1]
          simp only [callV, SV.val]
          congr 1
          simp
        · rename_i v e
          replace hh := toVs_some ht as.toList hh
          obtain ⟨⟨v', h'⟩, h1, h2⟩ := bind_some' hh
          obtain ⟨s', hs, h3⟩ := shape_some h2
          refine ⟨s', v', h', ?_, hs, h3⟩
          rw [e] at hf
          rw [← hf.resolve_left (by simp), map_val]
          exact h1
        · cases hh
      | builtin b =>
        cases b with
        | len =>
          simp only at hh ⊢
          split at hh
          · rename_i t' l' x hl ha
            have e1 : (tys.toList[0]?).bind P.underlying = P.underlying t' := by rw [hl]; rfl
            rw [ha]
            simp only [List.map_cons, List.map_nil, builtin, e1]
            split at hh
            · rename_i el hu
              replace hh := toV_some (ht.ev x) hh
              replace hh : len (ev t x) (fun n => K (.int .i64 n) h) = some r := hh
              obtain ⟨b, n, c, hv, h1⟩ := len_some hh
              rw [hu, hv]
              exact ⟨_, _, _, rfl, .inr rfl, h1⟩
            · rename_i kt vt hu
              replace hh := toV_some (ht.ev x) hh
              replace hh : mlen h (ev t x) (fun n => K (.int .i64 n) h) = some r := hh
              unfold mlen at hh
              rw [hu]
              split at hh
              · rename_i hv
                rw [hv]
                exact ⟨_, _, _, rfl, .inr rfl, hh⟩
              · rename_i b hv
                rw [hv]
                split at hh
                · rename_i es c hb
                  simp only [hb]
                  exact ⟨_, _, _, rfl, .inr rfl, hh⟩
                · cases hh
              · cases hh
            · cases hh
          · cases hh
        | append =>
          simp only at hh ⊢
          split at hh
          · rename_i s t' x y hl ha
            replace hh := toV_some (ht.ev y) (toV_some (ht.ev x) hh)
            obtain ⟨⟨v, h'⟩, h1, h2⟩ := bind_some' hh
            refine ⟨.opq v, v, h', ?_, .inr rfl, h2⟩
            rw [ha, hl]
            simp only [List.map_cons, List.map_nil, builtin]
            exact h1
          · cases hh
        | copy =>
          simp only at hh ⊢
          split at hh
          · rename_i t' tl x y hl ha
            replace hh := toV_some (ht.ev y) (toV_some (ht.ev x) hh)
            unfold XC cpy at hh
            simp only at hh
            split at hh
            · rename_i n h' hcp
              refine ⟨.int .i64 n, .int .i64 n, h', ?_, .inr rfl, hh⟩
              rw [ha, hl]
              simp only [List.map_cons, List.map_nil, builtin]
              exact hcp
            · cases hh
          · cases hh
        | clear =>
          simp only at hh ⊢
          split at hh
          · rename_i t' tl x hl ha
            replace hh := toV_some (ht.ev x) hh
            unfold XC clr at hh
            simp only at hh
            obtain ⟨⟨v, h'⟩, h1, h2⟩ := bind_some' hh
            have hv : v = undef := by
              unfold clearS at h1
              simp only at h1
              split at h1
              · split at h1
                · split at h1
                  · cases h1; rfl
                  · split at h1
                    · obtain ⟨_, _, h1⟩ := bind_some h1
                      split at h1
                      · split at h1
                        · cases h1; rfl
                        · cases h1
                      · cases h1
                    · cases h1
                · cases h1
              · cases h1
            subst hv
            refine ⟨.und, undef, h', ?_, .inr rfl, h2⟩
            rw [ha, hl]
            simp only [List.map_cons, List.map_nil, builtin]
            exact h1
          · cases hh
        | delete =>
          simp only at hh ⊢
          split at hh
          · rename_i t' tl x y hl ha
            replace hh := toV_some (ht.ev y) (toV_some (ht.ev x) hh)
            unfold XC del at hh
            simp only at hh
            obtain ⟨⟨v, h'⟩, h1, h2⟩ := bind_some' hh
            have hv : v = undef := by
              unfold deleteM at h1
              split at h1
              · split at h1
                · obtain ⟨_, _, h1⟩ := bind_some h1
                  obtain ⟨_, _, h1⟩ := map_some h1
                  split at h1 <;> (cases h1; rfl)
                · cases h1
              · cases h1
            subst hv
            refine ⟨.und, undef, h', ?_, .inr rfl, h2⟩
            rw [ha, hl]
            simp only [List.map_cons, List.map_nil, builtin]
            exact h1
          · cases hh
        | min =>
          simp only at hh ⊢
          split at hh
          · rename_i kd x y hu ha
            obtain ⟨a, h1, hh⟩ := toI_some (ht.ev x) hh
            obtain ⟨b, h2, hh⟩ := toI_some (ht.ev y) hh
            refine ⟨_, _, _, ?_, .inr rfl, hh⟩
            rw [ha]
            simp only [List.map_cons, List.map_nil, builtin, h1, h2]
            rfl
          · cases hh
        | max =>
          simp only at hh ⊢
          split at hh
          · rename_i kd x y hu ha
            obtain ⟨a, h1, hh⟩ := toI_some (ht.ev x) hh
            obtain ⟨b, h2, hh⟩ := toI_some (ht.ev y) hh
            refine ⟨_, _, _, ?_, .inr rfl, hh⟩
            rw [ha]
            simp only [List.map_cons, List.map_nil, builtin, h1, h2]
            rfl
          · cases hh
        | _ => cases hh
      | _ => cases hh
    | _ => cases hh

end
end Go.AM

namespace Go.AM

section
variable {P : Program} {E : Env} {rec : Rec} {k : Nat} {R : Type} {r : R} {N : Nat}

theorem wantT_some {t : Array Value} {env : SEnv} (ht : TE N t env) {all : Array Oper} {o : Oper} {K : Bool → SEnv → Option R} (hh : wantT (XC P rec k R) all o N env K = some r) :
    ∃ env', TE N t env' ∧ K (Region.wanted o (yielded all t)) env' = some r := by
  unfold wantT at hh
  unfold Region.wanted
  split at hh
  · rename_i e; rw [e]; exact ⟨env, ht, hh⟩
  · rename_i j w e
    rw [e]
    simp only [yielded]
    split at hh
    · rename_i d hd
      rw [hd]
      split at hh
      · rename_i hlt
        have hs := ht.2 d
        have hlt' := hlt
        rw [← ht.1] at hlt'
        rw [Array.getD_eq_getD_getElem?, Array.getElem?_eq_getElem hlt'] at hs
        simp only [Option.bind_some, Array.getElem?_eq_getElem hlt']
        split at hh
        · rename_i hu
          rw [hu] at hs
          have := hs.resolve_left (by simp)
          simp only [Option.getD_some] at this
          rw [← this]
          exact ⟨env, ht, hh⟩
        · obtain ⟨q, hq, h1⟩ := toC_some hs hh
          simp only [Option.getD_some] at hq
          rw [hq]
          refine ⟨_, ht.setK (c := .tmp d) (b := q) ?_, ?_⟩
          · simp only [ev, Array.getD_eq_getD_getElem?, Array.getElem?_eq_getElem hlt', hq, Option.getD_some]
          · rw [← h1]
            congr 1
      · cases hh
    · rename_i hd
      rw [hd]
      exact ⟨env, ht, hh⟩

theorem opsT_some {all : Array Oper} : ∀ (l : List Oper) {t : Array Value} {env : SEnv} {h : H} {K : SEnv → H → Option R}, TE N t env → opsT P E SC (XC P rec k R) N all l env h K = some r →
    ∃ t' env' h', ops P E rec all l t h = some (t', h') ∧ TE N t' env' ∧ K env' h' = some r := by
  intro l
  induction l with
  | nil => intro t env h K ht hh; exact ⟨t, env, h, rfl, ht, hh⟩
  | cons o rest ih =>
    intro t env h K ht hh
    unfold opsT at hh
    split at hh
    · rename_i hd
      obtain ⟨env', ht', h1⟩ := wantT_some ht hh
      unfold ops
      split at h1
      · rename_i hw
        rw [if_pos hw]
        obtain ⟨s, v, h', h2, hs, h3⟩ := opT_some ht' h1
        obtain ⟨t2, env2, h4, h5, h6, h7⟩ := ih (ht'.put hd hs) h3
        exact ⟨t2, env2, h4, by rw [h2]; exact h5, h6, h7⟩
      · rename_i hw
        rw [if_neg hw]
        exact ih (ht'.put hd (.inr rfl)) h1
    · cases hh

theorem fpT_some {t : Array Value} {env : SEnv} (ht : TE N t env) {o : Oper} {K : FPT → Option R} (hh : fpT P (XC P rec k R) env o K = some r) : ∃ f : FPT, fp P t o = some f.fp ∧ K f = some r := by
  have key : ∀ (q : Bool) (ty : TypeId) (a : SV) (va : Value), Is a va → (toP (XC P rec k R) a fun b o => match size? P ty with
      | some n => if n = 0 then none else K (if q then .st b o n else .ld b o n)
      | none => none) = some r → ∃ b o n, va = .pointer (some ⟨b, o, none⟩) ∧ size? P ty = some n ∧ n ≠ 0 ∧ K (if q then FPT.st b o n else FPT.ld b o n) = some r := by
    intro q ty a va hva h
    obtain ⟨b, o, ha, h1⟩ := toP_some hva h
    split at h1
    · rename_i n hn
      split at h1
      · cases h1
      · rename_i hz
        exact ⟨b, o, n, ha, hn, hz, h1⟩
    · cases h1
  obtain ⟨dst, x, ty, pos, aft, gu⟩ := o
  unfold fpT at hh
  unfold fp
  cases x with
  | load ty a =>
    obtain ⟨b, o, n, h1, h2, h3, h4⟩ := key false ty _ _ (ht.ev a) hh
    refine ⟨_, ?_, h4⟩
    simp only [h1, h2, Option.bind_some, if_neg h3]; rfl
  | store ty a x =>
    obtain ⟨b, o, n, h1, h2, h3, h4⟩ := key true ty _ _ (ht.ev a) hh
    refine ⟨_, ?_, h4⟩
    simp only [h1, h2, Option.bind_some, if_neg h3]; rfl
  | lookup ty m x ok =>
    refine ⟨.rm (ev t m), ?_, toV_some (ht.ev m) hh⟩
    show (match ev t m with
      | .map (some b) => some (FP.rb b)
      | _ => some FP.rd) = some (FPT.rm (ev t m)).fp
    generalize ev t m = u
    cases u with
    | map b => cases b <;> rfl
    | _ => rfl
  | slice ty x lo hi mx =>
    refine ⟨.rs (ev t x), ?_, toV_some (ht.ev x) hh⟩
    show (match ev t x with
      | .slice (some ⟨b, _, none⟩) _ _ => some (FP.rb b)
      | .slice none _ _ => some FP.pure
      | _ => some FP.rd) = some (FPT.rs (ev t x)).fp
    generalize ev t x = u
    cases u with
    | slice a n c =>
      cases a with
      | none => rfl
      | some a => obtain ⟨b, o, s⟩ := a; cases s <;> rfl
    | _ => rfl
  | mapUpdate ty m x y =>
    refine ⟨.wm (ev t m), ?_, toV_some (ht.ev m) hh⟩
    show (match ev t m with
      | .map (some b) => some (FP.wb b)
      | _ => some FP.md) = some (FPT.wm (ev t m)).fp
    generalize ev t m = u
    cases u with
    | map b => cases b <;> rfl
    | _ => rfl
  | insert ty m x y =>
    refine ⟨.wm (ev t m), ?_, toV_some (ht.ev m) hh⟩
    show (match ev t m with
      | .map (some b) => some (FP.wb b)
      | _ => some FP.md) = some (FPT.wm (ev t m)).fp
    generalize ev t m = u
    cases u with
    | map b => cases b <;> rfl
    | _ => rfl
  | mapEntry ty m x =>
    refine ⟨.wm (ev t m), ?_, toV_some (ht.ev m) hh⟩
    show (match ev t m with
      | .map (some b) => some (FP.wb b)
      | _ => some FP.md) = some (FPT.wm (ev t m)).fp
    generalize ev t m = u
    cases u with
    | map b => cases b <;> rfl
    | _ => rfl
  | entryStore ty m x y =>
    refine ⟨.wm (ev t m), ?_, toV_some (ht.ev m) hh⟩
    show (match ev t m with
      | .map (some b) => some (FP.wb b)
      | _ => some FP.md) = some (FPT.wm (ev t m)).fp
    generalize ev t m = u
    cases u with
    | map b => cases b <;> rfl
    | _ => rfl
  | call c =>
    obtain ⟨ca, as, tys⟩ := c
    simp only at hh ⊢
    cases ca with
    | builtin b =>
      cases b with
      | len =>
        simp only at hh ⊢
        split at hh
        · rename_i e; simp only [e]; exact ⟨_, rfl, hh⟩
        · rename_i e1
          refine ⟨.rd, ?_, hh⟩
          split
          · rename_i e2; exact absurd e2 (e1 _)
          · rfl
      | _ => exact ⟨_, rfl, hh⟩
    | _ => exact ⟨_, rfl, hh⟩
  | _ => first | exact ⟨_, rfl, hh⟩ | cases hh

theorem fpTA_some {al : Bool} {t : Array Value} {env : SEnv} (ht : TE N t env) {o : Oper} {K : FPT → Option R} (hh : fpTA P (XC P rec k R) al env o K = some r) : ∃ f : FPT, fpA P al t o = some f.fp ∧ K f = some r := by
  unfold fpTA at hh
  unfold fpA
  split at hh
  · rename_i hk
    rw [if_pos hk]
    split at hh
    · rename_i hi
      refine ⟨.al, ?_, hh⟩
      rw [if_pos]
      · rfl
      · rw [List.all_eq_true] at hi ⊢
        intro x hx
        have h1 := hi x hx
        have h2 := ht.ev x
        generalize evS env x = s at h1 h2
        cases s <;> simp only [isIntS, Bool.false_eq_true] at h1
        rcases h2 with h2 | h2
        · cases h2
        · rw [← h2]; rfl
    · cases hh
  · rename_i hk
    rw [if_neg hk]
    split at hh
    · rename_i hl
      rw [if_pos hl]
      obtain ⟨f, h1, h2⟩ := fpT_some ht hh
      exact ⟨.rd, by rw [h1]; rfl, h2⟩
    · rename_i hl
      rw [if_neg hl]
      exact fpT_some ht hh

theorem ck_some {b : Bool} {x : Option R} (h : ck b x = some r) : b = true ∧ x = some r := by
  cases b
  · cases h
  · exact ⟨rfl, h⟩

theorem fres_free {v : Value} {lo : Nat} {q : Bool} (h : fres v lo q = true) : (FPT.rs v).fp = .pure ∨ ∃ b, (FPT.rs v).fp = .rb b ∧ (decide (b < lo) && q) = true := by
  unfold fres at h
  split at h
  · exact .inr ⟨_, rfl, h⟩
  · exact .inl rfl
  · cases h

theorem frem_free {v : Value} {lo : Nat} {q : Bool} (h : frem v lo q = true) : ∃ b, (FPT.rm v).fp = .rb b ∧ (decide (b < lo) && q) = true := by
  unfold frem at h
  split at h
  · exact ⟨_, rfl, h⟩
  · cases h

theorem rs_cases (v : Value) : (FPT.rs v).fp = .pure ∨ (FPT.rs v).fp = .rd ∨ ∃ b, (FPT.rs v).fp = .rb b := by
  simp only [FPT.fp]
  split
  · exact .inr (.inr ⟨_, rfl⟩)
  · exact .inl rfl
  · exact .inr (.inl rfl)

theorem rm_cases (v : Value) : (FPT.rm v).fp = .rd ∨ ∃ b, (FPT.rm v).fp = .rb b := by
  simp only [FPT.fp]
  split
  · exact .inr ⟨_, rfl⟩
  · exact .inl rfl

theorem free_pure_left {y : Did} {i lo : Nat} {q : Bool} : free ⟨i, .pure, lo, q⟩ y = true := by unfold free; rfl
theorem free_pure_right {x : Did} {i lo : Nat} {q : Bool} : free x ⟨i, .pure, lo, q⟩ = true := by unfold free; cases x.f <;> rfl

theorem freeT_some {x y : DidT} {K : Option R} (hh : freeT SC (XC P rec k R) x y K = some r) : free x.did y.did = true ∧ K = some r := by
  obtain ⟨i, f, lo, q⟩ := x
  obtain ⟨i', f', lo', q'⟩ := y
  unfold freeT at hh
  cases f <;> cases f' <;> simp only [reduceCtorEq] at hh <;> simp only [DidT.did]
  case rs.md v =>
    obtain ⟨h1, h2⟩ := ck_some hh
    rcases fres_free h1 with e | ⟨b, e, h3⟩
    · rw [e]; exact ⟨free_pure_left, h2⟩
    · rw [e]; exact ⟨h3, h2⟩
  case md.rs v =>
    obtain ⟨h1, h2⟩ := ck_some hh
    rcases fres_free h1 with e | ⟨b, e, h3⟩
    · rw [e]; exact ⟨free_pure_right, h2⟩
    · rw [e]; exact ⟨h3, h2⟩
  case ld.wm b _ _ v =>
    obtain ⟨h1, h2⟩ := ck_some hh
    replace h1 : frew b v lo' = true := h1
    unfold frew at h1
    split at h1
    · exact ⟨h1, h2⟩
    · cases h1
  case wm.ld v b _ _ =>
    obtain ⟨h1, h2⟩ := ck_some hh
    replace h1 : frew b v lo = true := h1
    unfold frew at h1
    split at h1
    · exact ⟨h1, h2⟩
    · cases h1
  case wm.al v =>
    refine ⟨?_, hh⟩
    simp only [FPT.fp]
    split <;> rfl
  case pure.wm v => exact ⟨free_pure_left, hh⟩
  case wm.pure v => exact ⟨free_pure_right, hh⟩
  case rs.al v =>
    obtain ⟨h1, h2⟩ := ck_some hh
    rcases fres_free h1 with e | ⟨b, e, h3⟩
    · rw [e]; exact ⟨free_pure_left, h2⟩
    · rw [e]; exact ⟨h3, h2⟩
  case al.rs v =>
    obtain ⟨h1, h2⟩ := ck_some hh
    rcases fres_free h1 with e | ⟨b, e, h3⟩
    · rw [e]; exact ⟨free_pure_right, h2⟩
    · rw [e]; exact ⟨h3, h2⟩
  case rm.al v =>
    obtain ⟨h1, h2⟩ := ck_some hh
    obtain ⟨b, e, h3⟩ := frem_free h1
    rw [e]; exact ⟨h3, h2⟩
  case al.rm v =>
    obtain ⟨h1, h2⟩ := ck_some hh
    obtain ⟨b, e, h3⟩ := frem_free h1
    rw [e]; exact ⟨h3, h2⟩
  case rm.md v =>
    obtain ⟨h1, h2⟩ := ck_some hh
    obtain ⟨b, e, h3⟩ := frem_free h1
    rw [e]; exact ⟨h3, h2⟩
  case md.rm v =>
    obtain ⟨h1, h2⟩ := ck_some hh
    obtain ⟨b, e, h3⟩ := frem_free h1
    rw [e]; exact ⟨h3, h2⟩
  case rs.rs v v' => rcases rs_cases v with e | e | ⟨b, e⟩ <;> rcases rs_cases v' with e' | e' | ⟨b', e'⟩ <;> rw [e, e'] <;> exact ⟨rfl, hh⟩
  case rs.rm v v' => rcases rs_cases v with e | e | ⟨b, e⟩ <;> rcases rm_cases v' with e' | ⟨b', e'⟩ <;> rw [e, e'] <;> exact ⟨rfl, hh⟩
  case rm.rs v v' => rcases rm_cases v with e | ⟨b, e⟩ <;> rcases rs_cases v' with e' | e' | ⟨b', e'⟩ <;> rw [e, e'] <;> exact ⟨rfl, hh⟩
  case rm.rm v v' => rcases rm_cases v with e | ⟨b, e⟩ <;> rcases rm_cases v' with e' | ⟨b', e'⟩ <;> rw [e, e'] <;> exact ⟨rfl, hh⟩
  case pure.rs v => exact ⟨free_pure_left, hh⟩
  case pure.rm v => exact ⟨free_pure_left, hh⟩
  case rs.pure v => exact ⟨free_pure_right, hh⟩
  case rm.pure v => exact ⟨free_pure_right, hh⟩
  case ld.rs v => rcases rs_cases v with e | e | ⟨b, e⟩ <;> rw [e] <;> exact ⟨rfl, hh⟩
  case rs.ld v _ _ _ => rcases rs_cases v with e | e | ⟨b, e⟩ <;> rw [e] <;> exact ⟨rfl, hh⟩
  case ld.rm v => rcases rm_cases v with e | ⟨b, e⟩ <;> rw [e] <;> exact ⟨rfl, hh⟩
  case rm.ld v _ _ _ => rcases rm_cases v with e | ⟨b, e⟩ <;> rw [e] <;> exact ⟨rfl, hh⟩
  case rd.rs v => rcases rs_cases v with e | e | ⟨b, e⟩ <;> rw [e] <;> exact ⟨rfl, hh⟩
  case rs.rd v => rcases rs_cases v with e | e | ⟨b, e⟩ <;> rw [e] <;> exact ⟨rfl, hh⟩
  case rd.rm v => rcases rm_cases v with e | ⟨b, e⟩ <;> rw [e] <;> exact ⟨rfl, hh⟩
  case rm.rd v => rcases rm_cases v with e | ⟨b, e⟩ <;> rw [e] <;> exact ⟨rfl, hh⟩
  all_goals first
    | exact ⟨rfl, hh⟩
    | exact ck_some hh
    | (cases hh; done)

theorem twinT_some {all : Array Oper} {x y : DidT} {K : Option R} (ht : twinOps all x.i y.i = true) (hh : twinT SC (XC P rec k R) x y K = some r) : twin all x.did y.did = true ∧ K = some r := by
  obtain ⟨i, f, lo, q⟩ := x
  obtain ⟨i', f', lo', q'⟩ := y
  unfold twinT at hh
  simp only at hh
  split at hh
  · obtain ⟨h1, h2⟩ := ck_some hh
    refine ⟨?_, h2⟩
    replace h1 : twm _ _ = true := h1
    unfold twm at h1
    split at h1
    · simp only [twin, DidT.did, FPT.fp, h1, Bool.true_and]
      exact ht
    · cases h1
  · cases hh

theorem logT_some {all : Array Oper} {B : Nat} {y : DidT} {K : Option R} : ∀ (l : List DidT), logT SC (XC P rec k R) all B y l K = some r → ((l.map DidT.did).all fun d => B.testBit d.i || (free d y.did || twin all d y.did)) = true ∧ K = some r := by
  intro l
  induction l with
  | nil => intro h; exact ⟨rfl, h⟩
  | cons d l ih =>
    intro h
    unfold logT at h
    rw [List.map_cons, List.all_cons]
    split at h
    · rename_i e
      obtain ⟨h1, h2⟩ := ih h
      exact ⟨by rw [h1]; simp [DidT.did, e], h2⟩
    · split at h
      · rename_i e
        obtain ⟨h0, h⟩ := twinT_some e h
        obtain ⟨h1, h2⟩ := ih h
        exact ⟨by rw [h0, h1]; simp, h2⟩
      · obtain ⟨h0, h⟩ := freeT_some h
        obtain ⟨h1, h2⟩ := ih h
        exact ⟨by rw [h0, h1]; simp, h2⟩

theorem drawT_some {all : Array Oper} {B : Array Nat} : ∀ (l : List Oper) (j : Nat) (log : List DidT) {t : Array Value} {env : SEnv} {h : H} {K : SEnv → H → Option R}, TE N t env →
    drawT P E SC (XC P rec k R) N all B l j log env h K = some r → ∃ t' env' h', drawGo P E rec all B l j (log.map DidT.did) t h = some (t', h') ∧ TE N t' env' ∧ K env' h' = some r := by
  intro l
  induction l with
  | nil => intro j log t env h K ht hh; exact ⟨t, env, h, rfl, ht, hh⟩
  | cons o rest ih =>
    intro j log t env h K ht hh
    unfold drawT at hh
    split at hh
    · rename_i hd
      obtain ⟨env', ht', h1⟩ := wantT_some ht hh
      unfold drawGo
      split at h1
      · rename_i hw
        rw [if_pos hw]
        obtain ⟨f, hf, h1⟩ := fpTA_some ht' h1
        obtain ⟨s, v, h', h2, hs, h3⟩ := opT_some ht' h1
        obtain ⟨hl, h3⟩ := logT_some log h3
        obtain ⟨t2, env2, h4, h5, h6, h7⟩ := ih _ _ (ht'.put hd hs) h3
        refine ⟨t2, env2, h4, ?_, h6, h7⟩
        rw [hf, Option.bind_some, h2, Option.bind_some]
        replace hl : ((log.map DidT.did).all fun d => (B.getD j 0).testBit d.i || (free d ⟨j, f.fp, h.nx, decide (h'.wr = h.wr)⟩ || twin all d ⟨j, f.fp, h.nx, decide (h'.wr = h.wr)⟩)) = true := hl
        simp only [hl, if_true]
        exact h5
      · rename_i hw
        rw [if_neg hw]
        exact ih _ _ (ht'.put hd (.inr rfl)) h1
    · cases hh

/-! ### What a code writes -/

theorem put_getD {t : Array Value} {d : Option Tmp} {v : Value} {i : Nat} (h : d ≠ some i) : (put t d v).getD i undef = t.getD i undef ∧ (put t d v).size = t.size := by
  cases d with
  | none => exact ⟨rfl, rfl⟩
  | some d =>
    simp only [put]
    refine ⟨?_, by simp⟩
    rw [Array.getD_eq_getD_getElem?, Array.getD_eq_getD_getElem?, Array.getElem?_setIfInBounds, if_neg (fun e => h (congrArg some e))]

theorem ops_writ {all : Array Oper} {i : Nat} : ∀ (l : List Oper) {t t' : Array Value} {h h' : H}, (∀ o ∈ l, o.dst ≠ some i) → ops P E rec all l t h = some (t', h') → t'.getD i undef = t.getD i undef := by
  intro l
  induction l with
  | nil => intro t t' h h' _ e; cases e; rfl
  | cons o rest ih =>
    intro t t' h h' hl e
    unfold ops at e
    have h0 := hl o (by simp)
    have h1 := fun o' ho' => hl o' (List.mem_cons_of_mem _ ho')
    split at e
    · obtain ⟨⟨v, h2⟩, _, e⟩ := bind_some' e
      rw [ih h1 e]; exact (put_getD h0).1
    · rw [ih h1 e]; exact (put_getD h0).1

theorem drawGo_writ {all : Array Oper} {B : Array Nat} {i : Nat} : ∀ (l : List Oper) {j : Nat} {log : List Did} {t t' : Array Value} {h h' : H}, (∀ o ∈ l, o.dst ≠ some i) →
    drawGo P E rec all B l j log t h = some (t', h') → t'.getD i undef = t.getD i undef := by
  intro l
  induction l with
  | nil => intro j log t t' h h' _ e; cases e; rfl
  | cons o rest ih =>
    intro j log t t' h h' hl e
    unfold drawGo at e
    have h0 := hl o (by simp)
    have h1 := fun o' ho' => hl o' (List.mem_cons_of_mem _ ho')
    split at e
    · obtain ⟨f, _, e⟩ := bind_some' e
      obtain ⟨⟨v, h2⟩, _, e⟩ := bind_some' e
      simp only at e
      split at e
      · rw [ih h1 e]; exact (put_getD h0).1
      · cases e
    · rw [ih h1 e]; exact (put_getD h0).1

theorem loop_writ {f : Array Value → H → Option (Ex × Array Value × H)} {i : Nat} (hf : ∀ t h e t' h', f t h = some (e, t', h') → t'.getD i undef = t.getD i undef) :
    ∀ (m : Nat) {t : Array Value} {h : H} {e : Ex} {t' : Array Value} {h' : H}, loop f m t h = some (e, t', h') → t'.getD i undef = t.getD i undef := by
  intro m
  induction m with
  | zero => intro t h e t' h' hh; cases hh
  | succ m ih =>
    intro t h e t' h' hh
    unfold loop at hh
    obtain ⟨⟨e1, t1, h1⟩, h2, hh⟩ := bind_some' hh
    cases e1 with
    | normal => rw [ih hh]; exact hf _ _ _ _ _ h2
    | _ => cases hh; exact hf _ _ _ _ _ h2

theorem order_dst {all : Array Oper} {o : Oper} (h : o ∈ (order P all).toList) : ∃ o0 ∈ all.toList, o.dst = o0.dst := by
  unfold order at h
  split at h
  · unfold permute at h
    rw [List.toList_toArray, List.mem_filterMap] at h
    obtain ⟨i, _, h2⟩ := h
    obtain ⟨o0, h3, h4⟩ := Option.map_eq_some_iff.1 h2
    refine ⟨o0, ?_, by rw [← h4]; rfl⟩
    rw [Array.mem_toList_iff]
    exact Array.mem_of_getElem? h3
  · exact ⟨o, h, rfl⟩

theorem code_writ (c : Code) {i : Nat} (hi : i ∉ writ c) : ∀ {t : Array Value} {h : H} {e : Ex} {t' : Array Value} {h' : H}, code P E rec k c t h = some (e, t', h') → t'.getD i undef = t.getD i undef := by
  induction c with
  | skip => intro t h e t' h' hh; unfold code at hh; cases hh; rfl
  | region id all d =>
    intro t h e t' h' hh
    have hl : ∀ o ∈ all.toList, o.dst ≠ some i := by
      intro o ho ed
      exact hi (List.mem_eraseDups.2 (List.mem_filterMap.2 ⟨o, ho, ed⟩))
    cases d with
    | false =>
      unfold code at hh
      obtain ⟨⟨t1, h1⟩, h2, h3⟩ := Option.map_eq_some_iff.1 hh
      cases h3
      exact ops_writ _ hl h2
    | true =>
      unfold code at hh
      obtain ⟨⟨t1, h1⟩, h2, h3⟩ := Option.map_eq_some_iff.1 hh
      cases h3
      unfold draw at h2
      split at h2
      · refine drawGo_writ _ (fun o ho => ?_) h2
        obtain ⟨o0, h4, h5⟩ := order_dst ho
        rw [h5]; exact hl o0 h4
      · cases h2
  | seq a b iha ihb =>
    intro t h e t' h' hh
    have h0 : i ∉ writ a ∧ i ∉ writ b := by
      constructor <;> (intro hx; exact hi (List.mem_eraseDups.2 (by simp [hx])))
    unfold code at hh
    obtain ⟨⟨e1, t1, h1⟩, h2, hh⟩ := bind_some' hh
    cases e1 with
    | normal => rw [ihb h0.2 hh]; exact iha h0.1 h2
    | _ => cases hh; exact iha h0.1 h2
  | cond c a b iha ihb =>
    intro t h e t' h' hh
    have h0 : i ∉ writ a ∧ i ∉ writ b := by
      constructor <;> (intro hx; exact hi (List.mem_eraseDups.2 (by simp [hx])))
    unfold code at hh
    split at hh
    · cases hh
    · split at hh
      · exact iha h0.1 hh
      · exact ihb h0.2 hh
      · cases hh
  | block id c ih =>
    intro t h e t' h' hh
    unfold code at hh
    obtain ⟨⟨e1, t1, h1⟩, h2, h3⟩ := Option.map_eq_some_iff.1 hh
    have := ih hi h2
    cases e1 <;> cases h3 <;> exact this
  | loop c ih =>
    intro t h e t' h' hh
    unfold code at hh
    exact loop_writ (fun t h e t' h' => ih hi) k hh
  | exit id => intro t h e t' h' hh; unfold code at hh; cases hh; rfl
  | ret => intro t h e t' h' hh; unfold code at hh; cases hh; rfl
  | _ => intro t h e t' h' hh; unfold code at hh; cases hh

/-! ### Code -/

theorem posn_some {i : Nat} : ∀ (l : List Nat) (j0 j : Nat), posn i l j0 = some j → j0 ≤ j ∧ l[j - j0]? = some i := by
  intro l
  induction l with
  | nil => intro j0 j h; cases h
  | cons x l ih =>
    intro j0 j h
    unfold posn at h
    cases hb : Nat.beq x i with
    | true => rw [hb] at h; cases h; exact ⟨Nat.le_refl _, by simp [Nat.eq_of_beq_eq_true hb]⟩
    | false =>
      rw [hb] at h
      obtain ⟨h1, h2⟩ := ih _ _ h
      refine ⟨by omega, ?_⟩
      have : j - j0 = (j - (j0 + 1)) + 1 := by omega
      rw [this, List.getElem?_cons_succ]
      exact h2

theorem posn_none {i : Nat} : ∀ (l : List Nat) (j0 : Nat), posn i l j0 = none → i ∉ l := by
  intro l
  induction l with
  | nil => intro j0 _; simp
  | cons x l ih =>
    intro j0 h
    unfold posn at h
    cases hb : Nat.beq x i with
    | true => rw [hb] at h; cases h
    | false =>
      rw [hb] at h
      have := ih _ h
      simp only [List.mem_cons, not_or]
      refine ⟨fun e => ?_, this⟩
      subst e
      simp at hb

theorem mixed_is {c : Code} {lv : List Nat} {env : SEnv} {t : Array Value} {ws : List Value} (hin : ∀ i j, posn i (carr c lv) 0 = some j → t.getD i undef = gv ws j)
    (hout : ∀ i, i ∉ writ c → Is (env i) (t.getD i undef)) (i : Nat) : Is (mixed SC c lv env ws i) (t.getD i undef) := by
  unfold mixed
  split
  · rename_i j hj
    exact .inr (hin i j hj).symm
  · split
    · exact .inl rfl
    · rename_i hj
      exact hout i (by simpa using hj)

theorem toVs_env {t : Array Value} {env : SEnv} (ht : TE N t env) : ∀ (l : List Nat) {K : List Value → Option R}, toVs (l.map env) K = some r → K (l.map fun i => t.getD i undef) = some r := by
  intro l
  induction l with
  | nil => intro K h; exact h
  | cons x l ih => intro K h; exact ih (toV_some (ht.2 x) h)

theorem carr_gv {c : Code} {lv : List Nat} {g : Nat → Value} {i j : Nat} (h : posn i (carr c lv) 0 = some j) : g i = gv ((carr c lv).map g) j := by
  obtain ⟨_, h2⟩ := posn_some _ 0 j h
  unfold gv
  rw [List.getD_eq_getElem?_getD, List.getElem?_map]
  simp only [Nat.sub_zero] at h2
  rw [h2]
  rfl

theorem onEx_some {e : Ex} {K : Ex → Option R} {b : Bool} : ∀ (l : List Nat), onEx (XC P rec k R) e K l b = some r → K e = some r := by
  intro l
  induction l with
  | nil =>
    intro h
    cases b with
    | true =>
      replace h : onR e (K .ret) = some r := h
      unfold onR at h
      split at h
      · exact h
      · cases h
    | false => cases h
  | cons i l ih =>
    intro h
    replace h : onE e i (K (.exit i)) (onEx (XC P rec k R) e K l b) = some r := h
    unfold onE at h
    split at h
    · split at h
      · rename_i e1; subst e1; exact h
      · exact ih h
    · exact ih h

theorem loop_some {M : List Value → SEnv} {f : Array Value → H → Option (Ex × Array Value × H)} {G : List Value → H → Option (Ex × List Value × H)}
    (hf : ∀ t h ws e ws' h', TE N t (M ws) → G ws h = some (e, ws', h') → ∃ t', f t h = some (e, t', h') ∧ TE N t' (M ws')) :
    ∀ (m : Nat) {t : Array Value} {h : H} {ws : List Value} {e : Ex} {ws' : List Value} {h' : H}, TE N t (M ws) → lpGo G m ws h = some (e, ws', h') →
      ∃ t', loop f m t h = some (e, t', h') ∧ TE N t' (M ws') := by
  intro m
  induction m with
  | zero => intro t h ws e ws' h' _ hh; cases hh
  | succ m ih =>
    intro t h ws e ws' h' ht hh
    unfold lpGo at hh
    obtain ⟨⟨e1, ws1, h1⟩, h2, hh⟩ := bind_some' hh
    obtain ⟨t1, h3, ht1⟩ := hf _ _ _ _ _ _ ht h2
    unfold loop
    rw [h3]
    cases e1 with
    | normal => exact ih ht1 hh
    | _ => cases hh; exact ⟨t1, rfl, ht1⟩

theorem codeT_some (c : Code) : ∀ {lv : List Nat} {R : Type} {r : R} {t : Array Value} {env : SEnv} {h : H} {K : Ex → SEnv → H → Option R}, TE N t env → codeT P E SC (XC P rec k) N c lv R env h K = some r →
    ∃ e t' env' h', code P E rec k c t h = some (e, t', h') ∧ TE N t' env' ∧ K e env' h' = some r := by
  induction c with
  | skip => intro lv R r t env h K ht hh; unfold codeT at hh; exact ⟨_, t, env, h, by unfold code; rfl, ht, hh⟩
  | region id all d =>
    intro lv R r t env h K ht hh
    cases d with
    | false =>
      unfold codeT at hh
      obtain ⟨t', env', h', h1, h2, h3⟩ := opsT_some _ ht hh
      exact ⟨_, t', env', h', by unfold code; rw [h1]; rfl, h2, h3⟩
    | true =>
      unfold codeT at hh
      split at hh
      · rename_i ho
        obtain ⟨t', env', h', h1, h2, h3⟩ := drawT_some _ _ _ ht hh
        exact ⟨_, t', env', h', by unfold code draw; rw [if_pos ho, show drawGo P E rec (order P all) (Region.before (order P all)) (order P all).toList 0 [] t h = _ from h1]; rfl, h2, h3⟩
      · cases hh
  | seq a b iha ihb =>
    intro lv R r t env h K ht hh
    unfold codeT at hh
    obtain ⟨e, t', env', h', h1, h2, h3⟩ := iha ht hh
    unfold code
    rw [h1]
    cases e with
    | normal => exact ihb h2 h3
    | _ => exact ⟨_, t', env', h', rfl, h2, h3⟩
  | cond c a b iha ihb =>
    intro lv R r t env h K ht hh
    unfold codeT at hh
    unfold code
    split at hh
    · cases hh
    · rename_i ho
      rw [if_neg ho]
      obtain ⟨q, hq, h1⟩ := toC_some (ht.ev c) hh
      simp only [hq]
      cases q with
      | true => exact iha (ht.setK hq) h1
      | false => exact ihb (ht.setK hq) h1
  | block id c ih =>
    intro lv R r t env h K ht hh
    unfold codeT at hh
    obtain ⟨e, t', env', h', h1, h2, h3⟩ := ih ht hh
    unfold code
    rw [h1]
    cases e with
    | exit i =>
      simp only at h3
      split at h3
      · rename_i ei; exact ⟨_, t', env', h', by simp only [Option.map_some, if_pos ei], h2, h3⟩
      · rename_i ei; exact ⟨_, t', env', h', by simp only [Option.map_some, if_neg ei], h2, h3⟩
    | _ => exact ⟨_, t', env', h', rfl, h2, h3⟩
  | loop c ih =>
    intro lv R r t env h K ht hh
    unfold codeT at hh
    unfold code
    replace hh := toVs_env ht _ hh
    obtain ⟨⟨e, ws', h'⟩, h1, hh⟩ := bind_some' hh
    have h2 := onEx_some _ hh
    have h0 : TE N t (mixed SC c lv env ((carr c lv).map fun i => t.getD i undef)) := ⟨ht.1, mixed_is (fun i j hj => carr_gv (g := fun i => t.getD i undef) hj) (fun i _ => ht.2 i)⟩
    obtain ⟨t', h3, h4⟩ := loop_some (M := mixed SC c lv env) (f := code P E rec k c) (by
      intro t h ws e ws' h' ht' hG
      obtain ⟨e1, t1, env1, h1, g1, g2, g3⟩ := ih ht' hG
      replace g3 := toVs_env g2 _ g3
      replace g3 : some (e1, (carr c lv).map (fun i => t1.getD i undef), h1) = some (e, ws', h') := g3
      cases g3
      refine ⟨t1, g1, g2.1, mixed_is (fun i j hj => carr_gv (g := fun i => t1.getD i undef) hj) (fun i hi => ?_)⟩
      rw [code_writ c hi g1]
      have := ht'.2 i
      unfold mixed at this
      split at this
      · rename_i j hj
        have h6 := List.mem_of_getElem? (posn_some _ _ _ hj).2
        exact absurd (List.mem_filter.1 h6).1 hi
      · rw [if_neg (by simpa using hi)] at this
        exact this) k h0 h1
    exact ⟨e, t', _, h', h3, h4, h2⟩
  | exit id => intro lv R r t env h K ht hh; unfold codeT at hh; exact ⟨_, t, env, h, by unfold code; rfl, ht, hh⟩
  | ret => intro lv R r t env h K ht hh; unfold codeT at hh; exact ⟨_, t, env, h, by unfold code; rfl, ht, hh⟩
  | _ => intro lv R r t env h K ht hh; unfold codeT at hh; cases hh

theorem resT_some {t : Array Value} {env : SEnv} (ht : TE N t env) {h : H} : ∀ (l : List ResultVar) (acc : List Value) {K : List Value → Option R}, resT (XC P rec k R) env h l acc K = some r →
    ∃ vs, l.mapM (resV P t h) = some vs ∧ K (acc.reverse ++ vs) = some r := by
  intro l
  induction l with
  | nil => intro acc K hh; exact ⟨[], rfl, by simpa [resT] using hh⟩
  | cons x l ih =>
    intro acc K hh
    have key : ∀ v, resV P t h x = some v → resT (XC P rec k R) env h l (v :: acc) K = some r → ∃ vs, (x :: l).mapM (resV P t h) = some vs ∧ K (acc.reverse ++ vs) = some r := by
      intro v h1 h2
      obtain ⟨vs, h3, h4⟩ := ih _ h2
      exact ⟨v :: vs, by rw [List.mapM_cons, h1, h3]; rfl, by simpa using h4⟩
    cases x with
    | tmp i => exact key _ rfl (toV_some (ht.2 i) hh)
    | cell a ty =>
      obtain ⟨b, o, ha, hh⟩ := toP_some (ht.2 a) hh
      obtain ⟨v, hv, hh⟩ := ld_some hh
      exact key v (by simp only [resV, ha]; exact hv) hh

theorem bodyT_some {f : FuncId} {args : List SV} {h : H} {K : Value → H → Option R} (hh : bodyT P E SC (XC P rec k) f R args h K = some r) :
    ∃ v h', body P E rec k f (args.map SV.val).toArray h = some (v, h') ∧ K v h' = some r := by
  unfold bodyT at hh
  unfold body
  split at hh
  · rename_i fn hfn
    simp only [hfn]
    split at hh
    · rename_i c hc
      simp only [hc]
      split at hh
      · cases hh
      · rename_i hname
        rw [if_neg hname]
        split at hh
        · rename_i hlen
          have ht : TE fn.ntmps ((args.map SV.val).toArray ++ Array.replicate (fn.ntmps - (args.map SV.val).toArray.size) undef) (fun i => args.getD i .und) := by
            refine ⟨by simp; omega, fun i => ?_⟩
            rw [Array.getD_eq_getD_getElem?, Array.getElem?_append]
            simp only [List.size_toArray, List.length_map, List.getElem?_toArray, List.getElem?_map, List.getD_eq_getElem?_getD]
            split
            · rename_i hi
              rw [List.getElem?_eq_getElem hi]
              exact .inr rfl
            · rename_i hi
              rw [List.getElem?_eq_none (by omega)]
              rw [Array.getElem?_replicate]
              split <;> exact .inr rfl
          obtain ⟨e, t', env', h', h1, h2, h3⟩ := codeT_some c ht hh
          have fin : (resT (XC P rec k R) env' h' fn.results.toList [] fun vs => K (res1 vs) h') = some r → ∃ v h'', ((res P fn t' h').map (·, h')) = some (v, h'') ∧ K v h'' = some r := by
            intro h3
            obtain ⟨vs, h4, h5⟩ := resT_some h2 _ _ h3
            refine ⟨res1 vs, h', ?_, h5⟩
            unfold res
            rw [h4]
            unfold res1
            cases vs with
            | nil => rfl
            | cons v vs => cases vs <;> rfl
          rw [h1]
          cases e with
          | exit i => cases h3
          | normal => exact fin h3
          | ret => exact fin h3
        · cases hh
    · cases hh
  · cases hh

/-- A call by the staged evaluator. -/
theorem call_of_bodyT {n : Nat} {f : FuncId} {args : List SV} {h h' : H} {v : Value} (hi : E.iso f = false)
    (hh : bodyT P E SC (XC P (call P E n) (n + 1)) f (Value × H) args h (fun v h => some (v, h)) = some (v, h')) : call P E (n + 1) f (args.map SV.val).toArray h = some (v, h') := by
  obtain ⟨v1, h1, g1, g2⟩ := bodyT_some hh
  cases g2
  unfold call
  rw [hi]
  exact g1

end
end Go.AM
