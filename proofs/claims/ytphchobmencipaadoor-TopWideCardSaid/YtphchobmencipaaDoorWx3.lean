/- Parts of the proof, put together: the abstract machine, what the functions of the program answer, and plain laws. -/
import Derived.ChangeArms
import Derived.ChangeSlices
import Derived.WideShapes
import Derived.SizedLaws
import Derived.Test.YtphchobmencipaaDoorProg
import Derived.KernelRfl
import Derived.Test.YtphchobmencipaaDoorWx2

section
namespace Go.AM
/-- A value of which something is known. -/
inductive SV where
  | int (k : IntKind) (n : Int)
  | bool (b : Bool)
  | kb (b : Bool)
  | ptr (b o : Nat)
  | fn (f : FuncId) (xs ys : List Value)
  | opq (v : Value)
  | und
  | top
def SV.val : SV → Value
  | .int k n => .int k n
  | .bool b => .bool b
  | .kb b => .bool b
  | .ptr b o => .pointer (some ⟨b, o, none⟩)
  | .fn f xs ys => .func (.func f) xs.toArray ys.toArray
  | .opq v => v
  | .und => undef
  | .top => undef
def liftV (v : Value) : SV :=
  match v with
  | .int k n => .int k n
  | .bool b => .kb b
  | v => .opq v
abbrev SEnv := Nat → SV
def evS (env : SEnv) : Operand → SV
  | .tmp i => env i
  | .const v => liftV v
  | .global g => .ptr g 0
  | .func f => .fn f [] []
/-- The plain functions of the staged evaluator. -/
structure Sc where
  add : IntKind → Int → Int → Int
  sub : IntKind → Int → Int → Int
  mul : IntKind → Int → Int → Int
  quo : IntKind → Int → Int → Int
  rem : IntKind → Int → Int → Int
  and : IntKind → Int → Int → Int
  or : IntKind → Int → Int → Int
  xor : IntKind → Int → Int → Int
  andNot : IntKind → Int → Int → Int
  shl : IntKind → Int → Int → Int
  shr : IntKind → Int → Int → Int
  wr : IntKind → Int → Int
  com : IntKind → Int → Int
  lt : Int → Int → Bool
  le : Int → Int → Bool
  eq : Int → Int → Bool
  not : Bool → Bool
  min : Int → Int → Int
  max : Int → Int → Int
  nx : H → Nat
  same : H → H → Bool
  off : Nat → Nat → Nat
  at_ : Nat → Int → Nat → Nat
  fre : Nat → Nat → Nat → Nat → Nat → Nat → Nat → Bool
  freq : Nat → Nat → Bool → Bool
  fres : Value → Nat → Bool → Bool
  frem : Value → Nat → Bool → Bool
  gv : List Value → Nat → Value
  frew : Nat → Value → Nat → Bool
  twm : Value → Value → Bool
/-- The steps of the staged evaluator. -/
structure Xs (R : Type) where
  ifB : Bool → Option R → Option R → Option R
  ck : Bool → Option R → Option R
  asI : IntKind → Value → (Int → Option R) → Option R
  asK : Value → (Int → Option R) → Option R
  asB : Value → (Bool → Option R) → Option R
  asP : Value → (Nat → Nat → Option R) → Option R
  nz : Int → Option R → Option R
  nn : Int → Option R → Option R
  ld : H → TypeId → Nat → Nat → (Value → Option R) → Option R
  st : H → TypeId → Nat → Nat → Value → (H → Option R) → Option R
  al : H → TypeId → List Value → (H → Option R) → Option R
  bx : H → TypeId → Value → (H → Option R) → Option R
  bld : TypeId → List (Nat × Value) → (Value → Option R) → Option R
  bls : H → TypeId → Nat → List (Nat × Value) → (Value → H → Option R) → Option R
  nil : Value → Option R → Option R
  eqv : TypeId → Value → Value → (Bool → Option R) → Option R
  mks : H → TypeId → Int → Int → (Value → H → Option R) → Option R
  mkm : H → (H → Option R) → Option R
  sli : H → TypeId → Value → Option Value → Option Value → Option Value → (Value → Option R) → Option R
  fld : TypeId → Value → Nat → (Value → Option R) → Option R
  six : Value → Int → Nat → (Nat → Nat → Option R) → Option R
  aix : Nat → Int → Option R → Option R
  inx : TypeId → Value → Int → (Value → Option R) → Option R
  lok : H → TypeId → Value → Value → Bool → (Value → Option R) → Option R
  mup : H → TypeId → Value → Value → Value → (H → Option R) → Option R
  ext : Value → Nat → (Value → Option R) → Option R
  len : Value → (Int → Option R) → Option R
  mlen : H → Value → (Int → Option R) → Option R
  app : H → TypeId → TypeId → Value → Value → (Value → H → Option R) → Option R
  call : H → FuncId → List Value → (Value → H → Option R) → Option R
  callV : H → Value → List Value → (Value → H → Option R) → Option R
  onE : Ex → Nat → Option R → Option R → Option R
  onR : Ex → Option R → Option R
  lp : (List Value → H → Option (Ex × List Value × H)) → List Value → H → (Ex → List Value → H → Option R) → Option R
  out : Ex → List Value → H → Option (Ex × List Value × H)
  cpy : H → TypeId → Value → Value → (Int → H → Option R) → Option R
  clr : H → TypeId → Value → (H → Option R) → Option R
  men : H → TypeId → Value → Value → (Value → H → Option R) → Option R
  est : H → Value → Value → Value → (H → Option R) → Option R
  del : H → TypeId → Value → Value → (H → Option R) → Option R
section
variable (P : Program) (E : Env) (S : Sc)
def putS (env : SEnv) (d : Option Tmp) (v : SV) : SEnv :=
  match d with
  | some d => fun i => cond (Nat.beq i d) v (env i)
  | none => env
def setK (env : SEnv) (c : Operand) (b : Bool) : SEnv :=
  match c with
  | .tmp d => fun i => cond (Nat.beq i d) (.kb b) (env i)
  | _ => env
variable {R : Type} (X : Xs R)
def toI (k : IntKind) (s : SV) (K : Int → Option R) : Option R :=
  match s with
  | .int k' n => if k' = k then K n else none
  | .opq v => X.asI k v K
  | _ => none
def toK (s : SV) (K : Int → Option R) : Option R :=
  match s with
  | .int _ n => K n
  | .opq v => X.asK v K
  | _ => none
def toV (s : SV) (K : Value → Option R) : Option R :=
  match s with
  | .top => none
  | s => K s.val
def toS (s : SV) (K : SV → Option R) : Option R :=
  match s with
  | .top => none
  | s => K s
def toVs : List SV → (List Value → Option R) → Option R
  | [], K => K []
  | s :: l, K => toV s fun v => toVs l fun vs => K (v :: vs)
def toVo (s : Option SV) (K : Option Value → Option R) : Option R :=
  match s with
  | none => K none
  | some s => toV s fun v => K (some v)
def toPs : List (Nat × SV) → (List (Nat × Value) → Option R) → Option R
  | [], K => K []
  | (i, s) :: l, K => toV s fun v => toPs l fun vs => K ((i, v) :: vs)
def toP (s : SV) (K : Nat → Nat → Option R) : Option R :=
  match s with
  | .ptr b o => K b o
  | .opq v => X.asP v K
  | _ => none
def toC (s : SV) (K : Bool → Option R) : Option R :=
  match s with
  | .kb true => K true
  | .kb false => K false
  | .bool q => X.ifB q (K true) (K false)
  | .opq v => X.asB v fun q => X.ifB q (K true) (K false)
  | _ => none
def shape (t : TypeId) (v : Value) (K : SV → Option R) : Option R :=
  match P.underlying t with
  | some (.int k) => X.asI k v fun n => K (.int k n)
  | some .bool => X.asB v fun b => K (.bool b)
  | _ => K (.opq v)
def arithT (op : BinOp) (k : IntKind) (a b : Int) (K : SV → Option R) : Option R :=
  match op with
  | .add => K (.int k (S.add k a b))
  | .sub => K (.int k (S.sub k a b))
  | .mul => K (.int k (S.mul k a b))
  | .quo => X.nz b (K (.int k (S.quo k a b)))
  | .rem => X.nz b (K (.int k (S.rem k a b)))
  | .and => K (.int k (S.and k a b))
  | .or => K (.int k (S.or k a b))
  | .xor => K (.int k (S.xor k a b))
  | .andNot => K (.int k (S.andNot k a b))
  | .eql => K (.bool (S.eq a b))
  | .neq => K (.bool (S.not (S.eq a b)))
  | .lss => K (.bool (S.lt a b))
  | .leq => K (.bool (S.le a b))
  | .gtr => K (.bool (S.lt b a))
  | .geq => K (.bool (S.le b a))
  | _ => none
def binT (op : BinOp) (t : TypeId) (x y : SV) (K : SV → Option R) : Option R :=
  match P.underlying t with
  | some (.int k) =>
    match op with
    | .shl => toI X k x fun a => toK X y fun b => X.nn b (K (.int k (S.shl k a b)))
    | .shr => toI X k x fun a => toK X y fun b => X.nn b (K (.int k (S.shr k a b)))
    | op => toI X k x fun a => toI X k y fun b => arithT S X op k a b K
  | _ =>
    match op with
    | .eql => toV x fun x => toV y fun y => X.eqv t x y fun b => K (.bool b)
    | .neq => toV x fun x => toV y fun y => X.eqv t x y fun b => K (.bool (S.not b))
    | _ => none
def unT (op : UnOp) (t : TypeId) (x : SV) (K : SV → Option R) : Option R :=
  match op with
  | .not =>
    match x with
    | .kb true => K (.kb false)
    | .kb false => K (.kb true)
    | .bool b => K (.bool (S.not b))
    | .opq v => X.asB v fun b => K (.bool (S.not b))
    | _ => none
  | .neg => match P.underlying t with
    | some (.int k) => toI X k x fun a => K (.int k (S.sub k 0 a))
    | _ => none
  | .xor => match P.underlying t with
    | some (.int k) => toI X k x fun a => K (.int k (S.com k a))
    | _ => none
  | _ => none
def fieldOff (s : TypeId) (f : Nat) : Option Nat :=
  match P.underlying s with
  | some (.struct fs) => (fs[f]?).bind fun f => (size? P f.type).bind fun n => if n = 0 then none else some f.offset
  | _ => none
def opT (o : Oper) (env : SEnv) (h : H) (K : SV → H → Option R) : Option R :=
  if !(o.op.operands.toList.all (okOperand E)) then none else
  let e := evS env
  match o.op with
  | .move x | .assign x => toS (e x) fun s => K s h
  | .pick c a b => toC X (e c) fun q => if q then toS (e a) fun s => K s h else toS (e b) fun s => K s h
  | .alloc t => match zero? P t with
    | some z => X.al h t z.cells.toList fun h' => K (.ptr (S.nx h) 0) h'
    | none => none
  | .box t x => match size? P t with
    | some _ => toV (e x) fun x => X.bx h t x fun h' => K (.ptr (S.nx h) 0) h'
    | none => none
  | .build t ps => toPs (ps.toList.map fun (i, x) => (i, e x)) fun ps => X.bld t ps fun v => K (.opq v) h
  | .buildSlice t n ps => toPs (ps.toList.map fun (i, x) => (i, e x)) fun ps => X.bls h t n ps fun v h' => K (.opq v) h'
  | .load t a => toP X (e a) fun b o => X.ld h t b o fun v => shape P X t v fun s => K s h
  | .store t a x => toP X (e a) fun b o => toV (e x) fun v => X.st h t b o v fun h' => K .und h'
  | .nilCheck x => match e x with
    | .ptr b o => K (.ptr b o) h
    | .fn f a b => K (.fn f a b) h
    | .opq v => X.nil v (K (.opq v) h)
    | _ => none
  | .binOp b t x y _ => binT P S X b t (e x) (e y) fun s => K s h
  | .unOp b t x => unT P S X b t (e x) fun s => K s h
  | .convert s d x => match P.underlying s, P.underlying d with
    | some (.int ks), some (.int kd) => toI X ks (e x) fun n => K (.int kd (S.wr kd n)) h
    | _, _ => none
  | .makeFunc fn first captured => match fn with
    | .func f => toVs (first.toList.map e) fun xs => toVs (captured.toList.map e) fun ys => K (.fn f xs ys) h
    | _ => none
  | .makeMap _ r => match r with
    | none => X.mkm h fun h' => K (.opq (.map (some (S.nx h)))) h'
    | some _ => none
  | .makeSlice t l c => toK X (e l) fun a => toK X (e c) fun b => X.mks h t a b fun v h' => K (.opq v) h'
  | .slice t x lo hi mx => toV (e x) fun x => toVo (lo.map e) fun lo => toVo (hi.map e) fun hi => toVo (mx.map e) fun mx => X.sli h t x lo hi mx fun v => K (.opq v) h
  | .fieldAddr s x f => toP X (e x) fun b o => match fieldOff P s f with
    | some d => K (.ptr b (if d = 0 then o else S.off o d)) h
    | none => none
  | .field s x f => toV (e x) fun x => X.fld s x f fun v => shape P X o.type v fun s => K s h
  | .indexAddr t x i => match P.underlying t with
    | some (.slice el) => match size? P el with
      | some s => toV (e x) fun x => toK X (e i) fun i => X.six x i s fun b o => K (.ptr b o) h
      | none => none
    | some (.array n el) => match size? P el with
      | some s => toP X (e x) fun b o => toK X (e i) fun i => X.aix n i (K (.ptr b (S.at_ o i s)) h)
      | none => none
    | _ => none
  | .index t x i => toV (e x) fun x => toK X (e i) fun i => X.inx t x i fun v => shape P X o.type v fun s => K s h
  | .lookup t m k ok => toV (e m) fun m => toV (e k) fun k => X.lok h t m k ok fun v => shape P X o.type v fun s => K s h
  | .mapUpdate t m k x | .insert t m k x => toV (e m) fun m => toV (e k) fun k => toV (e x) fun x => X.mup h t m k x fun h' => K .und h'
  | .mapEntry t m k => toV (e m) fun m => toV (e k) fun k => X.men h t m k fun v h' => K (.opq v) h'
  | .entryStore _ m s x => toV (e m) fun m => toV (e s) fun s => toV (e x) fun x => X.est h m s x fun h' => K .und h'
  | .extract x i => toV (e x) fun x => X.ext x i fun v => shape P X o.type v fun s => K s h
  | .call c => match c.callee with
    | .builtin .len => match c.argTypes.toList, c.args.toList with
      | t :: _, [x] => match P.underlying t with
        | some (.slice _) => toV (e x) fun x => X.len x fun n => K (.int .i64 n) h
        | some (.map _ _) => toV (e x) fun x => X.mlen h x fun n => K (.int .i64 n) h
        | _ => none
      | _, _ => none
    | .builtin .append => match c.argTypes.toList, c.args.toList with
      | [s, t], [x, y] => toV (e x) fun x => toV (e y) fun y => X.app h s t x y fun v h' => K (.opq v) h'
      | _, _ => none
    | .builtin .copy => match c.argTypes.toList, c.args.toList with
      | t :: _, [x, y] => toV (e x) fun x => toV (e y) fun y => X.cpy h t x y fun n h' => K (.int .i64 n) h'
      | _, _ => none
    | .builtin .clear => match c.argTypes.toList, c.args.toList with
      | t :: _, [x] => toV (e x) fun x => X.clr h t x fun h' => K .und h'
      | _, _ => none
    | .builtin .delete => match c.argTypes.toList, c.args.toList with
      | t :: _, [x, y] => toV (e x) fun x => toV (e y) fun y => X.del h t x y fun h' => K .und h'
      | _, _ => none
    | .builtin .min => match P.underlying o.type, c.args.toList with
      | some (.int k), [x, y] => toI X k (e x) fun a => toI X k (e y) fun b => K (.int k (S.min a b)) h
      | _, _ => none
    | .builtin .max => match P.underlying o.type, c.args.toList with
      | some (.int k), [x, y] => toI X k (e x) fun a => toI X k (e y) fun b => K (.int k (S.max a b)) h
      | _, _ => none
    | .value f => match e f with
      | .fn f xs ys => toVs (c.args.toList.map e) fun as_ => X.call h f (xs ++ as_ ++ ys) fun v h' => shape P X o.type v fun s => K s h'
      | .opq v => toVs (c.args.toList.map e) fun as_ => X.callV h v as_ fun v h' => shape P X o.type v fun s => K s h'
      | _ => none
    | _ => none
  | _ => none
/-- May the operation be wanted? -/
def wantT (all : Array Oper) (o : Oper) (N : Nat) (env : SEnv) (K : Bool → SEnv → Option R) : Option R :=
  match o.guard with
  | none => K true env
  | some (j, w) => match (all[j]?).bind (·.dst) with
    | some d => if d < N then
        match env d with
        | .und => K false env
        | s => toC X s fun q => K (q == w) (setK env (.tmp d) q)
      else none
    | none => K false env
def okDst (N : Nat) (d : Option Tmp) : Bool :=
  match d with
  | some d => decide (d < N)
  | none => true
def opsT (N : Nat) (all : Array Oper) : List Oper → SEnv → H → (SEnv → H → Option R) → Option R
  | [], env, h, K => K env h
  | o :: rest, env, h, K =>
    if okDst N o.dst then
      wantT X all o N env fun q env =>
        if q then opT P E S X o env h fun v h => opsT N all rest (putS env o.dst v) h K
        else opsT N all rest (putS env o.dst .und) h K
    else none
/-- What an operation touches, as_ far as_ it is known. -/
inductive FPT where
  | pure
  | ld (b o n : Nat)
  | rd
  | rs (v : Value)
  | rm (v : Value)
  | st (b o n : Nat)
  | md
  | al
  | wm (v : Value)
def FPT.fp : FPT → FP
  | .pure => .pure
  | .ld b o n => .ld b o n
  | .rd => .rd
  | .rs v => match v with
    | .slice (some ⟨b, _, none⟩) _ _ => .rb b
    | .slice none _ _ => .pure
    | _ => .rd
  | .rm v => match v with
    | .map (some b) => .rb b
    | _ => .rd
  | .st b o n => .st b o n
  | .md => .md
  | .al => .al
  | .wm v => match v with
    | .map (some b) => .wb b
    | _ => .md
structure DidT where
  i : Nat
  f : FPT
  lo : Nat
  q : Bool
def DidT.did (d : DidT) : Did := ⟨d.i, d.f.fp, d.lo, d.q⟩
def fpT (env : SEnv) (o : Oper) (K : FPT → Option R) : Option R :=
  let at_ (st : Bool) (ty : TypeId) (a : SV) : Option R :=
    toP X a fun b o => match size? P ty with
      | some n => if n = 0 then none else K (if st then .st b o n else .ld b o n)
      | none => none
  match o.op with
  | .move _ | .assign _ | .pick .. | .build .. | .nilCheck _ | .binOp .. | .unOp .. | .convert .. | .makeFunc .. | .fieldAddr .. | .field ..
  | .indexAddr .. | .index .. | .extract .. => K .pure
  | .load ty a => at_ false ty (evS env a)
  | .store ty a _ => at_ true ty (evS env a)
  | .lookup _ m _ _ => toV (evS env m) fun v => K (.rm v)
  | .slice _ x _ _ _ => toV (evS env x) fun v => K (.rs v)
  | .call c => match c.callee with
    | .builtin .len => match (c.argTypes[0]?).bind P.underlying with
      | some (.slice _) => K .pure
      | _ => K .rd
    | .builtin .min => K .pure
    | .builtin .max => K .pure
    | _ => K .md
  | .mapUpdate _ m _ _ => toV (evS env m) fun v => K (.wm v)
  | .insert _ m _ _ => toV (evS env m) fun v => K (.wm v)
  | .mapEntry _ m _ => toV (evS env m) fun v => K (.wm v)
  | .entryStore _ m _ _ => toV (evS env m) fun v => K (.wm v)
  | .alloc _ | .box .. | .buildSlice .. | .makeSlice .. | .makeMap .. => K .md
  | _ => none
def isIntS : SV → Bool
  | .int _ _ => true
  | _ => false
def fpTA (al : Bool) (env : SEnv) (o : Oper) (K : FPT → Option R) : Option R :=
  if al && allocKind P o then (if o.op.operands.toList.all fun x => isIntS (evS env x) then K .al else none)
  else if al && lookKind o then fpT P X env o fun _ => K .rd
  else fpT P X env o K
def freeT (x y : DidT) (K : Option R) : Option R :=
  match x.f, y.f with
  | .pure, _ => K
  | _, .pure => K
  | .ld b o n, .st b' o' n' => X.ck (S.fre b y.lo o n b' o' n') K
  | .st b' o' n', .ld b o n => X.ck (S.fre b x.lo o n b' o' n') K
  | .ld b _ _, .md => X.ck (S.freq b y.lo y.q) K
  | .md, .ld b _ _ => X.ck (S.freq b x.lo x.q) K
  | .rs v, .md => X.ck (S.fres v y.lo y.q) K
  | .md, .rs v => X.ck (S.fres v x.lo x.q) K
  | .rm v, .md => X.ck (S.frem v y.lo y.q) K
  | .md, .rm v => X.ck (S.frem v x.lo x.q) K
  | .ld b _ _, .al => X.ck (S.freq b y.lo y.q) K
  | .al, .ld b _ _ => X.ck (S.freq b x.lo x.q) K
  | .rs v, .al => X.ck (S.fres v y.lo y.q) K
  | .al, .rs v => X.ck (S.fres v x.lo x.q) K
  | .rm v, .al => X.ck (S.frem v y.lo y.q) K
  | .al, .rm v => X.ck (S.frem v x.lo x.q) K
  | .md, .al => K
  | .st _ _ _, .al => K
  | .al, .al => K
  | .wm _, .al => K
  | .ld b _ _, .wm v => X.ck (S.frew b v y.lo) K
  | .wm v, .ld b _ _ => X.ck (S.frew b v x.lo) K
  | .ld _ _ _, .ld _ _ _ => K
  | .ld _ _ _, .rd => K
  | .rd, .ld _ _ _ => K
  | .rd, .rd => K
  | .ld _ _ _, .rs _ => K
  | .rs _, .ld _ _ _ => K
  | .ld _ _ _, .rm _ => K
  | .rm _, .ld _ _ _ => K
  | .rd, .rs _ => K
  | .rs _, .rd => K
  | .rd, .rm _ => K
  | .rm _, .rd => K
  | .rs _, .rs _ => K
  | .rs _, .rm _ => K
  | .rm _, .rs _ => K
  | .rm _, .rm _ => K
  | _, _ => none
def twinT (x y : DidT) (K : Option R) : Option R :=
  match x.f, y.f with
  | .rm v, .wm v' => X.ck (S.twm v v') K
  | _, _ => none
def logT (all : Array Oper) (B : Nat) (y : DidT) : List DidT → Option R → Option R
  | [], K => K
  | d :: l, K => if B.testBit d.i then logT all B y l K else if twinOps all d.i y.i then twinT S X d y (logT all B y l K) else freeT S X d y (logT all B y l K)
def drawT (N : Nat) (all : Array Oper) (B : Array Nat) : List Oper → Nat → List DidT → SEnv → H → (SEnv → H → Option R) → Option R
  | [], _, _, env, h, K => K env h
  | o :: rest, j, log, env, h, K =>
    if okDst N o.dst then
      wantT X all o N env fun q env =>
        if q then fpTA P X (needAl P all) env o fun f => opT P E S X o env h fun v h' =>
          logT S X all (B.getD j 0) ⟨j, f, S.nx h, S.same h' h⟩ log
            (drawT N all B rest (j + 1) (⟨j, f, S.nx h, S.same h' h⟩ :: log) (putS env o.dst v) h' K)
        else drawT N all B rest (j + 1) log (putS env o.dst .und) h K
    else none
def writ : Code → List Nat
  | .region _ all _ => (all.toList.filterMap (·.dst)).eraseDups
  | .seq a b => (writ a ++ writ b).eraseDups
  | .cond _ a b => (writ a ++ writ b).eraseDups
  | .block _ c => writ c
  | .loop c => writ c
  | _ => []
def exitsOf : Code → List Nat
  | .seq a b => (exitsOf a ++ exitsOf b).eraseDups
  | .cond _ a b => (exitsOf a ++ exitsOf b).eraseDups
  | .block id c => (exitsOf c).filter (· != id)
  | .loop c => exitsOf c
  | .exit id => [id]
  | _ => []
def retsOf : Code → Bool
  | .seq a b => retsOf a || retsOf b
  | .cond _ a b => retsOf a || retsOf b
  | .block _ c => retsOf c
  | .loop c => retsOf c
  | .ret => true
  | _ => false
def rdOps : List Oper → List Nat → List Nat
  | [], _ => []
  | o :: l, w => ((AM.reads o).filter fun i => !w.contains i) ++ rdOps l (match o.dst with
    | some d => d :: w
    | none => w)
def kill : Code → List Nat
  | .region _ all _ => all.toList.filterMap (·.dst)
  | .seq a b => kill a ++ kill b
  | .cond _ a b => (kill a).filter fun i => (kill b).contains i
  | _ => []
def ue : Code → List Nat
  | .region _ all _ => (rdOps all.toList []).eraseDups
  | .seq a b => (ue a ++ (ue b).filter fun i => !(kill a).contains i).eraseDups
  | .cond c a b => ((match c with
    | .tmp i => [i]
    | _ => []) ++ ue a ++ ue b).eraseDups
  | .block _ c => ue c
  | .loop c => ue c
  | _ => []
/-- The temporaries that a loop carries. -/
def carr (c : Code) (lv : List Nat) : List Nat := (writ c).filter fun i => (ue c).contains i || lv.contains i
def posn (i : Nat) : List Nat → Nat → Option Nat
  | [], _ => none
  | x :: l, j => cond (Nat.beq x i) (some j) (posn i l (j + 1))
def mixed (c : Code) (lv : List Nat) (env : SEnv) (ws : List Value) : SEnv := fun i =>
  match posn i (carr c lv) 0 with
  | some j => .opq (S.gv ws j)
  | none => if (writ c).contains i then .top else env i
def onEx (e : Ex) (K : Ex → Option R) : List Nat → Bool → Option R
  | [], true => X.onR e (K .ret)
  | [], false => none
  | i :: l, r => X.onE e i (K (.exit i)) (onEx e K l r)
end
def codeT (P : Program) (E : Env) (S : Sc) (X : (R : Type) → Xs R) (N : Nat) : Code → List Nat → (R : Type) → SEnv → H → (Ex → SEnv → H → Option R) → Option R
  | .skip, _, _, env, h, K => K .normal env h
  | .region _ all false, _, R, env, h, K => opsT P E S (X R) N all all.toList env h fun env h => K .normal env h
  | .region _ all true, _, R, env, h, K =>
    if okOrder P all then drawT P E S (X R) N (order P all) (Region.before (order P all)) (order P all).toList 0 [] env h fun env h => K .normal env h else none
  | .seq a b, lv, R, env, h, K => codeT P E S X N a (ue b ++ lv) R env h fun e env h =>
    match e with
    | .normal => codeT P E S X N b lv R env h K
    | e => K e env h
  | .cond c a b, lv, R, env, h, K =>
    if !okOperand E c then none else
    toC (X R) (evS env c) fun q =>
      if q then codeT P E S X N a lv R (setK env c true) h K else codeT P E S X N b lv R (setK env c false) h K
  | .block id c, lv, R, env, h, K => codeT P E S X N c lv R env h fun e env h =>
    match e with
    | .exit i => if i = id then K .normal env h else K (.exit i) env h
    | e => K e env h
  | .loop c, lv, R, env, h, K =>
    toVs ((carr c lv).map env) fun ws =>
    (X R).lp
      (fun ws h => codeT P E S X N c (ue c ++ lv) (Ex × List Value × H) (mixed S c lv env ws) h fun e env h => toVs ((carr c lv).map env) fun ws => (X R).out e ws h)
      ws h
      fun e ws h => onEx (X R) e (fun e => K e (mixed S c lv env ws) h) (exitsOf c) (retsOf c)
  | .exit id, _, _, env, h, K => K (.exit id) env h
  | .ret, _, _, env, h, K => K .ret env h
  | _, _, _, _, _, _ => none
section
variable (P : Program) {R : Type} (X : Xs R)
def resT (env : SEnv) (h : H) : List ResultVar → List Value → (List Value → Option R) → Option R
  | [], acc, K => K acc.reverse
  | .tmp i :: l, acc, K => toV (env i) fun v => resT env h l (v :: acc) K
  | .cell a ty :: l, acc, K => toP X (env a) fun b o => X.ld h ty b o fun v => resT env h l (v :: acc) K
def resL (l : List ResultVar) : List Nat := l.map fun
  | .tmp i => i
  | .cell i _ => i
def res1 : List Value → Value
  | [v] => v
  | vs => .tuple vs.toArray
end
def bodyT (P : Program) (E : Env) (S : Sc) (X : (R : Type) → Xs R) (f : FuncId) (R : Type) (args : List SV) (h : H) (K : Value → H → Option R) : Option R :=
  match P.funcs[f]? with
  | some fn =>
    match fn.body with
    | some c =>
      if fn.name = "runtime.NumGoroutine" then none
      else if args.length ≤ fn.ntmps then
        codeT P E S X fn.ntmps c (resL fn.results.toList) R (fun i => args.getD i .und) h fun e env h =>
          match e with
          | .exit _ => none
          | _ => resT (X R) env h fn.results.toList [] fun vs => K (res1 vs) h
      else none
    | none => none
  | none => none
def add (k : IntKind) (a b : Int) : Int := k.wrap (a + b)
def sub (k : IntKind) (a b : Int) : Int := k.wrap (a - b)
def mul (k : IntKind) (a b : Int) : Int := k.wrap (a * b)
def quo (k : IntKind) (a b : Int) : Int := k.wrap (a.tdiv b)
def rem (_ : IntKind) (a b : Int) : Int := a.tmod b
def and (k : IntKind) (a b : Int) : Int := k.wrap (BitVec.ofInt k.bits a &&& BitVec.ofInt k.bits b).toNat
def or (k : IntKind) (a b : Int) : Int := k.wrap (BitVec.ofInt k.bits a ||| BitVec.ofInt k.bits b).toNat
def xor (k : IntKind) (a b : Int) : Int := k.wrap (BitVec.ofInt k.bits a ^^^ BitVec.ofInt k.bits b).toNat
def andNot (k : IntKind) (a b : Int) : Int := k.wrap (BitVec.ofInt k.bits a &&& ~~~BitVec.ofInt k.bits b).toNat
def shl (k : IntKind) (a b : Int) : Int := k.wrap (a * 2 ^ min b.toNat k.bits)
def shr (k : IntKind) (a b : Int) : Int := a.fdiv (2 ^ min b.toNat k.bits)
def wr (k : IntKind) (a : Int) : Int := k.wrap a
def com (k : IntKind) (a : Int) : Int := xor k (if k.signed then -1 else k.max) a
def lt (a b : Int) : Bool := decide (a < b)
def le (a b : Int) : Bool := decide (a ≤ b)
def eq (a b : Int) : Bool := a == b
def imin (a b : Int) : Int := if b < a then b else a
def imax (a b : Int) : Int := if a < b then b else a
def nx (h : H) : Nat := h.nx
def same (h h' : H) : Bool := decide (h.wr = h'.wr)
def off (o d : Nat) : Nat := o + d
def at_ (o : Nat) (i : Int) (s : Nat) : Nat := o + i.toNat * s
def fre (b lo o n b' o' n' : Nat) : Bool := decide (b < lo) && decide (b ≠ b' ∨ o + n ≤ o' ∨ o' + n' ≤ o)
def freq (b lo : Nat) (q : Bool) : Bool := decide (b < lo) && q
def fres (v : Value) (lo : Nat) (q : Bool) : Bool :=
  match v with
  | .slice (some ⟨b, _, none⟩) _ _ => decide (b < lo) && q
  | .slice none _ _ => true
  | _ => false
def frew (b : Nat) (v : Value) (lo : Nat) : Bool :=
  match v with
  | .map (some b') => decide (b < lo) && decide (b ≠ b')
  | _ => false
def frem (v : Value) (lo : Nat) (q : Bool) : Bool :=
  match v with
  | .map (some b) => decide (b < lo) && q
  | _ => false
def twm (v v' : Value) : Bool :=
  match v, v' with
  | .map (some b), .map (some b') => b == b'
  | _, _ => false
def gv (ws : List Value) (i : Nat) : Value := ws.getD i undef
def ifB {R : Type} (b : Bool) (x y : Option R) : Option R := if b then x else y
def ck {R : Type} (b : Bool) (x : Option R) : Option R := if b then x else none
def asI {R : Type} (k : IntKind) (v : Value) (K : Int → Option R) : Option R :=
  match v with
  | .int k' n => if k' = k then K n else none
  | _ => none
def asK {R : Type} (v : Value) (K : Int → Option R) : Option R :=
  match v with
  | .int _ n => K n
  | _ => none
def asB {R : Type} (v : Value) (K : Bool → Option R) : Option R :=
  match v with
  | .bool b => K b
  | _ => none
def asP {R : Type} (v : Value) (K : Nat → Nat → Option R) : Option R :=
  match v with
  | .pointer (some ⟨b, o, none⟩) => K b o
  | _ => none
def nz {R : Type} (b : Int) (x : Option R) : Option R := if b = 0 then none else x
def nn {R : Type} (b : Int) (x : Option R) : Option R := if b < 0 then none else x
section
variable (P : Program) (rec : Rec) (k : Nat) {R : Type}
def ld (h : H) (t : TypeId) (b o : Nat) (K : Value → Option R) : Option R := (load P t (.pointer (some ⟨b, o, none⟩)) h).bind K
def st (h : H) (t : TypeId) (b o : Nat) (v : Value) (K : H → Option R) : Option R := (store P t (.pointer (some ⟨b, o, none⟩)) v h).bind K
def al (h : H) (t : TypeId) (cs : List Value) (K : H → Option R) : Option R := K (h.new (.row cs t true))
def bx (h : H) (t : TypeId) (v : Value) (K : H → Option R) : Option R := K (h.new (.row v.cells.toList t true))
def bld (t : TypeId) (ps : List (Nat × Value)) (K : Value → Option R) : Option R := (build P t ps).bind K
def bls (h : H) (t : TypeId) (n : Nat) (ps : List (Nat × Value)) (K : Value → H → Option R) : Option R :=
  (buildSlice P t n ps h).bind fun (v, h) => K v h
def nil (v : Value) (x : Option R) : Option R :=
  match v with
  | .pointer (some _) => x
  | .func (.func _) _ _ => x
  | _ => none
def eqv (t : TypeId) (x y : Value) (K : Bool → Option R) : Option R :=
  match binOp P .eql t x y with
  | some (.bool q) => K q
  | _ => none
def mks (h : H) (t : TypeId) (a b : Int) (K : Value → H → Option R) : Option R :=
  (makeSlice P t (.int .i64 a) (.int .i64 b) h).bind fun (v, h) => K v h
def mkm (h : H) (K : H → Option R) : Option R := K (h.new (.mp [] 0))
def sli (h : H) (t : TypeId) (v : Value) (lo hi mx : Option Value) (K : Value → Option R) : Option R := (slice P t v lo hi mx h).bind K
def fld (t : TypeId) (v : Value) (f : Nat) (K : Value → Option R) : Option R := (field P t v f).bind K
def six (v : Value) (i : Int) (s : Nat) (K : Nat → Nat → Option R) : Option R :=
  match v with
  | .slice (some ⟨b, o, none⟩) n _ => if 0 ≤ i ∧ i < n then K b (o + i.toNat * s) else none
  | _ => none
def aix (n : Nat) (i : Int) (x : Option R) : Option R := if 0 ≤ i ∧ i < n then x else none
def inx (t : TypeId) (v : Value) (i : Int) (K : Value → Option R) : Option R := (index P t v (.int .i64 i)).bind K
def lok (h : H) (t : TypeId) (m x : Value) (ok : Bool) (K : Value → Option R) : Option R := (lookup P t m x ok h).bind K
def mup (h : H) (t : TypeId) (m x v : Value) (K : H → Option R) : Option R := (mapUpdate P t m x v h).bind K
def men (h : H) (t : TypeId) (m x : Value) (K : Value → H → Option R) : Option R := (mapEntry P t m x h).bind fun (v, h) => K v h
def est (h : H) (m s x : Value) (K : H → Option R) : Option R := (entryStore m s x h).bind K
def del (h : H) (t : TypeId) (m x : Value) (K : H → Option R) : Option R := (deleteM P [t] m x h).bind fun (_, h') => K h'
def ext (v : Value) (i : Nat) (K : Value → Option R) : Option R :=
  match v with
  | .tuple vs => (vs[i]?).bind K
  | _ => none
def len (v : Value) (K : Int → Option R) : Option R :=
  match v with
  | .slice _ n _ => K n
  | _ => none
def mlen (h : H) (v : Value) (K : Int → Option R) : Option R :=
  match v with
  | .map none => K 0
  | .map (some b) => match h.blk b with
    | some (.mp es _) => K es.length
    | _ => none
  | _ => none
def app (h : H) (s t : TypeId) (x y : Value) (K : Value → H → Option R) : Option R := (append P [s, t] x y h).bind fun (v, h) => K v h
def cpy (h : H) (t : TypeId) (d x : Value) (K : Int → H → Option R) : Option R :=
  match copyS P [t] d x h with
  | some (.int .i64 n, h') => K n h'
  | _ => none
def clr (h : H) (t : TypeId) (x : Value) (K : H → Option R) : Option R := (clearS P [t] x h).bind fun (_, h') => K h'
def calls (h : H) (f : FuncId) (xs : List Value) (K : Value → H → Option R) : Option R := (rec f xs.toArray h).bind fun (v, h) => K v h
def callsV (h : H) (v : Value) (xs : List Value) (K : Value → H → Option R) : Option R := (callV rec v xs.toArray h).bind fun (v, h) => K v h
def onE (e : Ex) (i : Nat) (x y : Option R) : Option R :=
  match e with
  | .exit j => if j = i then x else y
  | _ => y
def onR (e : Ex) (x : Option R) : Option R :=
  match e with
  | .ret => x
  | _ => none
def lpGo (F : List Value → H → Option (Ex × List Value × H)) : Nat → List Value → H → Option (Ex × List Value × H)
  | 0, _, _ => none
  | m + 1, ws, h => (F ws h).bind fun (e, ws, h) =>
    match e with
    | .normal => lpGo F m ws h
    | e => some (e, ws, h)
def lp (F : List Value → H → Option (Ex × List Value × H)) (ws : List Value) (h : H) (K : Ex → List Value → H → Option R) : Option R :=
  (lpGo F k ws h).bind fun (e, ws, h) => K e ws h
end
def out (e : Ex) (ws : List Value) (h : H) : Option (Ex × List Value × H) := some (e, ws, h)
def SC : Sc where
  add := add
  sub := sub
  mul := mul
  quo := quo
  rem := rem
  and := and
  or := or
  xor := xor
  andNot := andNot
  shl := shl
  shr := shr
  wr := wr
  com := com
  lt := lt
  le := le
  eq := eq
  not := Bool.not
  min := imin
  max := imax
  nx := nx
  same := same
  off := off
  at_ := at_
  fre := fre
  freq := freq
  fres := fres
  frem := frem
  frew := frew
  twm := twm
  gv := gv
def XC (P : Program) (rec : Rec) (k : Nat) (R : Type) : Xs R where
  ifB := ifB
  ck := ck
  asI := asI
  asK := asK
  asB := asB
  asP := asP
  nz := nz
  nn := nn
  ld := ld P
  st := st P
  al := al
  bx := bx
  bld := bld P
  bls := bls P
  nil := nil
  eqv := eqv P
  mks := mks P
  mkm := mkm
  sli := sli P
  fld := fld P
  six := six
  aix := aix
  inx := inx P
  lok := lok P
  mup := mup P
  ext := ext
  len := len
  mlen := mlen
  app := app P
  call := calls rec
  callV := callsV rec
  onE := onE
  onR := onR
  lp := lp k
  out := out
  cpy := cpy P
  clr := clr P
  men := men P
  est := est
  del := del P
end Go.AM
namespace Go.AM
/-- The value is what is known of it. -/
def Is (s : SV) (v : Value) : Prop := s = .top ∨ s.val = v
/-- The temporaries, and what is known of them. -/
def TE (N : Nat) (t : Array Value) (env : SEnv) : Prop := t.size = N ∧ ∀ i, Is (env i) (t.getD i undef)
theorem liftV_val (v : Value) : (liftV v).val = v := by cases v <;> rfl
theorem TE.ev {N : Nat} {t : Array Value} {env : SEnv} (h : TE N t env) (x : Operand) : Is (evS env x) (ev t x) := by
  cases x with
  | tmp i => exact h.2 i
  | const v => exact .inr (liftV_val v)
  | global g => exact .inr rfl
  | func f => exact .inr rfl
theorem getD_set {t : Array Value} {d : Nat} (hd : d < t.size) (v : Value) (i : Nat) : (t.setIfInBounds d v).getD i undef = if i = d then v else t.getD i undef := by
  rw [Array.getD_eq_getD_getElem?, Array.getElem?_setIfInBounds, Array.getD_eq_getD_getElem?]
  by_cases h : d = i
  · subst h; simp [hd]
  · simp [h, Ne.symm h]
theorem TE.put {N : Nat} {t : Array Value} {env : SEnv} (h : TE N t env) {d : Option Tmp} (hd : okDst N d = true) {s : SV} {v : Value} (hs : Is s v) : TE N (put t d v) (putS env d s) := by
  cases d with
  | none => exact h
  | some d =>
    have hlt : d < N := of_decide_eq_true hd
    refine ⟨by simp [AM.put, h.1], fun i => ?_⟩
    simp only [AM.put, putS]
    rw [getD_set (by rw [h.1]; exact hlt)]
    by_cases hi : i = d
    · subst hi; simpa using hs
    · have : Nat.beq i d = false := Bool.eq_false_iff.2 fun h => hi (Nat.eq_of_beq_eq_true h)
      simpa [hi, this] using h.2 i
theorem TE.setK {N : Nat} {t : Array Value} {env : SEnv} (h : TE N t env) {c : Operand} {b : Bool} (hc : AM.ev t c = .bool b) : TE N t (setK env c b) := by
  cases c with
  | tmp d =>
    refine ⟨h.1, fun i => ?_⟩
    simp only [AM.setK]
    by_cases hi : i = d
    · subst hi
      have : Nat.beq i i = true := by simp
      rw [this]
      exact .inr hc.symm
    · have : Nat.beq i d = false := Bool.eq_false_iff.2 fun h => hi (Nat.eq_of_beq_eq_true h)
      rw [this]
      exact h.2 i
  | const v => exact h
  | global g => exact h
  | func f => exact h
section
variable {P : Program} {E : Env} {rec : Rec} {k : Nat} {R : Type} {r : R}
theorem toI_some {kd : IntKind} {s : SV} {v : Value} {K : Int → Option R} (hs : Is s v) (h : toI (XC P rec k R) kd s K = some r) : ∃ n, v = .int kd n ∧ K n = some r := by
  cases s with
  | int k' n =>
    simp only [toI] at h
    split at h
    · rename_i e; subst e; exact ⟨n, (hs.resolve_left (by simp)).symm, h⟩
    · cases h
  | opq v =>
    replace h : asI kd v K = some r := h
    unfold asI at h
    split at h
    · split at h
      · rename_i e; subst e; exact ⟨_, (hs.resolve_left (by simp)).symm, h⟩
      · cases h
    · cases h
  | _ => cases h
theorem toK_some {s : SV} {v : Value} {K : Int → Option R} (hs : Is s v) (h : toK (XC P rec k R) s K = some r) : ∃ kd n, v = .int kd n ∧ K n = some r := by
  cases s with
  | int k' n => exact ⟨k', n, (hs.resolve_left (by simp)).symm, h⟩
  | opq v =>
    replace h : asK v K = some r := h
    unfold asK at h
    split at h
    · exact ⟨_, _, (hs.resolve_left (by simp)).symm, h⟩
    · cases h
  | _ => cases h
theorem toP_some {s : SV} {v : Value} {K : Nat → Nat → Option R} (hs : Is s v) (h : toP (XC P rec k R) s K = some r) : ∃ b o, v = .pointer (some ⟨b, o, none⟩) ∧ K b o = some r := by
  cases s with
  | ptr b o => exact ⟨b, o, (hs.resolve_left (by simp)).symm, h⟩
  | opq v =>
    replace h : asP v K = some r := h
    unfold asP at h
    split at h
    · exact ⟨_, _, (hs.resolve_left (by simp)).symm, h⟩
    · cases h
  | _ => cases h
theorem toV_some {s : SV} {v : Value} {K : Value → Option R} (hs : Is s v) (h : toV s K = some r) : K v = some r := by
  unfold toV at h
  split at h
  · cases h
  · rename_i hn; rw [hs.resolve_left hn] at h; exact h
theorem toS_some {s : SV} {v : Value} {K : SV → Option R} (hs : Is s v) (h : toS s K = some r) : ∃ s' : SV, Is s' v ∧ K s' = some r := by
  unfold toS at h
  split at h
  · cases h
  · exact ⟨s, hs, h⟩
theorem toVs_some {t : Array Value} {env : SEnv} {N : Nat} (ht : TE N t env) : ∀ (l : List Operand) {K : List Value → Option R}, toVs (l.map (evS env)) K = some r → K (l.map (AM.ev t)) = some r := by
  intro l
  induction l with
  | nil => intro K h; exact h
  | cons x l ih => intro K h; exact ih (toV_some (ht.ev x) h)
theorem toPs_some {t : Array Value} {env : SEnv} {N : Nat} (ht : TE N t env) : ∀ (l : List (Nat × Operand)) {K : List (Nat × Value) → Option R}, toPs (l.map fun (i, x) => (i, evS env x)) K = some r →
    K (l.map fun (i, x) => (i, AM.ev t x)) = some r := by
  intro l
  induction l with
  | nil => intro K h; exact h
  | cons x l ih => intro K h; exact ih (toV_some (ht.ev x.2) h)
theorem toVo_some {t : Array Value} {env : SEnv} {N : Nat} (ht : TE N t env) (x : Option Operand) {K : Option Value → Option R} (h : toVo (x.map (evS env)) K = some r) : K (x.map (AM.ev t)) = some r := by
  cases x with
  | none => exact h
  | some x => exact toV_some (K := fun v => K (some v)) (ht.ev x) h
theorem ifB_some {b : Bool} {K : Bool → Option R} (h : ifB b (K true) (K false) = some r) : K b = some r := by
  cases b <;> exact h
theorem toC_some {s : SV} {v : Value} {K : Bool → Option R} (hs : Is s v) (h : toC (XC P rec k R) s K = some r) : ∃ b, v = .bool b ∧ K b = some r := by
  cases s with
  | kb b => cases b <;> exact ⟨_, (hs.resolve_left (by simp)).symm, h⟩
  | bool b => exact ⟨b, (hs.resolve_left (by simp)).symm, ifB_some (K := K) h⟩
  | opq v =>
    replace h : asB v (fun q => ifB q (K true) (K false)) = some r := h
    unfold asB at h
    split at h
    · exact ⟨_, (hs.resolve_left (by simp)).symm, ifB_some (K := K) h⟩
    · cases h
  | _ => cases h
theorem shape_some {t : TypeId} {v : Value} {K : SV → Option R} (h : shape P (XC P rec k R) t v K = some r) : ∃ s : SV, Is s v ∧ K s = some r := by
  unfold shape at h
  split at h
  · have h : asI _ v _ = some r := h
    unfold asI at h
    split at h
    · split at h
      · rename_i e; subst e; exact ⟨_, .inr rfl, h⟩
      · cases h
    · cases h
  · have h : asB v _ = some r := h
    unfold asB at h
    split at h
    · exact ⟨_, .inr rfl, h⟩
    · cases h
  · exact ⟨_, .inr rfl, h⟩
theorem eqv_some {t : TypeId} {x y : Value} {K : Bool → Option R} (h : eqv P t x y K = some r) : ∃ q, binOp P .eql t x y = some (.bool q) ∧ binOp P .neq t x y = some (.bool (!q)) ∧ K q = some r := by
  unfold eqv at h
  split at h
  · rename_i q hq
    refine ⟨q, hq, ?_, h⟩
    unfold binOp at hq ⊢
    split at hq
    · simp only at hq ⊢
      split at hq
      · rename_i e
        simp only [intBin, Option.some.injEq, Value.bool.injEq] at hq
        rw [if_pos e]
        simp only [intBin]
        rw [← hq]
        rfl
      · cases hq
    · split at hq
      · cases hq
      · rename_i e
        rw [if_neg e]
        simp only [Option.map_eq_some_iff] at hq ⊢
        obtain ⟨q', h1, h2⟩ := hq
        cases h2
        exact ⟨_, h1, rfl⟩
    · simp only [Option.map_eq_some_iff] at hq ⊢
      obtain ⟨q', h1, h2⟩ := hq
      cases h2
      exact ⟨_, h1, rfl⟩
  · cases h
theorem arithT_some {b : BinOp} {kd : IntKind} {x y : Int} {K : SV → Option R} (h : arithT SC (XC P rec k R) b kd x y K = some r) : ∃ s : SV, intBin b kd x y = some s.val ∧ K s = some r := by
  cases b <;> simp only [arithT] at h <;> first | cases h; done | skip
  case quo =>
    have h : nz y _ = some r := h
    unfold nz at h
    split at h
    · cases h
    · rename_i e
      exact ⟨_, by simp only [intBin]; rw [if_neg e]; rfl, h⟩
  case rem =>
    have h : nz y _ = some r := h
    unfold nz at h
    split at h
    · cases h
    · rename_i e
      exact ⟨_, by simp only [intBin]; rw [if_neg e]; rfl, h⟩
  all_goals exact ⟨_, rfl, h⟩
theorem binT_some {b : BinOp} {t : TypeId} {x y : SV} {vx vy : Value} (hx : Is x vx) (hy : Is y vy) {K : SV → Option R} (hh : binT P SC (XC P rec k R) b t x y K = some r) : ∃ s : SV, binOp P b t vx vy = some s.val ∧ K s = some r := by
  have key : ∀ kd, (toI (XC P rec k R) kd x fun a => toI (XC P rec k R) kd y fun c => arithT SC (XC P rec k R) b kd a c K) = some r → b ≠ .shl → b ≠ .shr → ∃ s : SV, binOp P b t vx vy = some s.val ∧ K s = some r := by
    intro kd h h1 h2
    obtain ⟨a, ha, h⟩ := toI_some hx h
    obtain ⟨c, hc, h⟩ := toI_some hy h
    obtain ⟨s, hs, h⟩ := arithT_some h
    refine ⟨s, ?_, h⟩
    rw [ha, hc]
    cases b <;> first | (exact absurd rfl h1) | (exact absurd rfl h2) | (simp only [binOp, if_true]; exact hs)
  have key2 : ∀ kd, (toI (XC P rec k R) kd x fun a => toK (XC P rec k R) y fun c => nn c (K (.int kd (shl kd a c)))) = some r → b = .shl → ∃ s : SV, binOp P b t vx vy = some s.val ∧ K s = some r := by
    intro kd h h1
    subst h1
    clear hh
    obtain ⟨a, ha, h⟩ := toI_some hx h
    obtain ⟨kc, c, hc, h⟩ := toK_some hy h
    unfold nn at h
    split at h
    · cases h
    · rename_i e
      exact ⟨_, by rw [ha, hc]; simp only [binOp]; rw [if_neg e]; rfl, h⟩
  have key3 : ∀ kd, (toI (XC P rec k R) kd x fun a => toK (XC P rec k R) y fun c => nn c (K (.int kd (shr kd a c)))) = some r → b = .shr → ∃ s : SV, binOp P b t vx vy = some s.val ∧ K s = some r := by
    intro kd h h1
    subst h1
    clear hh
    obtain ⟨a, ha, h⟩ := toI_some hx h
    obtain ⟨kc, c, hc, h⟩ := toK_some hy h
    unfold nn at h
    split at h
    · cases h
    · rename_i e
      exact ⟨_, by rw [ha, hc]; simp only [binOp]; rw [if_neg e]; rfl, h⟩
  unfold binT at hh
  split at hh
  · split at hh
    · exact key2 _ hh rfl
    · exact key3 _ hh rfl
    · rename_i h1 h2
      exact key _ hh h1 h2
  · split at hh
    · replace hh := toV_some hy (toV_some hx hh)
      obtain ⟨q, h1, h2, h3⟩ := eqv_some hh
      exact ⟨.bool q, h1, h3⟩
    · replace hh := toV_some hy (toV_some hx hh)
      obtain ⟨q, h1, h2, h3⟩ := eqv_some hh
      exact ⟨.bool (!q), h2, h3⟩
    · cases hh
theorem unT_some {b : UnOp} {t : TypeId} {x : SV} {vx : Value} (hx : Is x vx) {K : SV → Option R} (h : unT P SC (XC P rec k R) b t x K = some r) : ∃ s : SV, unOp b vx = some s.val ∧ K s = some r := by
  unfold unT at h
  split at h
  · split at h
    · rw [← hx.resolve_left (by simp)]; exact ⟨_, rfl, h⟩
    · rw [← hx.resolve_left (by simp)]; exact ⟨_, rfl, h⟩
    · rw [← hx.resolve_left (by simp)]; exact ⟨_, rfl, h⟩
    · rw [← hx.resolve_left (by simp)]
      have h : asB _ _ = some r := h
      unfold asB at h
      split at h
      · exact ⟨_, rfl, h⟩
      · cases h
    · cases h
  · split at h
    · obtain ⟨n, hn, h⟩ := toI_some hx h
      refine ⟨_, ?_, h⟩
      rw [hn]
      rfl
    · cases h
  · split at h
    · obtain ⟨n, hn, h⟩ := toI_some hx h
      refine ⟨_, ?_, h⟩
      rw [hn]
      rfl
    · cases h
  · cases h
theorem len_some {v : Value} {K : Int → Option R} (h : len v K = some r) : ∃ b n c, v = .slice b n c ∧ K n = some r := by
  unfold len at h
  split at h
  · exact ⟨_, _, _, rfl, h⟩
  · cases h
theorem bind_some' {α β : Type} {x : Option α} {f : α → Option β} {b : β} (h : x.bind f = some b) : ∃ a, x = some a ∧ f a = some b := Option.bind_eq_some_iff.1 h
theorem map_val (t : Array Value) (l : Array Operand) : l.map (AM.ev t) = (l.toList.map (AM.ev t)).toArray := by
  apply Array.ext'
  simp only [Array.toList_map]
end
end Go.AM
namespace Go.AM
section
variable {P : Program} {E : Env} {rec : Rec} {k : Nat} {R : Type} {r : R}
theorem ld_some {h : H} {ty : TypeId} {b o : Nat} {K : Value → Option R} (hh : ld P h ty b o K = some r) : ∃ v, load P ty (.pointer (some ⟨b, o, none⟩)) h = some v ∧ K v = some r := bind_some' hh
theorem fieldAddr_off {s : TypeId} {f b o d : Nat} (h : fieldOff P s f = some d) : fieldAddr P s (.pointer (some ⟨b, o, none⟩)) f = some (.pointer (some ⟨b, o + d, none⟩)) := by
  unfold fieldOff at h
  unfold fieldAddr
  split at h
  · rename_i fs e
    simp only [e]
    obtain ⟨g, h1, h⟩ := bind_some' h
    obtain ⟨n, h2, h⟩ := bind_some' h
    split at h
    · cases h
    · rename_i e1
      cases h
      rw [h1, Option.bind_some, h2, Option.bind_some, if_neg e1]
  · cases h
theorem mks_kind {t : TypeId} {ka kb : IntKind} {a b : Int} {h : H} : makeSlice P t (.int ka a) (.int kb b) h = makeSlice P t (.int .i64 a) (.int .i64 b) h := by
  unfold makeSlice
  cases P.underlying t with
  | none => rfl
  | some d => cases d <;> rfl
theorem inx_kind {t : TypeId} {v : Value} {ka : IntKind} {a : Int} : index P t v (.int ka a) = index P t v (.int .i64 a) := by
  unfold index
  cases P.underlying t with
  | none => rfl
  | some d => cases d <;> first | rfl | (cases v <;> rfl)
theorem opT_some {N : Nat} {t : Array Value} {env : SEnv} (ht : TE N t env) {o : Oper} {h : H} {K : SV → H → Option R} (hh : opT P E SC (XC P rec k R) o env h K = some r) :
    ∃ (s : SV) (v : Value) (h' : H), op P E rec t o h = some (v, h') ∧ Is s v ∧ K s h' = some r := by
  obtain ⟨dst, x, ty, pos, aft, gu⟩ := o
  unfold opT at hh
  unfold op
  split at hh
  · cases hh
  · rename_i hok
    rw [if_neg hok]
    cases x with
    | move x =>
      obtain ⟨s, h1, h2⟩ := toS_some (ht.ev x) hh
      exact ⟨s, _, h, rfl, h1, h2⟩
    | assign x =>
      obtain ⟨s, h1, h2⟩ := toS_some (ht.ev x) hh
      exact ⟨s, _, h, rfl, h1, h2⟩
    | pick c a b =>
      obtain ⟨q, hq, h1⟩ := toC_some (ht.ev c) hh
      simp only [hq]
      cases q
      · obtain ⟨s, h2, h3⟩ := toS_some (ht.ev b) h1
        exact ⟨s, _, h, rfl, h2, h3⟩
      · obtain ⟨s, h2, h3⟩ := toS_some (ht.ev a) h1
        exact ⟨s, _, h, rfl, h2, h3⟩
    | alloc t' =>
      simp only at hh
      split at hh
      · rename_i z hz
        exact ⟨.ptr h.nx 0, _, _, by simp only [alloc, hz]; rfl, .inr rfl, hh⟩
      · cases hh
    | box t' x =>
      simp only at hh
      split at hh
      · rename_i n hn
        replace hh := toV_some (ht.ev x) hh
        exact ⟨.ptr h.nx 0, _, _, by simp only [box, hn]; rfl, .inr rfl, hh⟩
      · cases hh
    | build t' ps =>
      replace hh := toPs_some ht ps.toList hh
      obtain ⟨v, h1, h2⟩ := bind_some' hh
      refine ⟨.opq v, v, h, ?_, .inr rfl, h2⟩
      simp only [h1]; rfl
    | buildSlice t' n ps =>
      replace hh := toPs_some ht ps.toList hh
      obtain ⟨⟨v, h'⟩, h1, h2⟩ := bind_some' hh
      exact ⟨.opq v, v, h', h1, .inr rfl, h2⟩
    | load t' a =>
      obtain ⟨b, o, ha, h1⟩ := toP_some (ht.ev a) hh
      obtain ⟨v, hv, h2⟩ := ld_some h1
      obtain ⟨s, hs, h3⟩ := shape_some h2
      refine ⟨s, v, h, ?_, hs, h3⟩
      simp only [ha, hv]; rfl
    | store t' a x =>
      obtain ⟨b, o, ha, h1⟩ := toP_some (ht.ev a) hh
      replace h1 := toV_some (ht.ev x) h1
      obtain ⟨h', hv, h2⟩ := bind_some' h1
      refine ⟨.und, undef, h', ?_, .inr rfl, h2⟩
      simp only [ha, hv]; rfl
    | nilCheck x =>
      simp only at hh ⊢
      have hx := ht.ev x
      split at hh
      · rename_i b o e; rw [e] at hx; exact ⟨.ptr b o, _, h, by rw [← hx.resolve_left (by simp)]; rfl, .inr rfl, hh⟩
      · rename_i f a b e; rw [e] at hx; exact ⟨.fn f a b, _, h, by rw [← hx.resolve_left (by simp)]; rfl, .inr rfl, hh⟩
      · rename_i v e
        rw [e] at hx
        rw [← hx.resolve_left (by simp)]
        replace hh : nil v (K (.opq v) h) = some r := hh
        unfold nil at hh
        split at hh
        · exact ⟨_, _, h, rfl, .inr rfl, hh⟩
        · exact ⟨_, _, h, rfl, .inr rfl, hh⟩
        · cases hh
      · cases hh
    | binOp b t' x y yt =>
      obtain ⟨s, h1, h2⟩ := binT_some (ht.ev x) (ht.ev y) hh
      refine ⟨s, _, h, ?_, .inr rfl, h2⟩
      simp only [h1]; rfl
    | unOp b t' x =>
      obtain ⟨s, h1, h2⟩ := unT_some (ht.ev x) hh
      refine ⟨s, _, h, ?_, .inr rfl, h2⟩
      simp only [h1]; rfl
    | convert s d x =>
      simp only at hh
      split at hh
      · rename_i ks kd e1 e2
        obtain ⟨n, hn, h1⟩ := toI_some (ht.ev x) hh
        refine ⟨.int kd (wr kd n), _, h, ?_, .inr rfl, h1⟩
        simp only [hn, convert, e1, e2]; rfl
      · cases hh
    | makeFunc fn first captured =>
      simp only at hh ⊢
      split at hh
      · rename_i f
        replace hh := toVs_some ht captured.toList (toVs_some ht first.toList hh)
        refine ⟨_, _, h, rfl, ?_, hh⟩
        rw [map_val, map_val]
        exact .inr rfl
      · cases hh
    | makeMap t' re =>
      simp only at hh ⊢
      split at hh
      · exact ⟨.opq (.map (some h.nx)), _, _, rfl, .inr rfl, hh⟩
      · cases hh
    | makeSlice t' l c =>
      obtain ⟨ka, a, ha, h1⟩ := toK_some (ht.ev l) hh
      obtain ⟨kb, b, hb, h2⟩ := toK_some (ht.ev c) h1
      obtain ⟨⟨v, h'⟩, h3, h4⟩ := bind_some' h2
      refine ⟨.opq v, v, h', ?_, .inr rfl, h4⟩
      simp only [ha, hb]
      rw [mks_kind]
      exact h3
    | slice t' x lo hi mx =>
      replace hh := toV_some (ht.ev x) hh
      replace hh := toVo_some ht lo hh
      replace hh := toVo_some ht hi hh
      replace hh := toVo_some ht mx hh
      obtain ⟨v, h1, h2⟩ := bind_some' hh
      refine ⟨.opq v, v, h, ?_, .inr rfl, h2⟩
      simp only [h1]; rfl
    | fieldAddr s x f =>
      obtain ⟨b, o, ha, h1⟩ := toP_some (ht.ev x) hh
      split at h1
      · rename_i d hd
        refine ⟨_, _, h, ?_, .inr rfl, h1⟩
        simp only [ha, fieldAddr_off hd]
        by_cases hd0 : d = 0
        · subst hd0; rfl
        · rw [if_neg hd0]; rfl
      · cases h1
    | field s x f =>
      replace hh := toV_some (ht.ev x) hh
      obtain ⟨v, h1, h2⟩ := bind_some' hh
      obtain ⟨s', hs, h3⟩ := shape_some h2
      refine ⟨s', v, h, ?_, hs, h3⟩
      simp only [h1]; rfl
    | indexAddr t' x i =>
      simp only at hh
      split at hh
      · rename_i el hu
        split at hh
        · rename_i s hs
          replace hh := toV_some (ht.ev x) hh
          obtain ⟨ki, i', hi, h1⟩ := toK_some (ht.ev i) hh
          replace h1 : six (ev t x) i' s (fun b o => K (.ptr b o) h) = some r := h1
          unfold six at h1
          split at h1
          · rename_i b o n c hx
            split at h1
            · rename_i hb
              refine ⟨.ptr b (o + i'.toNat * s), _, h, ?_, .inr rfl, h1⟩
              simp only [hi, hx, indexAddr, hu, hs]
              rw [if_pos hb]; rfl
            · cases h1
          · cases h1
        · cases hh
      · rename_i n el hu
        split at hh
        · rename_i s hs
          obtain ⟨b, o, hx, hh⟩ := toP_some (ht.ev x) hh
          obtain ⟨ki, i', hi, h1⟩ := toK_some (ht.ev i) hh
          replace h1 : aix _ _ _ = some r := h1
          unfold aix at h1
          split at h1
          · rename_i hb
            refine ⟨.ptr b (at_ o i' s), _, h, ?_, .inr rfl, h1⟩
            simp only [hi, hx, indexAddr, hu, hs]
            rw [if_pos hb]; rfl
          · cases h1
        · cases hh
      · cases hh
    | index t' x i =>
      replace hh := toV_some (ht.ev x) hh
      obtain ⟨ki, i', hi, h1⟩ := toK_some (ht.ev i) hh
      obtain ⟨v, h2, h3⟩ := bind_some' h1
      obtain ⟨s', hs, h4⟩ := shape_some h3
      refine ⟨s', v, h, ?_, hs, h4⟩
      simp only [hi]
      rw [inx_kind, h2]; rfl
    | lookup t' m x ok =>
      replace hh := toV_some (ht.ev x) (toV_some (ht.ev m) hh)
      obtain ⟨v, h1, h2⟩ := bind_some' hh
      obtain ⟨s', hs, h3⟩ := shape_some h2
      refine ⟨s', v, h, ?_, hs, h3⟩
      simp only [h1]; rfl
    | mapUpdate t' m x y =>
      replace hh := toV_some (ht.ev y) (toV_some (ht.ev x) (toV_some (ht.ev m) hh))
      obtain ⟨h', h1, h2⟩ := bind_some' hh
      refine ⟨.und, undef, h', ?_, .inr rfl, h2⟩
      simp only [h1]; rfl
    | insert t' m x y =>
      replace hh := toV_some (ht.ev y) (toV_some (ht.ev x) (toV_some (ht.ev m) hh))
      obtain ⟨h', h1, h2⟩ := bind_some' hh
      refine ⟨.und, undef, h', ?_, .inr rfl, h2⟩
      simp only [h1]; rfl
    | mapEntry t' m x =>
      replace hh := toV_some (ht.ev x) (toV_some (ht.ev m) hh)
      obtain ⟨⟨v, h'⟩, h1, h2⟩ := bind_some' hh
      exact ⟨.opq v, v, h', h1, .inr rfl, h2⟩
    | entryStore t' m x y =>
      replace hh := toV_some (ht.ev y) (toV_some (ht.ev x) (toV_some (ht.ev m) hh))
      obtain ⟨h', h1, h2⟩ := bind_some' hh
      refine ⟨.und, undef, h', ?_, .inr rfl, h2⟩
      simp only [h1]; rfl
    | extract x i =>
      replace hh := toV_some (ht.ev x) hh
      replace hh : ext _ _ _ = some r := hh
      unfold ext at hh
      split at hh
      · rename_i vs hx
        obtain ⟨v, h1, h2⟩ := bind_some' hh
        obtain ⟨s', hs, h3⟩ := shape_some h2
        refine ⟨s', v, h, ?_, hs, h3⟩
        simp only [hx, h1]; rfl
      · cases hh
    | call c =>
      obtain ⟨ca, as_, tys⟩ := c
      simp only at hh ⊢
      cases ca with
      | value f =>
        simp only at hh ⊢
        have hf := ht.ev f
        split at hh
        · rename_i f' xs ys e
          replace hh := toVs_some ht as_.toList hh
          obtain ⟨⟨v, h'⟩, h1, h2⟩ := bind_some' hh
          obtain ⟨s', hs, h3⟩ := shape_some h2
          refine ⟨s', v, h', ?_, hs, h3⟩
          rw [e] at hf
          rw [← hf.resolve_left (by simp), map_val]
          rw [← h1]
          simp only [callV, SV.val]
          congr 1
          simp
        · rename_i v e
          replace hh := toVs_some ht as_.toList hh
          obtain ⟨⟨v', h'⟩, h1, h2⟩ := bind_some' hh
          obtain ⟨s', hs, h3⟩ := shape_some h2
          refine ⟨s', v', h', ?_, hs, h3⟩
          rw [e] at hf
          rw [← hf.resolve_left (by simp), map_val]
          exact h1
        · cases hh
      | builtin b =>
        cases b with
        | len =>
          simp only at hh ⊢
          split at hh
          · rename_i t' l' x hl ha
            have e1 : (tys.toList[0]?).bind P.underlying = P.underlying t' := by rw [hl]; rfl
            rw [ha]
            simp only [List.map_cons, List.map_nil, builtin, e1]
            split at hh
            · rename_i el hu
              replace hh := toV_some (ht.ev x) hh
              replace hh : len (ev t x) (fun n => K (.int .i64 n) h) = some r := hh
              obtain ⟨b, n, c, hv, h1⟩ := len_some hh
              rw [hu, hv]
              exact ⟨_, _, _, rfl, .inr rfl, h1⟩
            · rename_i kt vt hu
              replace hh := toV_some (ht.ev x) hh
              replace hh : mlen h (ev t x) (fun n => K (.int .i64 n) h) = some r := hh
              unfold mlen at hh
              rw [hu]
              split at hh
              · rename_i hv
                rw [hv]
                exact ⟨_, _, _, rfl, .inr rfl, hh⟩
              · rename_i b hv
                rw [hv]
                split at hh
                · rename_i es c hb
                  simp only [hb]
                  exact ⟨_, _, _, rfl, .inr rfl, hh⟩
                · cases hh
              · cases hh
            · cases hh
          · cases hh
        | append =>
          simp only at hh ⊢
          split at hh
          · rename_i s t' x y hl ha
            replace hh := toV_some (ht.ev y) (toV_some (ht.ev x) hh)
            obtain ⟨⟨v, h'⟩, h1, h2⟩ := bind_some' hh
            refine ⟨.opq v, v, h', ?_, .inr rfl, h2⟩
            rw [ha, hl]
            simp only [List.map_cons, List.map_nil, builtin]
            exact h1
          · cases hh
        | copy =>
          simp only at hh ⊢
          split at hh
          · rename_i t' tl x y hl ha
            replace hh := toV_some (ht.ev y) (toV_some (ht.ev x) hh)
            unfold XC cpy at hh
            simp only at hh
            split at hh
            · rename_i n h' hcp
              refine ⟨.int .i64 n, .int .i64 n, h', ?_, .inr rfl, hh⟩
              rw [ha, hl]
              simp only [List.map_cons, List.map_nil, builtin]
              exact hcp
            · cases hh
          · cases hh
        | clear =>
          simp only at hh ⊢
          split at hh
          · rename_i t' tl x hl ha
            replace hh := toV_some (ht.ev x) hh
            unfold XC clr at hh
            simp only at hh
            obtain ⟨⟨v, h'⟩, h1, h2⟩ := bind_some' hh
            have hv : v = undef := by
              unfold clearS at h1
              simp only at h1
              split at h1
              · split at h1
                · split at h1
                  · cases h1; rfl
                  · split at h1
                    · obtain ⟨_, _, h1⟩ := bind_some h1
                      split at h1
                      · split at h1
                        · cases h1; rfl
                        · cases h1
                      · cases h1
                    · cases h1
                · cases h1
              · cases h1
            subst hv
            refine ⟨.und, undef, h', ?_, .inr rfl, h2⟩
            rw [ha, hl]
            simp only [List.map_cons, List.map_nil, builtin]
            exact h1
          · cases hh
        | delete =>
          simp only at hh ⊢
          split at hh
          · rename_i t' tl x y hl ha
            replace hh := toV_some (ht.ev y) (toV_some (ht.ev x) hh)
            unfold XC del at hh
            simp only at hh
            obtain ⟨⟨v, h'⟩, h1, h2⟩ := bind_some' hh
            have hv : v = undef := by
              unfold deleteM at h1
              split at h1
              · split at h1
                · obtain ⟨_, _, h1⟩ := bind_some h1
                  obtain ⟨_, _, h1⟩ := map_some h1
                  split at h1 <;> (cases h1; rfl)
                · cases h1
              · cases h1
            subst hv
            refine ⟨.und, undef, h', ?_, .inr rfl, h2⟩
            rw [ha, hl]
            simp only [List.map_cons, List.map_nil, builtin]
            exact h1
          · cases hh
        | min =>
          simp only at hh ⊢
          split at hh
          · rename_i kd x y hu ha
            obtain ⟨a, h1, hh⟩ := toI_some (ht.ev x) hh
            obtain ⟨b, h2, hh⟩ := toI_some (ht.ev y) hh
            refine ⟨_, _, _, ?_, .inr rfl, hh⟩
            rw [ha]
            simp only [List.map_cons, List.map_nil, builtin, h1, h2]
            rfl
          · cases hh
        | max =>
          simp only at hh ⊢
          split at hh
          · rename_i kd x y hu ha
            obtain ⟨a, h1, hh⟩ := toI_some (ht.ev x) hh
            obtain ⟨b, h2, hh⟩ := toI_some (ht.ev y) hh
            refine ⟨_, _, _, ?_, .inr rfl, hh⟩
            rw [ha]
            simp only [List.map_cons, List.map_nil, builtin, h1, h2]
            rfl
          · cases hh
        | _ => cases hh
      | _ => cases hh
    | _ => cases hh
end
end Go.AM
namespace Go.AM
section
variable {P : Program} {E : Env} {rec : Rec} {k : Nat} {R : Type} {r : R} {N : Nat}
theorem wantT_some {t : Array Value} {env : SEnv} (ht : TE N t env) {all : Array Oper} {o : Oper} {K : Bool → SEnv → Option R} (hh : wantT (XC P rec k R) all o N env K = some r) :
    ∃ env', TE N t env' ∧ K (Region.wanted o (yielded all t)) env' = some r := by
  unfold wantT at hh
  unfold Region.wanted
  split at hh
  · rename_i e; rw [e]; exact ⟨env, ht, hh⟩
  · rename_i j w e
    rw [e]
    simp only [yielded]
    split at hh
    · rename_i d hd
      rw [hd]
      split at hh
      · rename_i hlt
        have hs := ht.2 d
        have hlt' := hlt
        rw [← ht.1] at hlt'
        rw [Array.getD_eq_getD_getElem?, Array.getElem?_eq_getElem hlt'] at hs
        simp only [Option.bind_some, Array.getElem?_eq_getElem hlt']
        split at hh
        · rename_i hu
          rw [hu] at hs
          have := hs.resolve_left (by simp)
          simp only [Option.getD_some] at this
          rw [← this]
          exact ⟨env, ht, hh⟩
        · obtain ⟨q, hq, h1⟩ := toC_some hs hh
          simp only [Option.getD_some] at hq
          rw [hq]
          refine ⟨_, ht.setK (c := .tmp d) (b := q) ?_, ?_⟩
          · simp only [ev, Array.getD_eq_getD_getElem?, Array.getElem?_eq_getElem hlt', hq, Option.getD_some]
          · rw [← h1]
            congr 1
      · cases hh
    · rename_i hd
      rw [hd]
      exact ⟨env, ht, hh⟩
theorem opsT_some {all : Array Oper} : ∀ (l : List Oper) {t : Array Value} {env : SEnv} {h : H} {K : SEnv → H → Option R}, TE N t env → opsT P E SC (XC P rec k R) N all l env h K = some r →
    ∃ t' env' h', ops P E rec all l t h = some (t', h') ∧ TE N t' env' ∧ K env' h' = some r := by
  intro l
  induction l with
  | nil => intro t env h K ht hh; exact ⟨t, env, h, rfl, ht, hh⟩
  | cons o rest ih =>
    intro t env h K ht hh
    unfold opsT at hh
    split at hh
    · rename_i hd
      obtain ⟨env', ht', h1⟩ := wantT_some ht hh
      unfold ops
      split at h1
      · rename_i hw
        rw [if_pos hw]
        obtain ⟨s, v, h', h2, hs, h3⟩ := opT_some ht' h1
        obtain ⟨t2, env2, h4, h5, h6, h7⟩ := ih (ht'.put hd hs) h3
        exact ⟨t2, env2, h4, by rw [h2]; exact h5, h6, h7⟩
      · rename_i hw
        rw [if_neg hw]
        exact ih (ht'.put hd (.inr rfl)) h1
    · cases hh
theorem fpT_some {t : Array Value} {env : SEnv} (ht : TE N t env) {o : Oper} {K : FPT → Option R} (hh : fpT P (XC P rec k R) env o K = some r) : ∃ f : FPT, fp P t o = some f.fp ∧ K f = some r := by
  have key : ∀ (q : Bool) (ty : TypeId) (a : SV) (va : Value), Is a va → (toP (XC P rec k R) a fun b o => match size? P ty with
      | some n => if n = 0 then none else K (if q then .st b o n else .ld b o n)
      | none => none) = some r → ∃ b o n, va = .pointer (some ⟨b, o, none⟩) ∧ size? P ty = some n ∧ n ≠ 0 ∧ K (if q then FPT.st b o n else FPT.ld b o n) = some r := by
    intro q ty a va hva h
    obtain ⟨b, o, ha, h1⟩ := toP_some hva h
    split at h1
    · rename_i n hn
      split at h1
      · cases h1
      · rename_i hz
        exact ⟨b, o, n, ha, hn, hz, h1⟩
    · cases h1
  obtain ⟨dst, x, ty, pos, aft, gu⟩ := o
  unfold fpT at hh
  unfold fp
  cases x with
  | load ty a =>
    obtain ⟨b, o, n, h1, h2, h3, h4⟩ := key false ty _ _ (ht.ev a) hh
    refine ⟨_, ?_, h4⟩
    simp only [h1, h2, Option.bind_some, if_neg h3]; rfl
  | store ty a x =>
    obtain ⟨b, o, n, h1, h2, h3, h4⟩ := key true ty _ _ (ht.ev a) hh
    refine ⟨_, ?_, h4⟩
    simp only [h1, h2, Option.bind_some, if_neg h3]; rfl
  | lookup ty m x ok =>
    refine ⟨.rm (ev t m), ?_, toV_some (ht.ev m) hh⟩
    show (match ev t m with
      | .map (some b) => some (FP.rb b)
      | _ => some FP.rd) = some (FPT.rm (ev t m)).fp
    generalize ev t m = u
    cases u with
    | map b => cases b <;> rfl
    | _ => rfl
  | slice ty x lo hi mx =>
    refine ⟨.rs (ev t x), ?_, toV_some (ht.ev x) hh⟩
    show (match ev t x with
      | .slice (some ⟨b, _, none⟩) _ _ => some (FP.rb b)
      | .slice none _ _ => some FP.pure
      | _ => some FP.rd) = some (FPT.rs (ev t x)).fp
    generalize ev t x = u
    cases u with
    | slice a n c =>
      cases a with
      | none => rfl
      | some a => obtain ⟨b, o, s⟩ := a; cases s <;> rfl
    | _ => rfl
  | mapUpdate ty m x y =>
    refine ⟨.wm (ev t m), ?_, toV_some (ht.ev m) hh⟩
    show (match ev t m with
      | .map (some b) => some (FP.wb b)
      | _ => some FP.md) = some (FPT.wm (ev t m)).fp
    generalize ev t m = u
    cases u with
    | map b => cases b <;> rfl
    | _ => rfl
  | insert ty m x y =>
    refine ⟨.wm (ev t m), ?_, toV_some (ht.ev m) hh⟩
    show (match ev t m with
      | .map (some b) => some (FP.wb b)
      | _ => some FP.md) = some (FPT.wm (ev t m)).fp
    generalize ev t m = u
    cases u with
    | map b => cases b <;> rfl
    | _ => rfl
  | mapEntry ty m x =>
    refine ⟨.wm (ev t m), ?_, toV_some (ht.ev m) hh⟩
    show (match ev t m with
      | .map (some b) => some (FP.wb b)
      | _ => some FP.md) = some (FPT.wm (ev t m)).fp
    generalize ev t m = u
    cases u with
    | map b => cases b <;> rfl
    | _ => rfl
  | entryStore ty m x y =>
    refine ⟨.wm (ev t m), ?_, toV_some (ht.ev m) hh⟩
    show (match ev t m with
      | .map (some b) => some (FP.wb b)
      | _ => some FP.md) = some (FPT.wm (ev t m)).fp
    generalize ev t m = u
    cases u with
    | map b => cases b <;> rfl
    | _ => rfl
  | call c =>
    obtain ⟨ca, as_, tys⟩ := c
    simp only at hh ⊢
    cases ca with
    | builtin b =>
      cases b with
      | len =>
        simp only at hh ⊢
        split at hh
        · rename_i e; simp only [e]; exact ⟨_, rfl, hh⟩
        · rename_i e1
          refine ⟨.rd, ?_, hh⟩
          split
          · rename_i e2; exact absurd e2 (e1 _)
          · rfl
      | _ => exact ⟨_, rfl, hh⟩
    | _ => exact ⟨_, rfl, hh⟩
  | _ => first | exact ⟨_, rfl, hh⟩ | cases hh
theorem fpTA_some {al : Bool} {t : Array Value} {env : SEnv} (ht : TE N t env) {o : Oper} {K : FPT → Option R} (hh : fpTA P (XC P rec k R) al env o K = some r) : ∃ f : FPT, fpA P al t o = some f.fp ∧ K f = some r := by
  unfold fpTA at hh
  unfold fpA
  split at hh
  · rename_i hk
    rw [if_pos hk]
    split at hh
    · rename_i hi
      refine ⟨.al, ?_, hh⟩
      rw [if_pos]
      · rfl
      · rw [List.all_eq_true] at hi ⊢
        intro x hx
        have h1 := hi x hx
        have h2 := ht.ev x
        generalize evS env x = s at h1 h2
        cases s <;> simp only [isIntS, Bool.false_eq_true] at h1
        rcases h2 with h2 | h2
        · cases h2
        · rw [← h2]; rfl
    · cases hh
  · rename_i hk
    rw [if_neg hk]
    split at hh
    · rename_i hl
      rw [if_pos hl]
      obtain ⟨f, h1, h2⟩ := fpT_some ht hh
      exact ⟨.rd, by rw [h1]; rfl, h2⟩
    · rename_i hl
      rw [if_neg hl]
      exact fpT_some ht hh
theorem ck_some {b : Bool} {x : Option R} (h : ck b x = some r) : b = true ∧ x = some r := by
  cases b
  · cases h
  · exact ⟨rfl, h⟩
theorem fres_free {v : Value} {lo : Nat} {q : Bool} (h : fres v lo q = true) : (FPT.rs v).fp = .pure ∨ ∃ b, (FPT.rs v).fp = .rb b ∧ (decide (b < lo) && q) = true := by
  unfold fres at h
  split at h
  · exact .inr ⟨_, rfl, h⟩
  · exact .inl rfl
  · cases h
theorem frem_free {v : Value} {lo : Nat} {q : Bool} (h : frem v lo q = true) : ∃ b, (FPT.rm v).fp = .rb b ∧ (decide (b < lo) && q) = true := by
  unfold frem at h
  split at h
  · exact ⟨_, rfl, h⟩
  · cases h
theorem rs_cases (v : Value) : (FPT.rs v).fp = .pure ∨ (FPT.rs v).fp = .rd ∨ ∃ b, (FPT.rs v).fp = .rb b := by
  simp only [FPT.fp]
  split
  · exact .inr (.inr ⟨_, rfl⟩)
  · exact .inl rfl
  · exact .inr (.inl rfl)
theorem rm_cases (v : Value) : (FPT.rm v).fp = .rd ∨ ∃ b, (FPT.rm v).fp = .rb b := by
  simp only [FPT.fp]
  split
  · exact .inr ⟨_, rfl⟩
  · exact .inl rfl
theorem free_pure_left {y : Did} {i lo : Nat} {q : Bool} : free ⟨i, .pure, lo, q⟩ y = true := by unfold free; rfl
theorem free_pure_right {x : Did} {i lo : Nat} {q : Bool} : free x ⟨i, .pure, lo, q⟩ = true := by unfold free; cases x.f <;> rfl
theorem freeT_some {x y : DidT} {K : Option R} (hh : freeT SC (XC P rec k R) x y K = some r) : free x.did y.did = true ∧ K = some r := by
  obtain ⟨i, f, lo, q⟩ := x
  obtain ⟨i', f', lo', q'⟩ := y
  unfold freeT at hh
  cases f <;> cases f' <;> simp only [reduceCtorEq] at hh <;> simp only [DidT.did]
  case rs.md v =>
    obtain ⟨h1, h2⟩ := ck_some hh
    rcases fres_free h1 with e | ⟨b, e, h3⟩
    · rw [e]; exact ⟨free_pure_left, h2⟩
    · rw [e]; exact ⟨h3, h2⟩
  case md.rs v =>
    obtain ⟨h1, h2⟩ := ck_some hh
    rcases fres_free h1 with e | ⟨b, e, h3⟩
    · rw [e]; exact ⟨free_pure_right, h2⟩
    · rw [e]; exact ⟨h3, h2⟩
  case ld.wm b _ _ v =>
    obtain ⟨h1, h2⟩ := ck_some hh
    replace h1 : frew b v lo' = true := h1
    unfold frew at h1
    split at h1
    · exact ⟨h1, h2⟩
    · cases h1
  case wm.ld v b _ _ =>
    obtain ⟨h1, h2⟩ := ck_some hh
    replace h1 : frew b v lo = true := h1
    unfold frew at h1
    split at h1
    · exact ⟨h1, h2⟩
    · cases h1
  case wm.al v =>
    refine ⟨?_, hh⟩
    simp only [FPT.fp]
    split <;> rfl
  case pure.wm v => exact ⟨free_pure_left, hh⟩
  case wm.pure v => exact ⟨free_pure_right, hh⟩
  case rs.al v =>
    obtain ⟨h1, h2⟩ := ck_some hh
    rcases fres_free h1 with e | ⟨b, e, h3⟩
    · rw [e]; exact ⟨free_pure_left, h2⟩
    · rw [e]; exact ⟨h3, h2⟩
  case al.rs v =>
    obtain ⟨h1, h2⟩ := ck_some hh
    rcases fres_free h1 with e | ⟨b, e, h3⟩
    · rw [e]; exact ⟨free_pure_right, h2⟩
    · rw [e]; exact ⟨h3, h2⟩
  case rm.al v =>
    obtain ⟨h1, h2⟩ := ck_some hh
    obtain ⟨b, e, h3⟩ := frem_free h1
    rw [e]; exact ⟨h3, h2⟩
  case al.rm v =>
    obtain ⟨h1, h2⟩ := ck_some hh
    obtain ⟨b, e, h3⟩ := frem_free h1
    rw [e]; exact ⟨h3, h2⟩
  case rm.md v =>
    obtain ⟨h1, h2⟩ := ck_some hh
    obtain ⟨b, e, h3⟩ := frem_free h1
    rw [e]; exact ⟨h3, h2⟩
  case md.rm v =>
    obtain ⟨h1, h2⟩ := ck_some hh
    obtain ⟨b, e, h3⟩ := frem_free h1
    rw [e]; exact ⟨h3, h2⟩
  case rs.rs v v' => rcases rs_cases v with e | e | ⟨b, e⟩ <;> rcases rs_cases v' with e' | e' | ⟨b', e'⟩ <;> rw [e, e'] <;> exact ⟨rfl, hh⟩
  case rs.rm v v' => rcases rs_cases v with e | e | ⟨b, e⟩ <;> rcases rm_cases v' with e' | ⟨b', e'⟩ <;> rw [e, e'] <;> exact ⟨rfl, hh⟩
  case rm.rs v v' => rcases rm_cases v with e | ⟨b, e⟩ <;> rcases rs_cases v' with e' | e' | ⟨b', e'⟩ <;> rw [e, e'] <;> exact ⟨rfl, hh⟩
  case rm.rm v v' => rcases rm_cases v with e | ⟨b, e⟩ <;> rcases rm_cases v' with e' | ⟨b', e'⟩ <;> rw [e, e'] <;> exact ⟨rfl, hh⟩
  case pure.rs v => exact ⟨free_pure_left, hh⟩
  case pure.rm v => exact ⟨free_pure_left, hh⟩
  case rs.pure v => exact ⟨free_pure_right, hh⟩
  case rm.pure v => exact ⟨free_pure_right, hh⟩
  case ld.rs v => rcases rs_cases v with e | e | ⟨b, e⟩ <;> rw [e] <;> exact ⟨rfl, hh⟩
  case rs.ld v _ _ _ => rcases rs_cases v with e | e | ⟨b, e⟩ <;> rw [e] <;> exact ⟨rfl, hh⟩
  case ld.rm v => rcases rm_cases v with e | ⟨b, e⟩ <;> rw [e] <;> exact ⟨rfl, hh⟩
  case rm.ld v _ _ _ => rcases rm_cases v with e | ⟨b, e⟩ <;> rw [e] <;> exact ⟨rfl, hh⟩
  case rd.rs v => rcases rs_cases v with e | e | ⟨b, e⟩ <;> rw [e] <;> exact ⟨rfl, hh⟩
  case rs.rd v => rcases rs_cases v with e | e | ⟨b, e⟩ <;> rw [e] <;> exact ⟨rfl, hh⟩
  case rd.rm v => rcases rm_cases v with e | ⟨b, e⟩ <;> rw [e] <;> exact ⟨rfl, hh⟩
  case rm.rd v => rcases rm_cases v with e | ⟨b, e⟩ <;> rw [e] <;> exact ⟨rfl, hh⟩
  all_goals first
    | exact ⟨rfl, hh⟩
    | exact ck_some hh
    | (cases hh; done)
theorem twinT_some {all : Array Oper} {x y : DidT} {K : Option R} (ht : twinOps all x.i y.i = true) (hh : twinT SC (XC P rec k R) x y K = some r) : twin all x.did y.did = true ∧ K = some r := by
  obtain ⟨i, f, lo, q⟩ := x
  obtain ⟨i', f', lo', q'⟩ := y
  unfold twinT at hh
  simp only at hh
  split at hh
  · obtain ⟨h1, h2⟩ := ck_some hh
    refine ⟨?_, h2⟩
    replace h1 : twm _ _ = true := h1
    unfold twm at h1
    split at h1
    · simp only [twin, DidT.did, FPT.fp, h1, Bool.true_and]
      exact ht
    · cases h1
  · cases hh
theorem logT_some {all : Array Oper} {B : Nat} {y : DidT} {K : Option R} : ∀ (l : List DidT), logT SC (XC P rec k R) all B y l K = some r → ((l.map DidT.did).all fun d => B.testBit d.i || (free d y.did || twin all d y.did)) = true ∧ K = some r := by
  intro l
  induction l with
  | nil => intro h; exact ⟨rfl, h⟩
  | cons d l ih =>
    intro h
    unfold logT at h
    rw [List.map_cons, List.all_cons]
    split at h
    · rename_i e
      obtain ⟨h1, h2⟩ := ih h
      exact ⟨by rw [h1]; simp [DidT.did, e], h2⟩
    · split at h
      · rename_i e
        obtain ⟨h0, h⟩ := twinT_some e h
        obtain ⟨h1, h2⟩ := ih h
        exact ⟨by rw [h0, h1]; simp, h2⟩
      · obtain ⟨h0, h⟩ := freeT_some h
        obtain ⟨h1, h2⟩ := ih h
        exact ⟨by rw [h0, h1]; simp, h2⟩
theorem drawT_some {all : Array Oper} {B : Array Nat} : ∀ (l : List Oper) (j : Nat) (log : List DidT) {t : Array Value} {env : SEnv} {h : H} {K : SEnv → H → Option R}, TE N t env →
    drawT P E SC (XC P rec k R) N all B l j log env h K = some r → ∃ t' env' h', drawGo P E rec all B l j (log.map DidT.did) t h = some (t', h') ∧ TE N t' env' ∧ K env' h' = some r := by
  intro l
  induction l with
  | nil => intro j log t env h K ht hh; exact ⟨t, env, h, rfl, ht, hh⟩
  | cons o rest ih =>
    intro j log t env h K ht hh
    unfold drawT at hh
    split at hh
    · rename_i hd
      obtain ⟨env', ht', h1⟩ := wantT_some ht hh
      unfold drawGo
      split at h1
      · rename_i hw
        rw [if_pos hw]
        obtain ⟨f, hf, h1⟩ := fpTA_some ht' h1
        obtain ⟨s, v, h', h2, hs, h3⟩ := opT_some ht' h1
        obtain ⟨hl, h3⟩ := logT_some log h3
        obtain ⟨t2, env2, h4, h5, h6, h7⟩ := ih _ _ (ht'.put hd hs) h3
        refine ⟨t2, env2, h4, ?_, h6, h7⟩
        rw [hf, Option.bind_some, h2, Option.bind_some]
        replace hl : ((log.map DidT.did).all fun d => (B.getD j 0).testBit d.i || (free d ⟨j, f.fp, h.nx, decide (h'.wr = h.wr)⟩ || twin all d ⟨j, f.fp, h.nx, decide (h'.wr = h.wr)⟩)) = true := hl
        simp only [hl, if_true]
        exact h5
      · rename_i hw
        rw [if_neg hw]
        exact ih _ _ (ht'.put hd (.inr rfl)) h1
    · cases hh
theorem put_getD {t : Array Value} {d : Option Tmp} {v : Value} {i : Nat} (h : d ≠ some i) : (put t d v).getD i undef = t.getD i undef ∧ (put t d v).size = t.size := by
  cases d with
  | none => exact ⟨rfl, rfl⟩
  | some d =>
    simp only [put]
    refine ⟨?_, by simp⟩
    rw [Array.getD_eq_getD_getElem?, Array.getD_eq_getD_getElem?, Array.getElem?_setIfInBounds, if_neg (fun e => h (congrArg some e))]
theorem ops_writ {all : Array Oper} {i : Nat} : ∀ (l : List Oper) {t t' : Array Value} {h h' : H}, (∀ o ∈ l, o.dst ≠ some i) → ops P E rec all l t h = some (t', h') → t'.getD i undef = t.getD i undef := by
  intro l
  induction l with
  | nil => intro t t' h h' _ e; cases e; rfl
  | cons o rest ih =>
    intro t t' h h' hl e
    unfold ops at e
    have h0 := hl o (by simp)
    have h1 := fun o' ho' => hl o' (List.mem_cons_of_mem _ ho')
    split at e
    · obtain ⟨⟨v, h2⟩, _, e⟩ := bind_some' e
      rw [ih h1 e]; exact (put_getD h0).1
    · rw [ih h1 e]; exact (put_getD h0).1
theorem drawGo_writ {all : Array Oper} {B : Array Nat} {i : Nat} : ∀ (l : List Oper) {j : Nat} {log : List Did} {t t' : Array Value} {h h' : H}, (∀ o ∈ l, o.dst ≠ some i) →
    drawGo P E rec all B l j log t h = some (t', h') → t'.getD i undef = t.getD i undef := by
  intro l
  induction l with
  | nil => intro j log t t' h h' _ e; cases e; rfl
  | cons o rest ih =>
    intro j log t t' h h' hl e
    unfold drawGo at e
    have h0 := hl o (by simp)
    have h1 := fun o' ho' => hl o' (List.mem_cons_of_mem _ ho')
    split at e
    · obtain ⟨f, _, e⟩ := bind_some' e
      obtain ⟨⟨v, h2⟩, _, e⟩ := bind_some' e
      simp only at e
      split at e
      · rw [ih h1 e]; exact (put_getD h0).1
      · cases e
    · rw [ih h1 e]; exact (put_getD h0).1
theorem loop_writ {f : Array Value → H → Option (Ex × Array Value × H)} {i : Nat} (hf : ∀ t h e t' h', f t h = some (e, t', h') → t'.getD i undef = t.getD i undef) :
    ∀ (m : Nat) {t : Array Value} {h : H} {e : Ex} {t' : Array Value} {h' : H}, loop f m t h = some (e, t', h') → t'.getD i undef = t.getD i undef := by
  intro m
  induction m with
  | zero => intro t h e t' h' hh; cases hh
  | succ m ih =>
    intro t h e t' h' hh
    unfold loop at hh
    obtain ⟨⟨e1, t1, h1⟩, h2, hh⟩ := bind_some' hh
    cases e1 with
    | normal => rw [ih hh]; exact hf _ _ _ _ _ h2
    | _ => cases hh; exact hf _ _ _ _ _ h2
theorem order_dst {all : Array Oper} {o : Oper} (h : o ∈ (order P all).toList) : ∃ o0 ∈ all.toList, o.dst = o0.dst := by
  unfold order at h
  split at h
  · unfold permute at h
    rw [List.toList_toArray, List.mem_filterMap] at h
    obtain ⟨i, _, h2⟩ := h
    obtain ⟨o0, h3, h4⟩ := Option.map_eq_some_iff.1 h2
    refine ⟨o0, ?_, by rw [← h4]; rfl⟩
    rw [Array.mem_toList_iff]
    exact Array.mem_of_getElem? h3
  · exact ⟨o, h, rfl⟩
theorem code_writ (c : Code) {i : Nat} (hi : i ∉ writ c) : ∀ {t : Array Value} {h : H} {e : Ex} {t' : Array Value} {h' : H}, code P E rec k c t h = some (e, t', h') → t'.getD i undef = t.getD i undef := by
  induction c with
  | skip => intro t h e t' h' hh; unfold code at hh; cases hh; rfl
  | region id all d =>
    intro t h e t' h' hh
    have hl : ∀ o ∈ all.toList, o.dst ≠ some i := by
      intro o ho ed
      exact hi (List.mem_eraseDups.2 (List.mem_filterMap.2 ⟨o, ho, ed⟩))
    cases d with
    | false =>
      unfold code at hh
      obtain ⟨⟨t1, h1⟩, h2, h3⟩ := Option.map_eq_some_iff.1 hh
      cases h3
      exact ops_writ _ hl h2
    | true =>
      unfold code at hh
      obtain ⟨⟨t1, h1⟩, h2, h3⟩ := Option.map_eq_some_iff.1 hh
      cases h3
      unfold draw at h2
      split at h2
      · refine drawGo_writ _ (fun o ho => ?_) h2
        obtain ⟨o0, h4, h5⟩ := order_dst ho
        rw [h5]; exact hl o0 h4
      · cases h2
  | seq a b iha ihb =>
    intro t h e t' h' hh
    have h0 : i ∉ writ a ∧ i ∉ writ b := by
      constructor <;> (intro hx; exact hi (List.mem_eraseDups.2 (by simp [hx])))
    unfold code at hh
    obtain ⟨⟨e1, t1, h1⟩, h2, hh⟩ := bind_some' hh
    cases e1 with
    | normal => rw [ihb h0.2 hh]; exact iha h0.1 h2
    | _ => cases hh; exact iha h0.1 h2
  | cond c a b iha ihb =>
    intro t h e t' h' hh
    have h0 : i ∉ writ a ∧ i ∉ writ b := by
      constructor <;> (intro hx; exact hi (List.mem_eraseDups.2 (by simp [hx])))
    unfold code at hh
    split at hh
    · cases hh
    · split at hh
      · exact iha h0.1 hh
      · exact ihb h0.2 hh
      · cases hh
  | block id c ih =>
    intro t h e t' h' hh
    unfold code at hh
    obtain ⟨⟨e1, t1, h1⟩, h2, h3⟩ := Option.map_eq_some_iff.1 hh
    have := ih hi h2
    cases e1 <;> cases h3 <;> exact this
  | loop c ih =>
    intro t h e t' h' hh
    unfold code at hh
    exact loop_writ (fun t h e t' h' => ih hi) k hh
  | exit id => intro t h e t' h' hh; unfold code at hh; cases hh; rfl
  | ret => intro t h e t' h' hh; unfold code at hh; cases hh; rfl
  | _ => intro t h e t' h' hh; unfold code at hh; cases hh
theorem posn_some {i : Nat} : ∀ (l : List Nat) (j0 j : Nat), posn i l j0 = some j → j0 ≤ j ∧ l[j - j0]? = some i := by
  intro l
  induction l with
  | nil => intro j0 j h; cases h
  | cons x l ih =>
    intro j0 j h
    unfold posn at h
    cases hb : Nat.beq x i with
    | true => rw [hb] at h; cases h; exact ⟨Nat.le_refl _, by simp [Nat.eq_of_beq_eq_true hb]⟩
    | false =>
      rw [hb] at h
      obtain ⟨h1, h2⟩ := ih _ _ h
      refine ⟨by omega, ?_⟩
      have : j - j0 = (j - (j0 + 1)) + 1 := by omega
      rw [this, List.getElem?_cons_succ]
      exact h2
theorem mixed_is {c : Code} {lv : List Nat} {env : SEnv} {t : Array Value} {ws : List Value} (hin : ∀ i j, posn i (carr c lv) 0 = some j → t.getD i undef = gv ws j)
    (hout : ∀ i, i ∉ writ c → Is (env i) (t.getD i undef)) (i : Nat) : Is (mixed SC c lv env ws i) (t.getD i undef) := by
  unfold mixed
  split
  · rename_i j hj
    exact .inr (hin i j hj).symm
  · split
    · exact .inl rfl
    · rename_i hj
      exact hout i (by simpa using hj)
theorem toVs_env {t : Array Value} {env : SEnv} (ht : TE N t env) : ∀ (l : List Nat) {K : List Value → Option R}, toVs (l.map env) K = some r → K (l.map fun i => t.getD i undef) = some r := by
  intro l
  induction l with
  | nil => intro K h; exact h
  | cons x l ih => intro K h; exact ih (toV_some (ht.2 x) h)
theorem carr_gv {c : Code} {lv : List Nat} {g : Nat → Value} {i j : Nat} (h : posn i (carr c lv) 0 = some j) : g i = gv ((carr c lv).map g) j := by
  obtain ⟨_, h2⟩ := posn_some _ 0 j h
  unfold gv
  rw [List.getD_eq_getElem?_getD, List.getElem?_map]
  simp only [Nat.sub_zero] at h2
  rw [h2]
  rfl
theorem onEx_some {e : Ex} {K : Ex → Option R} {b : Bool} : ∀ (l : List Nat), onEx (XC P rec k R) e K l b = some r → K e = some r := by
  intro l
  induction l with
  | nil =>
    intro h
    cases b with
    | true =>
      replace h : onR e (K .ret) = some r := h
      unfold onR at h
      split at h
      · exact h
      · cases h
    | false => cases h
  | cons i l ih =>
    intro h
    replace h : onE e i (K (.exit i)) (onEx (XC P rec k R) e K l b) = some r := h
    unfold onE at h
    split at h
    · split at h
      · rename_i e1; subst e1; exact h
      · exact ih h
    · exact ih h
theorem loop_some {M : List Value → SEnv} {f : Array Value → H → Option (Ex × Array Value × H)} {G : List Value → H → Option (Ex × List Value × H)}
    (hf : ∀ t h ws e ws' h', TE N t (M ws) → G ws h = some (e, ws', h') → ∃ t', f t h = some (e, t', h') ∧ TE N t' (M ws')) :
    ∀ (m : Nat) {t : Array Value} {h : H} {ws : List Value} {e : Ex} {ws' : List Value} {h' : H}, TE N t (M ws) → lpGo G m ws h = some (e, ws', h') →
      ∃ t', loop f m t h = some (e, t', h') ∧ TE N t' (M ws') := by
  intro m
  induction m with
  | zero => intro t h ws e ws' h' _ hh; cases hh
  | succ m ih =>
    intro t h ws e ws' h' ht hh
    unfold lpGo at hh
    obtain ⟨⟨e1, ws1, h1⟩, h2, hh⟩ := bind_some' hh
    obtain ⟨t1, h3, ht1⟩ := hf _ _ _ _ _ _ ht h2
    unfold loop
    rw [h3]
    cases e1 with
    | normal => exact ih ht1 hh
    | _ => cases hh; exact ⟨t1, rfl, ht1⟩
theorem codeT_some (c : Code) : ∀ {lv : List Nat} {R : Type} {r : R} {t : Array Value} {env : SEnv} {h : H} {K : Ex → SEnv → H → Option R}, TE N t env → codeT P E SC (XC P rec k) N c lv R env h K = some r →
    ∃ e t' env' h', code P E rec k c t h = some (e, t', h') ∧ TE N t' env' ∧ K e env' h' = some r := by
  induction c with
  | skip => intro lv R r t env h K ht hh; unfold codeT at hh; exact ⟨_, t, env, h, by unfold code; rfl, ht, hh⟩
  | region id all d =>
    intro lv R r t env h K ht hh
    cases d with
    | false =>
      unfold codeT at hh
      obtain ⟨t', env', h', h1, h2, h3⟩ := opsT_some _ ht hh
      exact ⟨_, t', env', h', by unfold code; rw [h1]; rfl, h2, h3⟩
    | true =>
      unfold codeT at hh
      split at hh
      · rename_i ho
        obtain ⟨t', env', h', h1, h2, h3⟩ := drawT_some _ _ _ ht hh
        exact ⟨_, t', env', h', by unfold code draw; rw [if_pos ho, show drawGo P E rec (order P all) (Region.before (order P all)) (order P all).toList 0 [] t h = _ from h1]; rfl, h2, h3⟩
      · cases hh
  | seq a b iha ihb =>
    intro lv R r t env h K ht hh
    unfold codeT at hh
    obtain ⟨e, t', env', h', h1, h2, h3⟩ := iha ht hh
    unfold code
    rw [h1]
    cases e with
    | normal => exact ihb h2 h3
    | _ => exact ⟨_, t', env', h', rfl, h2, h3⟩
  | cond c a b iha ihb =>
    intro lv R r t env h K ht hh
    unfold codeT at hh
    unfold code
    split at hh
    · cases hh
    · rename_i ho
      rw [if_neg ho]
      obtain ⟨q, hq, h1⟩ := toC_some (ht.ev c) hh
      simp only [hq]
      cases q with
      | true => exact iha (ht.setK hq) h1
      | false => exact ihb (ht.setK hq) h1
  | block id c ih =>
    intro lv R r t env h K ht hh
    unfold codeT at hh
    obtain ⟨e, t', env', h', h1, h2, h3⟩ := ih ht hh
    unfold code
    rw [h1]
    cases e with
    | exit i =>
      simp only at h3
      split at h3
      · rename_i ei; exact ⟨_, t', env', h', by simp only [Option.map_some, if_pos ei], h2, h3⟩
      · rename_i ei; exact ⟨_, t', env', h', by simp only [Option.map_some, if_neg ei], h2, h3⟩
    | _ => exact ⟨_, t', env', h', rfl, h2, h3⟩
  | loop c ih =>
    intro lv R r t env h K ht hh
    unfold codeT at hh
    unfold code
    replace hh := toVs_env ht _ hh
    obtain ⟨⟨e, ws', h'⟩, h1, hh⟩ := bind_some' hh
    have h2 := onEx_some _ hh
    have h0 : TE N t (mixed SC c lv env ((carr c lv).map fun i => t.getD i undef)) := ⟨ht.1, mixed_is (fun i j hj => carr_gv (g := fun i => t.getD i undef) hj) (fun i _ => ht.2 i)⟩
    obtain ⟨t', h3, h4⟩ := loop_some (M := mixed SC c lv env) (f := code P E rec k c) (by
      intro t h ws e ws' h' ht' hG
      obtain ⟨e1, t1, env1, h1, g1, g2, g3⟩ := ih ht' hG
      replace g3 := toVs_env g2 _ g3
      replace g3 : some (e1, (carr c lv).map (fun i => t1.getD i undef), h1) = some (e, ws', h') := g3
      cases g3
      refine ⟨t1, g1, g2.1, mixed_is (fun i j hj => carr_gv (g := fun i => t1.getD i undef) hj) (fun i hi => ?_)⟩
      rw [code_writ c hi g1]
      have := ht'.2 i
      unfold mixed at this
      split at this
      · rename_i j hj
        have h6 := List.mem_of_getElem? (posn_some _ _ _ hj).2
        exact absurd (List.mem_filter.1 h6).1 hi
      · rw [if_neg (by simpa using hi)] at this
        exact this) k h0 h1
    exact ⟨e, t', _, h', h3, h4, h2⟩
  | exit id => intro lv R r t env h K ht hh; unfold codeT at hh; exact ⟨_, t, env, h, by unfold code; rfl, ht, hh⟩
  | ret => intro lv R r t env h K ht hh; unfold codeT at hh; exact ⟨_, t, env, h, by unfold code; rfl, ht, hh⟩
  | _ => intro lv R r t env h K ht hh; unfold codeT at hh; cases hh
theorem resT_some {t : Array Value} {env : SEnv} (ht : TE N t env) {h : H} : ∀ (l : List ResultVar) (acc : List Value) {K : List Value → Option R}, resT (XC P rec k R) env h l acc K = some r →
    ∃ vs, l.mapM (resV P t h) = some vs ∧ K (acc.reverse ++ vs) = some r := by
  intro l
  induction l with
  | nil => intro acc K hh; exact ⟨[], rfl, by simpa [resT] using hh⟩
  | cons x l ih =>
    intro acc K hh
    have key : ∀ v, resV P t h x = some v → resT (XC P rec k R) env h l (v :: acc) K = some r → ∃ vs, (x :: l).mapM (resV P t h) = some vs ∧ K (acc.reverse ++ vs) = some r := by
      intro v h1 h2
      obtain ⟨vs, h3, h4⟩ := ih _ h2
      exact ⟨v :: vs, by rw [List.mapM_cons, h1, h3]; rfl, by simpa using h4⟩
    cases x with
    | tmp i => exact key _ rfl (toV_some (ht.2 i) hh)
    | cell a ty =>
      obtain ⟨b, o, ha, hh⟩ := toP_some (ht.2 a) hh
      obtain ⟨v, hv, hh⟩ := ld_some hh
      exact key v (by simp only [resV, ha]; exact hv) hh
theorem bodyT_some {f : FuncId} {args : List SV} {h : H} {K : Value → H → Option R} (hh : bodyT P E SC (XC P rec k) f R args h K = some r) :
    ∃ v h', body P E rec k f (args.map SV.val).toArray h = some (v, h') ∧ K v h' = some r := by
  unfold bodyT at hh
  unfold body
  split at hh
  · rename_i fn hfn
    simp only [hfn]
    split at hh
    · rename_i c hc
      simp only [hc]
      split at hh
      · cases hh
      · rename_i hname
        rw [if_neg hname]
        split at hh
        · rename_i hlen
          have ht : TE fn.ntmps ((args.map SV.val).toArray ++ Array.replicate (fn.ntmps - (args.map SV.val).toArray.size) undef) (fun i => args.getD i .und) := by
            refine ⟨by simp; omega, fun i => ?_⟩
            rw [Array.getD_eq_getD_getElem?, Array.getElem?_append]
            simp only [List.size_toArray, List.length_map, List.getElem?_toArray, List.getElem?_map, List.getD_eq_getElem?_getD]
            split
            · rename_i hi
              rw [List.getElem?_eq_getElem hi]
              exact .inr rfl
            · rename_i hi
              rw [List.getElem?_eq_none (by omega)]
              rw [Array.getElem?_replicate]
              split <;> exact .inr rfl
          obtain ⟨e, t', env', h', h1, h2, h3⟩ := codeT_some c ht hh
          have fin : (resT (XC P rec k R) env' h' fn.results.toList [] fun vs => K (res1 vs) h') = some r → ∃ v h'', ((res P fn t' h').map (·, h')) = some (v, h'') ∧ K v h'' = some r := by
            intro h3
            obtain ⟨vs, h4, h5⟩ := resT_some h2 _ _ h3
            refine ⟨res1 vs, h', ?_, h5⟩
            unfold res
            rw [h4]
            unfold res1
            cases vs with
            | nil => rfl
            | cons v vs => cases vs <;> rfl
          rw [h1]
          cases e with
          | exit i => cases h3
          | normal => exact fin h3
          | ret => exact fin h3
        · cases hh
    · cases hh
  · cases hh
end
end Go.AM
end

section
namespace Go.AM
abbrev pt (b o : Nat) : Value := .pointer (some ⟨b, o, none⟩)
/-- What is old is as_ it was. -/
structure Ext (h h' : H) : Prop where
  nx : h.nx ≤ h'.nx
  blk : ∀ b, b < h.nx → h'.blk b = h.blk b
theorem Ext.refl (h : H) : Ext h h := ⟨Nat.le_refl _, fun _ _ => rfl⟩
theorem Ext.trans {h1 h2 h3 : H} (a : Ext h1 h2) (b : Ext h2 h3) : Ext h1 h3 :=
  ⟨Nat.le_trans a.nx b.nx, fun i hi => (b.blk i (Nat.lt_of_lt_of_le hi a.nx)).trans (a.blk i hi)⟩
theorem Ext.new (h : H) (k : Blk) : Ext h (h.new k) := ⟨Nat.le_succ _, fun b hb => by simp [H.new, Nat.ne_of_lt hb]⟩
theorem nx_eq (h : H) : AM.nx h = h.nx := rfl
theorem nx_new (h : H) (k : Blk) : (h.new k).nx = h.nx + 1 := rfl
theorem nx_set (h : H) (b : Nat) (k : Blk) : (h.set b k).nx = h.nx := rfl
theorem nx_kill (h : H) (b : Nat) : (h.kill b).nx = h.nx := rfl
theorem blk_new_self (h : H) (k : Blk) : (h.new k).blk h.nx = some k := by simp [H.new]
theorem blk_new_ne (h : H) (k : Blk) {b : Nat} (hb : b ≠ h.nx) : (h.new k).blk b = h.blk b := by simp [H.new, hb]
theorem blk_new_at (h : H) (k : Blk) {b : Nat} (hb : b = h.nx) : (h.new k).blk b = some k := by simp [H.new, hb]
theorem blk_set_self (h : H) (b : Nat) (k : Blk) : (h.set b k).blk b = some k := by simp [H.set]
theorem blk_set_ne (h : H) (b : Nat) (k : Blk) {i : Nat} (hb : i ≠ b) : (h.set b k).blk i = h.blk i := by simp [H.set, hb]
theorem blk_kill_ne (h : H) (b : Nat) {i : Nat} (hb : i ≠ b) : (h.kill b).blk i = h.blk i := by simp [H.kill, hb]
theorem Ext.set {h h' : H} (e : Ext h h') {b : Nat} (hb : h.nx ≤ b) (k : Blk) : Ext h (h'.set b k) :=
  ⟨e.nx, fun i hi => by rw [blk_set_ne _ _ _ (by omega)]; exact e.blk i hi⟩
theorem Ext.new' {h h' : H} (e : Ext h h') (k : Blk) : Ext h (h'.new k) := e.trans (.new _ _)
section
variable {P : Program} {rec : Rec} {k : Nat} {R : Type}
theorem al_eq (h : H) (t : TypeId) (cs : List Value) (K : H → Option R) : al h t cs K = K (h.new (.row cs t true)) := rfl
theorem bx_eq (h : H) (t : TypeId) (v : Value) (K : H → Option R) : bx h t v K = K (h.new (.row v.cells.toList t true)) := rfl
theorem mkm_eq (h : H) (K : H → Option R) : mkm h K = K (h.new (.mp [] 0)) := rfl
theorem asI_int (k : IntKind) (n : Int) (K : Int → Option R) : asI k (.int k n) K = K n := by simp [asI]
theorem asK_int (k : IntKind) (n : Int) (K : Int → Option R) : asK (.int k n) K = K n := rfl
theorem asB_bool (b : Bool) (K : Bool → Option R) : asB (.bool b) K = K b := rfl
theorem asP_ptr (b o : Nat) (K : Nat → Nat → Option R) : asP (.pointer (some ⟨b, o, none⟩)) K = K b o := rfl
theorem ifB_true (x y : Option R) : ifB true x y = x := rfl
theorem ifB_false (x y : Option R) : ifB false x y = y := rfl
theorem nn_ge {b : Int} (h : 0 ≤ b) (x : Option R) : nn b x = x := by simp [nn, Int.not_lt.2 h]
theorem len_slice (b : Option Addr) (n c : Nat) (K : Int → Option R) : len (.slice b n c) K = K n := rfl
theorem ext20 (a b : Value) (K : Value → Option R) : ext (.tuple #[a, b]) 0 K = K a := rfl
theorem ext21 (a b : Value) (K : Value → Option R) : ext (.tuple #[a, b]) 1 K = K b := rfl
theorem onE_exit (i j : Nat) (x y : Option R) : onE (.exit i) j x y = if i = j then x else y := rfl
theorem onE_ret (j : Nat) (x y : Option R) : onE .ret j x y = y := rfl
theorem onR_ret (x : Option R) : onR .ret x = x := rfl
theorem ld_sc {h : H} {t : TypeId} {b o : Nat} {K : Value → Option R} {c : List Value} {e : TypeId} {own : Bool} {v : Value} (ht : aggT P t = some false) (hb : h.blk b = some (.row c e own)) (hv : c[o]? = some v) :
    ld P h t b o K = K v := by
  simp [ld, load, ht, H.cell, hb, hv]
theorem ld_ag {h : H} {t : TypeId} {b o n : Nat} {K : Value → Option R} {c : List Value} {e : TypeId} {own : Bool} (ht : aggT P t = some true) (hs : size? P t = some n) (hb : h.blk b = some (.row c e own))
    (hle : o + n ≤ c.length) : ld P h t b o K = K (.agg ((c.drop o).take n).toArray) := by
  simp [ld, load, ht, hs, H.rd, hb, hle]
theorem st_eq {h : H} {t : TypeId} {b o : Nat} {v : Value} {K : H → Option R} {c : List Value} {e : TypeId} (hs : size? P t = some v.cells.size) (hb : h.blk b = some (.row c e true))
    (hle : o + v.cells.size ≤ c.length) (hsc : v.cells.toList.all scal = true) : st P h t b o v K = K (h.set b (.row (setAt c o v.cells.toList) e true)) := by
  simp only [st, store, hb]
  rw [if_pos ⟨hs, hle, hsc⟩]
  rfl
/-- A new variable that is set at once. -/
def H.fresh (h : H) (t : TypeId) (zs xs : List Value) : H := (h.new (.row zs t true)).set h.nx (.row xs t true)
theorem setAt_all : ∀ (xs pre zs : List Value), zs.length = xs.length → setAt (pre ++ zs) pre.length xs = pre ++ xs := by
  intro xs
  induction xs with
  | nil => intro pre zs hz; rw [List.eq_nil_of_length_eq_zero hz]; rfl
  | cons x xs ih =>
    intro pre zs hz
    cases zs with
    | nil => cases hz
    | cons z zs =>
      simp only [setAt]
      have h1 : (pre ++ z :: zs).set pre.length x = (pre ++ [x]) ++ zs := by simp
      have h2 := ih (pre ++ [x]) zs (by simpa using hz)
      rw [h1, show pre.length + 1 = (pre ++ [x]).length by simp, h2]
      simp
theorem al_st {h : H} {t : TypeId} {zs xs : List Value} {K : H → Option R} (hs : size? P t = some xs.length) (hz : zs.length = xs.length) (hsc : xs.all scal = true) :
    (al h t zs fun h3 => st P h3 t (AM.nx h) 0 (.agg xs.toArray) K) = K (h.fresh t zs xs) := by
  rw [al_eq]
  have hb : (h.new (.row zs t true)).blk h.nx = some (.row zs t true) := blk_new_self _ _
  rw [nx_eq, st_eq (v := .agg xs.toArray) (by rw [hs]; simp [Value.cells]) hb (by simp [Value.cells, hz]) (by simpa [Value.cells] using hsc)]
  have : setAt zs 0 (Value.agg xs.toArray).cells.toList = xs := setAt_all xs [] zs hz
  rw [this]
  rfl
theorem bld_some {t : TypeId} {ps : List (Nat × Value)} {v : Value} {K : Value → Option R} (hb : build P t ps = some v) : bld P t ps K = K v := by
  simp [bld, hb]
theorem bls_some {h h' : H} {t : TypeId} {n : Nat} {ps : List (Nat × Value)} {v : Value} {K : Value → H → Option R} (hb : buildSlice P t n ps h = some (v, h')) : bls P h t n ps K = K v h' := by
  simp [bls, hb]
theorem six_in {b o n c : Nat} {i : Int} {s : Nat} {K : Nat → Nat → Option R} (h0 : 0 ≤ i) (h1 : i < n) : six (.slice (some ⟨b, o, none⟩) n c) i s K = K b (o + i.toNat * s) := by
  simp only [six]; rw [if_pos ⟨h0, h1⟩]
theorem calls_eq {h h' : H} {f : FuncId} {xs : List Value} {v : Value} {K : Value → H → Option R} (hc : rec f xs.toArray h = some (v, h')) : calls rec h f xs K = K v h' := by
  simp [calls, hc]
theorem callsV_eq {h : H} {f : FuncId} {first captured : Array Value} {xs : List Value} {K : Value → H → Option R} :
    callsV rec h (.func (.func f) first captured) xs K = calls rec h f (first.toList ++ xs ++ captured.toList) K := by
  simp only [callsV, callV, calls]
  congr 2
  apply Array.ext'
  simp
theorem callsV_some {h h' : H} {f v : Value} {xs : List Value} {K : Value → H → Option R} (hc : callV rec f xs.toArray h = some (v, h')) : callsV rec h f xs K = K v h' := by
  simp [callsV, hc]
theorem lp_eq {F : List Value → H → Option (Ex × List Value × H)} {ws ws' : List Value} {h h' : H} {e : Ex} {K : Ex → List Value → H → Option R} (hl : lpGo F k ws h = some (e, ws', h')) : lp k F ws h K = K e ws' h' := by
  simp [lp, hl]
theorem lpGo_next {F : List Value → H → Option (Ex × List Value × H)} {m : Nat} {ws ws' : List Value} {h h' : H} (hl : F ws h = some (.normal, ws', h')) : lpGo F (m + 1) ws h = lpGo F m ws' h' := by
  simp [lpGo, hl]
theorem lpGo_exit {F : List Value → H → Option (Ex × List Value × H)} {m i : Nat} {ws ws' : List Value} {h h' : H} (hl : F ws h = some (.exit i, ws', h')) : lpGo F (m + 1) ws h = some (.exit i, ws', h') := by
  simp [lpGo, hl]
theorem lpGo_ret {F : List Value → H → Option (Ex × List Value × H)} {m : Nat} {ws ws' : List Value} {h h' : H} (hl : F ws h = some (.ret, ws', h')) : lpGo F (m + 1) ws h = some (.ret, ws', h') := by
  simp [lpGo, hl]
/-- A loop that ends after at most as_ many rounds as_ a measure says: the rounds keep an invariant. -/
theorem lpGo_inv {F : List Value → H → Option (Ex × List Value × H)} (I : Nat → List Value → H → Prop) (Q : Ex → List Value → H → Prop)
    (step : ∀ d ws h, I d ws h → (∃ e ws' h', F ws h = some (e, ws', h') ∧ ((e = .normal ∧ ∃ d', d' < d ∧ I d' ws' h') ∨ (e ≠ .normal ∧ Q e ws' h')))) :
    ∀ (d m : Nat) {ws : List Value} {h : H}, d < m → I d ws h → ∃ e ws' h', lpGo F m ws h = some (e, ws', h') ∧ Q e ws' h' := by
  intro d
  induction d using Nat.strongRecOn with
  | _ d ih =>
    intro m ws h hm hI
    cases m with
    | zero => omega
    | succ m =>
      obtain ⟨e, ws', h', hF, hh⟩ := step d ws h hI
      rcases hh with ⟨rfl, d', hd, hI'⟩ | ⟨hne, hQ⟩
      · rw [lpGo_next hF]
        exact ih d' hd m (by omega) hI'
      · refine ⟨e, ws', h', ?_, hQ⟩
        cases e with
        | normal => exact absurd rfl hne
        | exit i => exact lpGo_exit hF
        | ret => exact lpGo_ret hF
theorem blk_fresh (h : H) (t : TypeId) (zs xs : List Value) : (h.fresh t zs xs).blk h.nx = some (.row xs t true) := blk_set_self _ _ _
theorem Ext.fresh {h0 h : H} (e : Ext h0 h) (t : TypeId) (zs xs : List Value) : Ext h0 (h.fresh t zs xs) := (e.new' _).set e.nx _
end
theorem wrap64 {n : Int} (h1 : -9223372036854775808 ≤ n) (h2 : n < 9223372036854775808) : IntKind.i64.wrap n = n := by
  simp only [IntKind.wrap, IntKind.signed, IntKind.bits, Bool.true_and]
  split <;> rename_i hh <;> simp at hh <;> omega
theorem add64 {a b : Int} (h1 : -9223372036854775808 ≤ a + b) (h2 : a + b < 9223372036854775808) : add .i64 a b = a + b := wrap64 h1 h2
theorem sub64 {a b : Int} (h1 : -9223372036854775808 ≤ a - b) (h2 : a - b < 9223372036854775808) : sub .i64 a b = a - b := wrap64 h1 h2
/-- Whole numbers of the program's int. -/
abbrev iv (n : Int) : Value := .int .i64 n
theorem lt_t {a b : Int} (h : a < b) : lt a b = true := decide_eq_true h
theorem lt_f {a b : Int} (h : ¬ a < b) : lt a b = false := decide_eq_false h
theorem le_t {a b : Int} (h : a ≤ b) : le a b = true := decide_eq_true h
theorem le_f {a b : Int} (h : ¬ a ≤ b) : le a b = false := decide_eq_false h
theorem eq_t {a b : Int} (h : a = b) : eq a b = true := by simp [eq, h]
theorem eq_f {a b : Int} (h : ¬ a = b) : eq a b = false := by simp [eq, h]
end Go.AM
namespace Go.AM
/-- A slice (elements of type 'e', of 's' cells each) and what it holds. -/
inductive SlR (h : H) (e : TypeId) (s : Nat) : Value → List (List Value) → Prop
  | nil : SlR h e s (.slice none 0 0) []
  | at_ {b o c : Nat} {cs : List Value} {own : Bool} {l : List (List Value)} (hb : b < h.nx) (hr : h.blk b = some (.row cs e own)) (hk : l.length ≤ capK c) (hc : capK c < U)
      (hl : o + l.length * s ≤ cs.length) (hx : ∀ i x, l[i]? = some x → x.length = s ∧ ∀ j, j < s → cs[o + i * s + j]? = x[j]?) :
      SlR h e s (.slice (some ⟨b, o, none⟩) l.length c) l
theorem SlR.ext {h h' : H} {e : TypeId} {s : Nat} {v : Value} {l : List (List Value)} (a : SlR h e s v l) (x : Ext h h') : SlR h' e s v l := by
  cases a with
  | nil => exact .nil
  | at_ hb hr hk hc hl hx => exact .at_ (Nat.lt_of_lt_of_le hb x.nx) ((x.blk _ hb).trans hr) hk hc hl hx
theorem SlR.len {h : H} {e : TypeId} {s : Nat} {v : Value} {l : List (List Value)} (a : SlR h e s v l) {R : Type} (K : Int → Option R) : len v K = K l.length := by
  cases a <;> rfl
theorem SlR.lenOf {h : H} {e : TypeId} {s : Nat} {v : Value} {l : List (List Value)} (a : SlR h e s v l) : lenOf v = some l.length := by
  cases a <;> rfl
theorem SlR.lt {h : H} {e : TypeId} {s : Nat} {v : Value} {l : List (List Value)} (a : SlR h e s v l) : l.length < U := by
  cases a with
  | nil => decide
  | at_ hb hr hk hc hl hx => omega
theorem SlR.lt62 {h : H} {e : TypeId} {s : Nat} {v : Value} {l : List (List Value)} (a : SlR h e s v l) : l.length < 4611686018427387904 := a.lt
/-- An element's place. -/
theorem SlR.six {h : H} {e : TypeId} {s : Nat} {v : Value} {l : List (List Value)} (a : SlR h e s v l) {i : Int} (h0 : 0 ≤ i) {x : List Value} (hx : l[i.toNat]? = some x) :
    ∃ (b o : Nat) (cs : List Value) (own : Bool), b < h.nx ∧ h.blk b = some (.row cs e own) ∧ x.length = s ∧ o + s ≤ cs.length ∧ (∀ j, j < s → cs[o + j]? = x[j]?) ∧
      ∀ {R : Type} (K : Nat → Nat → Option R), six v i s K = K b o := by
  cases a with
  | nil => simp at hx
  | @at_ b o c cs own _ hb hr hk hc hl hxs =>
    have hi : i.toNat < l.length := by
      rcases Nat.lt_or_ge i.toNat l.length with h | h
      · exact h
      · rw [List.getElem?_eq_none h] at hx; cases hx
    obtain ⟨g1, g2⟩ := hxs _ _ hx
    refine ⟨b, o + i.toNat * s, cs, own, hb, hr, g1, ?_, g2, fun K => six_in h0 (by omega)⟩
    have : (i.toNat + 1) * s ≤ l.length * s := Nat.mul_le_mul_right _ hi
    rw [Nat.add_mul] at this
    omega
theorem take_drop_eq {cs x : List Value} {o s : Nat} (h1 : x.length = s) (h2 : o + s ≤ cs.length) (h3 : ∀ j, j < s → cs[o + j]? = x[j]?) : (cs.drop o).take s = x := by
  apply List.ext_getElem?
  intro j
  by_cases hj : j < s
  · rw [List.getElem?_take_of_lt hj, List.getElem?_drop, h3 j hj]
  · rw [List.getElem?_eq_none (by simp; omega), List.getElem?_eq_none (by omega)]
/-- A whole element. -/
theorem ld_elem {P : Program} {h : H} {t : TypeId} {b o s : Nat} {cs x : List Value} {e : TypeId} {own : Bool} {R : Type} {K : Value → Option R} (ht : aggT P t = some true) (hs : size? P t = some s)
    (hb : h.blk b = some (.row cs e own)) (h1 : x.length = s) (h2 : o + s ≤ cs.length) (h3 : ∀ j, j < s → cs[o + j]? = x[j]?) : ld P h t b o K = K (.agg x.toArray) := by
  rw [ld_ag ht hs hb h2, take_drop_eq h1 h2 h3]
/-- The beginning of a slice. -/
theorem SlR.take {P : Program} {h : H} {e t : TypeId} {s : Nat} {v : Value} {l : List (List Value)} (a : SlR h e s v l) (hu : P.underlying t = some (.slice e)) (hs : size? P e = some s) {i : Int} (h0 : 0 ≤ i) (h1 : i ≤ l.length) :
    ∃ v', SlR h e s v' (l.take i.toNat) ∧ ∀ {R : Type} (K : Value → Option R), sli P h t v none (some (.int .i64 i)) none K = K v' := by
  cases a with
  | nil =>
    have : i = 0 := by simp at h1; omega
    subst this
    refine ⟨_, .nil, fun K => ?_⟩
    simp [sli, slice, hu, hs, bound]
  | @at_ b o c cs own _ hb hr hk hc hl hxs =>
    have hle : i.toNat ≤ l.length := by omega
    have hlen : (l.take i.toNat).length = i.toNat := by simp; omega
    have hx' : ∀ i_1 x, (l.take i.toNat)[i_1]? = some x → x.length = s ∧ ∀ j, j < s → cs[o + i_1 * s + j]? = x[j]? := by
      intro i1 x hx
      have : i1 < i.toNat := by
        rcases Nat.lt_or_ge i1 i.toNat with h | h
        · exact h
        · rw [List.getElem?_eq_none (by omega)] at hx; cases hx
      rw [List.getElem?_take_of_lt this] at hx
      exact hxs _ _ hx
    have hl' : o + (l.take i.toNat).length * s ≤ cs.length := by
      rw [hlen]
      have := Nat.mul_le_mul_right s hle
      omega
    have hbd : bound (some (.int .i64 i)) (capK c) l.length = some i.toNat := by
      simp only [bound]
      rw [if_pos ⟨h0, by omega⟩]
    by_cases hcu : c < U
    · refine ⟨.slice (some ⟨b, o, none⟩) i.toNat c, ?_, fun K => ?_⟩
      · have := SlR.at_ (h := h) (e := e) (s := s) (c := c) hb hr (by omega) hc hl' hx'
        rw [hlen] at this
        exact this
      · have hck : capK c = c := by simp [capK, hcu]
        simp only [sli, slice, hu, hr, hs]
        rw [if_pos ⟨trivial, hc, rfl⟩]
        simp [bound, hbd, hcu, hck]
        simp only [bound] at hbd
        rw [hck] at hbd
        simp [hbd]
    · have hck : capK c = c - U := by simp [capK, hcu]
      refine ⟨.slice (some ⟨b, o, none⟩) i.toNat c, ?_, fun K => ?_⟩
      · have := SlR.at_ (h := h) (e := e) (s := s) (c := c) hb hr (by omega) hc hl' hx'
        rw [hlen] at this
        exact this
      · simp only [sli, slice, hu, hr, hs]
        rw [if_pos ⟨trivial, hc, rfl⟩]
        simp [bound, hcu, hck]
        simp only [bound] at hbd
        rw [hck] at hbd
        simp [hbd, Nat.add_sub_cancel' (Nat.not_lt.1 hcu)]
def okApp (P : Program) (t e : TypeId) (s : Nat) : Bool :=
  match P.underlying t, P.info? e, zero? P e with
  | some (.slice e'), some i, some z => e' == e && i.size == s && decide (i.bytes ≤ 4096) && decide (0 < s) && z.cells.size == s
  | _, _, _ => false
theorem capK_U (n : Nat) : capK (U + n) = n := by
  unfold capK
  rw [if_neg (by omega)]
  omega
theorem okApp_spec {P : Program} {t e : TypeId} {s : Nat} (h : okApp P t e s = true) :
    ∃ i z, P.underlying t = some (.slice e) ∧ P.info? e = some i ∧ zero? P e = some z ∧ i.size = s ∧ i.bytes ≤ 4096 ∧ 0 < s ∧ z.cells.size = s := by
  unfold okApp at h
  split at h
  · rename_i e' i z h1 h2 h3
    simp only [Bool.and_eq_true, beq_iff_eq, decide_eq_true_eq] at h
    obtain ⟨⟨⟨⟨rfl, h5⟩, h6⟩, h7⟩, h8⟩ := h
    exact ⟨i, z, h1, h2, h3, h5, h6, h7, h8⟩
  · cases h
/-- A slice that was made by appending alone; its row lies at 'lo' or behind. -/
inductive ApR (lo : Nat) (h : H) (e : TypeId) (s : Nat) : Value → List (List Value) → Prop
  | nil : ApR lo h e s (.slice none 0 0) []
  | at_ {b : Nat} {l : List (List Value)} (hlo : lo ≤ b) (hb : b < h.nx) (hr : h.blk b = some (.row l.flatten e true)) (hn : 0 < l.length) (hx : ∀ x ∈ l, x.length = s) (hm : l.length < 2 ^ 30) :
      ApR lo h e s (.slice (some ⟨b, 0, none⟩) l.length (U + l.length)) l
theorem flatten_len {s : Nat} : ∀ {l : List (List Value)}, (∀ x ∈ l, x.length = s) → l.flatten.length = l.length * s := by
  intro l
  induction l with
  | nil => intro _; simp
  | cons x l ih =>
    intro h
    rw [List.flatten_cons, List.length_append, ih (fun y hy => h y (List.mem_cons_of_mem _ hy)), h x (by simp), List.length_cons, Nat.add_mul]
    omega
theorem flatten_get {s : Nat} : ∀ {l : List (List Value)}, (∀ x ∈ l, x.length = s) → ∀ (i : Nat) (x : List Value), l[i]? = some x → ∀ j, j < s → l.flatten[i * s + j]? = x[j]? := by
  intro l
  induction l with
  | nil => intro _ i x h; simp at h
  | cons y l ih =>
    intro h i x hx j hj
    have hy : y.length = s := h y (by simp)
    rw [List.flatten_cons]
    cases i with
    | zero =>
      simp at hx
      subst hx
      rw [Nat.zero_mul, Nat.zero_add, List.getElem?_append_left (by omega)]
    | succ i =>
      have e : (i + 1) * s + j = s + (i * s + j) := by rw [Nat.add_mul]; omega
      rw [e, List.getElem?_append_right (by omega), hy, Nat.add_sub_cancel_left]
      exact ih (fun z hz => h z (List.mem_cons_of_mem _ hz)) i x (by simpa using hx) j hj
theorem ApR.slR {lo : Nat} {h : H} {e : TypeId} {s : Nat} {v : Value} {l : List (List Value)} (a : ApR lo h e s v l) : SlR h e s v l := by
  cases a with
  | nil => exact .nil
  | @at_ b l hlo hb hr hn hx hm =>
    have hk : capK (U + l.length) = l.length := capK_U _
    refine .at_ hb hr (by omega) (by rw [hk]; have : (2:Nat) ^ 30 < U := by decide
                                     omega) (by rw [flatten_len hx]; omega) fun i x hi => ⟨hx x (List.mem_of_getElem? hi), fun j hj => ?_⟩
    rw [Nat.zero_add]
    exact flatten_get hx i x hi j hj
theorem SlR.srcAll {h : H} {e : TypeId} {s : Nat} {y : Value} {l : List (List Value)} (hy : SlR h e s y l) (hs : 0 < s) : srcCells s y h = some l.flatten := by
  cases hy with
  | nil => rfl
  | @at_ b o c cs own l hb hr hk hc hle hx =>
    have hxl : ∀ x ∈ l, x.length = s := by
      intro x hx'
      obtain ⟨i, hi, rfl⟩ := List.getElem_of_mem hx'
      exact (hx i _ (List.getElem?_eq_getElem hi)).1
    simp only [srcCells]
    by_cases h0 : l.length * s = 0
    · rw [if_pos h0]
      have : l.length = 0 := by
        rcases Nat.mul_eq_zero.1 h0 with h1 | h1
        · exact h1
        · omega
      rw [List.eq_nil_of_length_eq_zero this]
      rfl
    · rw [if_neg h0]
      simp only [H.rd, hr]
      rw [if_pos hle, take_drop_eq (flatten_len hxl) hle]
      intro j hj
      have hq : j / s < l.length := by
        rw [Nat.div_lt_iff_lt_mul hs]; exact hj
      have hm : j % s < s := Nat.mod_lt _ hs
      have e1 : j = j / s * s + j % s := by
        have := Nat.div_add_mod j s
        rw [Nat.mul_comm] at this
        exact this.symm
      have h1 := (hx (j / s) l[j / s] (List.getElem?_eq_getElem hq)).2 (j % s) hm
      have h2 := flatten_get hxl (j / s) l[j / s] (List.getElem?_eq_getElem hq) (j % s) hm
      rw [← e1] at h2
      rw [h2, ← h1, Nat.add_assoc, ← e1]
/-- All elements appended to an empty slice. -/
theorem app_all {P : Program} {h : H} {e t t' : TypeId} {s b : Nat} {y : Value} {l : List (List Value)} (ht : okApp P t e s = true) (ht' : okApp P t' e s = true) (hb : b < h.nx) (hr : h.blk b = some (.row [] e true))
    (hy : SlR h e s y l) (hm : l.length < 2 ^ 30) : ∃ v' h', (∀ {R : Type} (K : Value → H → Option R), app P h t t' (.slice (some ⟨b, 0, none⟩) 0 0) y K = K v' h') ∧ Ext h h' ∧ SlR h' e s v' l := by
  obtain ⟨i, z, h1, h2, h3, h4, h5, h6, h7⟩ := okApp_spec ht
  obtain ⟨_, _, h1', _⟩ := okApp_spec ht'
  have hsrc := hy.srcAll h6
  have hlen := hy.lenOf
  have hxl : ∀ x ∈ l, x.length = s := by
    intro x hx'
    cases hy with
    | nil => cases hx'
    | at_ _ _ _ _ _ hx =>
      obtain ⟨i, hi, rfl⟩ := List.getElem_of_mem hx'
      exact (hx i _ (List.getElem?_eq_getElem hi)).1
  by_cases h0 : l.length = 0
  · refine ⟨.slice (some ⟨b, 0, none⟩) 0 0, h, fun K => ?_, .refl _, ?_⟩
    · unfold AM.app append
      simp only [h1, h1', h2, h3, hlen, h4, hsrc, Option.bind_some]
      rw [if_pos ⟨h5, h6, h7⟩]
      simp only [h0]
      rfl
    · have hnil := List.eq_nil_of_length_eq_zero h0
      subst hnil
      exact .at_ (l := []) hb hr (Nat.zero_le _) (by decide) (by simp) (fun i x hi => by simp at hi)
  · refine ⟨.slice (some ⟨h.nx, 0, none⟩) l.length (U + l.length), h.new (.row l.flatten e true), fun K => ?_, .new _ _, ?_⟩
    · unfold AM.app append
      simp only [h1, h1', h2, h3, hlen, h4, hsrc, Option.bind_some]
      rw [if_pos ⟨h5, h6, h7⟩]
      simp only [Nat.zero_add]
      rw [if_neg h0, if_neg (by show ¬ l.length ≤ capK 0; rw [show capK 0 = 0 from by decide]; omega), if_pos hm, if_pos (by decide)]
      rfl
    · exact (ApR.at_ (lo := 0) (Nat.zero_le _) (Nat.lt_succ_self _) (blk_new_self _ _) (by omega) hxl hm).slR
end Go.AM
end

section
namespace Go.AM
section
/-- A number, a bool, or a struct of these. -/
def plainW : Value → Bool
  | .int _ _ => true
  | .bool _ => true
  | .agg vs => !vs.isEmpty && vs.toList.all plainV
  | _ => false
/-- An answer of numbers and bools. -/
def plainO : Value → Bool
  | .int _ _ => true
  | .bool _ => true
  | .agg vs => !vs.isEmpty && vs.toList.all plainV
  | .tuple vs => !vs.isEmpty && vs.toList.all plainW
  | _ => false
/-- The heap after a call: where it has turned nothing that was there, nothing counts as_ written; where it answers plain values too, it is the heap ahead of it. -/
noncomputable def trunc (_ : Program) (h h1 : H) (v : Value) : H :=
  open Classical in
  if ∀ b, b < h.nx → h1.blk b = h.blk b then (if plainO v = true then h else ⟨h1.blk, h1.nx, h.wr⟩) else h1
variable (P : Program) (E : Env)
noncomputable def callT : Nat → Rec
  | 0, _, _, _ => none
  | n + 1, f, args, h =>
    if E.iso f && args.toList.all plainV then
      (body P E (call P E n) (n + 1) f args (lone E)).bind fun (v, _) => if plainR v then some (v, h) else none
    else (body P E (callT n) (n + 1) f args h).map fun (v, h1) => (v, trunc P h h1 v)
end
section
variable {P : Program} {E : Env}
theorem plainV_rel' {n : Nat} {v : Value} (h : plainV v = true) : Lo n v := fun _ _ _ q => plainR_rel (by unfold plainV at h; unfold plainR; split at h <;> simp_all) q
theorem plainW_lo {n : Nat} {v : Value} (h : plainW v = true) : Lo n v := by
  intro ι m v' q
  unfold plainW at h
  cases q with
  | agg h1 h2 =>
    simp only [Bool.and_eq_true] at h
    exact .agg h1 fun i a a' ha ha' => plainV_rel' (List.all_eq_true.1 h.2 a (List.mem_of_getElem? (by simpa using ha))) _ _ _ (h2 i a a' ha ha')
  | int k x => exact .int k x
  | bool b => exact .bool b
  | _ => simp at h
theorem plainO_lo {n : Nat} {v : Value} (h : plainO v = true) : Lo n v := by
  intro ι m v' q
  unfold plainO at h
  cases q with
  | agg h1 h2 =>
    simp only [Bool.and_eq_true] at h
    exact .agg h1 fun i a a' ha ha' => plainV_rel' (List.all_eq_true.1 h.2 a (List.mem_of_getElem? (by simpa using ha))) _ _ _ (h2 i a a' ha ha')
  | tuple h1 h2 =>
    simp only [Bool.and_eq_true] at h
    exact .tuple h1 fun i a a' ha ha' => plainW_lo (List.all_eq_true.1 h.2 a (List.mem_of_getElem? (by simpa using ha))) _ _ _ (h2 i a a' ha ha')
  | int k x => exact .int k x
  | bool b => exact .bool b
  | _ => simp at h
/-- Rows of a block that was there show what was there. -/
theorem BlkR.low {ι ι0 : Nat → Emb} {n m : Nat} {w w0 : World} {b : Nat} {k : Blk} (h : BlkR P ι m w b k) (h0 : BlkR P ι0 n w0 b k) : BlkR P ι n w b k := by
  unfold BlkR at *
  split at h <;> rename_i hk
  · obtain ⟨C, E, h1, h2, h3, h4, h5⟩ := h
    obtain ⟨_, _, _, _, _, _, g5⟩ := h0
    exact ⟨C, E, h1, h2, h3, h4, fun i v hv => by
      obtain ⟨v', a, r⟩ := h5 i v hv
      obtain ⟨v0, _, r0⟩ := g5 i v hv
      exact ⟨v', a, r0.lo _ _ _ r⟩⟩
  · obtain ⟨h1, h2, h3⟩ := h
    obtain ⟨_, _, g3⟩ := h0
    exact ⟨h1, h2, fun i v hv => by
      obtain ⟨v', a, r⟩ := h3 i v hv
      obtain ⟨v0, _, r0⟩ := g3 i v hv
      exact ⟨v', a, r0.lo _ _ _ r⟩⟩
  · obtain ⟨es', h1, h2, h3⟩ := h
    obtain ⟨es0, _, g2, g3⟩ := h0
    exact ⟨es', h1, h2, fun i e e' a b => by
      obtain ⟨p, q, r⟩ := h3 i e e' a b
      have hi : i < es0.size := by
        have := (List.getElem?_eq_some_iff.1 a).1
        omega
      obtain ⟨p0, q0, _⟩ := g3 i e _ a (Array.getElem?_eq_getElem hi)
      exact ⟨p0.lo _ _ _ p, q0.lo _ _ _ q, r⟩⟩
theorem trunc_sound {ι ι' : Nat → Emb} {h h1 : H} {w w' : World} {v v' : Value} (r : Rel P E ι h w) (t : Tr ι h w ι' h1 w') (r1 : Rel P E ι' h1 w') (hv : VR ι' h1.nx v v') :
    Tr ι h w ι' (trunc P h h1 v) w' ∧ Rel P E ι' (trunc P h h1 v) w' ∧ VR ι' (trunc P h h1 v).nx v v' := by
  unfold trunc
  split
  · rename_i hu
    split
    case isFalse => exact ⟨⟨t.nx, t.ext, t.os, t.tape, t.output, t.size, t.fr, t.own⟩, ⟨r1.dom, r1.blk, r1.inj, r1.ng, r1.glob, r1.globB, r1.globO⟩, hv⟩
    rename_i hp
    refine ⟨⟨Nat.le_refl _, t.ext, t.os, t.tape, t.output, t.size, t.fr, fun b k hb ho => t.own b k ((hu b (r.dom b k hb)).trans hb) ho⟩, ⟨r.dom, fun b k hb => ?_, fun b b' k k' hb hb' hne ho => ?_, r.ng, r1.glob, r.globB, r1.globO⟩, ?_⟩
    · exact (r1.blk b k ((hu b (r.dom b k hb)).trans hb)).low (r.blk b k hb)
    · exact r1.inj b b' k k' ((hu b (r.dom b k hb)).trans hb) ((hu b' (r.dom b' k' hb')).trans hb') hne ho
    · exact plainO_lo hp _ _ _ hv
  · exact ⟨t, r1, hv⟩
theorem trunc_grow {h h1 : H} {v : Value} (g : Grow h h1) : Grow h (trunc P h h1 v) := by
  unfold trunc
  split
  · split
    · exact .refl _
    · rename_i hu _
      exact ⟨g.1, Nat.le_refl _, fun _ => hu, g.2.2.2⟩
  · exact g
theorem callT_sound (hmix : P.follows .mixedOrders = true) : ∀ n, SoundR P E (callT P E n) := by
  intro n
  induction n with
  | zero => exact ⟨fun f args h v h' hc => (by cases hc), fun f args h v h' hc => (by cases hc), fun f args h v h' hc => (by cases hc)⟩
  | succ n ih =>
    have hd := draw_ok hmix ih
    have split : ∀ f args h v h', callT P E (n + 1) f args h = some (v, h') → (∃ h1, h' = trunc P h h1 v ∧ body P E (callT P E n) (n + 1) f args h = some (v, h1)) ∨
        call P E (n + 1) f args h = some (v, h') := by
      intro f args h v h' hc
      simp only [callT] at hc
      split at hc
      · rename_i hiso
        right
        simp only [call]
        rw [if_pos hiso]
        exact hc
      · obtain ⟨⟨u, h2⟩, q1, q2⟩ := map_some hc
        simp only [Prod.mk.injEq] at q2
        obtain ⟨rfl, rfl⟩ := q2
        exact .inl ⟨h2, rfl, q1⟩
    have sn := sound (E := E) hmix (n + 1)
    refine ⟨fun f args h v h' hc => ?_, fun f args h v h' hc => ?_, fun f args h v h' hc ι w args' r ha => ?_⟩
    · rcases split f args h v h' hc with ⟨h1, _, hb⟩ | hb
      · exact (body_sound ih hd hb).1
      · exact sn.fn _ _ _ _ _ hb
    · rcases split f args h v h' hc with ⟨h1, rfl, hb⟩ | hb
      · exact trunc_grow (body_sound ih hd hb).2.1
      · exact sn.grow _ _ _ _ _ hb
    · rcases split f args h v h' hc with ⟨h1, rfl, hb⟩ | hb
      · refine ((body_sound ih hd hb).2.2 ι w args' r ha).mono ?_
        rintro e w' ⟨v', ι', rfl, t1, t2, t3⟩
        obtain ⟨q1, q2, q3⟩ := trunc_sound r t1 t2 t3
        exact ⟨v', ι', rfl, q1, q2, q3⟩
      · exact sn.calls _ _ _ _ _ hb ι w args' r ha
section
variable {rec : Rec} {recs : Nat → Rec}
def Lim (rec : Rec) (recs : Nat → Rec) : Prop := ∀ f args h r, rec f args h = some r → ∃ N, ∀ n, N ≤ n → recs n f args h = some r
theorem op_cont (hl : Lim rec recs) {t : Array Value} {o : Oper} {h : H} {r : Value × H} (ho : op P E rec t o h = some r) : ∃ N, ∀ n, N ≤ n → op P E (recs n) t o h = some r := by
  unfold op at ho ⊢
  split at ho
  · cases ho
  · rename_i hok
    simp only [hok, if_false, Bool.false_eq_true]
    split at ho <;> try exact ⟨0, fun n _ => ho⟩
    rename_i c hc
    split at ho <;> try exact ⟨0, fun n _ => ho⟩
    rename_i f hf
    unfold callV at ho ⊢
    simp only at ho ⊢
    split at ho
    · exact hl _ _ _ _ ho
    · cases ho
theorem ops_cont (hl : Lim rec recs) (all : Array Oper) : ∀ (l : List Oper) (t : Array Value) (h : H) (r : Array Value × H), ops P E rec all l t h = some r → ∃ N, ∀ n, N ≤ n → ops P E (recs n) all l t h = some r := by
  intro l
  induction l with
  | nil => intro t h r ho; exact ⟨0, fun n _ => ho⟩
  | cons o l ih =>
    intro t h r ho
    simp only [ops] at ho ⊢
    split at ho
    · rename_i hw
      obtain ⟨⟨v, h1⟩, q1, q2⟩ := bind_some ho
      obtain ⟨N1, e1⟩ := op_cont hl q1
      obtain ⟨N2, e2⟩ := ih _ _ _ q2
      refine ⟨max N1 N2, fun n hn => ?_⟩
      rw [if_pos hw, e1 n (by omega)]
      exact e2 n (by omega)
    · rename_i hw
      obtain ⟨N2, e2⟩ := ih _ _ _ ho
      exact ⟨N2, fun n hn => by rw [if_neg hw]; exact e2 n hn⟩
theorem drawGo_cont (hl : Lim rec recs) (all : Array Oper) (B : Array Nat) : ∀ (l : List Oper) (j : Nat) (log : List Did) (t : Array Value) (h : H) (r : Array Value × H), drawGo P E rec all B l j log t h = some r →
    ∃ N, ∀ n, N ≤ n → drawGo P E (recs n) all B l j log t h = some r := by
  intro l
  induction l with
  | nil => intro j log t h r ho; exact ⟨0, fun n _ => ho⟩
  | cons o l ih =>
    intro j log t h r ho
    simp only [drawGo] at ho ⊢
    split at ho
    · rename_i hw
      obtain ⟨f, q0, q⟩ := bind_some ho
      obtain ⟨⟨v, h1⟩, q1, q2⟩ := bind_some q
      simp only at q2
      split at q2
      · rename_i hlog
        obtain ⟨N1, e1⟩ := op_cont hl q1
        obtain ⟨N2, e2⟩ := ih _ _ _ _ _ q2
        refine ⟨max N1 N2, fun n hn => ?_⟩
        rw [if_pos hw, q0, Option.bind_some, e1 n (by omega), Option.bind_some]
        simp only
        rw [if_pos hlog]
        exact e2 n (by omega)
      · cases q2
    · rename_i hw
      obtain ⟨N2, e2⟩ := ih _ _ _ _ _ ho
      exact ⟨N2, fun n hn => by rw [if_neg hw]; exact e2 n hn⟩
theorem code_cont (hl : Lim rec recs) (k : Nat) : ∀ (c : Code) (t : Array Value) (h : H) (r : Ex × Array Value × H), code P E rec k c t h = some r →
    ∃ N, ∀ n, N ≤ n → ∀ k', k ≤ k' → code P E (recs n) k' c t h = some r := by
  intro c
  induction c with
  | skip => intro t h r hc; exact ⟨0, fun n _ k' _ => hc⟩
  | region id all dr =>
    intro t h r hc
    cases dr with
    | false =>
      simp only [code] at hc ⊢
      obtain ⟨⟨t1, h1⟩, h2, h3⟩ := map_some hc
      obtain ⟨N, e⟩ := ops_cont hl all _ _ _ _ h2
      exact ⟨N, fun n hn k' _ => by rw [e n hn]; exact congrArg some h3⟩
    | true =>
      simp only [code] at hc ⊢
      obtain ⟨⟨t1, h1⟩, h2, h3⟩ := map_some hc
      unfold draw at h2 ⊢
      split at h2
      · rename_i hok
        obtain ⟨N, e⟩ := drawGo_cont hl _ _ _ _ _ _ _ _ h2
        exact ⟨N, fun n hn k' _ => by rw [if_pos hok, e n hn]; exact congrArg some h3⟩
      · cases h2
  | seq x y ihx ihy =>
    intro t h r hc
    simp only [code] at hc ⊢
    obtain ⟨⟨e1, t1, h1⟩, h2, h3⟩ := bind_some hc
    obtain ⟨N1, p1⟩ := ihx _ _ _ h2
    cases e1 with
    | normal =>
      simp only at h3
      obtain ⟨N2, p2⟩ := ihy _ _ _ h3
      exact ⟨max N1 N2, fun n hn k' hk => by rw [p1 n (by omega) k' hk]; exact p2 n (by omega) k' hk⟩
    | exit i => exact ⟨N1, fun n hn k' hk => by rw [p1 n hn k' hk]; exact h3⟩
    | ret => exact ⟨N1, fun n hn k' hk => by rw [p1 n hn k' hk]; exact h3⟩
  | cond b x y ihx ihy =>
    intro t h r hc
    simp only [code] at hc ⊢
    split at hc
    · cases hc
    · rename_i hok
      simp only [hok, if_false, Bool.false_eq_true]
      split at hc
      · exact ihx _ _ _ hc
      · exact ihy _ _ _ hc
      · cases hc
  | block id x ih =>
    intro t h r hc
    simp only [code] at hc ⊢
    obtain ⟨⟨e1, t1, h1⟩, h2, h3⟩ := map_some hc
    obtain ⟨N, p⟩ := ih _ _ _ h2
    exact ⟨N, fun n hn k' hk => by rw [p n hn k' hk]; exact congrArg some h3⟩
  | loop x ih =>
    intro t h r hc
    simp only [code] at hc ⊢
    have key : ∀ (m : Nat) (t : Array Value) (h : H) (r : Ex × Array Value × H), loop (code P E rec k x) m t h = some r → ∃ N, ∀ n, N ≤ n → ∀ k', k ≤ k' → ∀ m', m ≤ m' → loop (code P E (recs n) k' x) m' t h = some r := by
      intro m
      induction m with
      | zero => intro t h r hc; cases hc
      | succ m ihm =>
        intro t h r hc
        simp only [loop] at hc
        obtain ⟨⟨e1, t1, h1⟩, h2, h3⟩ := bind_some hc
        obtain ⟨N1, p1⟩ := ih _ _ _ h2
        cases e1 with
        | normal =>
          simp only at h3
          obtain ⟨N2, p2⟩ := ihm _ _ _ h3
          refine ⟨max N1 N2, fun n hn k' hk m' hm => ?_⟩
          cases m' with
          | zero => omega
          | succ m' =>
            simp only [loop]
            rw [p1 n (by omega) k' hk]
            exact p2 n (by omega) k' hk m' (by omega)
        | exit i =>
          refine ⟨N1, fun n hn k' hk m' hm => ?_⟩
          cases m' with
          | zero => omega
          | succ m' => simp only [loop]; rw [p1 n (by omega) k' hk]; exact h3
        | ret =>
          refine ⟨N1, fun n hn k' hk m' hm => ?_⟩
          cases m' with
          | zero => omega
          | succ m' => simp only [loop]; rw [p1 n (by omega) k' hk]; exact h3
    obtain ⟨N, p⟩ := key k _ _ _ hc
    exact ⟨N, fun n hn k' hk => p n hn k' hk k' hk⟩
  | exit id => intro t h r hc; exact ⟨0, fun n _ k' _ => hc⟩
  | ret => intro t h r hc; exact ⟨0, fun n _ k' _ => hc⟩
  | _ => intro t h r hc; simp only [code] at hc; cases hc
theorem body_cont (hl : Lim rec recs) {k : Nat} {f : FuncId} {args : Array Value} {h : H} {r : Value × H} (hb : body P E rec k f args h = some r) :
    ∃ N, ∀ n, N ≤ n → ∀ k', k ≤ k' → body P E (recs n) k' f args h = some r := by
  unfold body at hb ⊢
  split at hb
  · rename_i fn hf
    split at hb
    · rename_i c hc
      split at hb
      · cases hb
      · rename_i hname
        obtain ⟨⟨e, t1, h1⟩, h2, h3⟩ := bind_some hb
        obtain ⟨N, p⟩ := code_cont hl k c _ _ _ h2
        refine ⟨N, fun n hn k' hk => ?_⟩
        simp only
        rw [if_neg hname, p n hn k' hk]
        exact h3
    · cases hb
  · cases hb
end
theorem call_mono : ∀ n f args h r, call P E n f args h = some r → call P E (n + 1) f args h = some r := by
  intro n
  induction n with
  | zero => intro f args h r hc; cases hc
  | succ n ih =>
    intro f args h r hc
    have hl : Lim (call P E n) (fun _ => call P E (n + 1)) := fun f args h r hr => ⟨0, fun _ _ => ih f args h r hr⟩
    unfold call at hc ⊢
    split at hc
    · rename_i hiso
      rw [if_pos hiso]
      obtain ⟨⟨v, h2⟩, q1, q2⟩ := bind_some hc
      obtain ⟨N, p⟩ := body_cont hl q1
      rw [p N (Nat.le_refl _) (n + 1 + 1) (Nat.le_succ _)]
      exact q2
    · rename_i hiso
      rw [if_neg hiso]
      obtain ⟨N, p⟩ := body_cont hl hc
      exact p N (Nat.le_refl _) (n + 1 + 1) (Nat.le_succ _)
theorem callT_mono : ∀ n f args h r, callT P E n f args h = some r → callT P E (n + 1) f args h = some r := by
  intro n
  induction n with
  | zero => intro f args h r hc; cases hc
  | succ n ih =>
    intro f args h r hc
    have hl : Lim (callT P E n) (fun _ => callT P E (n + 1)) := fun f args h r hr => ⟨0, fun _ _ => ih f args h r hr⟩
    have hl2 : Lim (call P E n) (fun _ => call P E (n + 1)) := fun f args h r hr => ⟨0, fun _ _ => call_mono n f args h r hr⟩
    unfold callT at hc ⊢
    split at hc
    · rename_i hiso
      rw [if_pos hiso]
      obtain ⟨⟨v, h2⟩, q1, q2⟩ := bind_some hc
      obtain ⟨N, p⟩ := body_cont hl2 q1
      rw [p N (Nat.le_refl _) (n + 1 + 1) (Nat.le_succ _)]
      exact q2
    · rename_i hiso
      rw [if_neg hiso]
      obtain ⟨⟨v, h2⟩, q1, q2⟩ := map_some hc
      obtain ⟨N, p⟩ := body_cont hl q1
      rw [p N (Nat.le_refl _) (n + 1 + 1) (Nat.le_succ _)]
      exact congrArg some q2
theorem callT_le {n m : Nat} (hnm : n ≤ m) {f : FuncId} {args : Array Value} {h : H} {r : Value × H} (hc : callT P E n f args h = some r) : callT P E m f args h = some r := by
  induction hnm with
  | refl => exact hc
  | step _ ih => exact callT_mono _ _ _ _ _ ih
variable (P E) in
/-- What a call answers in the end. -/
noncomputable def run : Rec := fun f args h =>
  open Classical in
  if hx : ∃ n r, callT P E n f args h = some r then some hx.choose_spec.choose else none
theorem run_of {n : Nat} {f : FuncId} {args : Array Value} {h : H} {r : Value × H} (hc : callT P E n f args h = some r) : run P E f args h = some r := by
  have hx : ∃ n r, callT P E n f args h = some r := ⟨n, r, hc⟩
  unfold run
  rw [dif_pos hx]
  have h1 := callT_le (Nat.le_max_left n hx.choose) hc
  have h2 := callT_le (Nat.le_max_right n hx.choose) hx.choose_spec.choose_spec
  rw [h1] at h2
  exact h2.symm
theorem run_lim : Lim (run P E) (callT P E) := by
  intro f args h r hr
  unfold run at hr
  split at hr
  · rename_i hx
    cases hr
    exact ⟨hx.choose, fun n hn => callT_le hn hx.choose_spec.choose_spec⟩
  · cases hr
theorem run_sound (hmix : P.follows .mixedOrders = true) : SoundR P E (run P E) := by
  refine ⟨fun f args h v h' hc => ?_, fun f args h v h' hc => ?_, fun f args h v h' hc => ?_⟩
  all_goals obtain ⟨N, p⟩ := run_lim f args h _ hc
  · exact (callT_sound hmix N).fn _ _ _ _ _ (p N (Nat.le_refl _))
  · exact (callT_sound hmix N).grow _ _ _ _ _ (p N (Nat.le_refl _))
  · exact (callT_sound hmix N).calls _ _ _ _ _ (p N (Nat.le_refl _))
theorem run_of_bodyT {k : Nat} {f : FuncId} {args : List SV} {h h1 : H} {v : Value} (hi : E.iso f = false)
    (hh : bodyT P E SC (XC P (run P E) k) f (Value × H) args h (fun v h => some (v, h)) = some (v, h1)) : run P E f (args.map SV.val).toArray h = some (v, trunc P h h1 v) := by
  obtain ⟨v1, h2, g1, g2⟩ := bodyT_some hh
  cases g2
  obtain ⟨N, p⟩ := body_cont run_lim g1
  refine run_of (n := max N k + 1) ?_
  unfold callT
  rw [hi]
  simp only [Bool.false_and, Bool.false_eq_true, if_false]
  rw [p _ (Nat.le_max_left _ _) _ (by omega)]
  rfl
theorem trunc_pure {h h1 : H} {v : Value} (hp : plainO v = true) (x : Ext h h1) : trunc P h h1 v = h := by
  unfold trunc
  rw [if_pos x.blk, if_pos hp]
/-- The same heap, but for how often it was written. -/
structure Sm (h1 h2 : H) : Prop where
  nx : h2.nx = h1.nx
  blk : h2.blk = h1.blk
theorem Sm.ext {h1 h2 : H} (s : Sm h1 h2) : Ext h1 h2 := ⟨by rw [s.nx]; exact Nat.le_refl _, fun b _ => by rw [s.blk]⟩
/-- A heap that has grown, and in which nothing counts as_ written. -/
structure Exw (h h' : H) : Prop extends Ext h h' where
  wr : h'.wr = h.wr
theorem trunc_self {h : H} {v : Value} : trunc P h h v = h := by
  unfold trunc
  rw [if_pos (fun _ _ => rfl)]
  split <;> rfl
theorem trunc_not {h h1 : H} {v : Value} (hp : plainO v = false) : Sm h1 (trunc P h h1 v) ∧ (Ext h h1 → Exw h (trunc P h h1 v)) := by
  unfold trunc
  by_cases hu : ∀ b, b < h.nx → h1.blk b = h.blk b
  · rw [if_pos hu, if_neg (by rw [hp]; simp)]
    exact ⟨⟨rfl, rfl⟩, fun x => ⟨⟨x.nx, x.blk⟩, rfl⟩⟩
  · rw [if_neg hu]
    exact ⟨⟨rfl, rfl⟩, fun x => absurd x.blk hu⟩
/-- What a call leaves that answers more than plain values. -/
theorem trunc_cell {h h1 : H} {v : Value} {F : Option (Value × H)} (hp : plainO v = false) (e : F = some (v, trunc P h h1 v)) : ∃ h2, F = some (v, h2) ∧ Sm h1 h2 ∧ (Ext h h1 → Exw h h2) :=
  ⟨_, e, trunc_not hp⟩
end
end Go.AM
namespace Go.AM
open Go.RowKit
end Go.AM
namespace Go.AM
open Go.RowKit
end Go.AM
namespace Go.AM
open Go.ChangeShapes
section
variable {P : Program} {E : Env} {ι : Nat → Emb} {h : H} {w : World}
/-- A row to be read alone. -/
theorem Rel.addRO (r : Rel P E ι h w) (hro : ∀ b k, h.blk b = some k → k.own = false) {cs : List Value} {e : TypeId} {m : Emb} (hg : m.g < w.heap.size) (hs : size? P e = some m.sz)
    (hc : ∀ (i : Nat) (v : Value), cs[i]? = some v → ∃ v', w.cell? ⟨m.g, m.base + i, none⟩ = some v' ∧ VR ι h.nx v v') :
    Rel P E (Emb.new ι h.nx m) (h.new (.row cs e false)) w ∧ (∀ b k, (h.new (.row cs e false)).blk b = some k → k.own = false) := by
  have hlt : ∀ {b}, b < h.nx → Emb.new ι h.nx m b = ι b := fun hb => Emb.new_lt ι _ m hb
  have hro' : ∀ b k, (h.new (.row cs e false)).blk b = some k → k.own = false := by
    intro b k hb
    simp only [H.new] at hb
    split at hb
    · cases hb; rfl
    · exact hro b k hb
  refine ⟨⟨?_, ?_, ?_, ?_, ?_, ?_, ?_⟩, hro'⟩
  · intro b k hb
    simp only [H.new] at hb ⊢
    split at hb
    · omega
    · have := r.dom b k hb; omega
  · intro b k hb
    simp only [H.new] at hb ⊢
    split at hb
    · rename_i e1
      cases hb
      subst e1
      refine ⟨by rw [Emb.new_at]; exact hg, by rw [Emb.new_at]; exact hs, fun i v hv => ?_⟩
      obtain ⟨v', h1, h2⟩ := hc i v hv
      rw [Emb.new_at]
      exact ⟨v', h1, h2.mono (Nat.le_succ _) (fun b hb => hlt hb)⟩
    · have hbl := r.dom b k hb
      exact (r.blk b k hb).mono (Nat.le_succ _) (fun b hb => hlt hb) (hlt hbl)
  · intro b b' k k' hb hb' _ ho
    rw [hro' b k hb] at ho
    cases ho
  · simp only [H.new]; exact Nat.le_succ_of_le r.ng
  · intro g hg'
    rw [hlt (Nat.lt_of_lt_of_le hg' r.ng)]
    exact r.glob g hg'
  · intro g hg'
    simp only [H.new]
    rw [if_neg (by have := r.ng; omega)]
    exact r.globB g hg'
  · intro g k' hg' hk'
    obtain ⟨h1, h2⟩ := r.globO g k' hg' hk'
    have hgl := Nat.lt_of_lt_of_le hg' r.ng
    exact ⟨h1, h2.mono (Nat.le_refl _) (fun b hb => hlt (Nat.lt_of_lt_of_le hb r.ng)) (hlt hgl)⟩
theorem add_add {a : Addr} (ha : a.spot = none) (i j : Nat) : (a.add i).add j = ⟨a.block, a.off + (i + j), none⟩ := by
  obtain ⟨b, o, s⟩ := a
  simp only at ha
  subst ha
  unfold Addr.add
  by_cases h1 : i = 0 <;> by_cases h2 : j = 0 <;> simp [h1, h2, Nat.add_assoc]
/-- What a whole number stands for is itself. -/
theorem VR.ints {n : Nat} {v : Value} (h : ∃ k x, v = .int k x) : VR ι n v v := by
  obtain ⟨k, x, rfl⟩ := h
  exact .int k x
variable {HH : Type} {enc : TypeId × Value → HH} {base : Nat} {held : Bool}
/-- A slice whose elements are of whole numbers alone. -/
theorem open_flat (r : Rel P E ι h w) (hro : ∀ b k, h.blk b = some k → k.own = false) {t e : TypeId} {s : Nat} (ht : P.underlying t = some (.slice e)) (hs : size? P e = some s) (hce : P.cellsOf e = s) (h0 : 0 < s)
    {Q : List Value → Prop} (hflat : ∀ n cs x, DataW.trod enc P w base (fun _ => true) held n e cs = some x → Q cs) (hQ : ∀ cs, Q cs → cs.length = s ∧ ∀ v ∈ cs, ∃ k x, v = .int k x)
    {a : Option Addr} {len cap : Nat} {d : DataW HH} {ps : List MemPlace} (hby : 0 < P.bytesOf e) (hwt : ∀ x ∈ d.weights P t, x ≤ reachBytes) (hhas : ∀ a', a = some a' → a'.spot = none ∧ a'.block < w.heap.size) (hd : DataW.Trod enc P w base (fun _ => true) held t (.slice a len cap) d ps) :
    ∃ (ι' : Nat → Emb) (h' : H) (v0 : Value) (l : List (List Value)), Rel P E ι' h' w ∧ (∀ b k, h'.blk b = some k → k.own = false) ∧ Ext h h' ∧ (∀ b, b < h.nx → ι' b = ι b) ∧ VR ι' h'.nx v0 (.slice a len cap) ∧
      SlR h' e s v0 l ∧ ∀ x ∈ l, Q x := by
  obtain ⟨fuel, hf⟩ := hd
  rcases DataW.trod_slice ht hf with ⟨hcs, _⟩ | ⟨a', len', cap', elems, rest, n, _, hcs, hx, hb, hlc, hcm, hel, he, _, _⟩
  · simp [Value.cells] at hcs
    obtain ⟨rfl, rfl, rfl⟩ := hcs
    exact ⟨ι, h, .slice none 0 0, [], r, hro, .refl _, fun _ _ => rfl, .slNil, .nil, fun x hx => by cases hx⟩
  · simp [Value.cells] at hcs
    obtain ⟨rfl, rfl, rfl⟩ := hcs
    rw [hce] at he
    have hlen : len < U := by
      have hd : d = .slice (elems.map (·.1)) (rest.map (·.1)) := congrArg Prod.fst hx
      have := hwt ((elems.length + rest.length) * P.bytesOf e) (by rw [hd]; simp [DataW.weights, ht])
      have h1 : (elems.length + rest.length) * 1 ≤ (elems.length + rest.length) * P.bytesOf e := Nat.mul_le_mul_left _ hby
      have h2 : reachBytes < U := by decide
      omega
    have hex : ∀ i, i < len → ∃ cs, w.cells? base (a'.add (i * s)) s = some cs ∧ Q cs := by
      intro i hi
      have h1 := he i hi
      have h2 : elems[i]? = some elems[i] := List.getElem?_eq_getElem (by omega)
      rw [h2] at h1
      obtain ⟨cs, g1, g2⟩ := Option.bind_eq_some_iff.1 h1
      exact ⟨cs, g1, hflat _ _ _ g2⟩
    obtain ⟨hsp, hgl⟩ := hhas a' rfl
    let f : Nat → List Value := fun i => ((w.cells? base (a'.add (i * s)) s).getD [])
    have hf' : ∀ i, i < len → w.cells? base (a'.add (i * s)) s = some (f i) ∧ Q (f i) := by
      intro i hi
      obtain ⟨cs, g1, g2⟩ := hex i hi
      have : f i = cs := by simp [f, g1]
      rw [this]; exact ⟨g1, g2⟩
    have hfl : ∀ x ∈ (List.range len).map f, x.length = s := by
      intro x hx
      obtain ⟨i, hi, rfl⟩ := List.mem_map.1 hx
      exact (hQ _ (hf' i (List.mem_range.1 hi)).2).1
    have hget : ∀ i, i < len → ((List.range len).map f)[i]? = some (f i) := by
      intro i hi
      rw [List.getElem?_map, List.getElem?_range hi]; rfl
    have hcells : ∀ i j, i < len → j < s → w.cell? ⟨a'.block, a'.off + (i * s + j), none⟩ = (f i)[j]? := by
      intro i j hi hj
      obtain ⟨_, _, g3⟩ := World.cells?_some (hf' i hi).1
      rw [← g3 j hj, add_add hsp]
    have hnew := r.addRO hro (cs := ((List.range len).map f).flatten) (e := e) (m := ⟨a'.block, a'.off, a'.off + cap * s, s⟩) hgl hs (by
      intro i v hv
      have hi : i < len * s := by
        have := (List.getElem?_eq_some_iff.1 hv).1
        rw [flatten_len hfl] at this
        simpa using this
      have hq : i / s < len := by rw [Nat.div_lt_iff_lt_mul h0]; exact hi
      have hm : i % s < s := Nat.mod_lt _ h0
      have e1 : i = i / s * s + i % s := by
        have := Nat.div_add_mod i s
        rw [Nat.mul_comm] at this
        exact this.symm
      have h2 := flatten_get hfl (i / s) (f (i / s)) (hget _ hq) (i % s) hm
      rw [← e1, hv] at h2
      refine ⟨v, ?_, ?_⟩
      · have := hcells (i / s) (i % s) hq hm
        rw [← e1] at this
        rw [h2]; exact this
      · exact VR.ints ((hQ _ (hf' _ hq).2).2 v (List.mem_of_getElem? h2.symm)))
    refine ⟨_, _, .slice (some ⟨h.nx, 0, none⟩) len (U + len), (List.range len).map f, hnew.1, hnew.2, .new _ _, fun b hb => Emb.new_lt ι _ _ hb, ?_, ?_, ?_⟩
    · have := VR.sl (ι := Emb.new ι h.nx ⟨a'.block, a'.off, a'.off + cap * s, s⟩) (n := h.nx + 1) (b := h.nx) (o := 0) (l := len) (c := U + len) (c' := cap) (Nat.lt_succ_self _) (.inr ⟨Nat.le_add_right _ _, by omega⟩)
        (by rw [capK_U]; exact Nat.le_refl _) (by rw [Emb.new_at]; simp only [Nat.zero_add]; omega)
      rw [Emb.new_at] at this
      obtain ⟨ab, ao, asp⟩ := a'
      simp only at hsp
      subst hsp
      exact this
    · have := SlR.at_ (h := h.new (.row ((List.range len).map f).flatten e false)) (e := e) (s := s) (b := h.nx) (o := 0) (c := U + len) (l := (List.range len).map f) (Nat.lt_succ_self _) (blk_new_self _ _)
        (by rw [capK_U]; simp) (by rw [capK_U]; exact hlen) (by rw [flatten_len hfl]; omega) (fun i x hi => ⟨hfl x (List.mem_of_getElem? hi), fun j hj => by
          rw [Nat.zero_add]; exact flatten_get hfl i x hi j hj⟩)
      simpa using this
    · intro x hx
      obtain ⟨i, hi, rfl⟩ := List.mem_map.1 hx
      exact (hf' i (List.mem_range.1 hi)).2
/-- Where a slice lies, by the form's own condition on arguments. -/
theorem okWide_has {t e : TypeId} {rr : Reach} {b0 : Nat} {a : Option Addr} {len cap : Nat} (ht : P.underlying t = some (.slice e)) (hv : Cell.okWide P w rr b0 t (.slice a len cap)) :
    ∀ a', a = some a' → a'.spot = none ∧ a'.block < w.heap.size := by
  intro a' ha
  subst ha
  simp only [Cell.okWide, ht, Cell.ok] at hv
  obtain ⟨_, _, _, hs, row, cells, hsh, _⟩ := hv
  refine ⟨hs, ?_⟩
  unfold World.shape? at hsh
  split at hsh
  · rename_i hb
    rcases Nat.lt_or_ge a'.block w.heap.size with h1 | h1
    · exact h1
    · rw [Array.getElem?_eq_none h1] at hb; cases hb
  · cases hsh
/-- A struct of a whole number and a slice. -/
theorem open_numslice {t ti ts e : TypeId} {fs : Array Field} {f0 f1 : Field} {rr : Reach} {b0 : Nat} {v : Value} {d : DataW HH} {ps : List MemPlace} (hu : P.underlying t = some (.struct fs)) (hfs : fs = #[f0, f1])
    (h0 : f0.type = ti ∧ f0.offset = 0) (h1 : f1.type = ts ∧ f1.offset = 1) (hti : P.underlying ti = some (.int .i64)) (hts : P.underlying ts = some (.slice e)) (hc : P.cellsOf t = 2) (hci : P.cellsOf ti = 1) (hcs : P.cellsOf ts = 1)
    (hct : P.cellTypes P.depth t = some [ti, ts]) (hv : Value.okWide P w rr b0 t v) (hwt : ∀ x ∈ d.weights P t, x ≤ reachBytes) (hd : DataW.Trod enc P w base (fun _ => true) held t v d ps) :
    ∃ (n : Int) (a : Option Addr) (len cap : Nat) (d1 : DataW HH) (p1 : List MemPlace), v = .agg #[.int .i64 n, .slice a len cap] ∧ (Lit.int .i64 n).wf = true ∧ (∀ x ∈ d1.weights P ts, x ≤ reachBytes) ∧
      (∀ a', a = some a' → a'.spot = none ∧ a'.block < w.heap.size) ∧ DataW.Trod enc P w base (fun _ => true) held ts (.slice a len cap) d1 p1 := by
  simp only [Value.okWide, hu] at hv
  obtain ⟨cs, rfl, hsz, tys, htys, _, hrow⟩ := hv
  rw [hct] at htys
  cases htys
  rw [hc] at hsz
  have hxy : ∃ x y, cs = #[x, y] := by
    obtain ⟨l⟩ := cs
    match l, hsz with
    | [x, y], _ => exact ⟨x, y, rfl⟩
  obtain ⟨x, y, rfl⟩ := hxy
  obtain ⟨u0, e0, c0⟩ := hrow 0 x rfl
  obtain ⟨u1, e1, c1⟩ := hrow 1 y rfl
  simp at e0 e1
  subst e0; subst e1
  have hx : ∃ n, x = .int .i64 n := by
    simp only [Cell.okWide, hti] at c0
    cases x <;> simp_all [Cell.ok]
  have hy : ∃ a len cap, y = .slice a len cap := by
    simp only [Cell.okWide, hts] at c1
    cases y <;> simp_all [Cell.ok]
  obtain ⟨n, rfl⟩ := hx
  obtain ⟨a, len, cap, rfl⟩ := hy
  obtain ⟨fuel, hf⟩ := hd
  obtain ⟨xs, m, rfl, hx, _, hxl, each⟩ := DataW.trod_struct hu hf
  have a0 := each 0 f0 (by rw [hfs]; rfl)
  have a1 := each 1 f1 (by rw [hfs]; rfl)
  rw [h0.1, h0.2, hci] at a0
  rw [h1.1, h1.2, hcs] at a1
  have hl2 : xs.length = 2 := by rw [hxl, hfs]; rfl
  rw [List.getElem?_eq_getElem (show 0 < xs.length by omega)] at a0
  rw [List.getElem?_eq_getElem (show 1 < xs.length by omega)] at a1
  have hdd : d = .agg (xs.map (·.1)) := congrArg Prod.fst hx
  refine ⟨n, a, len, cap, xs[1].1, xs[1].2, rfl, ?_, fun z hz => hwt z ?_, okWide_has hts c1, m, a1⟩
  · obtain ⟨n', hh, _, hw⟩ := DataW.trod_int hti a0
    simp [Value.cells] at hh
    subst hh
    exact hw
  · rw [hdd]
    simp only [DataW.weights, hu]
    refine DataW.weights_mem_each (j := 1) (t := ts) (d := xs[1].1) (by rw [hfs]; simp [h1.1]) ?_ z hz
    rw [List.getElem?_map, List.getElem?_eq_getElem (show 1 < xs.length by omega)]
    rfl
/-- The cells of a struct of three whole numbers. -/
theorem trod_three {e ti : TypeId} {fs : Array Field} (hu : P.underlying e = some (.struct fs)) (ht : fs.toList.map (fun f => (f.type, f.offset)) = [(ti, 0), (ti, 1), (ti, 2)]) (hti : P.underlying ti = some (.int .i64))
    (hci : P.cellsOf ti = 1) (hce : P.cellsOf e = 3) {n : Nat} {cs : List Value} {x : DataW HH × List MemPlace} (h : DataW.trod enc P w base (fun _ => true) held n e cs = some x) : ∃ a b c : Int, cs = [iv a, iv b, iv c] := by
  obtain ⟨xs, m, rfl, _, hl, hxs, each⟩ := DataW.trod_struct hu h
  rw [hce] at hl
  have hsz : fs.size = 3 := by
    have := congrArg List.length ht
    simpa using this
  have key : ∀ i, i < 3 → ∃ z : Int, (cs.drop i).take 1 = [iv z] := by
    intro i hi
    have hf : fs[i]? = some fs[i] := Array.getElem?_eq_getElem (by omega)
    have h1 := each i _ hf
    have h2 : (fs.toList.map (fun f => (f.type, f.offset)))[i]? = some (fs[i].type, fs[i].offset) := by
      rw [List.getElem?_map, Array.getElem?_toList, hf]; rfl
    rw [ht] at h2
    have h3 : fs[i].type = ti ∧ fs[i].offset = i := by
      rcases (by omega : i = 0 ∨ i = 1 ∨ i = 2) with rfl | rfl | rfl <;> (simp at h2; exact ⟨h2.1.symm, h2.2.symm⟩)
    rw [h3.1, h3.2, hci, List.getElem?_eq_getElem (show i < xs.length by omega)] at h1
    obtain ⟨z, hz, _⟩ := DataW.trod_int hti h1
    exact ⟨z, hz⟩
  obtain ⟨a, ha⟩ := key 0 (by omega)
  obtain ⟨b, hb⟩ := key 1 (by omega)
  obtain ⟨t, ht'⟩ := key 2 (by omega)
  match cs, hl with
  | [x, y, z], _ =>
    simp at ha hb ht'
    exact ⟨a, b, t, by simp [ha, hb, ht']⟩
end
end Go.AM
end

section
namespace Go.AM
section
variable {P : Program} {R : Type} {h : H} {b o n : Nat} {v : Value} {t : TypeId}
theorem ld_scS {K : Value → Option R} (ht : aggT P t = some false) : ld P h t b o K = (h.cell b o).bind K := by
  simp [ld, load, ht]
theorem ld_agS {K : Value → Option R} (ht : aggT P t = some true) (hs : size? P t = some n) : ld P h t b o K = (h.rd b o n).bind fun l => K (.agg l.toArray) := by
  simp only [ld, load, ht, hs, Option.bind_some]
  cases h.rd b o n <;> rfl
/-- A value is written. -/
def wrc (n : Nat) (h : H) (b o : Nat) (v : Value) : Option H :=
  match h.blk b with
  | some (.row c e true) => if n = v.cells.size ∧ o + v.cells.size ≤ c.length ∧ v.cells.toList.all scal = true then some (h.set b (.row (setAt c o v.cells.toList) e true)) else none
  | _ => none
theorem st_S {K : H → Option R} (hs : size? P t = some n) : st P h t b o v K = (wrc n h b o v).bind K := by
  simp only [st, store, wrc, hs, Option.some.injEq]
  cases hb : h.blk b with
  | none => rfl
  | some k =>
    cases k with
    | row c e o => cases o <;> rfl
    | mp => rfl
/-- One cell is written. -/
theorem wrc_one {c : List Value} {e : TypeId} (hb : h.blk b = some (.row c e true)) (hv : v.cells = #[v]) (hs : scal v = true) (ho : o < c.length) : wrc 1 h b o v = some (h.set b (.row (c.set o v) e true)) := by
  simp only [wrc, hb, hv]
  rw [if_pos ⟨rfl, by simp; omega, by simp [hs]⟩]
  rfl
theorem blk_new (k : Blk) (i : Nat) : (h.new k).blk i = if i = h.nx then some k else h.blk i := rfl
theorem blk_set (k : Blk) (i : Nat) : (h.set b k).blk i = if i = b then some k else h.blk i := rfl
theorem cell_of {c : List Value} {e : TypeId} {w : Bool} (hb : h.blk b = some (.row c e w)) : h.cell b o = c[o]? := by simp [H.cell, hb]
theorem rd_of {c : List Value} {e : TypeId} {w : Bool} (hb : h.blk b = some (.row c e w)) : h.rd b o n = if o + n ≤ c.length then some ((c.drop o).take n) else none := by simp [H.rd, hb]
theorem cell_new {c : List Value} {e : TypeId} {w : Bool} : (h.new (.row c e w)).cell b o = if b = h.nx then c[o]? else h.cell b o := by
  by_cases hb : b = h.nx <;> simp [H.cell, blk_new, hb]
theorem cell_set {c : List Value} {e : TypeId} {w : Bool} {i : Nat} : (h.set i (.row c e w)).cell b o = if b = i then c[o]? else h.cell b o := by
  by_cases hb : b = i <;> simp [H.cell, blk_set, hb]
theorem rd_new {c : List Value} {e : TypeId} {w : Bool} : (h.new (.row c e w)).rd b o n = if b = h.nx then (if o + n ≤ c.length then some ((c.drop o).take n) else none) else h.rd b o n := by
  by_cases hb : b = h.nx <;> simp [H.rd, blk_new, hb]
theorem rd_set {c : List Value} {e : TypeId} {w : Bool} {i : Nat} : (h.set i (.row c e w)).rd b o n = if b = i then (if o + n ≤ c.length then some ((c.drop o).take n) else none) else h.rd b o n := by
  by_cases hb : b = i <;> simp [H.rd, blk_set, hb]
theorem rd_all {c : List Value} {e : TypeId} {w : Bool} (hb : h.blk b = some (.row c e w)) (hl : c.length = n) : h.rd b 0 n = some c := by
  rw [rd_of hb, if_pos (by omega), List.drop_zero, List.take_of_length_le (by omega)]
theorem lt_ne {a b : Nat} (h : a < b) : (a = b) = False := eq_false (Nat.ne_of_lt h)
end
/-- A range loop: rounds 0 to n - 1 keep an invariant, or leave; round n leaves. -/
theorem lp_range {F : List Value → H → Option (Ex × List Value × H)} {k n : Nat} (I : Nat → List Value → H → Prop) (Q : Ex → List Value → H → Prop)
    (step : ∀ i ws h, i < n → I i ws h → ∃ e ws' h', F ws h = some (e, ws', h') ∧ ((e = .normal ∧ I (i + 1) ws' h') ∨ (e ≠ .normal ∧ Q e ws' h')))
    (fin : ∀ ws h, I n ws h → ∃ e ws' h', F ws h = some (e, ws', h') ∧ e ≠ .normal ∧ Q e ws' h')
    {ws : List Value} {h : H} (hk : n < k) (h0 : I 0 ws h) : ∃ e ws' h', lpGo F k ws h = some (e, ws', h') ∧ Q e ws' h' :=
  lpGo_inv (fun d ws h => ∃ i, i + d = n ∧ I i ws h) Q (by
    rintro d ws h ⟨i, hd, hI⟩
    by_cases hi : i = n
    · subst hi
      obtain ⟨e, ws', h', p1, p2, p3⟩ := fin ws h hI
      exact ⟨e, ws', h', p1, .inr ⟨p2, p3⟩⟩
    · obtain ⟨e, ws', h', p1, p2⟩ := step i ws h (by omega) hI
      refine ⟨e, ws', h', p1, ?_⟩
      rcases p2 with ⟨p2, p3⟩ | p2
      · exact .inl ⟨p2, d - 1, by omega, i + 1, by omega, p3⟩
      · exact .inr p2) n k hk ⟨0, by omega, h0⟩
/-- Rounds over a list, until one leaves. -/
def itL {α σ ρ : Type} (f : Nat → α → σ → σ ⊕ ρ) : List α → Nat → σ → σ ⊕ ρ
  | [], _, s => .inl s
  | x :: l, i, s => match f i x s with
    | .inl s' => itL f l (i + 1) s'
    | .inr r => .inr r
/-- What a round answers. -/
def rnd {σ ρ : Type} (enc : Nat → σ → List Value) (oe : ρ → Ex) (ow : ρ → List Value) (i : Nat) (h : H) : σ ⊕ ρ → Option (Ex × List Value × H)
  | .inl s => some (.normal, enc (i + 1) s, h)
  | .inr r => some (oe r, ow r, h)
/-- A range loop that keeps what was there: each round makes a step of a plain state, or leaves. -/
theorem lp_list {α σ ρ : Type} {F : List Value → H → Option (Ex × List Value × H)} {k : Nat} {l : List α} (enc : Nat → σ → List Value) (f : Nat → α → σ → σ ⊕ ρ) (I : Nat → σ → Prop) (oe : ρ → Ex) (ow : ρ → List Value) (oj : Nat) (on : σ → List Value) {h1 : H}
    {ws : List Value} {s0 : σ} (hws : enc 0 s0 = ws) (h0 : I 0 s0) (hk : l.length < k) (hne : ∀ r, oe r ≠ .normal)
    (fin : ∀ s h, I l.length s → Ext h1 h → F (enc l.length s) h = some (.exit oj, on s, h))
    (step : ∀ i x s h, l[i]? = some x → I i s → Ext h1 h → (∀ s', f i x s = .inl s' → I (i + 1) s') ∧ ∃ h', Ext h h' ∧ F (enc i s) h = rnd enc oe ow i h' (f i x s)) :
    ∃ h', Ext h1 h' ∧ (match itL f l 0 s0 with
      | .inl s => lpGo F k ws h1 = some (.exit oj, on s, h') ∧ I l.length s
      | .inr r => lpGo F k ws h1 = some (oe r, ow r, h')) := by
  have key : ∀ (d i m : Nat) (s : σ) (h : H), i + d = l.length → d < m → I i s → Ext h1 h → ∃ h', Ext h1 h' ∧ (match itL f (l.drop i) i s with
      | .inl s' => lpGo F m (enc i s) h = some (.exit oj, on s', h') ∧ I l.length s'
      | .inr r => lpGo F m (enc i s) h = some (oe r, ow r, h')) := by
    intro d
    induction d with
    | zero =>
      intro i m s h hi hm hI hx
      cases m with
      | zero => omega
      | succ m =>
        have : i = l.length := by omega
        subst this
        rw [List.drop_of_length_le (Nat.le_refl _)]
        exact ⟨h, hx, lpGo_exit (fin s h hI hx), hI⟩
    | succ d ih =>
      intro i m s h hi hm hI hx
      cases m with
      | zero => omega
      | succ m =>
        have hil : i < l.length := by omega
        obtain ⟨hn, h', x', hs⟩ := step i l[i] s h (List.getElem?_eq_getElem hil) hI hx
        rw [List.drop_eq_getElem_cons hil]
        simp only [itL]
        cases hf : f i l[i] s with
        | inl s' =>
          rw [hf] at hs
          simp only [rnd] at hs ⊢
          rw [lpGo_next hs]
          exact ih (i + 1) m s' h' (by omega) (by omega) (hn s' hf) (hx.trans x')
        | inr r =>
          rw [hf] at hs
          simp only [rnd] at hs ⊢
          refine ⟨h', hx.trans x', ?_⟩
          have hn := hne r
          cases he : oe r with
          | normal => exact absurd he hn
          | exit j => rw [he] at hs; exact lpGo_exit hs
          | ret => rw [he] at hs; exact lpGo_ret hs
  have := key l.length 0 k s0 h1 (by omega) hk h0 (.refl _)
  rw [← hws]
  exact this
/-- The same, where the heap stays the same. -/
theorem lp_same {α σ ρ : Type} {F : List Value → H → Option (Ex × List Value × H)} {k : Nat} {l : List α} (enc : Nat → σ → List Value) (f : Nat → α → σ → σ ⊕ ρ) (I : Nat → σ → Prop) (oe : ρ → Ex) (ow : ρ → List Value) (oj : Nat) (on : σ → List Value) {h : H}
    {ws : List Value} {s0 : σ} (hws : enc 0 s0 = ws) (h0 : I 0 s0) (hk : l.length < k) (hne : ∀ r, oe r ≠ .normal)
    (fin : ∀ s, I l.length s → F (enc l.length s) h = some (.exit oj, on s, h))
    (step : ∀ i x s, l[i]? = some x → I i s → (∀ s', f i x s = .inl s' → I (i + 1) s') ∧ F (enc i s) h = rnd enc oe ow i h (f i x s)) :
    (match itL f l 0 s0 with
      | .inl s => lpGo F k ws h = some (.exit oj, on s, h) ∧ I l.length s
      | .inr r => lpGo F k ws h = some (oe r, ow r, h)) := by
  have key : ∀ (d i m : Nat) (s : σ), i + d = l.length → d < m → I i s → (match itL f (l.drop i) i s with
      | .inl s' => lpGo F m (enc i s) h = some (.exit oj, on s', h) ∧ I l.length s'
      | .inr r => lpGo F m (enc i s) h = some (oe r, ow r, h)) := by
    intro d
    induction d with
    | zero =>
      intro i m s hi hm hI
      cases m with
      | zero => omega
      | succ m =>
        have : i = l.length := by omega
        subst this
        rw [List.drop_of_length_le (Nat.le_refl _)]
        exact ⟨lpGo_exit (fin s hI), hI⟩
    | succ d ih =>
      intro i m s hi hm hI
      cases m with
      | zero => omega
      | succ m =>
        have hil : i < l.length := by omega
        obtain ⟨hn, hs⟩ := step i l[i] s (List.getElem?_eq_getElem hil) hI
        rw [List.drop_eq_getElem_cons hil]
        simp only [itL]
        cases hf : f i l[i] s with
        | inl s' =>
          rw [hf] at hs
          simp only [rnd] at hs ⊢
          rw [lpGo_next hs]
          exact ih (i + 1) m s' (by omega) (by omega) (hn s' hf)
        | inr r =>
          rw [hf] at hs
          simp only [rnd] at hs ⊢
          have hn := hne r
          cases he : oe r with
          | normal => exact absurd he hn
          | exit j => rw [he] at hs; exact lpGo_exit hs
          | ret => rw [he] at hs; exact lpGo_ret hs
  have := key l.length 0 k s0 (by omega) hk h0
  rw [← hws]
  exact this
/-- Rounds that leave where a property fails first. -/
theorem itL_all {α σ ρ : Type} {ok : Nat → α → Bool} {g : Nat → α → ρ} {s0 : σ} : ∀ (l : List α) (i : Nat), (∃ r, itL (σ := σ) (ρ := ρ) (fun i x s => if ok i x = true then .inl s else .inr (g i x)) l i s0 = .inr r) ∧ (∃ j x, l[j]? = some x ∧ ok (i + j) x = false) ∨
    itL (σ := σ) (ρ := ρ) (fun i x s => if ok i x = true then .inl s else .inr (g i x)) l i s0 = .inl s0 ∧ ∀ j x, l[j]? = some x → ok (i + j) x = true := by
  intro l
  induction l with
  | nil => intro i; exact .inr ⟨rfl, fun j x h => by simp at h⟩
  | cons x l ih =>
    intro i
    simp only [itL]
    cases hok : ok i x with
    | false => exact .inl ⟨⟨_, rfl⟩, 0, x, rfl, by simpa using hok⟩
    | true =>
      rcases ih (i + 1) with ⟨h1, j, y, hy, h2⟩ | ⟨h1, h2⟩
      · exact .inl ⟨h1, j + 1, y, by simpa using hy, by rw [← h2]; congr 1; omega⟩
      · refine .inr ⟨h1, fun j y hy => ?_⟩
        cases j with
        | zero => simp at hy; subst hy; simpa using hok
        | succ j => rw [← h2 j y (by simpa using hy)]; congr 1; omega
section
variable {P : Program} {h : H} {e t : TypeId} {s : Nat} {v : Value} {L : List (List Value)} {R : Type}
theorem SlR.ldA (a : SlR h e s v L) (ht : aggT P t = some true) (hs : size? P t = some s) {i : Int} (h0 : 0 ≤ i) {x : List Value} (hx : L[i.toNat]? = some x) (K : Value → Option R) :
    (AM.six v i s fun b o => ld P h t b o K) = K (.agg x.toArray) := by
  obtain ⟨b, o, cs, own, hb, hr, q1, q2, q3, q4⟩ := a.six h0 hx
  rw [q4, ld_elem ht hs hr q1 q2 q3]
theorem SlR.ldF (a : SlR h e s v L) (ht : aggT P t = some false) {i : Int} (h0 : 0 ≤ i) {x : List Value} (hx : L[i.toNat]? = some x) {j : Nat} {y : Value} (hy : x[j]? = some y) (K : Value → Option R) :
    (AM.six v i s fun b o => ld P h t b (AM.off o j) K) = K y := by
  obtain ⟨b, o, cs, own, hb, hr, q1, q2, q3, q4⟩ := a.six h0 hx
  rw [q4]
  exact ld_sc ht hr ((q3 j (by rw [← q1]; exact (List.getElem?_eq_some_iff.1 hy).1)).trans hy)
theorem SlR.ld0 (a : SlR h e s v L) (ht : aggT P t = some false) {i : Int} (h0 : 0 ≤ i) {x : List Value} (hx : L[i.toNat]? = some x) {y : Value} (hy : x[0]? = some y) (K : Value → Option R) :
    (AM.six v i s fun b o => ld P h t b o K) = K y := by
  have := a.ldF (K := K) ht h0 hx hy
  simpa [AM.off] using this
theorem SlR.cF (a : SlR h e s v L) {i : Int} (h0 : 0 ≤ i) {x : List Value} (hx : L[i.toNat]? = some x) {j : Nat} {y : Value} (hy : x[j]? = some y) (K : Value → Option R) :
    (AM.six v i s fun b o => (h.cell b (o + j)).bind K) = K y := by
  obtain ⟨b, o, cs, own, hb, hr, q1, q2, q3, q4⟩ := a.six h0 hx
  rw [q4, cell_of hr, (q3 j (by rw [← q1]; exact (List.getElem?_eq_some_iff.1 hy).1)).trans hy]
  rfl
theorem SlR.c0 (a : SlR h e s v L) {i : Int} (h0 : 0 ≤ i) {x : List Value} (hx : L[i.toNat]? = some x) {y : Value} (hy : x[0]? = some y) (K : Value → Option R) :
    (AM.six v i s fun b o => (h.cell b o).bind K) = K y := a.cF h0 hx hy K
end
end Go.AM
namespace Go.AM
theorem eqF1 (a : Nat) : (a = a + 1) = False := eq_false (by omega)
theorem eqF2 (a : Nat) : (a = a + 1 + 1) = False := eq_false (by omega)
theorem eqF3 (a : Nat) : (a + 1 = a) = False := eq_false (by omega)
theorem eqF4 (a : Nat) : (a + 1 + 1 = a) = False := eq_false (by omega)
theorem eqF5 (a k : Nat) : (a + 1 = a + k) = (1 = k) := propext ⟨by omega, by omega⟩
theorem eqF6 (a k : Nat) : (a + k = a + 1) = (k = 1) := propext ⟨by omega, by omega⟩
theorem eqF7 (a k : Nat) : (a + 1 + 1 = a + k) = (2 = k) := propext ⟨by omega, by omega⟩
theorem eqF8 (a k : Nat) : (a + k = a + 1 + 1) = (k = 2) := propext ⟨by omega, by omega⟩
/-- A range loop: what is known of a round's state, the carried values and the heap. -/
theorem lp_rel {α σ ρ : Type} {F : List Value → H → Option (Ex × List Value × H)} {k : Nat} {l : List α} (f : Nat → α → σ → σ ⊕ ρ) (I : Nat → σ → List Value → H → Prop) (Q : ρ → Ex → List Value → H → Prop) (oj : Nat)
    {ws : List Value} {h : H} {s0 : σ} (h0 : I 0 s0 ws h) (hk : l.length < k)
    (fin : ∀ s ws h, I l.length s ws h → F ws h = some (.exit oj, ws, h))
    (step : ∀ i x s ws h, l[i]? = some x → I i s ws h → ∃ e ws' h', F ws h = some (e, ws', h') ∧ (match f i x s with
      | .inl s' => e = .normal ∧ I (i + 1) s' ws' h'
      | .inr r => e ≠ .normal ∧ Q r e ws' h')) :
    ∃ e ws' h', lpGo F k ws h = some (e, ws', h') ∧ (match itL f l 0 s0 with
      | .inl s => e = .exit oj ∧ I l.length s ws' h'
      | .inr r => e ≠ .normal ∧ Q r e ws' h') := by
  have key : ∀ (d i m : Nat) (s : σ) (ws : List Value) (h : H), i + d = l.length → d < m → I i s ws h → ∃ e ws' h', lpGo F m ws h = some (e, ws', h') ∧ (match itL f (l.drop i) i s with
      | .inl s => e = .exit oj ∧ I l.length s ws' h'
      | .inr r => e ≠ .normal ∧ Q r e ws' h') := by
    intro d
    induction d with
    | zero =>
      intro i m s ws h hi hm hI
      cases m with
      | zero => omega
      | succ m =>
        have : i = l.length := by omega
        subst this
        rw [List.drop_of_length_le (Nat.le_refl _)]
        exact ⟨_, _, _, lpGo_exit (fin s ws h hI), rfl, hI⟩
    | succ d ih =>
      intro i m s ws h hi hm hI
      cases m with
      | zero => omega
      | succ m =>
        have hil : i < l.length := by omega
        obtain ⟨e, ws', h', hs, hm'⟩ := step i l[i] s ws h (List.getElem?_eq_getElem hil) hI
        rw [List.drop_eq_getElem_cons hil]
        simp only [itL]
        cases hf : f i l[i] s with
        | inl s' =>
          rw [hf] at hm'
          obtain ⟨rfl, hI'⟩ := hm'
          simp only
          rw [lpGo_next hs]
          exact ih (i + 1) m s' ws' h' (by omega) (by omega) hI'
        | inr r =>
          rw [hf] at hm'
          obtain ⟨hn, hQ⟩ := hm'
          simp only
          refine ⟨e, ws', h', ?_, hn, hQ⟩
          cases e with
          | normal => exact absurd rfl hn
          | exit j => exact lpGo_exit hs
          | ret => exact lpGo_ret hs
  exact key l.length 0 k s0 ws h (by omega) hk h0
def foldI {α σ : Type} (g : Nat → α → σ → σ) : List α → Nat → σ → σ
  | [], _, s => s
  | x :: l, i, s => foldI g l (i + 1) (g i x s)
theorem itL_inl {α σ ρ : Type} (g : Nat → α → σ → σ) : ∀ (l : List α) (i : Nat) (s : σ), itL (ρ := ρ) (fun i x s => .inl (g i x s)) l i s = .inl (foldI g l i s) := by
  intro l
  induction l with
  | nil => intro i s; rfl
  | cons x l ih => intro i s; simp only [itL, foldI]; exact ih _ _
theorem foldI_foldl {α σ : Type} (g : α → σ → σ) : ∀ (l : List α) (i : Nat) (s : σ), foldI (fun _ => g) l i s = l.foldl (fun s x => g x s) s := by
  intro l
  induction l with
  | nil => intro i s; rfl
  | cons x l ih => intro i s; exact ih _ _
/-- A range loop that goes to its end. -/
theorem lp_for {α σ : Type} {F : List Value → H → Option (Ex × List Value × H)} {k : Nat} {l : List α} (g : Nat → α → σ → σ) (I : Nat → σ → List Value → H → Prop) (oj : Nat)
    {ws : List Value} {h : H} {s0 : σ} (h0 : I 0 s0 ws h) (hk : l.length < k)
    (fin : ∀ s ws h, I l.length s ws h → F ws h = some (.exit oj, ws, h))
    (step : ∀ i x s ws h, l[i]? = some x → I i s ws h → ∃ ws' h', F ws h = some (.normal, ws', h') ∧ I (i + 1) (g i x s) ws' h') :
    ∃ ws' h', lpGo F k ws h = some (.exit oj, ws', h') ∧ I l.length (foldI g l 0 s0) ws' h' := by
  obtain ⟨e, ws', h', h1, h2⟩ := lp_rel (ρ := Empty) (fun i x s => .inl (g i x s)) I (fun _ _ _ _ => False) oj h0 hk fin (fun i x s ws h hx hI => by
    obtain ⟨ws', h', h1, h2⟩ := step i x s ws h hx hI
    exact ⟨_, ws', h', h1, rfl, h2⟩)
  rw [itL_inl] at h2
  obtain ⟨rfl, h2⟩ := h2
  exact ⟨ws', h', h1, h2⟩
/-- Blocks below a bound are as_ they were. -/
structure Fr (lo : Nat) (h h' : H) : Prop where
  nx : h.nx ≤ h'.nx
  blk : ∀ b, b < lo → h'.blk b = h.blk b
theorem Fr.refl (lo : Nat) (h : H) : Fr lo h h := ⟨Nat.le_refl _, fun _ _ => rfl⟩
theorem Fr.trans {lo : Nat} {a b c : H} (x : Fr lo a b) (y : Fr lo b c) : Fr lo a c := ⟨Nat.le_trans x.nx y.nx, fun i hi => (y.blk i hi).trans (x.blk i hi)⟩
/-- A slice of whole numbers that owns its row. -/
structure IA (h : H) (b : Nat) (v : Value) (l : List Int) : Prop where
  val : ∃ c, v = .slice (some ⟨b, 0, none⟩) l.length c ∧ l.length ≤ capK c ∧ capK c < U
  lt : b < h.nx
  row : h.blk b = some (.row (l.map iv) 3 true)
theorem IA.slR {h : H} {b : Nat} {v : Value} {l : List Int} (a : IA h b v l) : SlR h 3 1 v (l.map fun z => [iv z]) := by
  obtain ⟨c, rfl, h1, h2⟩ := a.val
  have := SlR.at_ (h := h) (e := 3) (s := 1) (b := b) (o := 0) (c := c) (l := l.map fun z => [iv z]) a.lt a.row (by simpa using h1) h2 (by simp) (fun i x hx => by
    simp only [List.getElem?_map] at hx
    cases hl : l[i]? with
    | none => rw [hl] at hx; cases hx
    | some z =>
      rw [hl] at hx
      simp at hx
      subst hx
      refine ⟨rfl, fun j hj => ?_⟩
      have : j = 0 := by omega
      subst this
      simp [hl])
  rw [List.length_map] at this
  exact this
theorem IA.len {h : H} {b : Nat} {v : Value} {l : List Int} (a : IA h b v l) {R : Type} (K : Int → Option R) : AM.len v K = K l.length := by
  obtain ⟨c, rfl, _⟩ := a.val; rfl
theorem IA.keep {h h' : H} {b : Nat} {v : Value} {l : List Int} (a : IA h b v l) (hn : h.nx ≤ h'.nx) (hb : h'.blk b = h.blk b) : IA h' b v l := ⟨a.val, Nat.lt_of_lt_of_le a.lt hn, hb.trans a.row⟩
theorem IA.ext {h h' : H} {b : Nat} {v : Value} {l : List Int} (a : IA h b v l) (x : Ext h h') : IA h' b v l := a.keep x.nx (x.blk _ a.lt)
theorem IA.get {h : H} {b : Nat} {v : Value} {l : List Int} (a : IA h b v l) {i : Int} (h0 : 0 ≤ i) {x : Int} (hx : l[i.toNat]? = some x) {R : Type} (K : Value → Option R) :
    (AM.six v i 1 fun b o => (h.cell b o).bind K) = K (iv x) := a.slR.c0 h0 (x := [iv x]) (by simp [hx]) rfl K
theorem IA.put {h : H} {b : Nat} {v : Value} {l : List Int} (a : IA h b v l) {i : Int} (h0 : 0 ≤ i) (hi : i.toNat < l.length) {R : Type} (K : Nat → Nat → Option R) :
    (AM.six v i 1 K) = K b i.toNat := by
  obtain ⟨c, rfl, _⟩ := a.val
  rw [six_in h0 (by omega)]
  simp
theorem IA.wrc {h : H} {b : Nat} {v : Value} {l : List Int} (a : IA h b v l) {i : Nat} (hi : i < l.length) (x : Int) : wrc 1 h b i (iv x) = some (h.set b (.row ((l.set i x).map iv) 3 true)) := by
  rw [wrc_one a.row rfl rfl (by simpa using hi)]
  simp
theorem IA.set {h : H} {b : Nat} {v : Value} {l : List Int} (a : IA h b v l) (i : Nat) (x : Int) : IA (h.set b (.row ((l.set i x).map iv) 3 true)) b v (l.set i x) := by
  obtain ⟨c, h1, h2, h3⟩ := a.val
  exact ⟨⟨c, by simpa using h1, by simpa using h2, h3⟩, a.lt, blk_set_self _ _ _⟩
/-- The block of a slice. -/
def blkOf : Value → Option Nat
  | .slice (some ⟨b, _, none⟩) _ _ => some b
  | _ => none
/-- A slice that was made by a literal and by appending alone; its row lies at 'lo' or behind. -/
inductive AqR (lo : Nat) (h : H) (e : TypeId) (s : Nat) : Value → List (List Value) → Prop
  | nil : AqR lo h e s (.slice none 0 0) []
  | at_ {b c : Nat} {l : List (List Value)} (hlo : lo ≤ b) (hb : b < h.nx) (hr : h.blk b = some (.row l.flatten e true)) (hx : ∀ x ∈ l, x.length = s) (hm : l.length < 2 ^ 30) (hc : c = U + l.length ∨ c = l.length) :
      AqR lo h e s (.slice (some ⟨b, 0, none⟩) l.length c) l
theorem AqR.blkOf {lo : Nat} {h : H} {e : TypeId} {s : Nat} {v : Value} {l : List (List Value)} (a : AqR lo h e s v l) {b : Nat} (hb : AM.blkOf v = some b) : lo ≤ b ∧ b < h.nx ∧ h.blk b = some (.row l.flatten e true) := by
  cases a with
  | nil => cases hb
  | at_ hlo hb' hr hx hm => cases hb; exact ⟨hlo, hb', hr⟩
theorem AqR.keep {lo : Nat} {h h' : H} {e : TypeId} {s : Nat} {v : Value} {l : List (List Value)} (a : AqR lo h e s v l) (hn : h.nx ≤ h'.nx) (hb : ∀ b, AM.blkOf v = some b → h'.blk b = h.blk b) : AqR lo h' e s v l := by
  cases a with
  | nil => exact .nil
  | at_ hlo hb' hr hx hm hc => exact .at_ hlo (Nat.lt_of_lt_of_le hb' hn) ((hb _ rfl).trans hr) hx hm hc
theorem AqR.ext {lo : Nat} {h h' : H} {e : TypeId} {s : Nat} {v : Value} {l : List (List Value)} (a : AqR lo h e s v l) (x : Ext h h') : AqR lo h' e s v l :=
  a.keep x.nx fun _ hb => x.blk _ (a.blkOf hb).2.1
theorem AqR.isSl {lo : Nat} {h : H} {e : TypeId} {s : Nat} {v : Value} {l : List (List Value)} (a : AqR lo h e s v l) : ∃ x n c, v = .slice x n c := by
  cases a with
  | nil => exact ⟨_, _, _, rfl⟩
  | at_ => exact ⟨_, _, _, rfl⟩
theorem AqR.cells {lo : Nat} {h : H} {e : TypeId} {s : Nat} {v : Value} {l : List (List Value)} (a : AqR lo h e s v l) : v.cells = #[v] ∧ scal v = true := by
  obtain ⟨x, n, c, rfl⟩ := a.isSl; exact ⟨rfl, rfl⟩
theorem AqR.slR {lo : Nat} {h : H} {e : TypeId} {s : Nat} {v : Value} {l : List (List Value)} (a : AqR lo h e s v l) : SlR h e s v l := by
  cases a with
  | nil => exact .nil
  | @at_ b c l hlo hb hr hx hm hc =>
    have h30 : (2:Nat) ^ 30 < U := by decide
    have hk : capK c = l.length := by
      rcases hc with rfl | rfl
      · exact capK_U _
      · unfold capK; rw [if_pos (by omega)]
    refine .at_ hb hr (by omega) (by omega) (by rw [flatten_len hx]; omega) fun i x hi => ⟨hx x (List.mem_of_getElem? hi), fun j hj => ?_⟩
    rw [Nat.zero_add]
    exact flatten_get hx i x hi j hj
/-- Elements appended. -/
theorem AqR.app {P : Program} {lo : Nat} {h : H} {e t t' : TypeId} {s : Nat} {v y : Value} {l ys : List (List Value)} (a : AqR lo h e s v l) (ht : okApp P t e s = true) (ht' : okApp P t' e s = true)
    (hy : SlR h e s y ys) (hsc : ys.flatten.all scal = true) (hm : l.length + ys.length < 2 ^ 30) (hlo : lo ≤ h.nx) :
    ∃ v' h', (∀ {R : Type} (K : Value → H → Option R), AM.app P h t t' v y K = K v' h') ∧ AqR lo h' e s v' (l ++ ys) ∧ h.nx ≤ h'.nx ∧
      (∀ b, b < h.nx → AM.blkOf v ≠ some b → h'.blk b = h.blk b) ∧ ((v' = v ∧ h' = h ∧ ys = []) ∨ ∃ b', AM.blkOf v' = some b' ∧ h.nx ≤ b') := by
  obtain ⟨i, z, h1, h2, h3, h4, h5, h6, h7⟩ := okApp_spec ht
  obtain ⟨_, _, h1', _⟩ := okApp_spec ht'
  have hsrc := hy.srcAll h6
  have hlen := hy.lenOf
  have hxl : ∀ x ∈ ys, x.length = s := by
    intro x hx'
    cases hy with
    | nil => cases hx'
    | at_ _ _ _ _ _ hx =>
      obtain ⟨i, hi, rfl⟩ := List.getElem_of_mem hx'
      exact (hx i _ (List.getElem?_eq_getElem hi)).1
  by_cases h0 : ys.length = 0
  · have hnil := List.eq_nil_of_length_eq_zero h0
    subst hnil
    refine ⟨v, h, fun K => ?_, by simpa using a, Nat.le_refl _, fun _ _ _ => rfl, .inl ⟨rfl, rfl, rfl⟩⟩
    unfold AM.app append
    simp only [h1, h1', h2, h3, hlen, h4, hsrc, Option.bind_some]
    rw [if_pos ⟨h5, h6, h7⟩]
    cases a <;> rfl
  · have fresh : ∀ (g : H) (old : List (List Value)), g.nx = h.nx → (∀ x ∈ old, x.length = s) → old.length + ys.length < 2 ^ 30 →
        AqR lo (g.new (.row (old.flatten ++ ys.flatten) e true)) e s (.slice (some ⟨h.nx, 0, none⟩) (old.length + ys.length) (U + (old.length + ys.length))) (old ++ ys) := by
      intro g old hg hox hom
      have := AqR.at_ (lo := lo) (h := g.new (.row (old.flatten ++ ys.flatten) e true)) (e := e) (s := s) (b := h.nx) (c := U + (old.length + ys.length)) (l := old ++ ys) hlo (by rw [nx_new]; omega) (by rw [blk_new_at _ _ hg.symm, List.flatten_append]) (by
        intro x hx
        rcases List.mem_append.1 hx with hx | hx
        · exact hox x hx
        · exact hxl x hx) (by simpa using hom) (.inl (by rw [List.length_append]))
      rw [List.length_append] at this
      exact this
    have h30 : (2:Nat) ^ 30 < U := by decide
    cases a with
    | nil =>
      have h00 : ([] : List (List Value)).length = 0 := rfl
      refine ⟨.slice (some ⟨h.nx, 0, none⟩) ys.length (U + ys.length), h.new (.row ys.flatten e true), fun K => ?_, ?_, Nat.le_succ _, fun b hb' _ => blk_new_ne _ _ (by omega), .inr ⟨h.nx, rfl, Nat.le_refl _⟩⟩
      · unfold AM.app append
        simp only [h1, h1', h2, h3, hlen, h4, hsrc, Option.bind_some]
        rw [if_pos ⟨h5, h6, h7⟩, if_neg h0, if_pos (by omega)]
        rfl
      · have := fresh h [] rfl (by simp) (by simpa using hm)
        simpa using this
    | @at_ b c l hlob hb' hr hx hm' hc =>
      rcases hc with rfl | rfl
      · refine ⟨.slice (some ⟨h.nx, 0, none⟩) (l.length + ys.length) (U + (l.length + ys.length)), (h.kill b).new (.row (l.flatten ++ ys.flatten) e true), fun K => ?_, fresh (h.kill b) l rfl hx hm, Nat.le_succ _, fun b' hb'' hne => ?_, .inr ⟨h.nx, rfl, Nat.le_refl _⟩⟩
        · unfold AM.app append
          simp only [h1, h1', h2, h3, hlen, h4, hsrc, Option.bind_some]
          rw [if_pos ⟨h5, h6, h7⟩]
          have hck : capK (U + l.length) = l.length := capK_U _
          simp only [hck]
          rw [if_neg h0, if_neg (by omega), if_pos hm, if_neg (by omega)]
          simp only [hr, h4]
          rw [if_pos ⟨trivial, by rw [flatten_len hx]; omega, hsc⟩]
          have : (l.flatten.drop 0).take (l.length * s) = l.flatten := by rw [List.drop_zero, List.take_of_length_le (by rw [flatten_len hx]; exact Nat.le_refl _)]
          rw [this]
          rfl
        · have : b' ≠ b := fun e1 => hne (by rw [e1]; rfl)
          rw [blk_new_ne _ _ (by rw [nx_kill]; omega), blk_kill_ne _ _ this]
      · refine ⟨.slice (some ⟨h.nx, 0, none⟩) (l.length + ys.length) (U + (l.length + ys.length)), h.new (.row (l.flatten ++ ys.flatten) e true), fun K => ?_, fresh h l rfl hx hm, Nat.le_succ _, fun b' hb'' _ => blk_new_ne _ _ (by omega), .inr ⟨h.nx, rfl, Nat.le_refl _⟩⟩
        unfold AM.app append
        simp only [h1, h1', h2, h3, hlen, h4, hsrc, Option.bind_some]
        rw [if_pos ⟨h5, h6, h7⟩]
        have hck : capK l.length = l.length := by unfold capK; rw [if_pos (by omega)]
        simp only [hck]
        rw [if_neg h0, if_neg (by omega), if_pos hm, if_pos (by omega)]
        have hrd : (if l.length = 0 then some [] else h.rd b 0 (l.length * s)) = some l.flatten := by
          split
          · rename_i h9
            rw [List.eq_nil_of_length_eq_zero h9]
            rfl
          · simp only [H.rd, hr]
            rw [if_pos (by rw [flatten_len hx]; omega), List.drop_zero, List.take_of_length_le (by rw [flatten_len hx]; exact Nat.le_refl _)]
        rw [hrd]
        rfl
/-- One element more, from a literal. -/
theorem AqR.push {P : Program} {lo : Nat} {h : H} {e t t' t2 : TypeId} {s : Nat} {v xv : Value} {l : List (List Value)} {x : List Value} (a : AqR lo h e s v l) (ht : okApp P t e s = true) (ht' : okApp P t' e s = true)
    (hb : ∀ h : H, buildSlice P t2 1 [(0, xv)] h = some (.slice (some ⟨h.nx, 0, none⟩) 1 1, h.new (.row x e true))) (hx : x.length = s) (hsc : x.all scal = true) (hm : l.length + 1 < 2 ^ 30) (hlo : lo ≤ h.nx) :
    ∃ v' h', (∀ {R : Type} (K : Value → H → Option R), (bls P h t2 1 [(0, xv)] fun y h2 => AM.app P h2 t t' v y K) = K v' h') ∧ AqR lo h' e s v' (l ++ [x]) ∧ h.nx ≤ h'.nx ∧
      (∀ b, b < h.nx → AM.blkOf v ≠ some b → h'.blk b = h.blk b) ∧ ∃ b', AM.blkOf v' = some b' ∧ h.nx ≤ b' := by
  have x0 := Ext.new h (.row x e true)
  have hy : SlR (h.new (.row x e true)) e s (.slice (some ⟨h.nx, 0, none⟩) 1 1) [x] := by
    refine .at_ (l := [x]) (Nat.lt_succ_self _) (blk_new_self _ _) (by show 1 ≤ capK 1; decide) (by decide) (by simp [hx]) fun i y hi => ?_
    cases i with
    | zero =>
      simp at hi
      subst hi
      exact ⟨hx, fun j _ => by simp⟩
    | succ i => simp at hi
  obtain ⟨v', h', e1, a1, n1, f1, b1⟩ := (a.ext x0).app ht ht' hy (by simpa using hsc) (by simpa using hm) (Nat.le_trans hlo x0.nx)
  refine ⟨v', h', fun K => (bls_some (hb h)).trans (e1 K), a1, Nat.le_trans x0.nx n1, fun b hb hne => (f1 b (by have := x0.nx; omega) hne).trans (x0.blk b hb), ?_⟩
  rcases b1 with ⟨_, _, h9⟩ | ⟨b', h9, h8⟩
  · cases h9
  · exact ⟨b', h9, by have := x0.nx; omega⟩
theorem AqR.lit {lo : Nat} {h : H} {e : TypeId} {s n : Nat} {l : List (List Value)} (hlo : lo ≤ h.nx) (hn : l.length = n) (hx : ∀ x ∈ l, x.length = s) (hm : l.length < 2 ^ 30) : AqR lo (h.new (.row l.flatten e true)) e s (.slice (some ⟨h.nx, 0, none⟩) n n) l := by
  subst hn
  exact .at_ hlo (Nat.lt_succ_self _) (blk_new_self _ _) hx hm (.inr rfl)
/-- A new row of zeros. -/
theorem mks_ints {P : Program} {t e : TypeId} (ht : okApp P t e 1 = true) (hz : zero? P e = some (iv 0)) {n : Nat} (hn : n < 2 ^ 30) {h : H} {R : Type} (K : Value → H → Option R) :
    mks P h t n n K = K (.slice (some ⟨h.nx, 0, none⟩) n n) (h.new (.row ((List.replicate n 0).map iv) e true)) := by
  obtain ⟨i, z, h1, h2, h3, h4, h5, h6, h7⟩ := okApp_spec ht
  rw [hz] at h3
  cases h3
  have hr : (List.range n).map (fun x => (iv 0).cells[x % 1]!) = (List.replicate n 0).map iv := by
    apply List.ext_getElem
    · simp
    · intro j h8 h9
      simp [Nat.mod_one, Value.cells]
  unfold mks makeSlice
  simp only [h1, h2, hz, h4, Option.bind_some]
  rw [if_pos ⟨by omega, by omega, by omega, h5, by omega, by rw [h7]⟩]
  simp only [Option.bind_some, Int.toNat_natCast, Nat.mul_one]
  rw [← hr]
  rfl
theorem SlR.isSl {h : H} {e : TypeId} {s : Nat} {v : Value} {l : List (List Value)} (a : SlR h e s v l) : ∃ x n c, v = .slice x n c := by
  cases a with
  | nil => exact ⟨_, _, _, rfl⟩
  | at_ => exact ⟨_, _, _, rfl⟩
/-- A slice is no plain answer. -/
theorem SlR.notR {h : H} {e : TypeId} {s : Nat} {v : Value} {l : List (List Value)} (a : SlR h e s v l) : plainO v = false := by
  obtain ⟨x, n, c, rfl⟩ := a.isSl; rfl
theorem SlR.notR2 {h : H} {e : TypeId} {s : Nat} {v w : Value} {l : List (List Value)} (a : SlR h e s v l) : plainO (.tuple #[v, w]) = false := by
  obtain ⟨x, n, c, rfl⟩ := a.isSl; rfl
theorem run_iso {P : Program} {E : Env} {n : Nat} {f : FuncId} {args : Array Value} {h : H} {r : Value × H} (hi : (E.iso f && args.toList.all plainV) = true) (hc : call P E (n + 1) f args h = some r) : run P E f args h = some r := by
  refine run_of (n := n + 1) ?_
  unfold callT
  unfold call at hc
  rw [if_pos hi] at hc ⊢
  exact hc
end Go.AM
namespace Go.AM
theorem ofInt_nat (a : Nat) : BitVec.ofInt 64 (a : Int) = BitVec.ofNat 64 a := BitVec.ofInt_natCast 64 a
theorem toNat_ofInt {a : Nat} (h : a < 2 ^ 63) : (BitVec.ofInt 64 (a : Int)).toNat = a := by
  rw [ofInt_nat, BitVec.toNat_ofNat]
  exact Nat.mod_eq_of_lt (by omega)
theorem or_nat {a b : Nat} (ha : a < 2 ^ 63) (hb : b < 2 ^ 63) : AM.or .i64 (a : Int) (b : Int) = ((a ||| b : Nat) : Int) := by
  unfold AM.or
  show IntKind.i64.wrap ((BitVec.ofInt 64 (a : Int) ||| BitVec.ofInt 64 (b : Int)).toNat : Nat) = _
  rw [BitVec.toNat_or, toNat_ofInt ha, toNat_ofInt hb]
  have := Nat.or_lt_two_pow ha hb
  exact wrap64 (by omega) (by omega)
theorem and_nat {a b : Nat} (ha : a < 2 ^ 63) (hb : b < 2 ^ 63) : AM.and .i64 (a : Int) (b : Int) = ((a &&& b : Nat) : Int) := by
  unfold AM.and
  show IntKind.i64.wrap ((BitVec.ofInt 64 (a : Int) &&& BitVec.ofInt 64 (b : Int)).toNat : Nat) = _
  rw [BitVec.toNat_and, toNat_ofInt ha, toNat_ofInt hb]
  have := Nat.and_lt_two_pow a hb
  exact wrap64 (by omega) (by omega)
/-- What is in a and not in b. -/
def without (a b : Nat) : Nat := a ^^^ (a &&& b)
theorem testBit_without (a b i : Nat) : (without a b).testBit i = (a.testBit i && !b.testBit i) := by
  unfold without
  rw [Nat.testBit_xor, Nat.testBit_and]
  cases a.testBit i <;> cases b.testBit i <;> rfl
theorem without_le (a b : Nat) {n : Nat} (ha : a < 2 ^ n) : without a b < 2 ^ n := Nat.xor_lt_two_pow ha (Nat.lt_of_le_of_lt Nat.and_le_left ha)
theorem andNot_nat {a b : Nat} (ha : a < 2 ^ 63) (hb : b < 2 ^ 63) : AM.andNot .i64 (a : Int) (b : Int) = ((without a b : Nat) : Int) := by
  unfold AM.andNot
  show IntKind.i64.wrap ((BitVec.ofInt 64 (a : Int) &&& ~~~ BitVec.ofInt 64 (b : Int)).toNat : Nat) = _
  have e : (BitVec.ofInt 64 (a : Int) &&& ~~~ BitVec.ofInt 64 (b : Int)).toNat = without a b := by
    apply Nat.eq_of_testBit_eq
    intro i
    rw [testBit_without, BitVec.testBit_toNat, BitVec.getLsbD_and, BitVec.getLsbD_not, ← BitVec.testBit_toNat, ← BitVec.testBit_toNat, toNat_ofInt ha, toNat_ofInt hb]
    by_cases hi : i < 64
    · simp [hi]
    · have : a.testBit i = false := Nat.testBit_lt_two_pow (Nat.lt_of_lt_of_le ha (Nat.pow_le_pow_right (by omega) (by omega)))
      simp [this]
  rw [e]
  have := without_le a b ha
  exact wrap64 (by omega) (by omega)
theorem shl_nat {a p : Nat} (h : a * 2 ^ p < 2 ^ 63) (hp : p ≤ 64) : AM.shl .i64 (a : Int) (p : Int) = ((a * 2 ^ p : Nat) : Int) := by
  unfold AM.shl
  rw [show min (p : Int).toNat IntKind.i64.bits = p by
    rw [Int.toNat_natCast]
    exact Nat.min_eq_left hp]
  have e : (a : Int) * 2 ^ p = ((a * 2 ^ p : Nat) : Int) := by
    rw [Int.natCast_mul, Int.natCast_pow]
    rfl
  rw [e]
  exact wrap64 (by omega) (by omega)
theorem shl1_nat {p : Nat} (hp : p < 63) : AM.shl .i64 1 (p : Int) = ((2 ^ p : Nat) : Int) := by
  have := shl_nat (a := 1) (p := p) (by rw [Nat.one_mul]; exact Nat.pow_lt_pow_right (by omega) hp) (by omega)
  rw [Nat.one_mul] at this
  exact this
theorem shr_nat {a p : Nat} (hp : p ≤ 64) : AM.shr .i64 (a : Int) (p : Int) = ((a >>> p : Nat) : Int) := by
  unfold AM.shr
  rw [show min (p : Int).toNat IntKind.i64.bits = p by
    rw [Int.toNat_natCast]
    exact Nat.min_eq_left hp]
  rw [Nat.shiftRight_eq_div_pow]
  have e : (2 : Int) ^ p = ((2 ^ p : Nat) : Int) := by
    rw [Int.natCast_pow]; rfl
  rw [e, Int.fdiv_eq_ediv_of_nonneg _ (Int.natCast_nonneg _)]
  exact (Int.natCast_ediv a (2 ^ p)).symm
/-- Is a number in a set? -/
theorem bit_nat {a p : Nat} (ha : a < 2 ^ 63) (hp : p ≤ 64) : AM.and .i64 (AM.shr .i64 (a : Int) (p : Int)) 1 = if a.testBit p then 1 else 0 := by
  rw [shr_nat hp]
  have h1 : a >>> p < 2 ^ 63 := by
    rw [Nat.shiftRight_eq_div_pow]
    exact Nat.lt_of_le_of_lt (Nat.div_le_self _ _) ha
  have := and_nat (b := 1) h1 (by decide)
  rw [show ((1 : Nat) : Int) = 1 from rfl] at this
  rw [this, Nat.and_one_is_mod]
  rw [Nat.testBit_eq_decide_div_mod_eq, Nat.shiftRight_eq_div_pow]
  have h2 : a / 2 ^ p % 2 = 0 ∨ a / 2 ^ p % 2 = 1 := by omega
  rcases h2 with h2 | h2 <;> rw [h2] <;> rfl
theorem bit_eq1 {a p : Nat} (ha : a < 2 ^ 63) (hp : p ≤ 64) : (AM.and .i64 (AM.shr .i64 (a : Int) (p : Int)) 1 = 1) ↔ a.testBit p = true := by
  rw [bit_nat ha hp]
  cases a.testBit p <;> simp
theorem testBit_pow (p i : Nat) : (2 ^ p).testBit i = decide (p = i) := Nat.testBit_two_pow
end Go.AM
namespace Go.AM
theorem setAt_mid : ∀ (xs pre mid post : List Value), mid.length = xs.length → setAt (pre ++ (mid ++ post)) pre.length xs = pre ++ (xs ++ post) := by
  intro xs
  induction xs with
  | nil => intro pre mid post h; rw [List.eq_nil_of_length_eq_zero h]; rfl
  | cons x xs ih =>
    intro pre mid post h
    cases mid with
    | nil => cases h
    | cons z mid =>
      simp only [setAt]
      have h1 : (pre ++ (z :: mid ++ post)).set pre.length x = (pre ++ [x]) ++ (mid ++ post) := by simp
      have h2 := ih (pre ++ [x]) mid post (by simpa using h)
      rw [h1, show pre.length + 1 = (pre ++ [x]).length by simp, h2]
      simp
/-- A slice that grows and shrinks at its end; behind its end its row may hold what was there. -/
inductive WqR (lo : Nat) (h : H) (e : TypeId) (s : Nat) : Value → List (List Value) → Prop
  | nil : WqR lo h e s (.slice none 0 0) []
  | at_ {b c m : Nat} {l : List (List Value)} {junk : List Value} (hlo : lo ≤ b) (hb : b < h.nx) (hr : h.blk b = some (.row (l.flatten ++ junk) e true)) (hx : ∀ x ∈ l, x.length = s) (hm : l.length + m < 2 ^ 30)
      (hj : junk.length = m * s) (hc : c = U + (l.length + m) ∨ c = l.length + m) : WqR lo h e s (.slice (some ⟨b, 0, none⟩) l.length c) l
theorem WqR.blkOf {lo : Nat} {h : H} {e : TypeId} {s : Nat} {v : Value} {l : List (List Value)} (a : WqR lo h e s v l) {b : Nat} (hb : AM.blkOf v = some b) : lo ≤ b ∧ b < h.nx ∧ ∃ c, h.blk b = some (.row c e true) := by
  cases a with
  | nil => cases hb
  | at_ hlo hb' hr hx hm => cases hb; exact ⟨hlo, hb', _, hr⟩
theorem WqR.keep {lo : Nat} {h h' : H} {e : TypeId} {s : Nat} {v : Value} {l : List (List Value)} (a : WqR lo h e s v l) (hn : h.nx ≤ h'.nx) (hb : ∀ b, AM.blkOf v = some b → h'.blk b = h.blk b) : WqR lo h' e s v l := by
  cases a with
  | nil => exact .nil
  | at_ hlo hb' hr hx hm hj hc => exact .at_ hlo (Nat.lt_of_lt_of_le hb' hn) ((hb _ rfl).trans hr) hx hm hj hc
theorem WqR.cells {lo : Nat} {h : H} {e : TypeId} {s : Nat} {v : Value} {l : List (List Value)} (a : WqR lo h e s v l) : v.cells = #[v] ∧ scal v = true := by
  cases a <;> exact ⟨rfl, rfl⟩
theorem WqR.cap_ {l m c : Nat} (hm : l + m < 2 ^ 30) (hc : c = U + (l + m) ∨ c = l + m) : AM.capK c = l + m := by
  have h30 : (2:Nat) ^ 30 < U := by decide
  rcases hc with rfl | rfl
  · exact capK_U _
  · unfold AM.capK; rw [if_pos (by omega)]
theorem WqR.slR {lo : Nat} {h : H} {e : TypeId} {s : Nat} {v : Value} {l : List (List Value)} (a : WqR lo h e s v l) : SlR h e s v l := by
  cases a with
  | nil => exact .nil
  | @at_ b c m l junk hlo hb hr hx hm hj hc =>
    have h30 : (2:Nat) ^ 30 < U := by decide
    have hk := WqR.cap_ hm hc
    refine .at_ hb hr (by omega) (by omega) (by rw [List.length_append, flatten_len hx]; omega) fun i x hi => ⟨hx x (List.mem_of_getElem? hi), fun j hj' => ?_⟩
    rw [Nat.zero_add]
    have hg := flatten_get hx i x hi j hj'
    have hil : i < l.length := (List.getElem?_eq_some_iff.1 hi).1
    have : i * s + j < l.flatten.length := by
      rw [flatten_len hx]
      have := Nat.mul_le_mul_right s (show i + 1 ≤ l.length from hil)
      rw [Nat.add_mul] at this
      omega
    rw [List.getElem?_append_left this]
    exact hg
/-- One element more. -/
theorem WqR.push {P : Program} {lo : Nat} {h : H} {e t t' t2 : TypeId} {s : Nat} {v xv : Value} {l : List (List Value)} {x : List Value} (a : WqR lo h e s v l) (ht : okApp P t e s = true) (ht' : okApp P t' e s = true)
    (hb : ∀ h : H, buildSlice P t2 1 [(0, xv)] h = some (.slice (some ⟨h.nx, 0, none⟩) 1 1, h.new (.row x e true))) (hx : x.length = s) (hsc : x.all scal = true) (hm : l.length + 1 < 2 ^ 30) (hlo : lo ≤ h.nx) :
    ∃ v' h', (∀ {R : Type} (K : Value → H → Option R), (bls P h t2 1 [(0, xv)] fun y h2 => AM.app P h2 t t' v y K) = K v' h') ∧ WqR lo h' e s v' (l ++ [x]) ∧ h.nx ≤ h'.nx ∧
      (∀ b, b < h.nx → AM.blkOf v ≠ some b → h'.blk b = h.blk b) ∧ ∃ b', AM.blkOf v' = some b' ∧ (h.nx ≤ b' ∨ AM.blkOf v = some b') := by
  obtain ⟨i, z, h1, h2, h3, h4, h5, h6, h7⟩ := okApp_spec ht
  obtain ⟨_, _, h1', _⟩ := okApp_spec ht'
  have x0 := Ext.new h (.row x e true)
  have hsrc : srcCells s (.slice (some ⟨h.nx, 0, none⟩) 1 1) (h.new (.row x e true)) = some x := by
    simp only [srcCells, Nat.one_mul]
    rw [if_neg (by omega)]
    simp only [H.rd, blk_new_self]
    rw [if_pos (by omega)]
    simp [List.take_of_length_le (Nat.le_of_eq hx)]
  have hlen : lenOf (.slice (some ⟨h.nx, 0, none⟩) 1 1) = some 1 := rfl
  have h30 : (2:Nat) ^ 30 < U := by decide
  have fresh : ∀ (g : H) (old : List (List Value)), g.nx = h.nx + 1 → (∀ y ∈ old, y.length = s) → old.length + 1 < 2 ^ 30 →
      WqR lo (g.new (.row (old.flatten ++ x) e true)) e s (.slice (some ⟨h.nx + 1, 0, none⟩) (old.length + 1) (U + (old.length + 1))) (old ++ [x]) := by
    intro g old hg hox hom
    have := WqR.at_ (lo := lo) (h := g.new (.row (old.flatten ++ x) e true)) (e := e) (s := s) (b := h.nx + 1) (c := U + (old.length + 1)) (m := 0) (l := old ++ [x]) (junk := []) (by omega) (by rw [nx_new]; omega)
      (by rw [blk_new_at _ _ hg.symm]; simp) (by
      intro y hy
      rcases List.mem_append.1 hy with hy | hy
      · exact hox y hy
      · simp at hy; rw [hy]; exact hx) (by simpa using hom) (by simp) (.inl (by simp))
    rw [List.length_append] at this
    exact this
  cases a with
  | nil =>
    refine ⟨.slice (some ⟨h.nx + 1, 0, none⟩) 1 (U + 1), (h.new (.row x e true)).new (.row x e true), fun K => ?_, ?_, by simp only [nx_new]; omega, fun b hb' _ => ?_, h.nx + 1, rfl, .inl (by omega)⟩
    · rw [bls_some (hb h)]
      unfold AM.app append
      simp only [h1, h1', h2, h3, hlen, h4, hsrc, Option.bind_some]
      rw [if_pos ⟨h5, h6, h7⟩]
      simp [nx_new]
    · have := fresh (h.new (.row x e true)) [] rfl (by simp) (by simp)
      simpa using this
    · rw [blk_new_ne _ _ (by rw [nx_new]; omega), blk_new_ne _ _ (by omega)]
  | @at_ b c m l junk hlob hb' hr hxl hm' hj hc =>
    have hr1 := (x0.blk _ hb').trans hr
    have hck := WqR.cap_ hm' hc
    by_cases hm0 : m = 0
    · subst hm0
      have hjn : junk = [] := List.eq_nil_of_length_eq_zero (by simpa using hj)
      subst hjn
      rw [List.append_nil] at hr1
      rcases hc with rfl | rfl
      · refine ⟨.slice (some ⟨h.nx + 1, 0, none⟩) (l.length + 1) (U + (l.length + 1)), ((h.new (.row x e true)).kill b).new (.row (l.flatten ++ x) e true), fun K => ?_, fresh _ l rfl hxl hm, by simp only [nx_new, nx_kill]; omega, fun b' hb'' hne => ?_, h.nx + 1, rfl, .inl (by omega)⟩
        · rw [bls_some (hb h)]
          unfold AM.app append
          simp only [h1, h1', h2, h3, hlen, h4, hsrc, Option.bind_some, Nat.add_zero] at hck ⊢
          rw [if_pos ⟨h5, h6, h7⟩]
          simp only [hck]
          rw [if_neg (by omega), if_neg (by omega), if_pos hm, if_neg (by omega)]
          simp only [hr1, h4]
          rw [if_pos ⟨trivial, by rw [flatten_len hxl]; omega, hsc⟩]
          have : (l.flatten.drop 0).take (l.length * s) = l.flatten := by rw [List.drop_zero, List.take_of_length_le (by rw [flatten_len hxl]; exact Nat.le_refl _)]
          rw [this]
          rfl
        · have : b' ≠ b := fun e1 => hne (by rw [e1]; rfl)
          rw [blk_new_ne _ _ (by rw [nx_kill, nx_new]; omega), blk_kill_ne _ _ this, blk_new_ne _ _ (by omega)]
      · refine ⟨.slice (some ⟨h.nx + 1, 0, none⟩) (l.length + 1) (U + (l.length + 1)), (h.new (.row x e true)).new (.row (l.flatten ++ x) e true), fun K => ?_, fresh _ l rfl hxl hm, by simp only [nx_new]; omega, fun b' hb'' _ => ?_, h.nx + 1, rfl, .inl (by omega)⟩
        · rw [bls_some (hb h)]
          unfold AM.app append
          simp only [h1, h1', h2, h3, hlen, h4, hsrc, Option.bind_some, Nat.add_zero] at hck ⊢
          rw [if_pos ⟨h5, h6, h7⟩]
          simp only [hck]
          rw [if_neg (by omega), if_neg (by omega), if_pos hm, if_pos (by omega)]
          have hrd : (if l.length = 0 then some [] else (h.new (.row x e true)).rd b 0 (l.length * s)) = some l.flatten := by
            split
            · rename_i h9
              rw [List.eq_nil_of_length_eq_zero h9]
              rfl
            · simp only [H.rd, hr1]
              rw [if_pos (by rw [flatten_len hxl]; omega), List.drop_zero, List.take_of_length_le (by rw [flatten_len hxl]; exact Nat.le_refl _)]
          rw [hrd]
          rfl
        · rw [blk_new_ne _ _ (by rw [nx_new]; omega), blk_new_ne _ _ (by omega)]
    · -- there is room
      obtain ⟨m', rfl⟩ : ∃ m', m = m' + 1 := ⟨m - 1, by omega⟩
      rw [Nat.add_mul, Nat.one_mul] at hj
      have hsplit : junk = junk.take s ++ junk.drop s := (List.take_append_drop s junk).symm
      have hset : setAt (l.flatten ++ junk) (l.length * s) x = (l ++ [x]).flatten ++ junk.drop s := by
        conv => lhs; rw [hsplit]
        rw [← flatten_len hxl, setAt_mid x l.flatten (junk.take s) (junk.drop s) (by rw [List.length_take]; omega)]
        simp
      refine ⟨.slice (some ⟨b, 0, none⟩) (l.length + 1) c, (h.new (.row x e true)).set b (.row ((l ++ [x]).flatten ++ junk.drop s) e true), fun K => ?_, ?_, by rw [nx_set, nx_new]; omega, fun b' hb'' hne => ?_, b, rfl, .inr rfl⟩
      · rw [bls_some (hb h)]
        unfold AM.app append
        simp only [h1, h1', h2, h3, hlen, h4, hsrc, Option.bind_some]
        rw [if_pos ⟨h5, h6, h7⟩]
        simp only [hck]
        rw [if_neg (by omega), if_pos (by omega)]
        simp only [hr1, h4]
        rw [if_pos ⟨trivial, by rw [List.length_append, flatten_len hxl, Nat.add_mul]; omega, hsc⟩]
        simp only [Nat.zero_add]
        rw [hset]
        rfl
      · have := WqR.at_ (lo := lo) (h := (h.new (.row x e true)).set b (.row ((l ++ [x]).flatten ++ junk.drop s) e true)) (e := e) (s := s) (b := b) (c := c) (m := m') (l := l ++ [x]) (junk := junk.drop s) hlob (by rw [nx_set, nx_new]; omega) (blk_set_self _ _ _) (by
          intro y hy
          rcases List.mem_append.1 hy with hy | hy
          · exact hxl y hy
          · simp at hy; rw [hy]; exact hx) (by simp; omega) (by rw [List.length_drop]; omega) (by simp; omega)
        rw [List.length_append] at this
        exact this
      · have : b' ≠ b := fun e1 => hne (by rw [e1]; rfl)
        rw [blk_set_ne _ _ _ this, blk_new_ne _ _ (by omega)]
/-- The last element is left out. -/
theorem WqR.pop {P : Program} {lo : Nat} {h : H} {e t : TypeId} {s : Nat} {v : Value} {l : List (List Value)} {x : List Value} (a : WqR lo h e s v (l ++ [x])) (hu : P.underlying t = some (.slice e)) (hs : size? P e = some s) :
    ∃ v', (∀ {R : Type} (K : Value → Option R), sli P h t v none (some (.int .i64 l.length)) none K = K v') ∧ WqR lo h e s v' l ∧ AM.blkOf v' = AM.blkOf v := by
  generalize hL : l ++ [x] = L at a
  cases a with
  | nil => simp at hL
  | @at_ b c m L junk hlo hb hr hx hm hj hc =>
    subst hL
    have h30 : (2:Nat) ^ 30 < U := by decide
    have hck := WqR.cap_ hm hc
    rw [List.length_append] at *
    simp only [List.length_cons, List.length_nil, Nat.zero_add] at *
    have hxs : x.length = s := hx x (by simp)
    refine ⟨.slice (some ⟨b, 0, none⟩) l.length c, fun K => ?_, ?_, rfl⟩
    · unfold sli slice
      simp only [hu, hr]
      rw [if_pos ⟨trivial, by omega, rfl⟩]
      simp only [hs, Option.bind_some, bound]
      rw [if_pos ⟨by omega, by omega⟩]
      simp only [Option.bind_some, Option.isSome_none, Bool.false_eq_true, false_or]
      by_cases hcu : c < U
      · rw [if_pos hcu]
        have : AM.capK c = c := by unfold AM.capK; rw [if_pos hcu]
        simp only [this, Int.toNat_natCast, Nat.zero_mul, Nat.add_zero, Nat.sub_zero, ite_self]
        rfl
      · rw [if_neg hcu]
        have : U + AM.capK c = c := by
          have : AM.capK c = c - U := by unfold AM.capK; rw [if_neg hcu]
          omega
        simp only [this, Int.toNat_natCast, Nat.zero_mul, Nat.add_zero, Nat.sub_zero]
        rfl
    · refine .at_ (m := m + 1) (junk := x ++ junk) hlo hb (by rw [hr]; simp) (fun y hy => hx y (by simp [hy])) (by omega) (by rw [List.length_append, Nat.add_mul]; omega) (by omega)
end Go.AM
end

section
namespace Go.AM
open Go.Proofs
/-- The table by which the library finds the lowest bit. -/
def tab64 : List Int := [0, 1, 56, 2, 57, 49, 28, 3, 61, 58, 42, 50, 38, 29, 17, 4, 62, 47, 59, 36, 45, 43, 51, 22, 53, 39, 33, 30, 24, 18, 12, 5, 63, 55, 48, 27, 60, 41, 37, 16, 46, 35, 44, 21, 52, 32, 23, 11, 54, 26, 40, 15, 34, 20, 31, 10, 25, 14, 19, 9, 13, 8, 7, 6]
/-- Two package-level variables, of which one is read; the calls that are made by themselves. -/
def E0 : Env := ⟨2, fun g => if g = 1 then some (.row (tab64.map fun n => .int .u8 n) 5 false) else none, fun f => f == 9 || f == 15 || f == 24 || f == 104⟩
noncomputable abbrev rn : Rec := run Tryd.prog E0
variable {R : Type} {h : H} {b o : Nat} {v : Value}
theorem ag3 : aggT Tryd.prog 3 = some false := by kernel_rfl
theorem sz3 : size? Tryd.prog 3 = some 1 := by kernel_rfl
theorem d3 {K : Value → Option R} : ld Tryd.prog h 3 b o K = (h.cell b o).bind K := ld_scS ag3
theorem w3 {K : H → Option R} : st Tryd.prog h 3 b o v K = (wrc 1 h b o v).bind K := st_S sz3
theorem ag4 : aggT Tryd.prog 4 = some false := by kernel_rfl
theorem d4 {K : Value → Option R} : ld Tryd.prog h 4 b o K = (h.cell b o).bind K := ld_scS ag4
theorem sz5 : size? Tryd.prog 5 = some 1 := by kernel_rfl
theorem ag22 : aggT Tryd.prog 22 = some false := by kernel_rfl
theorem sz22 : size? Tryd.prog 22 = some 1 := by kernel_rfl
theorem d22 {K : Value → Option R} : ld Tryd.prog h 22 b o K = (h.cell b o).bind K := ld_scS ag22
theorem w22 {K : H → Option R} : st Tryd.prog h 22 b o v K = (wrc 1 h b o v).bind K := st_S sz22
theorem ag44 : aggT Tryd.prog 44 = some false := by kernel_rfl
theorem d44 {K : Value → Option R} : ld Tryd.prog h 44 b o K = (h.cell b o).bind K := ld_scS ag44
theorem ag46 : aggT Tryd.prog 46 = some true := by kernel_rfl
theorem sz46 : size? Tryd.prog 46 = some 2 := by kernel_rfl
theorem d46 {K : Value → Option R} : ld Tryd.prog h 46 b o K = (h.rd b o 2).bind fun l => K (.agg l.toArray) := ld_agS ag46 sz46
theorem ag48 : aggT Tryd.prog 48 = some false := by kernel_rfl
theorem sz48 : size? Tryd.prog 48 = some 1 := by kernel_rfl
theorem d48 {K : Value → Option R} : ld Tryd.prog h 48 b o K = (h.cell b o).bind K := ld_scS ag48
theorem w48 {K : H → Option R} : st Tryd.prog h 48 b o v K = (wrc 1 h b o v).bind K := st_S sz48
theorem ag50 : aggT Tryd.prog 50 = some true := by kernel_rfl
theorem sz50 : size? Tryd.prog 50 = some 2 := by kernel_rfl
theorem d50 {K : Value → Option R} : ld Tryd.prog h 50 b o K = (h.rd b o 2).bind fun l => K (.agg l.toArray) := ld_agS ag50 sz50
theorem ag52 : aggT Tryd.prog 52 = some true := by kernel_rfl
theorem sz52 : size? Tryd.prog 52 = some 3 := by kernel_rfl
theorem d52 {K : Value → Option R} : ld Tryd.prog h 52 b o K = (h.rd b o 3).bind fun l => K (.agg l.toArray) := ld_agS ag52 sz52
theorem ag53 : aggT Tryd.prog 53 = some true := by kernel_rfl
theorem sz53 : size? Tryd.prog 53 = some 3 := by kernel_rfl
theorem d53 {K : Value → Option R} : ld Tryd.prog h 53 b o K = (h.rd b o 3).bind fun l => K (.agg l.toArray) := ld_agS ag53 sz53
theorem ag72 : aggT Tryd.prog 72 = some false := by kernel_rfl
theorem d72 {K : Value → Option R} : ld Tryd.prog h 72 b o K = (h.cell b o).bind K := ld_scS ag72
theorem ag101 : aggT Tryd.prog 101 = some false := by kernel_rfl
theorem sz101 : size? Tryd.prog 101 = some 1 := by kernel_rfl
theorem d101 {K : Value → Option R} : ld Tryd.prog h 101 b o K = (h.cell b o).bind K := ld_scS ag101
theorem w101 {K : H → Option R} : st Tryd.prog h 101 b o v K = (wrc 1 h b o v).bind K := st_S sz101
theorem ag103 : aggT Tryd.prog 103 = some false := by kernel_rfl
theorem d103 {K : Value → Option R} : ld Tryd.prog h 103 b o K = (h.cell b o).bind K := ld_scS ag103
theorem ag132 : aggT Tryd.prog 132 = some false := by kernel_rfl
theorem sz132 : size? Tryd.prog 132 = some 1 := by kernel_rfl
theorem d132 {K : Value → Option R} : ld Tryd.prog h 132 b o K = (h.cell b o).bind K := ld_scS ag132
theorem w132 {K : H → Option R} : st Tryd.prog h 132 b o v K = (wrc 1 h b o v).bind K := st_S sz132
theorem ag142 : aggT Tryd.prog 142 = some true := by kernel_rfl
theorem sz142 : size? Tryd.prog 142 = some 2 := by kernel_rfl
theorem d142 {K : Value → Option R} : ld Tryd.prog h 142 b o K = (h.rd b o 2).bind fun l => K (.agg l.toArray) := ld_agS ag142 sz142
theorem w142 {K : H → Option R} : st Tryd.prog h 142 b o v K = (wrc 2 h b o v).bind K := st_S sz142
theorem ag157 : aggT Tryd.prog 157 = some true := by kernel_rfl
theorem sz157 : size? Tryd.prog 157 = some 2 := by kernel_rfl
theorem d157 {K : Value → Option R} : ld Tryd.prog h 157 b o K = (h.rd b o 2).bind fun l => K (.agg l.toArray) := ld_agS ag157 sz157
end Go.AM
end

section
namespace Go.AM
open Go.Proofs
noncomputable def f6_l1 (_rec : Rec) (_k : Nat) (h2 : H) (v14 : Value) (v15 : Value) (n6 : Int) (ws0 : List Value) (h12 : H) : Option (Ex × List Value × H) :=
 asI .i64 (gv ws0 0) fun n7 =>
 ifB (lt n7 n6) (
 asK (gv ws0 0) fun n8 =>
 six v15 n8 3 fun b0 b1 =>
 ld Tryd.prog h12 52 b0 b1 fun v16 =>
 al h12 52 [(.int .i64 0), (.int .i64 0), (.int .i64 0)] fun h13 =>
 st Tryd.prog h13 52 (nx h12) 0 v16 fun h14 =>
 ld Tryd.prog h14 48 (nx h2) (off 0 1) fun v17 =>
 ld Tryd.prog h14 3 (nx h12) 0 fun v18 =>
 asI .i64 v18 fun n9 =>
 ld Tryd.prog h14 3 (nx h12) (off 0 1) fun v19 =>
 asI .i64 v19 fun n10 =>
 ld Tryd.prog h14 3 (nx h12) (off 0 2) fun v20 =>
 asI .i64 v20 fun n11 =>
 bld Tryd.prog 53 [(0, (.int .i64 n9)), (1, (.int .i64 n10)), (2, (.int .i64 n11))] fun v21 =>
 bls Tryd.prog h14 48 1 [(0, v21)] fun v22 h15 =>
 app Tryd.prog h15 48 48 v17 v22 fun v23 h16 =>
 st Tryd.prog h16 48 (nx h2) (off 0 1) v23 fun h17 =>
 ld Tryd.prog h17 3 (nx h12) 0 fun v24 =>
 asI .i64 v24 fun n12 =>
 six v14 n12 1 fun b2 b3 =>
 ld Tryd.prog h17 3 b2 b3 fun v25 =>
 asI .i64 v25 fun n13 =>
 ld Tryd.prog h17 3 (nx h12) (off 0 1) fun v26 =>
 asI .i64 v26 fun n14 =>
 nn n14 (
 six v14 n12 1 fun b4 b5 =>
 st Tryd.prog h17 3 b4 b5 (.int .i64 (or .i64 n13 (shl .i64 1 n14))) fun h18 =>
 ld Tryd.prog h18 3 (nx h12) (off 0 1) fun v27 =>
 asI .i64 v27 fun n15 =>
 six v14 n15 1 fun b6 b7 =>
 ld Tryd.prog h18 3 b6 b7 fun v28 =>
 asI .i64 v28 fun n16 =>
 ld Tryd.prog h18 3 (nx h12) 0 fun v29 =>
 asI .i64 v29 fun n17 =>
 nn n17 (
 six v14 n15 1 fun b8 b9 =>
 st Tryd.prog h18 3 b8 b9 (.int .i64 (or .i64 n16 (shl .i64 1 n17))) fun h19 =>
 asI .i64 (gv ws0 0) fun n18 =>
 out .normal [(.int .i64 (add .i64 n18 1))] h19))) (
 out (.exit 0) [gv ws0 0] h12)
noncomputable def f6_l2 (_rec : Rec) (_k : Nat) (n21 : Int) (n25 : Int) (n32 : Int) (ws2 : List Value) (h29 : H) : Option (Ex × List Value × H) :=
 asI .i64 (gv ws2 1) fun n33 =>
 ifB (lt n33 n32) (
 asK (gv ws2 1) fun n34 =>
 nn n34 (
 asI .i64 (gv ws2 0) fun n35 =>
 asK (gv ws2 1) fun n36 =>
 nn n36 (
 asI .i64 (gv ws2 1) fun n37 =>
 out .normal [(.int .i64 (sub .i64 (add .i64 n35 (and .i64 (shr .i64 n21 n34) 1)) (and .i64 (shr .i64 n25 n36) 1))), (.int .i64 (add .i64 n37 1))] h29))) (
 out (.exit 2) [gv ws2 0, gv ws2 1] h29)
noncomputable def f6_l3 (_rec : Rec) (_k : Nat) (n21 : Int) (n25 : Int) (n41 : Int) (ws4 : List Value) (h33 : H) : Option (Ex × List Value × H) :=
 asI .i64 (gv ws4 1) fun n42 =>
 ifB (lt n42 n41) (
 asK (gv ws4 1) fun n43 =>
 nn n43 (
 asI .i64 (gv ws4 0) fun n44 =>
 asK (gv ws4 1) fun n45 =>
 nn n45 (
 asI .i64 (gv ws4 1) fun n46 =>
 out .normal [(.int .i64 (sub .i64 (add .i64 n44 (and .i64 (shr .i64 n21 n43) 1)) (and .i64 (shr .i64 n25 n45) 1))), (.int .i64 (add .i64 n46 1))] h33))) (
 out (.exit 2) [gv ws4 0, gv ws4 1] h33)
noncomputable def f6 (rec : Rec) (k : Nat) (v0 : Value) (n0 : Int) (n1 : Int) (h0 : H) : Option (Value × H) :=
 bx h0 46 v0 fun h1 =>
 ld Tryd.prog h1 46 (nx h0) 0 fun v1 =>
 calls rec h1 23 [v1] fun v2 h2 =>
 asB v2 fun q0 =>
 ifB (not q0) (
 calls rec h2 24 [] fun v3 h3 =>
 asB v3 fun q1 =>
 some ((.bool q1), h3)) (
 ifB (lt n0 0) (
 calls rec h2 24 [] fun v4 h4 =>
 asB v4 fun q2 =>
 some ((.bool q2), h4)) (
 ld Tryd.prog h2 3 (nx h0) 0 fun v5 =>
 asI .i64 v5 fun n2 =>
 ifB (le n2 n0) (
 calls rec h2 24 [] fun v6 h5 =>
 asB v6 fun q3 =>
 some ((.bool q3), h5)) (
 ifB (lt n1 0) (
 calls rec h2 24 [] fun v7 h6 =>
 asB v7 fun q4 =>
 some ((.bool q4), h6)) (
 ld Tryd.prog h2 3 (nx h0) 0 fun v8 =>
 asI .i64 v8 fun n3 =>
 ifB (le n3 n1) (
 calls rec h2 24 [] fun v9 h7 =>
 asB v9 fun q5 =>
 some ((.bool q5), h7)) (
 ifB (eq n0 n1) (
 calls rec h2 24 [] fun v10 h8 =>
 asB v10 fun q6 =>
 some ((.bool q6), h8)) (
 ld Tryd.prog h2 3 (nx h0) 0 fun v11 =>
 asI .i64 v11 fun n4 =>
 bld Tryd.prog 50 [(0, (.int .i64 n4))] fun v12 =>
 al h2 50 [(.int .i64 0), (.slice none 0 0)] fun h9 =>
 st Tryd.prog h9 50 (nx h2) 0 v12 fun h10 =>
 ld Tryd.prog h10 3 (nx h0) 0 fun v13 =>
 asI .i64 v13 fun n5 =>
 mks Tryd.prog h10 23 n5 n5 fun v14 h11 =>
 ld Tryd.prog h11 44 (nx h0) (off 0 1) fun v15 =>
 len v15 fun n6 =>
 lp k (f6_l1 rec k h2 v14 v15 n6) [(.int .i64 0)] h11 fun e0 _ h20 =>
 onE e0 0 (
 ld Tryd.prog h20 50 (nx h2) 0 fun v30 =>
 calls rec h20 25 [v30, (.int .i64 n0), (.int .i64 n1)] fun v31 h21 =>
 ext v31 0 fun v32 =>
 asI .i64 v32 fun n19 =>
 ext v31 1 fun v33 =>
 asI .i64 v33 fun n20 =>
 ld Tryd.prog h21 50 (nx h2) 0 fun v34 =>
 calls rec h21 26 [v34, (.int .i64 n0), (.int .i64 n1)] fun v35 h22 =>
 ext v35 0 fun v36 =>
 asI .i64 v36 fun n21 =>
 ext v35 1 fun v37 =>
 asI .i64 v37 fun n22 =>
 ld Tryd.prog h22 50 (nx h2) 0 fun v38 =>
 calls rec h22 27 [v38, (.int .i64 n0)] fun v39 h23 =>
 ext v39 0 fun v40 =>
 ext v39 1 fun v41 =>
 asI .i64 v41 fun n23 =>
 calls rec h23 11 [v14] fun v42 h24 =>
 calls rec h24 28 [v42, (.int .i64 n0), (.int .i64 n1)] fun v43 h25 =>
 ext v43 0 fun v44 =>
 ext v43 1 fun v45 =>
 asI .i64 v45 fun n24 =>
 calls rec h25 11 [v14] fun v46 h26 =>
 calls rec h26 29 [v46, (.int .i64 n0), (.int .i64 n1)] fun v47 h27 =>
 ext v47 0 fun v48 =>
 asI .i64 v48 fun n25 =>
 ext v47 1 fun v49 =>
 asI .i64 v49 fun n26 =>
 ifB (not (eq n20 0)) (
 some ((.bool false), h27)) (
 ifB (not (eq n23 0)) (
 some ((.bool false), h27)) (
 ifB (not (eq n24 0)) (
 some ((.bool false), h27)) (
 len v40 fun n27 =>
 ld Tryd.prog h27 3 (nx h0) 0 fun v50 =>
 asI .i64 v50 fun n28 =>
 ifB (not (eq n27 n28)) (
 some ((.bool false), h27)) (
 six v40 n1 1 fun b10 b11 =>
 ld Tryd.prog h27 3 b10 b11 fun v51 =>
 asI .i64 v51 fun n29 =>
 ifB (le 0 n29) (
 len v44 fun n30 =>
 ifB (eq n30 0) (
 some ((.bool false), h27)) (
 six v14 n0 1 fun b12 b13 =>
 ld Tryd.prog h27 3 b12 b13 fun v52 =>
 asI .i64 v52 fun n31 =>
 nn n1 (
 ifB (eq (and .i64 (shr .i64 n31 n1) 1) 1) (
 ifB (eq n22 4) (
 ifB (eq n26 2) (
 calls rec h27 24 [] fun v53 h28 =>
 asB v53 fun q7 =>
 some ((.bool q7), h28)) (
 some ((.bool false), h27))) (
 some ((.bool false), h27))) (
 ld Tryd.prog h27 3 (nx h0) 0 fun v54 =>
 asI .i64 v54 fun n32 =>
 lp k (f6_l2 rec k n21 n25 n32) [(.int .i64 0), (.int .i64 0)] h27 fun e1 ws3 h30 =>
 onE e1 2 (
 ifB (eq n22 0) (
 ifB (eq n26 0) (
 len v44 fun n38 =>
 ifB (le n19 n38) (
 asI .i64 (gv ws3 0) fun n39 =>
 ifB (le n39 0) (
 calls rec h30 24 [] fun v55 h31 =>
 asB v55 fun q8 =>
 some ((.bool q8), h31)) (
 some ((.bool false), h30))) (
 some ((.bool false), h30))) (
 some ((.bool false), h30))) (
 some ((.bool false), h30))) (
 none))))) (
 six v14 n0 1 fun b14 b15 =>
 ld Tryd.prog h27 3 b14 b15 fun v56 =>
 asI .i64 v56 fun n40 =>
 nn n1 (
 ifB (eq (and .i64 (shr .i64 n40 n1) 1) 1) (
 ifB (eq n22 4) (
 ifB (eq n26 2) (
 calls rec h27 24 [] fun v57 h32 =>
 asB v57 fun q9 =>
 some ((.bool q9), h32)) (
 some ((.bool false), h27))) (
 some ((.bool false), h27))) (
 ld Tryd.prog h27 3 (nx h0) 0 fun v58 =>
 asI .i64 v58 fun n41 =>
 lp k (f6_l3 rec k n21 n25 n41) [(.int .i64 0), (.int .i64 0)] h27 fun e2 ws5 h34 =>
 onE e2 2 (
 ifB (eq n22 0) (
 ifB (eq n26 0) (
 len v44 fun n47 =>
 ifB (le n19 n47) (
 asI .i64 (gv ws5 0) fun n48 =>
 ifB (le n48 0) (
 calls rec h34 24 [] fun v59 h35 =>
 asB v59 fun q10 =>
 some ((.bool q10), h35)) (
 some ((.bool false), h34))) (
 some ((.bool false), h34))) (
 some ((.bool false), h34))) (
 some ((.bool false), h34))) (
 none))))))))) (
 none)))))))
theorem e6 (rec : Rec) (k : Nat) (v0 : Value) (n0 : Int) (n1 : Int) (h : H) : bodyT Tryd.prog E0 SC (XC Tryd.prog rec k) 6 (Value × H) [.opq v0, .int .i64 n0, .int .i64 n1] h (fun v h => some (v, h)) = f6 rec k v0 n0 n1 h := by kernel_rfl
end Go.AM
end

section
namespace Go.AM.F
section
/-- The heap after a call: where it has turned nothing that was there and answers plain values, the heap ahead of it; where it answers others, nothing counts as_ written if we say so. -/
noncomputable def truncB (kp : Bool) (_ : Program) (h h1 : H) (v : Value) : H :=
  open Classical in
  if ∀ b, b < h.nx → h1.blk b = h.blk b then (if plainO v = true then h else if kp = true then ⟨h1.blk, h1.nx, h.wr⟩ else h1) else h1
noncomputable abbrev trunc (P : Program) (h h1 : H) (v : Value) : H := truncB false P h h1 v
/-- The functions after which nothing counts as_ written: a second range of the environment's table. -/
def keepF (E : Env) (f : FuncId) : Bool := E.iso (f + 1000000)
variable (P : Program) (E : Env)
noncomputable def callT : Nat → Rec
  | 0, _, _, _ => none
  | n + 1, f, args, h =>
    if E.iso f && args.toList.all plainV then
      (body P E (call P E n) (n + 1) f args (lone E)).bind fun (v, _) => if plainR v then some (v, h) else none
    else (body P E (callT n) (n + 1) f args h).map fun (v, h1) => (v, truncB (keepF E f) P h h1 v)
end
section
variable {P : Program} {E : Env}
theorem truncB_sound {kp : Bool} {ι ι' : Nat → Emb} {h h1 : H} {w w' : World} {v v' : Value} (r : Rel P E ι h w) (t : Tr ι h w ι' h1 w') (r1 : Rel P E ι' h1 w') (hv : VR ι' h1.nx v v') :
    Tr ι h w ι' (truncB kp P h h1 v) w' ∧ Rel P E ι' (truncB kp P h h1 v) w' ∧ VR ι' (truncB kp P h h1 v).nx v v' := by
  unfold truncB
  split
  · rename_i hu
    split
    · rename_i hp
      refine ⟨⟨Nat.le_refl _, t.ext, t.os, t.tape, t.output, t.size, t.fr, fun b k hb ho => t.own b k ((hu b (r.dom b k hb)).trans hb) ho⟩, ⟨r.dom, fun b k hb => ?_, fun b b' k k' hb hb' hne ho => ?_, r.ng, r1.glob, r.globB, r1.globO⟩, ?_⟩
      · exact (r1.blk b k ((hu b (r.dom b k hb)).trans hb)).low (r.blk b k hb)
      · exact r1.inj b b' k k' ((hu b (r.dom b k hb)).trans hb) ((hu b' (r.dom b' k' hb')).trans hb') hne ho
      · exact plainO_lo hp _ _ _ hv
    · split
      · exact ⟨⟨t.nx, t.ext, t.os, t.tape, t.output, t.size, t.fr, t.own⟩, ⟨r1.dom, r1.blk, r1.inj, r1.ng, r1.glob, r1.globB, r1.globO⟩, hv⟩
      · exact ⟨t, r1, hv⟩
  · exact ⟨t, r1, hv⟩
theorem truncB_grow {kp : Bool} {h h1 : H} {v : Value} (g : Grow h h1) : Grow h (truncB kp P h h1 v) := by
  unfold truncB
  split
  · rename_i hu
    split
    · exact .refl _
    · split
      · exact ⟨g.1, Nat.le_refl _, fun _ => hu, g.2.2.2⟩
      · exact g
  · exact g
theorem callT_sound (hmix : P.follows .mixedOrders = true) : ∀ n, SoundR P E (callT P E n) := by
  intro n
  induction n with
  | zero => exact ⟨fun f args h v h' hc => (by cases hc), fun f args h v h' hc => (by cases hc), fun f args h v h' hc => (by cases hc)⟩
  | succ n ih =>
    have hd := draw_ok hmix ih
    have split : ∀ f args h v h', callT P E (n + 1) f args h = some (v, h') → (∃ h1, h' = truncB (keepF E f) P h h1 v ∧ body P E (callT P E n) (n + 1) f args h = some (v, h1)) ∨
        call P E (n + 1) f args h = some (v, h') := by
      intro f args h v h' hc
      simp only [callT] at hc
      split at hc
      · rename_i hiso
        right
        simp only [call]
        rw [if_pos hiso]
        exact hc
      · obtain ⟨⟨u, h2⟩, q1, q2⟩ := map_some hc
        simp only [Prod.mk.injEq] at q2
        obtain ⟨rfl, rfl⟩ := q2
        exact .inl ⟨h2, rfl, q1⟩
    have sn := sound (E := E) hmix (n + 1)
    refine ⟨fun f args h v h' hc => ?_, fun f args h v h' hc => ?_, fun f args h v h' hc ι w args' r ha => ?_⟩
    · rcases split f args h v h' hc with ⟨h1, _, hb⟩ | hb
      · exact (body_sound ih hd hb).1
      · exact sn.fn _ _ _ _ _ hb
    · rcases split f args h v h' hc with ⟨h1, rfl, hb⟩ | hb
      · exact truncB_grow (body_sound ih hd hb).2.1
      · exact sn.grow _ _ _ _ _ hb
    · rcases split f args h v h' hc with ⟨h1, rfl, hb⟩ | hb
      · refine ((body_sound ih hd hb).2.2 ι w args' r ha).mono ?_
        rintro e w' ⟨v', ι', rfl, t1, t2, t3⟩
        obtain ⟨q1, q2, q3⟩ := truncB_sound r t1 t2 t3
        exact ⟨v', ι', rfl, q1, q2, q3⟩
      · exact sn.calls _ _ _ _ _ hb ι w args' r ha
section
variable {rec : Rec} {recs : Nat → Rec}
end
theorem callT_mono : ∀ n f args h r, callT P E n f args h = some r → callT P E (n + 1) f args h = some r := by
  intro n
  induction n with
  | zero => intro f args h r hc; cases hc
  | succ n ih =>
    intro f args h r hc
    have hl : Lim (callT P E n) (fun _ => callT P E (n + 1)) := fun f args h r hr => ⟨0, fun _ _ => ih f args h r hr⟩
    have hl2 : Lim (call P E n) (fun _ => call P E (n + 1)) := fun f args h r hr => ⟨0, fun _ _ => call_mono n f args h r hr⟩
    unfold callT at hc ⊢
    split at hc
    · rename_i hiso
      rw [if_pos hiso]
      obtain ⟨⟨v, h2⟩, q1, q2⟩ := bind_some hc
      obtain ⟨N, p⟩ := body_cont hl2 q1
      rw [p N (Nat.le_refl _) (n + 1 + 1) (Nat.le_succ _)]
      exact q2
    · rename_i hiso
      rw [if_neg hiso]
      obtain ⟨⟨v, h2⟩, q1, q2⟩ := map_some hc
      obtain ⟨N, p⟩ := body_cont hl q1
      rw [p N (Nat.le_refl _) (n + 1 + 1) (Nat.le_succ _)]
      exact congrArg some q2
theorem callT_le {n m : Nat} (hnm : n ≤ m) {f : FuncId} {args : Array Value} {h : H} {r : Value × H} (hc : callT P E n f args h = some r) : callT P E m f args h = some r := by
  induction hnm with
  | refl => exact hc
  | step _ ih => exact callT_mono _ _ _ _ _ ih
variable (P E) in
/-- What a call answers in the end. -/
noncomputable def run : Rec := fun f args h =>
  open Classical in
  if hx : ∃ n r, callT P E n f args h = some r then some hx.choose_spec.choose else none
theorem run_of {n : Nat} {f : FuncId} {args : Array Value} {h : H} {r : Value × H} (hc : callT P E n f args h = some r) : run P E f args h = some r := by
  have hx : ∃ n r, callT P E n f args h = some r := ⟨n, r, hc⟩
  unfold run
  rw [dif_pos hx]
  have h1 := callT_le (Nat.le_max_left n hx.choose) hc
  have h2 := callT_le (Nat.le_max_right n hx.choose) hx.choose_spec.choose_spec
  rw [h1] at h2
  exact h2.symm
theorem run_lim : Lim (run P E) (callT P E) := by
  intro f args h r hr
  unfold run at hr
  split at hr
  · rename_i hx
    cases hr
    exact ⟨hx.choose, fun n hn => callT_le hn hx.choose_spec.choose_spec⟩
  · cases hr
theorem run_sound (hmix : P.follows .mixedOrders = true) : SoundR P E (run P E) := by
  refine ⟨fun f args h v h' hc => ?_, fun f args h v h' hc => ?_, fun f args h v h' hc => ?_⟩
  all_goals obtain ⟨N, p⟩ := run_lim f args h _ hc
  · exact (callT_sound hmix N).fn _ _ _ _ _ (p N (Nat.le_refl _))
  · exact (callT_sound hmix N).grow _ _ _ _ _ (p N (Nat.le_refl _))
  · exact (callT_sound hmix N).calls _ _ _ _ _ (p N (Nat.le_refl _))
theorem run_of_bodyT {k : Nat} {f : FuncId} {args : List SV} {h h1 : H} {v : Value} (hi : (E.iso f || keepF E f) = false)
    (hh : bodyT P E SC (XC P (run P E) k) f (Value × H) args h (fun v h => some (v, h)) = some (v, h1)) : run P E f (args.map SV.val).toArray h = some (v, trunc P h h1 v) := by
  obtain ⟨v1, h2, g1, g2⟩ := bodyT_some hh
  cases g2
  obtain ⟨N, p⟩ := body_cont run_lim g1
  refine run_of (n := max N k + 1) ?_
  rw [Bool.or_eq_false_iff] at hi
  unfold callT
  rw [hi.1, hi.2]
  simp only [Bool.false_and, Bool.false_eq_true, if_false]
  rw [p _ (Nat.le_max_left _ _) _ (by omega)]
  rfl
theorem truncB_pure {kp : Bool} {h h1 : H} {v : Value} (hp : plainO v = true) (x : Ext h h1) : truncB kp P h h1 v = h := by
  unfold truncB
  rw [if_pos x.blk, if_pos hp]
theorem trunc_pure {h h1 : H} {v : Value} (hp : plainO v = true) (x : Ext h h1) : trunc P h h1 v = h := truncB_pure hp x
theorem trunc_not {h h1 : H} {v : Value} (hp : plainO v = false) : trunc P h h1 v = h1 := by
  unfold trunc truncB
  split
  · rw [if_neg (by rw [hp]; simp), if_neg (by simp)]
  · rfl
end
end Go.AM.F
namespace Go.AM.F
open Go.RowKit
end Go.AM.F
namespace Go.AM.F
open Go.RowKit
end Go.AM.F
namespace Go.AM.F
open Go.ChangeShapes
section
variable {P : Program} {E : Env} {ι : Nat → Emb} {h : H} {w : World}
variable {HH : Type} {enc : TypeId × Value → HH} {base : Nat} {held : Bool}
end
end Go.AM.F
namespace Go.AM.F
end Go.AM.F
end

section
namespace Go.AM
section
variable {P : Program} {E : Env}
theorem run_getIter {w : World} {r : Nat} {m : Option Nat} {c last : Nat} {seen : Array Nat} (h : w.heap[r]? = some (.mapIter m c seen last)) : (getObj r).run P w = .ok (.mapIter m c seen last) w := by
  simp [getObj, Sem.run, h]
theorem run_setIter {w : World} {r : Nat} {m : Option Nat} {c last : Nat} {seen : Array Nat} (o : Obj) (h : w.heap[r]? = some (.mapIter m c seen last)) : (setObj r o).run P w = .ok () { w with heap := w.heap.setIfInBounds r o } := by
  simp [setObj, Sem.run, h]
/-- The same world, but for how often the tape was asked. -/
def Same (w w1 : World) : Prop := ∃ k, w1 = { w with drawn := k }
theorem Same.refl (w : World) : Same w w := ⟨w.drawn, rfl⟩
theorem run_chooseMap {n : Nat} (hn : 0 < n) (w : World) : ∃ i w1, i < n ∧ Same w w1 ∧ (choose (.mapNext n)).run P w = .ok i w1 := by
  unfold choose
  simp only [Sem.run]
  by_cases hf : (Question.mapNext n).forced = true
  · rw [if_pos hf]
    exact ⟨0, w, hn, .refl w, rfl⟩
  · rw [if_neg hf]
    exact ⟨_, _, Nat.mod_lt _ hn, ⟨_, rfl⟩, rfl⟩
theorem next_run {w : World} {r m c : Nat} {seen : Array Nat} {es : Array MapEntry} (T : TypeId) (ho : w.heap[r]? = some (.mapIter (some m) c seen c)) (hm : w.heap[m]? = some (.map es c)) (hb : ∀ e ∈ es, e.born < c) :
    (∃ e ∈ es, e.born ∉ seen ∧ ∃ w1, Same w w1 ∧ (Instr.next (.pointer (some ⟨r, 0, none⟩)) false T).run P w = .ok (.tuple #[.bool true, e.key, e.val]) { w1 with heap := w1.heap.setIfInBounds r (.mapIter (some m) c (seen.push e.born) c) }) ∨
    ((∀ e ∈ es, e.born ∈ seen) ∧ ∃ w1, Same w w1 ∧ (Instr.next (.pointer (some ⟨r, 0, none⟩)) false T).run P w = .ok (.tuple #[.bool false]) w1) := by
  have hmr : (getObj m).run P w = .ok (.map es c) w := by simp [getObj, Sem.run, hm]
  have hno : (!seen.isEmpty && !es.isEmpty && es.all (fun e => decide (e.born ≥ c))) = false := by
    rw [Bool.eq_false_iff]
    intro h
    simp only [Bool.and_eq_true, Bool.not_eq_true'] at h
    obtain ⟨⟨_, h1⟩, h2⟩ := h
    rw [Array.all_eq_true] at h2
    have hs : 0 < es.size := by
      refine Nat.pos_of_ne_zero fun h0 => ?_
      rw [Array.isEmpty_iff_size_eq_zero.2 h0] at h1; cases h1
    have h3 := h2 0 hs
    have h4 := hb es[0] (Array.getElem_mem hs)
    simp at h3
    omega
  have hold : (es.filter fun e => !seen.contains e.born).filter (fun e => decide (e.born < c)) = es.filter fun e => !seen.contains e.born := by
    rw [Array.filter_eq_self]
    intro e he
    exact decide_eq_true (hb e (Array.mem_filter.1 he).1)
  have hnew : (es.filter fun e => !seen.contains e.born).filter (fun e => decide (e.born ≥ c)) = #[] := by
    rw [Array.filter_eq_empty_iff]
    intro e he
    have := hb e (Array.mem_filter.1 he).1
    simp
    omega
  let left := es.filter fun e => !seen.contains e.born
  let cand : Array (Option MapEntry) := (if left.isEmpty then #[none] else #[]) ++ (left ++ #[]).map some
  have hrun : ∀ {res : Result Value}, ((do
      match cand[← choose (.mapNext cand.size)]? with
      | some (some e) =>
        setObj r (.mapIter (some m) c (seen.push e.born) c)
        pure (.tuple #[.bool true, e.key, e.val])
      | some none => pure (.tuple #[.bool false])
      | none => stuck "Next: no such candidate" : Sem Value)).run P w = res → (Instr.next (.pointer (some ⟨r, 0, none⟩)) false T).run P w = res := by
    intro res hres
    rw [← hres]
    unfold Instr.next
    simp only [Sem.run_bind, run_getIter ho, hmr, Result.andThen_ok, hno, Bool.false_eq_true, if_false, hold, hnew, Sem.run_pure]
    rfl
  have hc0 : 0 < cand.size := by
    show 0 < ((if left.isEmpty then #[none] else #[]) ++ (left ++ #[]).map some : Array (Option MapEntry)).size
    by_cases hl : left.isEmpty = true
    · rw [if_pos hl]; simp; omega
    · rw [if_neg hl]
      simp only [Array.isEmpty_iff_size_eq_zero] at hl
      simp
      omega
  obtain ⟨i, w1, hi, hs, hch⟩ := run_chooseMap (P := P) hc0 w
  have hget : cand[i]? = some cand[i] := Array.getElem?_eq_getElem hi
  have hs1 : w1.heap = w.heap := by obtain ⟨k, rfl⟩ := hs; rfl
  by_cases hl : left.isEmpty = true
  · right
    have hl0 : left = #[] := by simpa using hl
    have hcd : cand = #[none] := by
      show ((if left.isEmpty then #[none] else #[]) ++ (left ++ #[]).map some : Array (Option MapEntry)) = _
      rw [if_pos hl, hl0]; simp
    refine ⟨fun e he => ?_, w1, hs, hrun ?_⟩
    · refine Classical.byContradiction fun hc => ?_
      have : e ∈ left := Array.mem_filter.2 ⟨he, by simp [Array.contains_iff_mem, hc]⟩
      rw [hl0] at this
      simp at this
    · have hin : cand[i]? = some none := by
        rw [hget]
        have hi' : i = 0 := by rw [hcd] at hi; simp at hi; exact hi
        subst hi'
        simp [hcd]
      simp only [Sem.run_bind, hch, Result.andThen_ok, hin, Sem.run_pure]
  · left
    have hcd : cand = left.map some := by
      show ((if left.isEmpty then #[none] else #[]) ++ (left ++ #[]).map some : Array (Option MapEntry)) = _
      rw [if_neg hl]; simp
    have hil : i < left.size := by rw [hcd] at hi; simpa using hi
    have hin : cand[i]? = some (some left[i]) := by
      rw [hcd, Array.getElem?_map, Array.getElem?_eq_getElem hil]; rfl
    have hmem := Array.mem_filter.1 (Array.getElem_mem hil)
    refine ⟨left[i], hmem.1, by have := hmem.2; simpa [Array.contains_iff_mem] using this, w1, hs, hrun ?_⟩
    simp only [Sem.run_bind, hch, Result.andThen_ok, hin, run_setIter (m := some m) (c := c) (last := c) (seen := seen) _ (show w1.heap[r]? = _ by rw [hs1]; exact ho), Sem.run_pure]
theorem entry_run {w : World} {r m c : Nat} {seen : Array Nat} {es : Array MapEntry} {e : MapEntry} (ho : w.heap[r]? = some (.mapIter (some m) c (seen.push e.born) c)) (hm : w.heap[m]? = some (.map es c)) (he : es.find? (fun x => x.born == e.born) = some e) :
    (Instr.entry (.pointer (some ⟨r, 0, none⟩))).run P w = .ok (.tuple #[e.key, e.val]) w := by
  have hmr : (getObj m).run P w = .ok (.map es c) w := by simp [getObj, Sem.run, hm]
  unfold Instr.entry
  simp only [Sem.run_bind, run_getIter ho, hmr, Result.andThen_ok, Array.back?_push, bne_self_eq_false, Bool.false_eq_true, if_false, he, Sem.run_pure]
end
end Go.AM
end
