/- The staged evaluator: the abstract machine's runs as plain terms, what is known of values laid apart. -/
import Derived.Test.YthmfjfblndophaaAmDef
namespace Go.AM

/-- A value of which something is known. -/
inductive SV where
  | int (k : IntKind) (n : Int)
  | bool (b : Bool)
  | kb (b : Bool)
  | ptr (b o : Nat)
  | fn (f : FuncId) (xs ys : List Value)
  | opq (v : Value)
  | und
  | top

def SV.val : SV → Value
  | .int k n => .int k n
  | .bool b => .bool b
  | .kb b => .bool b
  | .ptr b o => .pointer (some ⟨b, o, none⟩)
  | .fn f xs ys => .func (.func f) xs.toArray ys.toArray
  | .opq v => v
  | .und => undef
  | .top => undef

def liftV (v : Value) : SV :=
  match v with
  | .int k n => .int k n
  | .bool b => .kb b
  | v => .opq v

abbrev SEnv := Nat → SV

def evS (env : SEnv) : Operand → SV
  | .tmp i => env i
  | .const v => liftV v
  | .global g => .ptr g 0
  | .func f => .fn f [] []

/-- The plain functions of the staged evaluator. -/
structure Sc where
  add : IntKind → Int → Int → Int
  sub : IntKind → Int → Int → Int
  mul : IntKind → Int → Int → Int
  quo : IntKind → Int → Int → Int
  rem : IntKind → Int → Int → Int
  and : IntKind → Int → Int → Int
  or : IntKind → Int → Int → Int
  xor : IntKind → Int → Int → Int
  andNot : IntKind → Int → Int → Int
  shl : IntKind → Int → Int → Int
  shr : IntKind → Int → Int → Int
  wr : IntKind → Int → Int
  com : IntKind → Int → Int
  lt : Int → Int → Bool
  le : Int → Int → Bool
  eq : Int → Int → Bool
  not : Bool → Bool
  min : Int → Int → Int
  max : Int → Int → Int
  nx : H → Nat
  same : H → H → Bool
  off : Nat → Nat → Nat
  at_ : Nat → Int → Nat → Nat
  fre : Nat → Nat → Nat → Nat → Nat → Nat → Nat → Bool
  freq : Nat → Nat → Bool → Bool
  fres : Value → Nat → Bool → Bool
  frem : Value → Nat → Bool → Bool
  gv : List Value → Nat → Value

/-- The steps of the staged evaluator. -/
structure Xs (R : Type) where
  ifB : Bool → Option R → Option R → Option R
  ck : Bool → Option R → Option R
  asI : IntKind → Value → (Int → Option R) → Option R
  asK : Value → (Int → Option R) → Option R
  asB : Value → (Bool → Option R) → Option R
  asP : Value → (Nat → Nat → Option R) → Option R
  nz : Int → Option R → Option R
  nn : Int → Option R → Option R
  ld : H → TypeId → Nat → Nat → (Value → Option R) → Option R
  st : H → TypeId → Nat → Nat → Value → (H → Option R) → Option R
  al : H → TypeId → List Value → (H → Option R) → Option R
  bx : H → TypeId → Value → (H → Option R) → Option R
  bld : TypeId → List (Nat × Value) → (Value → Option R) → Option R
  bls : H → TypeId → Nat → List (Nat × Value) → (Value → H → Option R) → Option R
  nil : Value → Option R → Option R
  eqv : TypeId → Value → Value → (Bool → Option R) → Option R
  mks : H → TypeId → Int → Int → (Value → H → Option R) → Option R
  mkm : H → (H → Option R) → Option R
  sli : H → TypeId → Value → Option Value → Option Value → Option Value → (Value → Option R) → Option R
  fld : TypeId → Value → Nat → (Value → Option R) → Option R
  six : Value → Int → Nat → (Nat → Nat → Option R) → Option R
  aix : Nat → Int → Option R → Option R
  inx : TypeId → Value → Int → (Value → Option R) → Option R
  lok : H → TypeId → Value → Value → Bool → (Value → Option R) → Option R
  mup : H → TypeId → Value → Value → Value → (H → Option R) → Option R
  ext : Value → Nat → (Value → Option R) → Option R
  len : Value → (Int → Option R) → Option R
  mlen : H → Value → (Int → Option R) → Option R
  app : H → TypeId → TypeId → Value → Value → (Value → H → Option R) → Option R
  call : H → FuncId → List Value → (Value → H → Option R) → Option R
  callV : H → Value → List Value → (Value → H → Option R) → Option R
  onE : Ex → Nat → Option R → Option R → Option R
  onR : Ex → Option R → Option R
  lp : (List Value → H → Option (Ex × List Value × H)) → List Value → H → (Ex → List Value → H → Option R) → Option R
  out : Ex → List Value → H → Option (Ex × List Value × H)

section
variable (P : Program) (E : Env) (S : Sc)

def putS (env : SEnv) (d : Option Tmp) (v : SV) : SEnv :=
  match d with
  | some d => fun i => cond (Nat.beq i d) v (env i)
  | none => env

def setK (env : SEnv) (c : Operand) (b : Bool) : SEnv :=
  match c with
  | .tmp d => fun i => cond (Nat.beq i d) (.kb b) (env i)
  | _ => env

variable {R : Type} (X : Xs R)

def toI (k : IntKind) (s : SV) (K : Int → Option R) : Option R :=
  match s with
  | .int k' n => if k' = k then K n else none
  | .opq v => X.asI k v K
  | _ => none

def toK (s : SV) (K : Int → Option R) : Option R :=
  match s with
  | .int _ n => K n
  | .opq v => X.asK v K
  | _ => none

def toV (s : SV) (K : Value → Option R) : Option R :=
  match s with
  | .top => none
  | s => K s.val

def toS (s : SV) (K : SV → Option R) : Option R :=
  match s with
  | .top => none
  | s => K s

def toVs : List SV → (List Value → Option R) → Option R
  | [], K => K []
  | s :: l, K => toV s fun v => toVs l fun vs => K (v :: vs)

def toVo (s : Option SV) (K : Option Value → Option R) : Option R :=
  match s with
  | none => K none
  | some s => toV s fun v => K (some v)

def toPs : List (Nat × SV) → (List (Nat × Value) → Option R) → Option R
  | [], K => K []
  | (i, s) :: l, K => toV s fun v => toPs l fun vs => K ((i, v) :: vs)

def toP (s : SV) (K : Nat → Nat → Option R) : Option R :=
  match s with
  | .ptr b o => K b o
  | .opq v => X.asP v K
  | _ => none

def toC (s : SV) (K : Bool → Option R) : Option R :=
  match s with
  | .kb true => K true
  | .kb false => K false
  | .bool q => X.ifB q (K true) (K false)
  | .opq v => X.asB v fun q => X.ifB q (K true) (K false)
  | _ => none

def shape (t : TypeId) (v : Value) (K : SV → Option R) : Option R :=
  match P.underlying t with
  | some (.int k) => X.asI k v fun n => K (.int k n)
  | some .bool => X.asB v fun b => K (.bool b)
  | _ => K (.opq v)

def arithT (op : BinOp) (k : IntKind) (a b : Int) (K : SV → Option R) : Option R :=
  match op with
  | .add => K (.int k (S.add k a b))
  | .sub => K (.int k (S.sub k a b))
  | .mul => K (.int k (S.mul k a b))
  | .quo => X.nz b (K (.int k (S.quo k a b)))
  | .rem => X.nz b (K (.int k (S.rem k a b)))
  | .and => K (.int k (S.and k a b))
  | .or => K (.int k (S.or k a b))
  | .xor => K (.int k (S.xor k a b))
  | .andNot => K (.int k (S.andNot k a b))
  | .eql => K (.bool (S.eq a b))
  | .neq => K (.bool (S.not (S.eq a b)))
  | .lss => K (.bool (S.lt a b))
  | .leq => K (.bool (S.le a b))
  | .gtr => K (.bool (S.lt b a))
  | .geq => K (.bool (S.le b a))
  | _ => none

def binT (op : BinOp) (t : TypeId) (x y : SV) (K : SV → Option R) : Option R :=
  match P.underlying t with
  | some (.int k) =>
    match op with
    | .shl => toI X k x fun a => toK X y fun b => X.nn b (K (.int k (S.shl k a b)))
    | .shr => toI X k x fun a => toK X y fun b => X.nn b (K (.int k (S.shr k a b)))
    | op => toI X k x fun a => toI X k y fun b => arithT S X op k a b K
  | _ =>
    match op with
    | .eql => toV x fun x => toV y fun y => X.eqv t x y fun b => K (.bool b)
    | .neq => toV x fun x => toV y fun y => X.eqv t x y fun b => K (.bool (S.not b))
    | _ => none

def unT (op : UnOp) (t : TypeId) (x : SV) (K : SV → Option R) : Option R :=
  match op with
  | .not =>
    match x with
    | .kb true => K (.kb false)
    | .kb false => K (.kb true)
    | .bool b => K (.bool (S.not b))
    | .opq v => X.asB v fun b => K (.bool (S.not b))
    | _ => none
  | .neg => match P.underlying t with
    | some (.int k) => toI X k x fun a => K (.int k (S.sub k 0 a))
    | _ => none
  | .xor => match P.underlying t with
    | some (.int k) => toI X k x fun a => K (.int k (S.com k a))
    | _ => none
  | _ => none

def fieldOff (s : TypeId) (f : Nat) : Option Nat :=
  match P.underlying s with
  | some (.struct fs) => (fs[f]?).bind fun f => (size? P f.type).bind fun n => if n = 0 then none else some f.offset
  | _ => none

def opT (o : Oper) (env : SEnv) (h : H) (K : SV → H → Option R) : Option R :=
  if !(o.op.operands.toList.all (okOperand E)) then none else
  let e := evS env
  match o.op with
  | .move x | .assign x => toS (e x) fun s => K s h
  | .pick c a b => toC X (e c) fun q => if q then toS (e a) fun s => K s h else toS (e b) fun s => K s h
  | .alloc t => match zero? P t with
    | some z => X.al h t z.cells.toList fun h' => K (.ptr (S.nx h) 0) h'
    | none => none
  | .box t x => match size? P t with
    | some _ => toV (e x) fun x => X.bx h t x fun h' => K (.ptr (S.nx h) 0) h'
    | none => none
  | .build t ps => toPs (ps.toList.map fun (i, x) => (i, e x)) fun ps => X.bld t ps fun v => K (.opq v) h
  | .buildSlice t n ps => toPs (ps.toList.map fun (i, x) => (i, e x)) fun ps => X.bls h t n ps fun v h' => K (.opq v) h'
  | .load t a => toP X (e a) fun b o => X.ld h t b o fun v => shape P X t v fun s => K s h
  | .store t a x => toP X (e a) fun b o => toV (e x) fun v => X.st h t b o v fun h' => K .und h'
  | .nilCheck x => match e x with
    | .ptr b o => K (.ptr b o) h
    | .fn f a b => K (.fn f a b) h
    | .opq v => X.nil v (K (.opq v) h)
    | _ => none
  | .binOp b t x y _ => binT P S X b t (e x) (e y) fun s => K s h
  | .unOp b t x => unT P S X b t (e x) fun s => K s h
  | .convert s d x => match P.underlying s, P.underlying d with
    | some (.int ks), some (.int kd) => toI X ks (e x) fun n => K (.int kd (S.wr kd n)) h
    | _, _ => none
  | .makeFunc fn first captured => match fn with
    | .func f => toVs (first.toList.map e) fun xs => toVs (captured.toList.map e) fun ys => K (.fn f xs ys) h
    | _ => none
  | .makeMap _ r => match r with
    | none => X.mkm h fun h' => K (.opq (.map (some (S.nx h)))) h'
    | some _ => none
  | .makeSlice t l c => toK X (e l) fun a => toK X (e c) fun b => X.mks h t a b fun v h' => K (.opq v) h'
  | .slice t x lo hi mx => toV (e x) fun x => toVo (lo.map e) fun lo => toVo (hi.map e) fun hi => toVo (mx.map e) fun mx => X.sli h t x lo hi mx fun v => K (.opq v) h
  | .fieldAddr s x f => toP X (e x) fun b o => match fieldOff P s f with
    | some d => K (.ptr b (if d = 0 then o else S.off o d)) h
    | none => none
  | .field s x f => toV (e x) fun x => X.fld s x f fun v => shape P X o.type v fun s => K s h
  | .indexAddr t x i => match P.underlying t with
    | some (.slice el) => match size? P el with
      | some s => toV (e x) fun x => toK X (e i) fun i => X.six x i s fun b o => K (.ptr b o) h
      | none => none
    | some (.array n el) => match size? P el with
      | some s => toP X (e x) fun b o => toK X (e i) fun i => X.aix n i (K (.ptr b (S.at_ o i s)) h)
      | none => none
    | _ => none
  | .index t x i => toV (e x) fun x => toK X (e i) fun i => X.inx t x i fun v => shape P X o.type v fun s => K s h
  | .lookup t m k ok => toV (e m) fun m => toV (e k) fun k => X.lok h t m k ok fun v => shape P X o.type v fun s => K s h
  | .mapUpdate t m k x => toV (e m) fun m => toV (e k) fun k => toV (e x) fun x => X.mup h t m k x fun h' => K .und h'
  | .extract x i => toV (e x) fun x => X.ext x i fun v => shape P X o.type v fun s => K s h
  | .call c => match c.callee with
    | .builtin .len => match c.argTypes.toList, c.args.toList with
      | t :: _, [x] => match P.underlying t with
        | some (.slice _) => toV (e x) fun x => X.len x fun n => K (.int .i64 n) h
        | some (.map _ _) => toV (e x) fun x => X.mlen h x fun n => K (.int .i64 n) h
        | _ => none
      | _, _ => none
    | .builtin .append => match c.argTypes.toList, c.args.toList with
      | [s, t], [x, y] => toV (e x) fun x => toV (e y) fun y => X.app h s t x y fun v h' => K (.opq v) h'
      | _, _ => none
    | .builtin .min => match P.underlying o.type, c.args.toList with
      | some (.int k), [x, y] => toI X k (e x) fun a => toI X k (e y) fun b => K (.int k (S.min a b)) h
      | _, _ => none
    | .builtin .max => match P.underlying o.type, c.args.toList with
      | some (.int k), [x, y] => toI X k (e x) fun a => toI X k (e y) fun b => K (.int k (S.max a b)) h
      | _, _ => none
    | .value f => match e f with
      | .fn f xs ys => toVs (c.args.toList.map e) fun as => X.call h f (xs ++ as ++ ys) fun v h' => shape P X o.type v fun s => K s h'
      | .opq v => toVs (c.args.toList.map e) fun as => X.callV h v as fun v h' => shape P X o.type v fun s => K s h'
      | _ => none
    | _ => none
  | _ => none

/-- May the operation be wanted? -/
def wantT (all : Array Oper) (o : Oper) (N : Nat) (env : SEnv) (K : Bool → SEnv → Option R) : Option R :=
  match o.guard with
  | none => K true env
  | some (j, w) => match (all[j]?).bind (·.dst) with
    | some d => if d < N then
        match env d with
        | .und => K false env
        | s => toC X s fun q => K (q == w) (setK env (.tmp d) q)
      else none
    | none => K false env

def okDst (N : Nat) (d : Option Tmp) : Bool :=
  match d with
  | some d => decide (d < N)
  | none => true

def opsT (N : Nat) (all : Array Oper) : List Oper → SEnv → H → (SEnv → H → Option R) → Option R
  | [], env, h, K => K env h
  | o :: rest, env, h, K =>
    if okDst N o.dst then
      wantT X all o N env fun q env =>
        if q then opT P E S X o env h fun v h => opsT N all rest (putS env o.dst v) h K
        else opsT N all rest (putS env o.dst .und) h K
    else none

/-- What an operation touches, as far as it is known. -/
inductive FPT where
  | pure
  | ld (b o n : Nat)
  | rd
  | rs (v : Value)
  | rm (v : Value)
  | st (b o n : Nat)
  | md

def FPT.fp : FPT → FP
  | .pure => .pure
  | .ld b o n => .ld b o n
  | .rd => .rd
  | .rs v => match v with
    | .slice (some ⟨b, _, none⟩) _ _ => .rb b
    | .slice none _ _ => .pure
    | _ => .rd
  | .rm v => match v with
    | .map (some b) => .rb b
    | _ => .rd
  | .st b o n => .st b o n
  | .md => .md

structure DidT where
  i : Nat
  f : FPT
  lo : Nat
  q : Bool

def DidT.did (d : DidT) : Did := ⟨d.i, d.f.fp, d.lo, d.q⟩

def fpT (env : SEnv) (o : Oper) (K : FPT → Option R) : Option R :=
  let at_ (st : Bool) (ty : TypeId) (a : SV) : Option R :=
    toP X a fun b o => match size? P ty with
      | some n => if n = 0 then none else K (if st then .st b o n else .ld b o n)
      | none => none
  match o.op with
  | .move _ | .assign _ | .pick .. | .build .. | .nilCheck _ | .binOp .. | .unOp .. | .convert .. | .makeFunc .. | .fieldAddr .. | .field ..
  | .indexAddr .. | .index .. | .extract .. => K .pure
  | .load ty a => at_ false ty (evS env a)
  | .store ty a _ => at_ true ty (evS env a)
  | .lookup _ m _ _ => toV (evS env m) fun v => K (.rm v)
  | .slice _ x _ _ _ => toV (evS env x) fun v => K (.rs v)
  | .call c => match c.callee with
    | .builtin .len => match (c.argTypes[0]?).bind P.underlying with
      | some (.slice _) => K .pure
      | _ => K .rd
    | .builtin .min => K .pure
    | .builtin .max => K .pure
    | _ => K .md
  | .alloc _ | .box .. | .buildSlice .. | .makeSlice .. | .makeMap .. | .mapUpdate .. => K .md
  | _ => none

def freeT (x y : DidT) (K : Option R) : Option R :=
  match x.f, y.f with
  | .pure, _ => K
  | _, .pure => K
  | .ld b o n, .st b' o' n' => X.ck (S.fre b y.lo o n b' o' n') K
  | .st b' o' n', .ld b o n => X.ck (S.fre b x.lo o n b' o' n') K
  | .ld b _ _, .md => X.ck (S.freq b y.lo y.q) K
  | .md, .ld b _ _ => X.ck (S.freq b x.lo x.q) K
  | .rs v, .md => X.ck (S.fres v y.lo y.q) K
  | .md, .rs v => X.ck (S.fres v x.lo x.q) K
  | .rm v, .md => X.ck (S.frem v y.lo y.q) K
  | .md, .rm v => X.ck (S.frem v x.lo x.q) K
  | .ld _ _ _, .ld _ _ _ => K
  | .ld _ _ _, .rd => K
  | .rd, .ld _ _ _ => K
  | .rd, .rd => K
  | .ld _ _ _, .rs _ => K
  | .rs _, .ld _ _ _ => K
  | .ld _ _ _, .rm _ => K
  | .rm _, .ld _ _ _ => K
  | .rd, .rs _ => K
  | .rs _, .rd => K
  | .rd, .rm _ => K
  | .rm _, .rd => K
  | .rs _, .rs _ => K
  | .rs _, .rm _ => K
  | .rm _, .rs _ => K
  | .rm _, .rm _ => K
  | _, _ => none

def logT (B : Nat) (y : DidT) : List DidT → Option R → Option R
  | [], K => K
  | d :: l, K => if B.testBit d.i then logT B y l K else freeT S X d y (logT B y l K)

def drawT (N : Nat) (all : Array Oper) (B : Array Nat) : List Oper → Nat → List DidT → SEnv → H → (SEnv → H → Option R) → Option R
  | [], _, _, env, h, K => K env h
  | o :: rest, j, log, env, h, K =>
    if okDst N o.dst then
      wantT X all o N env fun q env =>
        if q then fpT P X env o fun f => opT P E S X o env h fun v h' =>
          logT S X (B.getD j 0) ⟨j, f, S.nx h, S.same h' h⟩ log
            (drawT N all B rest (j + 1) (⟨j, f, S.nx h, S.same h' h⟩ :: log) (putS env o.dst v) h' K)
        else drawT N all B rest (j + 1) log (putS env o.dst .und) h K
    else none

def writ : Code → List Nat
  | .region _ all _ => (all.toList.filterMap (·.dst)).eraseDups
  | .seq a b => (writ a ++ writ b).eraseDups
  | .cond _ a b => (writ a ++ writ b).eraseDups
  | .block _ c => writ c
  | .loop c => writ c
  | _ => []

def exitsOf : Code → List Nat
  | .seq a b => (exitsOf a ++ exitsOf b).eraseDups
  | .cond _ a b => (exitsOf a ++ exitsOf b).eraseDups
  | .block id c => (exitsOf c).filter (· != id)
  | .loop c => exitsOf c
  | .exit id => [id]
  | _ => []

def retsOf : Code → Bool
  | .seq a b => retsOf a || retsOf b
  | .cond _ a b => retsOf a || retsOf b
  | .block _ c => retsOf c
  | .loop c => retsOf c
  | .ret => true
  | _ => false

def rdOps : List Oper → List Nat → List Nat
  | [], _ => []
  | o :: l, w => ((AM.reads o).filter fun i => !w.contains i) ++ rdOps l (match o.dst with
    | some d => d :: w
    | none => w)

def kill : Code → List Nat
  | .region _ all _ => all.toList.filterMap (·.dst)
  | .seq a b => kill a ++ kill b
  | .cond _ a b => (kill a).filter fun i => (kill b).contains i
  | _ => []

def ue : Code → List Nat
  | .region _ all _ => (rdOps all.toList []).eraseDups
  | .seq a b => (ue a ++ (ue b).filter fun i => !(kill a).contains i).eraseDups
  | .cond c a b => ((match c with
    | .tmp i => [i]
    | _ => []) ++ ue a ++ ue b).eraseDups
  | .block _ c => ue c
  | .loop c => ue c
  | _ => []

/-- The temporaries that a loop carries. -/
def carr (c : Code) (lv : List Nat) : List Nat := (writ c).filter fun i => (ue c).contains i || lv.contains i

def posn (i : Nat) : List Nat → Nat → Option Nat
  | [], _ => none
  | x :: l, j => cond (Nat.beq x i) (some j) (posn i l (j + 1))

def mixed (c : Code) (lv : List Nat) (env : SEnv) (ws : List Value) : SEnv := fun i =>
  match posn i (carr c lv) 0 with
  | some j => .opq (S.gv ws j)
  | none => if (writ c).contains i then .top else env i

def onEx (e : Ex) (K : Ex → Option R) : List Nat → Bool → Option R
  | [], true => X.onR e (K .ret)
  | [], false => none
  | i :: l, r => X.onE e i (K (.exit i)) (onEx e K l r)

end

def codeT (P : Program) (E : Env) (S : Sc) (X : (R : Type) → Xs R) (N : Nat) : Code → List Nat → (R : Type) → SEnv → H → (Ex → SEnv → H → Option R) → Option R
  | .skip, _, _, env, h, K => K .normal env h
  | .region _ all false, _, R, env, h, K => opsT P E S (X R) N all all.toList env h fun env h => K .normal env h
  | .region _ all true, _, R, env, h, K =>
    if okDraw all then drawT P E S (X R) N all (Region.before all) all.toList 0 [] env h fun env h => K .normal env h else none
  | .seq a b, lv, R, env, h, K => codeT P E S X N a (ue b ++ lv) R env h fun e env h =>
    match e with
    | .normal => codeT P E S X N b lv R env h K
    | e => K e env h
  | .cond c a b, lv, R, env, h, K =>
    if !okOperand E c then none else
    toC (X R) (evS env c) fun q =>
      if q then codeT P E S X N a lv R (setK env c true) h K else codeT P E S X N b lv R (setK env c false) h K
  | .block id c, lv, R, env, h, K => codeT P E S X N c lv R env h fun e env h =>
    match e with
    | .exit i => if i = id then K .normal env h else K (.exit i) env h
    | e => K e env h
  | .loop c, lv, R, env, h, K =>
    toVs ((carr c lv).map env) fun ws =>
    (X R).lp
      (fun ws h => codeT P E S X N c (ue c ++ lv) (Ex × List Value × H) (mixed S c lv env ws) h fun e env h => toVs ((carr c lv).map env) fun ws => (X R).out e ws h)
      ws h
      fun e ws h => onEx (X R) e (fun e => K e (mixed S c lv env ws) h) (exitsOf c) (retsOf c)
  | .exit id, _, _, env, h, K => K (.exit id) env h
  | .ret, _, _, env, h, K => K .ret env h
  | _, _, _, _, _, _ => none

section
variable (P : Program) {R : Type} (X : Xs R)

def resT (env : SEnv) (h : H) : List ResultVar → List Value → (List Value → Option R) → Option R
  | [], acc, K => K acc.reverse
  | .tmp i :: l, acc, K => toV (env i) fun v => resT env h l (v :: acc) K
  | .cell a ty :: l, acc, K => toP X (env a) fun b o => X.ld h ty b o fun v => resT env h l (v :: acc) K

def resL (l : List ResultVar) : List Nat := l.map fun
  | .tmp i => i
  | .cell i _ => i

def res1 : List Value → Value
  | [v] => v
  | vs => .tuple vs.toArray
end

def bodyT (P : Program) (E : Env) (S : Sc) (X : (R : Type) → Xs R) (f : FuncId) (R : Type) (args : List SV) (h : H) (K : Value → H → Option R) : Option R :=
  match P.funcs[f]? with
  | some fn =>
    match fn.body with
    | some c =>
      if fn.name = "runtime.NumGoroutine" then none
      else if args.length ≤ fn.ntmps then
        codeT P E S X fn.ntmps c (resL fn.results.toList) R (fun i => args.getD i .und) h fun e env h =>
          match e with
          | .exit _ => none
          | _ => resT (X R) env h fn.results.toList [] fun vs => K (res1 vs) h
      else none
    | none => none
  | none => none

/-! ### The meaning of the steps -/

def add (k : IntKind) (a b : Int) : Int := k.wrap (a + b)
def sub (k : IntKind) (a b : Int) : Int := k.wrap (a - b)
def mul (k : IntKind) (a b : Int) : Int := k.wrap (a * b)
def quo (k : IntKind) (a b : Int) : Int := k.wrap (a.tdiv b)
def rem (_ : IntKind) (a b : Int) : Int := a.tmod b
def and (k : IntKind) (a b : Int) : Int := k.wrap (BitVec.ofInt k.bits a &&& BitVec.ofInt k.bits b).toNat
def or (k : IntKind) (a b : Int) : Int := k.wrap (BitVec.ofInt k.bits a ||| BitVec.ofInt k.bits b).toNat
def xor (k : IntKind) (a b : Int) : Int := k.wrap (BitVec.ofInt k.bits a ^^^ BitVec.ofInt k.bits b).toNat
def andNot (k : IntKind) (a b : Int) : Int := k.wrap (BitVec.ofInt k.bits a &&& ~~~BitVec.ofInt k.bits b).toNat
def shl (k : IntKind) (a b : Int) : Int := k.wrap (a * 2 ^ min b.toNat k.bits)
def shr (k : IntKind) (a b : Int) : Int := a.fdiv (2 ^ min b.toNat k.bits)
def wr (k : IntKind) (a : Int) : Int := k.wrap a
def com (k : IntKind) (a : Int) : Int := xor k (if k.signed then -1 else k.max) a
def lt (a b : Int) : Bool := decide (a < b)
def le (a b : Int) : Bool := decide (a ≤ b)
def eq (a b : Int) : Bool := a == b
def imin (a b : Int) : Int := if b < a then b else a
def imax (a b : Int) : Int := if a < b then b else a
def nx (h : H) : Nat := h.nx
def same (h h' : H) : Bool := decide (h.wr = h'.wr)
def off (o d : Nat) : Nat := o + d
def at_ (o : Nat) (i : Int) (s : Nat) : Nat := o + i.toNat * s
def fre (b lo o n b' o' n' : Nat) : Bool := decide (b < lo) && decide (b ≠ b' ∨ o + n ≤ o' ∨ o' + n' ≤ o)
def freq (b lo : Nat) (q : Bool) : Bool := decide (b < lo) && q
def fres (v : Value) (lo : Nat) (q : Bool) : Bool :=
  match v with
  | .slice (some ⟨b, _, none⟩) _ _ => decide (b < lo) && q
  | .slice none _ _ => true
  | _ => false
def frem (v : Value) (lo : Nat) (q : Bool) : Bool :=
  match v with
  | .map (some b) => decide (b < lo) && q
  | _ => false
def gv (ws : List Value) (i : Nat) : Value := ws.getD i undef

def ifB {R : Type} (b : Bool) (x y : Option R) : Option R := if b then x else y
def ck {R : Type} (b : Bool) (x : Option R) : Option R := if b then x else none
def asI {R : Type} (k : IntKind) (v : Value) (K : Int → Option R) : Option R :=
  match v with
  | .int k' n => if k' = k then K n else none
  | _ => none
def asK {R : Type} (v : Value) (K : Int → Option R) : Option R :=
  match v with
  | .int _ n => K n
  | _ => none
def asB {R : Type} (v : Value) (K : Bool → Option R) : Option R :=
  match v with
  | .bool b => K b
  | _ => none
def asP {R : Type} (v : Value) (K : Nat → Nat → Option R) : Option R :=
  match v with
  | .pointer (some ⟨b, o, none⟩) => K b o
  | _ => none
def nz {R : Type} (b : Int) (x : Option R) : Option R := if b = 0 then none else x
def nn {R : Type} (b : Int) (x : Option R) : Option R := if b < 0 then none else x

section
variable (P : Program) (rec : Rec) (k : Nat) {R : Type}
def ld (h : H) (t : TypeId) (b o : Nat) (K : Value → Option R) : Option R := (load P t (.pointer (some ⟨b, o, none⟩)) h).bind K
def st (h : H) (t : TypeId) (b o : Nat) (v : Value) (K : H → Option R) : Option R := (store P t (.pointer (some ⟨b, o, none⟩)) v h).bind K
def al (h : H) (t : TypeId) (cs : List Value) (K : H → Option R) : Option R := K (h.new (.row cs t true))
def bx (h : H) (t : TypeId) (v : Value) (K : H → Option R) : Option R := K (h.new (.row v.cells.toList t true))
def bld (t : TypeId) (ps : List (Nat × Value)) (K : Value → Option R) : Option R := (build P t ps).bind K
def bls (h : H) (t : TypeId) (n : Nat) (ps : List (Nat × Value)) (K : Value → H → Option R) : Option R :=
  (buildSlice P t n ps h).bind fun (v, h) => K v h
def nil (v : Value) (x : Option R) : Option R :=
  match v with
  | .pointer (some _) => x
  | .func (.func _) _ _ => x
  | _ => none
def eqv (t : TypeId) (x y : Value) (K : Bool → Option R) : Option R :=
  match binOp P .eql t x y with
  | some (.bool q) => K q
  | _ => none
def mks (h : H) (t : TypeId) (a b : Int) (K : Value → H → Option R) : Option R :=
  (makeSlice P t (.int .i64 a) (.int .i64 b) h).bind fun (v, h) => K v h
def mkm (h : H) (K : H → Option R) : Option R := K (h.new (.mp [] 0))
def sli (h : H) (t : TypeId) (v : Value) (lo hi mx : Option Value) (K : Value → Option R) : Option R := (slice P t v lo hi mx h).bind K
def fld (t : TypeId) (v : Value) (f : Nat) (K : Value → Option R) : Option R := (field P t v f).bind K
def six (v : Value) (i : Int) (s : Nat) (K : Nat → Nat → Option R) : Option R :=
  match v with
  | .slice (some ⟨b, o, none⟩) n _ => if 0 ≤ i ∧ i < n then K b (o + i.toNat * s) else none
  | _ => none
def aix (n : Nat) (i : Int) (x : Option R) : Option R := if 0 ≤ i ∧ i < n then x else none
def inx (t : TypeId) (v : Value) (i : Int) (K : Value → Option R) : Option R := (index P t v (.int .i64 i)).bind K
def lok (h : H) (t : TypeId) (m x : Value) (ok : Bool) (K : Value → Option R) : Option R := (lookup P t m x ok h).bind K
def mup (h : H) (t : TypeId) (m x v : Value) (K : H → Option R) : Option R := (mapUpdate P t m x v h).bind K
def ext (v : Value) (i : Nat) (K : Value → Option R) : Option R :=
  match v with
  | .tuple vs => (vs[i]?).bind K
  | _ => none
def len (v : Value) (K : Int → Option R) : Option R :=
  match v with
  | .slice _ n _ => K n
  | _ => none
def mlen (h : H) (v : Value) (K : Int → Option R) : Option R :=
  match v with
  | .map none => K 0
  | .map (some b) => match h.blk b with
    | some (.mp es _) => K es.length
    | _ => none
  | _ => none
def app (h : H) (s t : TypeId) (x y : Value) (K : Value → H → Option R) : Option R := (append P [s, t] x y h).bind fun (v, h) => K v h
def calls (h : H) (f : FuncId) (xs : List Value) (K : Value → H → Option R) : Option R := (rec f xs.toArray h).bind fun (v, h) => K v h
def callsV (h : H) (v : Value) (xs : List Value) (K : Value → H → Option R) : Option R := (callV rec v xs.toArray h).bind fun (v, h) => K v h
def onE (e : Ex) (i : Nat) (x y : Option R) : Option R :=
  match e with
  | .exit j => if j = i then x else y
  | _ => y
def onR (e : Ex) (x : Option R) : Option R :=
  match e with
  | .ret => x
  | _ => none
def lpGo (F : List Value → H → Option (Ex × List Value × H)) : Nat → List Value → H → Option (Ex × List Value × H)
  | 0, _, _ => none
  | m + 1, ws, h => (F ws h).bind fun (e, ws, h) =>
    match e with
    | .normal => lpGo F m ws h
    | e => some (e, ws, h)
def lp (F : List Value → H → Option (Ex × List Value × H)) (ws : List Value) (h : H) (K : Ex → List Value → H → Option R) : Option R :=
  (lpGo F k ws h).bind fun (e, ws, h) => K e ws h
end
def out (e : Ex) (ws : List Value) (h : H) : Option (Ex × List Value × H) := some (e, ws, h)

def SC : Sc where
  add := add
  sub := sub
  mul := mul
  quo := quo
  rem := rem
  and := and
  or := or
  xor := xor
  andNot := andNot
  shl := shl
  shr := shr
  wr := wr
  com := com
  lt := lt
  le := le
  eq := eq
  not := Bool.not
  min := imin
  max := imax
  nx := nx
  same := same
  off := off
  at_ := at_
  fre := fre
  freq := freq
  fres := fres
  frem := frem
  gv := gv

def XC (P : Program) (rec : Rec) (k : Nat) (R : Type) : Xs R where
  ifB := ifB
  ck := ck
  asI := asI
  asK := asK
  asB := asB
  asP := asP
  nz := nz
  nn := nn
  ld := ld P
  st := st P
  al := al
  bx := bx
  bld := bld P
  bls := bls P
  nil := nil
  eqv := eqv P
  mks := mks P
  mkm := mkm
  sli := sli P
  fld := fld P
  six := six
  aix := aix
  inx := inx P
  lok := lok P
  mup := mup P
  ext := ext
  len := len
  mlen := mlen
  app := app P
  call := calls rec
  callV := callsV rec
  onE := onE
  onR := onR
  lp := lp k
  out := out

end Go.AM
