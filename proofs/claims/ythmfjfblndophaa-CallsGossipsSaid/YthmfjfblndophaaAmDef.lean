/- The abstract machine: a deterministic evaluator of the program's own code over an abstract heap. -/
import Derived.Calls
import Derived.Orders
import Derived.LoopN
import Derived.Below
namespace Go.AM

/-- Added to a capacity of which a lower bound alone is known. -/
def U : Nat := 4611686018427387904

inductive Blk where
  | row (c : List Value) (elem : TypeId) (own : Bool)
  | mp (es : List MapEntry) (clock : Nat)

def Blk.own : Blk → Bool
  | .row _ _ o => o
  | .mp _ _ => true

structure H where
  blk : Nat → Option Blk
  nx : Nat
  wr : Nat

def H.new (h : H) (k : Blk) : H := ⟨fun b => if b = h.nx then some k else h.blk b, h.nx + 1, h.wr⟩
def H.set (h : H) (b : Nat) (k : Blk) : H := ⟨fun i => if i = b then some k else h.blk i, h.nx, h.wr + 1⟩
def H.kill (h : H) (b : Nat) : H := ⟨fun i => if i = b then none else h.blk i, h.nx, h.wr + 1⟩

def scal : Value → Bool
  | .agg _ => false
  | .tuple _ => false
  | _ => true

def H.cell (h : H) (b o : Nat) : Option Value :=
  match h.blk b with
  | some (.row c _ _) => c[o]?
  | _ => none

def H.rd (h : H) (b o n : Nat) : Option (List Value) :=
  match h.blk b with
  | some (.row c _ _) => if o + n ≤ c.length then some ((c.drop o).take n) else none
  | _ => none

def setAt : List Value → Nat → List Value → List Value
  | c, _, [] => c
  | c, o, v :: vs => setAt (c.set o v) (o + 1) vs

/-- A value without addresses. -/
def closedV : Nat → Value → Bool
  | _, .int _ _ => true
  | _, .bool _ => true
  | _, .string _ => true
  | _, .pointer none => true
  | _, .slice none 0 0 => true
  | _, .map none => true
  | _, .nilFunc => true
  | _, .nilIface => true
  | d + 1, .agg cs => cs.toList.all (closedV d)
  | d + 1, .tuple cs => cs.toList.all (closedV d)
  | _, _ => false

/-- What lies outside of the calls: how many global variables there are, what they hold, and the functions whose calls are made by themselves. -/
structure Env where
  NG : Nat
  G : Nat → Option Blk
  iso : FuncId → Bool

section
variable (P : Program) (E : Env)

def size? (t : TypeId) : Option Nat := (P.info? t).map (·.size)
def zero? (t : TypeId) : Option Value := (P.info? t).bind fun i => i.zero.bind fun z => if closedV 5 z then some z else none
def aggT (t : TypeId) : Option Bool := (P.underlying t).map fun
  | .struct _ | .array _ _ => true
  | _ => false

def load (t : TypeId) (v : Value) (h : H) : Option Value :=
  match v with
  | .pointer (some ⟨b, o, none⟩) =>
    match aggT P t with
    | some true => (size? P t).bind fun n => (h.rd b o n).map fun l => .agg l.toArray
    | some false => h.cell b o
    | none => none
  | _ => none

def store (t : TypeId) (v x : Value) (h : H) : Option H :=
  match v with
  | .pointer (some ⟨b, o, none⟩) =>
    match h.blk b with
    | some (.row c e true) =>
      if size? P t = some x.cells.size ∧ o + x.cells.size ≤ c.length ∧ x.cells.toList.all scal then
        some (h.set b (.row (setAt c o x.cells.toList) e true))
      else none
    | _ => none
  | _ => none

def alloc (t : TypeId) (h : H) : Option (Value × H) :=
  (zero? P t).map fun z => (.pointer (some ⟨h.nx, 0, none⟩), h.new (.row z.cells.toList t true))

def box (t : TypeId) (v : Value) (h : H) : Option (Value × H) :=
  (size? P t).map fun _ => (.pointer (some ⟨h.nx, 0, none⟩), h.new (.row v.cells.toList t true))

def places (fs : List Field) : Option (List (Nat × Nat)) := fs.mapM fun f => (size? P f.type).map (f.offset, ·)

def build (t : TypeId) (parts : List (Nat × Value)) : Option Value :=
  (zero? P t).bind fun z =>
    match P.underlying t with
    | some (.struct fs) => (places P fs.toList).bind fun ps => (Instr.fill (ps[·]?) z.cells parts).map .agg
    | some (.array _ e) => (size? P e).bind fun s => (Instr.fill (fun i => some (i * s, s)) z.cells parts).map .agg
    | _ => none

def buildSlice (t : TypeId) (len : Nat) (parts : List (Nat × Value)) (h : H) : Option (Value × H) :=
  match P.underlying t with
  | some (.slice e) =>
    (size? P e).bind fun s => (zero? P e).bind fun z =>
      if len * s ≤ 2 ^ 24 ∧ 0 < s ∧ z.cells.size = s then
        (Instr.fill (fun i => some (i * s, s)) ((Array.range (len * s)).map (z.cells[· % z.cells.size]!)) parts).map fun cs =>
          (.slice (some ⟨h.nx, 0, none⟩) len len, h.new (.row cs.toList e true))
      else none
  | _ => none

def part (t : TypeId) (cs : Array Value) (off : Nat) : Option Value :=
  match aggT P t with
  | some true => (size? P t).map fun n => .agg (cs.extract off (off + n))
  | some false => cs[off]?
  | none => none

def fieldAddr (s : TypeId) (x : Value) (f : Nat) : Option Value :=
  match P.underlying s, x with
  | some (.struct fs), .pointer (some ⟨b, o, none⟩) =>
    (fs[f]?).bind fun f => (size? P f.type).bind fun n => if n = 0 then none else some (.pointer (some ⟨b, o + f.offset, none⟩))
  | _, _ => none

def field (t : TypeId) (x : Value) (f : Nat) : Option Value :=
  match P.underlying t, x with
  | some (.struct fs), .agg cs => (fs[f]?).bind fun f => part P f.type cs f.offset
  | _, _ => none

def indexAddr (t : TypeId) (x i : Value) : Option Value :=
  match P.underlying t, x, i with
  | some (.slice e), .slice (some ⟨b, o, none⟩) n _, .int _ i =>
    if 0 ≤ i ∧ i < n then (size? P e).map fun s => .pointer (some ⟨b, o + i.toNat * s, none⟩) else none
  | some (.array n e), .pointer (some ⟨b, o, none⟩), .int _ i =>
    if 0 ≤ i ∧ i < n then (size? P e).map fun s => .pointer (some ⟨b, o + i.toNat * s, none⟩) else none
  | _, _, _ => none

def index (t : TypeId) (x i : Value) : Option Value :=
  match P.underlying t, x, i with
  | some (.array n e), .agg cs, .int _ i =>
    if 0 ≤ i ∧ i < n then (size? P e).bind fun s => part P e cs (i.toNat * s) else none
  | _, _, _ => none

/-- What is known of a capacity. -/
def capK (c : Nat) : Nat := if c < U then c else c - U

def bound (v : Option Value) (y d : Nat) : Option Nat :=
  match v with
  | none => some d
  | some (.int _ i) => if 0 ≤ i ∧ i ≤ y then some i.toNat else none
  | _ => none

def slice (t : TypeId) (x : Value) (lo hi mx : Option Value) (h : H) : Option Value :=
  match P.underlying t, x with
  | some (.slice e), .slice none 0 0 =>
    (size? P e).bind fun _ => (bound mx 0 0).bind fun m => (bound hi m 0).bind fun hh => (bound lo hh 0).bind fun _ =>
      if mx.isSome && hi.isNone then none else some (.slice none 0 0)
  | some (.slice e), .slice (some ⟨b, o, none⟩) n c =>
    match h.blk b with
    | some (.row _ e' _) =>
      if e' = e ∧ capK c < U ∧ (mx.isSome && hi.isNone) = false then
        (size? P e).bind fun s => (bound mx (capK c) (capK c)).bind fun m => (bound hi m n).bind fun hh => (bound lo hh 0).bind fun l =>
          if mx.isSome ∨ c < U then some (.slice (some ⟨b, if m = l then o else o + l * s, none⟩) (hh - l) (m - l))
          else some (.slice (some ⟨b, o + l * s, none⟩) (hh - l) (U + (m - l)))
      else none
    | _ => none
  | _, _ => none

/-- The elements that an append adds. -/
def srcCells (s : Nat) (x : Value) (h : H) : Option (List Value) :=
  match x with
  | .slice none 0 _ => some []
  | .slice (some ⟨b, o, none⟩) n _ => if n * s = 0 then some [] else h.rd b o (n * s)
  | _ => none

def lenOf : Value → Option Nat
  | .slice _ n _ => some n
  | _ => none

def append (tys : List TypeId) (s x : Value) (h : H) : Option (Value × H) :=
  match tys with
  | [st, xt] =>
    match P.underlying st, P.underlying xt with
    | some (.slice e), some (.slice _) =>
      (P.info? e).bind fun i => (zero? P e).bind fun z => (lenOf x).bind fun k => (srcCells i.size x h).bind fun xs =>
        if i.bytes ≤ 4096 ∧ 0 < i.size ∧ z.cells.size = i.size then
          match s with
          | .slice none 0 0 =>
            if k = 0 then some (.slice none 0 0, h)
            else if k < 2 ^ 30 then some (.slice (some ⟨h.nx, 0, none⟩) k (U + k), h.new (.row xs e true)) else none
          | .slice (some ⟨b, o, none⟩) n c =>
            if k = 0 then some (.slice (some ⟨b, o, none⟩) n c, h)
            else if n + k ≤ capK c then
              match h.blk b with
              | some (.row cs e' true) =>
                if e' = e ∧ o + (n + k) * i.size ≤ cs.length ∧ xs.all scal then
                  some (.slice (some ⟨b, o, none⟩) (n + k) c, h.set b (.row (setAt cs (o + n * i.size) xs) e true))
                else none
              | _ => none
            else if n + k < 2 ^ 30 then
              if c < U then
                (if n = 0 then some [] else h.rd b o (n * i.size)).bind fun old =>
                  some (.slice (some ⟨h.nx, 0, none⟩) (n + k) (U + (n + k)), h.new (.row (old ++ xs) e true))
              else
                match h.blk b with
                | some (.row cs e' true) =>
                  if e' = e ∧ o + n * i.size ≤ cs.length ∧ xs.all scal then
                    some (.slice (some ⟨h.nx, 0, none⟩) (n + k) (U + (n + k)),
                      (h.kill b).new (.row ((cs.drop o).take (n * i.size) ++ xs) e true))
                  else none
                | _ => none
            else none
          | _ => none
        else none
    | _, _ => none
  | _ => none

def makeSlice (t : TypeId) (len cap : Value) (h : H) : Option (Value × H) :=
  match P.underlying t, len, cap with
  | some (.slice e), .int _ l, .int _ c =>
    (P.info? e).bind fun i => (zero? P e).bind fun z =>
      if 0 ≤ l ∧ l ≤ c ∧ c < 2 ^ 30 ∧ i.bytes ≤ 4096 ∧ 0 < i.size ∧ z.cells.size = i.size then
        some (.slice (some ⟨h.nx, 0, none⟩) l.toNat c.toNat,
          h.new (.row ((List.range (c.toNat * i.size)).map (z.cells[· % z.cells.size]!)) e true))
      else none
  | _, _, _ => none

/-- Equality of plain values. -/
def eqV : Nat → TypeId → Value → Value → Option Bool
  | 0, _, _, _ => none
  | d + 1, t, x, y =>
    match P.underlying t, x, y with
    | some .bool, .bool a, .bool b => some (a == b)
    | some (.int _), .int k a, .int k' b => if k = k' then some (a == b) else none
    | some (.struct fs), .agg xs, .agg ys =>
      if P.stoodInHeld t then none else
      fs.toList.foldr (fun f r => if f.name ≠ "_" then
          (part P f.type xs f.offset).bind fun a => (part P f.type ys f.offset).bind fun b =>
            (eqV d f.type a b).bind fun q => if q then r else some false
        else none) (some true)
    | some (.array len e), .agg xs, .agg ys =>
      (size? P e).bind fun n =>
      (List.range len).foldr (fun i r =>
          (part P e xs (i * n)).bind fun a => (part P e ys (i * n)).bind fun b =>
            (eqV d e a b).bind fun q => if q then r else some false) (some true)
    | some (.slice _), .slice none 0 0, .slice b _ _ => some b.isNone
    | some (.slice _), .slice (some _) _ _, .slice none 0 0 => some false
    | some (.map _ _), .map none, .map b => some b.isNone
    | some (.map _ _), .map (some _), .map none => some false
    | some (.func _ _ _), .nilFunc, .nilFunc => some true
    | some (.func _ _ _), .nilFunc, .func _ _ _ => some false
    | some (.func _ _ _), .func _ _ _, .nilFunc => some false
    | _, _, _ => none

def intBin (op : BinOp) (k : IntKind) (a b : Int) : Option Value :=
  match op with
  | .add => some (.int k (k.wrap (a + b)))
  | .sub => some (.int k (k.wrap (a - b)))
  | .mul => some (.int k (k.wrap (a * b)))
  | .quo => if b = 0 then none else some (.int k (k.wrap (a.tdiv b)))
  | .rem => if b = 0 then none else some (.int k (a.tmod b))
  | .and => some (.int k (k.wrap (BitVec.ofInt k.bits a &&& BitVec.ofInt k.bits b).toNat))
  | .or => some (.int k (k.wrap (BitVec.ofInt k.bits a ||| BitVec.ofInt k.bits b).toNat))
  | .xor => some (.int k (k.wrap (BitVec.ofInt k.bits a ^^^ BitVec.ofInt k.bits b).toNat))
  | .andNot => some (.int k (k.wrap (BitVec.ofInt k.bits a &&& ~~~BitVec.ofInt k.bits b).toNat))
  | .eql => some (.bool (a == b))
  | .neq => some (.bool (a != b))
  | .lss => some (.bool (decide (a < b)))
  | .leq => some (.bool (decide (a ≤ b)))
  | .gtr => some (.bool (decide (a > b)))
  | .geq => some (.bool (decide (a ≥ b)))
  | _ => none

def binOp (op : BinOp) (t : TypeId) (x y : Value) : Option Value :=
  match x, y with
  | .int k a, .int k' b =>
    match op with
    | .shl => if b < 0 then none else some (.int k (k.wrap (a * 2 ^ min b.toNat k.bits)))
    | .shr => if b < 0 then none else some (.int k (a.fdiv (2 ^ min b.toNat k.bits)))
    | _ => if k = k' then intBin op k a b else none
  | .agg a, .agg b =>
    if P.eqGuardType P.depth t then none else
    match op with
    | .eql => (eqV P 10 t (.agg a) (.agg b)).map .bool
    | .neq => (eqV P 10 t (.agg a) (.agg b)).map fun q => .bool (!q)
    | _ => none
  | x, y =>
    match op with
    | .eql => (eqV P 10 t x y).map .bool
    | .neq => (eqV P 10 t x y).map fun q => .bool (!q)
    | _ => none

def unOp (op : UnOp) (x : Value) : Option Value :=
  match op, x with
  | .neg, .int k n => some (.int k (k.wrap (0 - n)))
  | .xor, .int k n => intBin .xor k (if k.signed then -1 else k.max) n
  | .not, .bool b => some (.bool !b)
  | _, _ => none

def convert (src dst : TypeId) (x : Value) : Option Value :=
  match P.underlying src, P.underlying dst, x with
  | some _, some (.int k), .int _ n => some (.int k (k.wrap n))
  | _, _, _ => none

/-- A key whose comparing is plain. -/
def keyT : Nat → TypeId → Bool
  | 0, _ => false
  | d + 1, t =>
    match P.underlying t with
    | some (.int _) => true
    | some .bool => true
    | some (.struct fs) => !P.stoodInHeld t && fs.toList.all fun f => decide (f.name ≠ "_") && keyT d f.type
    | some (.array _ e) => keyT d e
    | _ => false

def findK (kt : TypeId) (k : Value) : List MapEntry → Nat → Option (Option (Nat × Value))
  | [], _ => some none
  | e :: es, i => (eqV P 10 kt k e.key).bind fun q => if q then some (some (i, e.val)) else findK kt k es (i + 1)

def mapOf (m : Value) (h : H) : Option (List MapEntry × Nat) :=
  match m with
  | .map none => some ([], 0)
  | .map (some b) =>
    match h.blk b with
    | some (.mp es c) => some (es, c)
    | _ => none
  | _ => none

def plainC : Value → Bool
  | .int _ _ => true
  | .bool _ => true
  | _ => false

/-- A number, a bool, or a row of these. -/
def plainK : Value → Bool
  | .int _ _ => true
  | .bool _ => true
  | .agg cs => cs.toList.all plainC
  | _ => false

/-- The value of a key's type whose parts are all there. -/
def isKey (kt : TypeId) (k : Value) : Bool := plainK k && keyT P 10 kt && (eqV P 10 kt k k == some true)

def lookup (t : TypeId) (m k : Value) (ok : Bool) (h : H) : Option Value :=
  match P.underlying t with
  | some (.map kt vt) =>
    if isKey P kt k then
      (mapOf m h).bind fun (es, _) => (findK P kt k es 0).bind fun r =>
        match r with
        | some (_, v) => some (if ok then .tuple #[v, .bool true] else v)
        | none => (zero? P vt).map fun z => if ok then .tuple #[z, .bool false] else z
    else none
  | _ => none

def mapUpdate (t : TypeId) (m k x : Value) (h : H) : Option H :=
  match P.underlying t, m with
  | some (.map kt _), .map (some b) =>
    if isKey P kt k then
      (mapOf m h).bind fun (es, c) => (findK P kt k es 0).bind fun r =>
        match r with
        | some (i, _) => if Instr.sameBits 10000 (((es[i]?).map (·.key)).getD k) k && plainK (((es[i]?).map (·.key)).getD k) then some (h.set b (.mp (es.modify i fun e => { e with key := k, val := x }) c)) else none
        | none => some (h.set b (.mp (es ++ [{ key := k, val := x, born := c }]) (c + 1)))
    else none
  | _, _ => none

def makeMap (r : Option Value) (h : H) : Option (Value × H) :=
  match r with
  | none => some (.map (some h.nx), h.new (.mp [] 0))
  | some _ => none

def ev (t : Array Value) : Operand → Value
  | .tmp i => t.getD i undef
  | .const v => v
  | .global g => .pointer (some ⟨g, 0, none⟩)
  | .func f => .func (.func f) #[] #[]

def minmax (mx : Bool) : List Value → Option Value
  | [] => none
  | x :: rest => rest.foldlM (fun a b =>
      match a, b with
      | .int k p, .int _ q => some (if mx then .int k (if p < q then q else p) else .int k (if q < p then q else p))
      | _, _ => none) x

def builtin (b : Builtin) (tys : List TypeId) (args : List Value) (h : H) : Option (Value × H) :=
  match b, args with
  | .append, [s, x] => append P tys s x h
  | .len, [x] =>
    match (tys[0]?).bind P.underlying, x with
    | some (.slice _), .slice _ n _ => some (.int .i64 n, h)
    | some (.map _ _), .map none => some (.int .i64 0, h)
    | some (.map _ _), .map (some b) =>
      match h.blk b with
      | some (.mp es _) => some (.int .i64 es.length, h)
      | _ => none
    | _, _ => none
  | .min, xs => (minmax false xs).map (·, h)
  | .max, xs => (minmax true xs).map (·, h)
  | _, _ => none

abbrev Rec := FuncId → Array Value → H → Option (Value × H)

def callV (rec : Rec) (f : Value) (args : Array Value) (h : H) : Option (Value × H) :=
  match f with
  | .func (.func f) first captured => rec f (first ++ args ++ captured) h
  | _ => none

def okOperand : Operand → Bool
  | .const v => closedV 5 v
  | .global g => decide (g < E.NG)
  | _ => true

def op (rec : Rec) (t : Array Value) (o : Oper) (h : H) : Option (Value × H) :=
  if !(o.op.operands.toList.all (okOperand E)) then none else
  let e := ev t
  let p (v : Option Value) : Option (Value × H) := v.map (·, h)
  let u (h : Option H) : Option (Value × H) := h.map (undef, ·)
  match o.op with
  | .move x | .assign x => some (e x, h)
  | .pick c a b => match e c with
    | .bool true => some (e a, h)
    | .bool false => some (e b, h)
    | _ => none
  | .alloc t => alloc P t h
  | .box t x => box P t (e x) h
  | .build t ps => p (build P t (ps.toList.map fun (i, x) => (i, e x)))
  | .buildSlice t n ps => buildSlice P t n (ps.toList.map fun (i, x) => (i, e x)) h
  | .load t a => p (load P t (e a) h)
  | .store t a x => u (store P t (e a) (e x) h)
  | .nilCheck x => match e x with
    | .pointer (some a) => some (.pointer (some a), h)
    | .func (.func f) a b => some (.func (.func f) a b, h)
    | _ => none
  | .binOp b t x y _ => p (binOp P b t (e x) (e y))
  | .unOp b _ x => p (unOp b (e x))
  | .convert s d x => p (convert P s d (e x))
  | .makeFunc fn first captured => match fn with
    | .func f => some (.func (.func f) (first.map e) (captured.map e), h)
    | _ => none
  | .makeMap _ r => makeMap (r.map e) h
  | .makeSlice t l c => makeSlice P t (e l) (e c) h
  | .slice t x lo hi mx => p (slice P t (e x) (lo.map e) (hi.map e) (mx.map e) h)
  | .fieldAddr s x f => p (fieldAddr P s (e x) f)
  | .field s x f => p (field P s (e x) f)
  | .indexAddr t x i => p (indexAddr P t (e x) (e i))
  | .index t x i => p (index P t (e x) (e i))
  | .lookup t m k ok => p (lookup P t (e m) (e k) ok h)
  | .mapUpdate t m k x => u (mapUpdate P t (e m) (e k) (e x) h)
  | .extract x i => match e x with
    | .tuple vs => p (vs[i]?)
    | _ => none
  | .call c => match c.callee with
    | .builtin b => builtin P b c.argTypes.toList (c.args.toList.map e) h
    | .value f => callV rec (e f) (c.args.map e) h
    | _ => none
  | _ => none

def put (t : Array Value) (d : Option Tmp) (v : Value) : Array Value :=
  match d with
  | some d => t.setIfInBounds d v
  | none => t

def ops (rec : Rec) (all : Array Oper) : List Oper → Array Value → H → Option (Array Value × H)
  | [], t, h => some (t, h)
  | o :: rest, t, h =>
    if Region.wanted o (yielded all t) then
      (op P E rec t o h).bind fun (v, h) => ops rec all rest (put t o.dst v) h
    else ops rec all rest (put t o.dst undef) h

/-- What an operation of a region that draws its order touches: nothing; some cells that it loads; a block that it looks at; more than that, but it changes nothing; some cells that it stores into; it may change anything. -/
inductive FP where
  | pure
  | ld (b o n : Nat)
  | rd
  | rb (b : Nat)
  | st (b o n : Nat)
  | md

def fp (t : Array Value) (o : Oper) : Option FP :=
  let at_ (st : Bool) (ty : TypeId) (a : Value) : Option FP :=
    match a with
    | .pointer (some ⟨b, o, none⟩) => (size? P ty).bind fun n => if n = 0 then none else some (if st then .st b o n else .ld b o n)
    | _ => none
  match o.op with
  | .move _ | .assign _ | .pick .. | .build .. | .nilCheck _ | .binOp .. | .unOp .. | .convert .. | .makeFunc .. | .fieldAddr .. | .field ..
  | .indexAddr .. | .index .. | .extract .. => some .pure
  | .load ty a => at_ false ty (ev t a)
  | .store ty a _ => at_ true ty (ev t a)
  | .lookup _ m _ _ => match ev t m with
    | .map (some b) => some (.rb b)
    | _ => some .rd
  | .slice _ x _ _ _ => match ev t x with
    | .slice (some ⟨b, _, none⟩) _ _ => some (.rb b)
    | .slice none _ _ => some .pure
    | _ => some .rd
  | .call c => match c.callee with
    | .builtin .len => match (c.argTypes[0]?).bind P.underlying with
      | some (.slice _) => some .pure
      | _ => some .rd
    | .builtin .min => some .pure
    | .builtin .max => some .pure
    | _ => some .md
  | .alloc _ | .box .. | .buildSlice .. | .makeSlice .. | .makeMap .. | .mapUpdate .. => some .md
  | _ => none

/-- A record of an operation that has been done: its place, what it touched, how many blocks there were ahead of it, and whether it changed none of them. -/
structure Did where
  i : Nat
  f : FP
  lo : Nat
  q : Bool

/-- May the two be done in either order? (What is loaded was there ahead of the other one, and is not changed.) -/
def free (x y : Did) : Bool :=
  match x.f, y.f with
  | .pure, _ => true
  | _, .pure => true
  | .ld b o n, .st b' o' n' => decide (b < y.lo) && decide (b ≠ b' ∨ o + n ≤ o' ∨ o' + n' ≤ o)
  | .st b' o' n', .ld b o n => decide (b < x.lo) && decide (b ≠ b' ∨ o + n ≤ o' ∨ o' + n' ≤ o)
  | .ld b _ _, .md => decide (b < y.lo) && y.q
  | .md, .ld b _ _ => decide (b < x.lo) && x.q
  | .rb b, .md => decide (b < y.lo) && y.q
  | .md, .rb b => decide (b < x.lo) && x.q
  | .rb _, .rb _ => true
  | .rb _, .ld _ _ _ => true
  | .ld _ _ _, .rb _ => true
  | .rb _, .rd => true
  | .rd, .rb _ => true
  | .ld _ _ _, .ld _ _ _ => true
  | .ld _ _ _, .rd => true
  | .rd, .ld _ _ _ => true
  | .rd, .rd => true
  | _, _ => false

def drawGo (rec : Rec) (all : Array Oper) (B : Array Nat) : List Oper → Nat → List Did → Array Value → H → Option (Array Value × H)
  | [], _, _, t, h => some (t, h)
  | o :: rest, j, log, t, h =>
    if Region.wanted o (yielded all t) then
      (fp P t o).bind fun f => (op P E rec t o h).bind fun (v, h') =>
        if log.all fun d => (B.getD j 0).testBit d.i || free d ⟨j, f, h.nx, decide (h'.wr = h.wr)⟩ then
          drawGo rec all B rest (j + 1) (⟨j, f, h.nx, decide (h'.wr = h.wr)⟩ :: log) (put t o.dst v) h'
        else none
    else drawGo rec all B rest (j + 1) log (put t o.dst undef) h

def reads (o : Oper) : List Tmp := o.op.operands.toList.filterMap fun | .tmp t => some t | _ => none

/-- The closed facts of a region that draws its order. -/
def okDraw (all : Array Oper) : Bool :=
  let B := Region.before all
  let l := all.toList.zipIdx
  l.all fun (o, j) =>
    (o.after.all fun e => !Region.binds .any e || decide (e.on < j)) &&
    (match o.guard with
      | none => true
      | some (g, _) => (B.getD j 0).testBit g && decide (g < j)) &&
    l.all fun (p, i) =>
      (decide (i = j) || match p.dst with
        | none => true
        | some d => !(o.dst == some d) && (!(reads o).contains d || (B.getD j 0).testBit i || (B.getD i 0).testBit j))

def draw (rec : Rec) (all : Array Oper) (t : Array Value) (h : H) : Option (Array Value × H) :=
  if okDraw all then drawGo P E rec all (Region.before all) all.toList 0 [] t h else none

inductive Ex where
  | normal
  | exit (id : Nat)
  | ret

def loop (f : Array Value → H → Option (Ex × Array Value × H)) : Nat → Array Value → H → Option (Ex × Array Value × H)
  | 0, _, _ => none
  | k + 1, t, h => (f t h).bind fun (e, t, h) =>
    match e with
    | .normal => loop f k t h
    | e => some (e, t, h)

def code (rec : Rec) (k : Nat) : Code → Array Value → H → Option (Ex × Array Value × H)
  | .skip, t, h => some (.normal, t, h)
  | .region _ all false, t, h => (ops P E rec all all.toList t h).map fun (t, h) => (.normal, t, h)
  | .region _ all true, t, h => (draw P E rec all t h).map fun (t, h) => (.normal, t, h)
  | .seq a b, t, h => (code rec k a t h).bind fun (e, t, h) =>
    match e with
    | .normal => code rec k b t h
    | e => some (e, t, h)
  | .cond c a b, t, h =>
    if !okOperand E c then none else
    match ev t c with
    | .bool true => code rec k a t h
    | .bool false => code rec k b t h
    | _ => none
  | .block id c, t, h => (code rec k c t h).map fun (e, t, h) =>
    match e with
    | .exit i => (if i = id then .normal else .exit i, t, h)
    | e => (e, t, h)
  | .loop c, t, h => loop (code rec k c) k t h
  | .exit id, t, h => some (.exit id, t, h)
  | .ret, t, h => some (.ret, t, h)
  | _, _, _ => none

def resV (t : Array Value) (h : H) : ResultVar → Option Value
  | .tmp i => some (t.getD i undef)
  | .cell a ty => load P ty (t.getD a undef) h

def res (fn : Func) (t : Array Value) (h : H) : Option Value :=
  (fn.results.toList.mapM (resV P t h)).map fun vs =>
    match vs with
    | [v] => v
    | vs => .tuple vs.toArray

/-- The heap of a call that is made by itself: the globals alone. -/
def lone : H := ⟨fun b => if b < E.NG then E.G b else none, E.NG, 0⟩

def plainV : Value → Bool
  | .int _ _ => true
  | .bool _ => true
  | _ => false

def plainR : Value → Bool
  | .int _ _ => true
  | .bool _ => true
  | .tuple vs => vs.toList.all plainV
  | _ => false

def body (rec : Rec) (n : Nat) (f : FuncId) (args : Array Value) (h : H) : Option (Value × H) :=
  match P.funcs[f]? with
  | some fn =>
    match fn.body with
    | some c =>
      if fn.name = "runtime.NumGoroutine" then none else
      (code P E rec n c (args ++ Array.replicate (fn.ntmps - args.size) undef) h).bind fun (e, t, h) =>
        match e with
        | .exit _ => none
        | _ => (res P fn t h).map (·, h)
    | none => none
  | none => none

/-- Calls; those of 'iso' are made by themselves: plain values in, plain values out. -/
def call : Nat → Rec
  | 0, _, _, _ => none
  | n + 1, f, args, h =>
    if E.iso f && args.toList.all plainV then
      (body P E (call n) (n + 1) f args (lone E)).bind fun (v, _) => if plainR v then some (v, h) else none
    else body P E (call n) (n + 1) f args h

end
end Go.AM
