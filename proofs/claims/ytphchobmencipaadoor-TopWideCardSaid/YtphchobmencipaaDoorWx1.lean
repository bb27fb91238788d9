/- Parts of the proof, put together: the abstract machine, what the functions of the program answer, and plain laws. -/
import Derived.Calls
import Derived.Orders
import Derived.LoopN
import Derived.Below
import Derived.Laws.CopyRow
import Derived.Laws.Cells
import Derived.Laws.World

section
namespace Go.AM
/-- Added to a capacity of which a lower bound alone is known. -/
def U : Nat := 4611686018427387904
inductive Blk where
  | row (c : List Value) (elem : TypeId) (own : Bool)
  | mp (es : List MapEntry) (clock : Nat)
def Blk.own : Blk → Bool
  | .row _ _ o => o
  | .mp _ _ => true
structure H where
  blk : Nat → Option Blk
  nx : Nat
  wr : Nat
def H.new (h : H) (k : Blk) : H := ⟨fun b => if b = h.nx then some k else h.blk b, h.nx + 1, h.wr⟩
def H.set (h : H) (b : Nat) (k : Blk) : H := ⟨fun i => if i = b then some k else h.blk i, h.nx, h.wr + 1⟩
def H.kill (h : H) (b : Nat) : H := ⟨fun i => if i = b then none else h.blk i, h.nx, h.wr + 1⟩
def scal : Value → Bool
  | .agg _ => false
  | .tuple _ => false
  | _ => true
def H.cell (h : H) (b o : Nat) : Option Value :=
  match h.blk b with
  | some (.row c _ _) => c[o]?
  | _ => none
def H.rd (h : H) (b o n : Nat) : Option (List Value) :=
  match h.blk b with
  | some (.row c _ _) => if o + n ≤ c.length then some ((c.drop o).take n) else none
  | _ => none
def setAt : List Value → Nat → List Value → List Value
  | c, _, [] => c
  | c, o, v :: vs => setAt (c.set o v) (o + 1) vs
/-- A value without addresses. -/
def closedV : Nat → Value → Bool
  | _, .int _ _ => true
  | _, .bool _ => true
  | _, .string _ => true
  | _, .pointer none => true
  | _, .slice none 0 0 => true
  | _, .map none => true
  | _, .nilFunc => true
  | _, .nilIface => true
  | d + 1, .agg cs => cs.toList.all (closedV d)
  | d + 1, .tuple cs => cs.toList.all (closedV d)
  | _, _ => false
/-- What lies outside of the calls: how many global variables there are, what they hold, and the functions whose calls are made by themselves. -/
structure Env where
  NG : Nat
  G : Nat → Option Blk
  iso : FuncId → Bool
section
variable (P : Program) (E : Env)
def size? (t : TypeId) : Option Nat := (P.info? t).map (·.size)
def zero? (t : TypeId) : Option Value := (P.info? t).bind fun i => i.zero.bind fun z => if closedV 5 z then some z else none
def aggT (t : TypeId) : Option Bool := (P.underlying t).map fun
  | .struct _ | .array _ _ => true
  | _ => false
def load (t : TypeId) (v : Value) (h : H) : Option Value :=
  match v with
  | .pointer (some ⟨b, o, none⟩) =>
    match aggT P t with
    | some true => (size? P t).bind fun n => (h.rd b o n).map fun l => .agg l.toArray
    | some false => h.cell b o
    | none => none
  | _ => none
def store (t : TypeId) (v x : Value) (h : H) : Option H :=
  match v with
  | .pointer (some ⟨b, o, none⟩) =>
    match h.blk b with
    | some (.row c e true) =>
      if size? P t = some x.cells.size ∧ o + x.cells.size ≤ c.length ∧ x.cells.toList.all scal then
        some (h.set b (.row (setAt c o x.cells.toList) e true))
      else none
    | _ => none
  | _ => none
def alloc (t : TypeId) (h : H) : Option (Value × H) :=
  (zero? P t).map fun z => (.pointer (some ⟨h.nx, 0, none⟩), h.new (.row z.cells.toList t true))
def box (t : TypeId) (v : Value) (h : H) : Option (Value × H) :=
  (size? P t).map fun _ => (.pointer (some ⟨h.nx, 0, none⟩), h.new (.row v.cells.toList t true))
def places (fs : List Field) : Option (List (Nat × Nat)) := fs.mapM fun f => (size? P f.type).map (f.offset, ·)
def build (t : TypeId) (parts : List (Nat × Value)) : Option Value :=
  (zero? P t).bind fun z =>
    match P.underlying t with
    | some (.struct fs) => (places P fs.toList).bind fun ps => (Instr.fill (ps[·]?) z.cells parts).map .agg
    | some (.array _ e) => (size? P e).bind fun s => (Instr.fill (fun i => some (i * s, s)) z.cells parts).map .agg
    | _ => none
def buildSlice (t : TypeId) (len : Nat) (parts : List (Nat × Value)) (h : H) : Option (Value × H) :=
  match P.underlying t with
  | some (.slice e) =>
    (size? P e).bind fun s => (zero? P e).bind fun z =>
      if len * s ≤ 2 ^ 24 ∧ 0 < s ∧ z.cells.size = s then
        (Instr.fill (fun i => some (i * s, s)) ((Array.range (len * s)).map (z.cells[· % z.cells.size]!)) parts).map fun cs =>
          (.slice (some ⟨h.nx, 0, none⟩) len len, h.new (.row cs.toList e true))
      else none
  | _ => none
def part (t : TypeId) (cs : Array Value) (off : Nat) : Option Value :=
  match aggT P t with
  | some true => (size? P t).map fun n => .agg (cs.extract off (off + n))
  | some false => cs[off]?
  | none => none
def fieldAddr (s : TypeId) (x : Value) (f : Nat) : Option Value :=
  match P.underlying s, x with
  | some (.struct fs), .pointer (some ⟨b, o, none⟩) =>
    (fs[f]?).bind fun f => (size? P f.type).bind fun n => if n = 0 then none else some (.pointer (some ⟨b, o + f.offset, none⟩))
  | _, _ => none
def field (t : TypeId) (x : Value) (f : Nat) : Option Value :=
  match P.underlying t, x with
  | some (.struct fs), .agg cs => (fs[f]?).bind fun f => part P f.type cs f.offset
  | _, _ => none
def indexAddr (t : TypeId) (x i : Value) : Option Value :=
  match P.underlying t, x, i with
  | some (.slice e), .slice (some ⟨b, o, none⟩) n _, .int _ i =>
    if 0 ≤ i ∧ i < n then (size? P e).map fun s => .pointer (some ⟨b, o + i.toNat * s, none⟩) else none
  | some (.array n e), .pointer (some ⟨b, o, none⟩), .int _ i =>
    if 0 ≤ i ∧ i < n then (size? P e).map fun s => .pointer (some ⟨b, o + i.toNat * s, none⟩) else none
  | _, _, _ => none
def index (t : TypeId) (x i : Value) : Option Value :=
  match P.underlying t, x, i with
  | some (.array n e), .agg cs, .int _ i =>
    if 0 ≤ i ∧ i < n then (size? P e).bind fun s => part P e cs (i.toNat * s) else none
  | _, _, _ => none
/-- What is known of a capacity. -/
def capK (c : Nat) : Nat := if c < U then c else c - U
def bound (v : Option Value) (y d : Nat) : Option Nat :=
  match v with
  | none => some d
  | some (.int _ i) => if 0 ≤ i ∧ i ≤ y then some i.toNat else none
  | _ => none
def slice (t : TypeId) (x : Value) (lo hi mx : Option Value) (h : H) : Option Value :=
  match P.underlying t, x with
  | some (.slice e), .slice none 0 0 =>
    (size? P e).bind fun _ => (bound mx 0 0).bind fun m => (bound hi m 0).bind fun hh => (bound lo hh 0).bind fun _ =>
      if mx.isSome && hi.isNone then none else some (.slice none 0 0)
  | some (.slice e), .slice (some ⟨b, o, none⟩) n c =>
    match h.blk b with
    | some (.row _ e' _) =>
      if e' = e ∧ capK c < U ∧ (mx.isSome && hi.isNone) = false then
        (size? P e).bind fun s => (bound mx (capK c) (capK c)).bind fun m => (bound hi m n).bind fun hh => (bound lo hh 0).bind fun l =>
          if mx.isSome ∨ c < U then some (.slice (some ⟨b, if m = l then o else o + l * s, none⟩) (hh - l) (m - l))
          else some (.slice (some ⟨b, o + l * s, none⟩) (hh - l) (U + (m - l)))
      else none
    | _ => none
  | _, _ => none
/-- The elements that an append adds. -/
def srcCells (s : Nat) (x : Value) (h : H) : Option (List Value) :=
  match x with
  | .slice none 0 _ => some []
  | .slice (some ⟨b, o, none⟩) n _ => if n * s = 0 then some [] else h.rd b o (n * s)
  | _ => none
def lenOf : Value → Option Nat
  | .slice _ n _ => some n
  | _ => none
def append (tys : List TypeId) (s x : Value) (h : H) : Option (Value × H) :=
  match tys with
  | [st, xt] =>
    match P.underlying st, P.underlying xt with
    | some (.slice e), some (.slice _) =>
      (P.info? e).bind fun i => (zero? P e).bind fun z => (lenOf x).bind fun k => (srcCells i.size x h).bind fun xs =>
        if i.bytes ≤ 4096 ∧ 0 < i.size ∧ z.cells.size = i.size then
          match s with
          | .slice none 0 0 =>
            if k = 0 then some (.slice none 0 0, h)
            else if k < 2 ^ 30 then some (.slice (some ⟨h.nx, 0, none⟩) k (U + k), h.new (.row xs e true)) else none
          | .slice (some ⟨b, o, none⟩) n c =>
            if k = 0 then some (.slice (some ⟨b, o, none⟩) n c, h)
            else if n + k ≤ capK c then
              match h.blk b with
              | some (.row cs e' true) =>
                if e' = e ∧ o + (n + k) * i.size ≤ cs.length ∧ xs.all scal then
                  some (.slice (some ⟨b, o, none⟩) (n + k) c, h.set b (.row (setAt cs (o + n * i.size) xs) e true))
                else none
              | _ => none
            else if n + k < 2 ^ 30 then
              if c < U then
                (if n = 0 then some [] else h.rd b o (n * i.size)).bind fun old =>
                  some (.slice (some ⟨h.nx, 0, none⟩) (n + k) (U + (n + k)), h.new (.row (old ++ xs) e true))
              else
                match h.blk b with
                | some (.row cs e' true) =>
                  if e' = e ∧ o + n * i.size ≤ cs.length ∧ xs.all scal then
                    some (.slice (some ⟨h.nx, 0, none⟩) (n + k) (U + (n + k)),
                      (h.kill b).new (.row ((cs.drop o).take (n * i.size) ++ xs) e true))
                  else none
                | _ => none
            else none
          | _ => none
        else none
    | _, _ => none
  | _ => none
/-- A copy: how many elements, and the heap behind it. -/
def copyS (tys : List TypeId) (d x : Value) (h : H) : Option (Value × H) :=
  match tys with
  | dt :: _ =>
    match P.underlying dt with
    | some (.slice e) =>
      (size? P e).bind fun sz =>
        match d, x with
        | .slice bd n c, .slice bs k cs =>
          if min k n = 0 then some (.int .i64 0, h)
          else
            match bd with
            | some ⟨b, o, none⟩ =>
              (srcCells sz (.slice bs (min k n) cs) h).bind fun xs =>
                match h.blk b with
                | some (.row cells e' true) => if o + xs.length ≤ cells.length ∧ xs.all scal then some (.int .i64 (min k n : Nat), h.set b (.row (setAt cells o xs) e' true)) else none
                | _ => none
            | _ => none
        | _, _ => none
    | _ => none
  | _ => none
/-- The elements of a slice become zero: the heap behind it. -/
def clearS (tys : List TypeId) (x : Value) (h : H) : Option (Value × H) :=
  match tys with
  | t :: _ =>
    match P.underlying t with
    | some (.slice e) =>
      match x with
      | .slice a n _ =>
        if n = 0 then some (undef, h)
        else
          match a with
          | some ⟨b, o, none⟩ =>
            (zero? P e).bind fun z =>
              match h.blk b with
              | some (.row cells e' true) =>
                if o + (n * z.cells.size) ≤ cells.length ∧ ((List.range (n * z.cells.size)).map (z.cells[· % z.cells.size]!)).all scal then
                  some (undef, h.set b (.row (setAt cells o ((List.range (n * z.cells.size)).map (z.cells[· % z.cells.size]!))) e' true))
                else none
              | _ => none
          | _ => none
      | _ => none
    | _ => none
  | _ => none
def makeSlice (t : TypeId) (len cap : Value) (h : H) : Option (Value × H) :=
  match P.underlying t, len, cap with
  | some (.slice e), .int _ l, .int _ c =>
    (P.info? e).bind fun i => (zero? P e).bind fun z =>
      if 0 ≤ l ∧ l ≤ c ∧ c < 2 ^ 30 ∧ i.bytes ≤ 4096 ∧ 0 < i.size ∧ z.cells.size = i.size then
        some (.slice (some ⟨h.nx, 0, none⟩) l.toNat c.toNat,
          h.new (.row ((List.range (c.toNat * i.size)).map (z.cells[· % z.cells.size]!)) e true))
      else none
  | _, _, _ => none
/-- Equality of plain values. -/
def eqV : Nat → TypeId → Value → Value → Option Bool
  | 0, _, _, _ => none
  | d + 1, t, x, y =>
    match P.underlying t, x, y with
    | some .bool, .bool a, .bool b => some (a == b)
    | some (.int _), .int k a, .int k' b => if k = k' then some (a == b) else none
    | some (.struct fs), .agg xs, .agg ys =>
      if P.stoodInHeld t then none else
      fs.toList.foldr (fun f r => if f.name ≠ "_" then
          (part P f.type xs f.offset).bind fun a => (part P f.type ys f.offset).bind fun b =>
            (eqV d f.type a b).bind fun q => if q then r else some false
        else none) (some true)
    | some (.array len e), .agg xs, .agg ys =>
      (size? P e).bind fun n =>
      (List.range len).foldr (fun i r =>
          (part P e xs (i * n)).bind fun a => (part P e ys (i * n)).bind fun b =>
            (eqV d e a b).bind fun q => if q then r else some false) (some true)
    | some (.slice _), .slice none 0 0, .slice b _ _ => some b.isNone
    | some (.slice _), .slice (some _) _ _, .slice none 0 0 => some false
    | some (.map _ _), .map none, .map b => some b.isNone
    | some (.map _ _), .map (some _), .map none => some false
    | some (.func _ _ _), .nilFunc, .nilFunc => some true
    | some (.func _ _ _), .nilFunc, .func _ _ _ => some false
    | some (.func _ _ _), .func _ _ _, .nilFunc => some false
    | _, _, _ => none
def intBin (op : BinOp) (k : IntKind) (a b : Int) : Option Value :=
  match op with
  | .add => some (.int k (k.wrap (a + b)))
  | .sub => some (.int k (k.wrap (a - b)))
  | .mul => some (.int k (k.wrap (a * b)))
  | .quo => if b = 0 then none else some (.int k (k.wrap (a.tdiv b)))
  | .rem => if b = 0 then none else some (.int k (a.tmod b))
  | .and => some (.int k (k.wrap (BitVec.ofInt k.bits a &&& BitVec.ofInt k.bits b).toNat))
  | .or => some (.int k (k.wrap (BitVec.ofInt k.bits a ||| BitVec.ofInt k.bits b).toNat))
  | .xor => some (.int k (k.wrap (BitVec.ofInt k.bits a ^^^ BitVec.ofInt k.bits b).toNat))
  | .andNot => some (.int k (k.wrap (BitVec.ofInt k.bits a &&& ~~~BitVec.ofInt k.bits b).toNat))
  | .eql => some (.bool (a == b))
  | .neq => some (.bool (a != b))
  | .lss => some (.bool (decide (a < b)))
  | .leq => some (.bool (decide (a ≤ b)))
  | .gtr => some (.bool (decide (a > b)))
  | .geq => some (.bool (decide (a ≥ b)))
  | _ => none
def binOp (op : BinOp) (t : TypeId) (x y : Value) : Option Value :=
  match x, y with
  | .int k a, .int k' b =>
    match op with
    | .shl => if b < 0 then none else some (.int k (k.wrap (a * 2 ^ min b.toNat k.bits)))
    | .shr => if b < 0 then none else some (.int k (a.fdiv (2 ^ min b.toNat k.bits)))
    | _ => if k = k' then intBin op k a b else none
  | .agg a, .agg b =>
    if P.eqGuardType P.depth t then none else
    match op with
    | .eql => (eqV P 10 t (.agg a) (.agg b)).map .bool
    | .neq => (eqV P 10 t (.agg a) (.agg b)).map fun q => .bool (!q)
    | _ => none
  | x, y =>
    match op with
    | .eql => (eqV P 10 t x y).map .bool
    | .neq => (eqV P 10 t x y).map fun q => .bool (!q)
    | _ => none
def unOp (op : UnOp) (x : Value) : Option Value :=
  match op, x with
  | .neg, .int k n => some (.int k (k.wrap (0 - n)))
  | .xor, .int k n => intBin .xor k (if k.signed then -1 else k.max) n
  | .not, .bool b => some (.bool !b)
  | _, _ => none
def convert (src dst : TypeId) (x : Value) : Option Value :=
  match P.underlying src, P.underlying dst, x with
  | some _, some (.int k), .int _ n => some (.int k (k.wrap n))
  | _, _, _ => none
/-- A key whose comparing is plain. -/
def keyT : Nat → TypeId → Bool
  | 0, _ => false
  | d + 1, t =>
    match P.underlying t with
    | some (.int _) => true
    | some .bool => true
    | some (.struct fs) => !P.stoodInHeld t && fs.toList.all fun f => decide (f.name ≠ "_") && keyT d f.type
    | some (.array _ e) => keyT d e
    | _ => false
def findK (kt : TypeId) (k : Value) : List MapEntry → Nat → Option (Option (Nat × Value))
  | [], _ => some none
  | e :: es, i => (eqV P 10 kt k e.key).bind fun q => if q then some (some (i, e.val)) else findK kt k es (i + 1)
def mapOf (m : Value) (h : H) : Option (List MapEntry × Nat) :=
  match m with
  | .map none => some ([], 0)
  | .map (some b) =>
    match h.blk b with
    | some (.mp es c) => some (es, c)
    | _ => none
  | _ => none
def plainC : Value → Bool
  | .int _ _ => true
  | .bool _ => true
  | _ => false
/-- A number, a bool, or a row of these. -/
def plainK : Value → Bool
  | .int _ _ => true
  | .bool _ => true
  | .agg cs => cs.toList.all plainC
  | _ => false
/-- The value of a key's type whose parts are all there. -/
def isKey (kt : TypeId) (k : Value) : Bool := plainK k && keyT P 10 kt && (eqV P 10 kt k k == some true)
def lookup (t : TypeId) (m k : Value) (ok : Bool) (h : H) : Option Value :=
  match P.underlying t with
  | some (.map kt vt) =>
    if isKey P kt k then
      (mapOf m h).bind fun (es, _) => (findK P kt k es 0).bind fun r =>
        match r with
        | some (_, v) => some (if ok then .tuple #[v, .bool true] else v)
        | none => (zero? P vt).map fun z => if ok then .tuple #[z, .bool false] else z
    else none
  | _ => none
def mapUpdate (t : TypeId) (m k x : Value) (h : H) : Option H :=
  match P.underlying t, m with
  | some (.map kt _), .map (some b) =>
    if isKey P kt k then
      (mapOf m h).bind fun (es, c) => (findK P kt k es 0).bind fun r =>
        match r with
        | some (i, _) => if Instr.sameBits 10000 (((es[i]?).map (·.key)).getD k) k && plainK (((es[i]?).map (·.key)).getD k) then some (h.set b (.mp (es.modify i fun e => { e with key := k, val := x }) c)) else none
        | none => some (h.set b (.mp (es ++ [{ key := k, val := x, born := c }]) (c + 1)))
    else none
  | _, _ => none
/-- The first half of m[k] op= x: what the entry holds, and its mark. -/
def mapEntry (t : TypeId) (m k : Value) (h : H) : Option (Value × H) :=
  match P.underlying t, m with
  | some (.map kt vt), .map (some b) =>
    if isKey P kt k then
      (mapOf m h).bind fun (es, c) => (findK P kt k es 0).bind fun r =>
        match r with
        | some (i, v) => if Instr.sameBits 10000 (((es[i]?).map (·.key)).getD k) k && plainK (((es[i]?).map (·.key)).getD k) then some (.tuple #[v, .int .i64 (((es[i]?).map (·.born)).getD 0 : Nat)], h.set b (.mp (es.modify i fun e => { e with key := k }) c)) else none
        | none => (zero? P vt).map fun z => (.tuple #[z, .int .i64 (c : Nat)], h.set b (.mp (es ++ [{ key := k, val := z, born := c }]) (c + 1)))
    else none
  | _, _ => none
/-- The second half: the entry with a mark is written. -/
def entryStore (m s x : Value) (h : H) : Option H :=
  match m, s with
  | .map (some b), .int _ n =>
    match h.blk b with
    | some (.mp es c) => (es.findIdx? fun e => (e.born : Int) == n).map fun i => h.set b (.mp (es.modify i fun e => { e with val := x }) c)
    | _ => none
  | _, _ => none
def deleteM (tys : List TypeId) (m k : Value) (h : H) : Option (Value × H) :=
  match (tys[0]?).bind P.underlying, m with
  | some (.map kt _), .map (some b) =>
    if isKey P kt k then
      (mapOf m h).bind fun (es, c) => (findK P kt k es 0).map fun r =>
        match r with
        | some (i, _) => (undef, h.set b (.mp (es.eraseIdx i) c))
        | none => (undef, h.set b (.mp es c))
    else none
  | _, _ => none
def makeMap (r : Option Value) (h : H) : Option (Value × H) :=
  match r with
  | none => some (.map (some h.nx), h.new (.mp [] 0))
  | some _ => none
def ev (t : Array Value) : Operand → Value
  | .tmp i => t.getD i undef
  | .const v => v
  | .global g => .pointer (some ⟨g, 0, none⟩)
  | .func f => .func (.func f) #[] #[]
def minmax (mx : Bool) : List Value → Option Value
  | [] => none
  | x :: rest => rest.foldlM (fun a b =>
      match a, b with
      | .int k p, .int _ q => some (if mx then .int k (if p < q then q else p) else .int k (if q < p then q else p))
      | _, _ => none) x
def builtin (b : Builtin) (tys : List TypeId) (args : List Value) (h : H) : Option (Value × H) :=
  match b, args with
  | .append, [s, x] => append P tys s x h
  | .copy, [d, x] => copyS P tys d x h
  | .clear, [x] => clearS P tys x h
  | .len, [x] =>
    match (tys[0]?).bind P.underlying, x with
    | some (.slice _), .slice _ n _ => some (.int .i64 n, h)
    | some (.map _ _), .map none => some (.int .i64 0, h)
    | some (.map _ _), .map (some b) =>
      match h.blk b with
      | some (.mp es _) => some (.int .i64 es.length, h)
      | _ => none
    | _, _ => none
  | .delete, [m, k] => deleteM P tys m k h
  | .min, xs => (minmax false xs).map (·, h)
  | .max, xs => (minmax true xs).map (·, h)
  | _, _ => none
abbrev Rec := FuncId → Array Value → H → Option (Value × H)
def callV (rec : Rec) (f : Value) (args : Array Value) (h : H) : Option (Value × H) :=
  match f with
  | .func (.func f) first captured => rec f (first ++ args ++ captured) h
  | _ => none
def okOperand : Operand → Bool
  | .const v => closedV 5 v
  | .global g => decide (g < E.NG)
  | _ => true
def op (rec : Rec) (t : Array Value) (o : Oper) (h : H) : Option (Value × H) :=
  if !(o.op.operands.toList.all (okOperand E)) then none else
  let e := ev t
  let p (v : Option Value) : Option (Value × H) := v.map (·, h)
  let u (h : Option H) : Option (Value × H) := h.map (undef, ·)
  match o.op with
  | .move x | .assign x => some (e x, h)
  | .pick c a b => match e c with
    | .bool true => some (e a, h)
    | .bool false => some (e b, h)
    | _ => none
  | .alloc t => alloc P t h
  | .box t x => box P t (e x) h
  | .build t ps => p (build P t (ps.toList.map fun (i, x) => (i, e x)))
  | .buildSlice t n ps => buildSlice P t n (ps.toList.map fun (i, x) => (i, e x)) h
  | .load t a => p (load P t (e a) h)
  | .store t a x => u (store P t (e a) (e x) h)
  | .nilCheck x => match e x with
    | .pointer (some a) => some (.pointer (some a), h)
    | .func (.func f) a b => some (.func (.func f) a b, h)
    | _ => none
  | .binOp b t x y _ => p (binOp P b t (e x) (e y))
  | .unOp b _ x => p (unOp b (e x))
  | .convert s d x => p (convert P s d (e x))
  | .makeFunc fn first captured => match fn with
    | .func f => some (.func (.func f) (first.map e) (captured.map e), h)
    | _ => none
  | .makeMap _ r => makeMap (r.map e) h
  | .makeSlice t l c => makeSlice P t (e l) (e c) h
  | .slice t x lo hi mx => p (slice P t (e x) (lo.map e) (hi.map e) (mx.map e) h)
  | .fieldAddr s x f => p (fieldAddr P s (e x) f)
  | .field s x f => p (field P s (e x) f)
  | .indexAddr t x i => p (indexAddr P t (e x) (e i))
  | .index t x i => p (index P t (e x) (e i))
  | .lookup t m k ok => p (lookup P t (e m) (e k) ok h)
  | .mapUpdate t m k x | .insert t m k x => u (mapUpdate P t (e m) (e k) (e x) h)
  | .mapEntry t m k => mapEntry P t (e m) (e k) h
  | .entryStore _ m s x => u (entryStore (e m) (e s) (e x) h)
  | .extract x i => match e x with
    | .tuple vs => p (vs[i]?)
    | _ => none
  | .call c => match c.callee with
    | .builtin b => builtin P b c.argTypes.toList (c.args.toList.map e) h
    | .value f => callV rec (e f) (c.args.map e) h
    | _ => none
  | _ => none
def put (t : Array Value) (d : Option Tmp) (v : Value) : Array Value :=
  match d with
  | some d => t.setIfInBounds d v
  | none => t
def ops (rec : Rec) (all : Array Oper) : List Oper → Array Value → H → Option (Array Value × H)
  | [], t, h => some (t, h)
  | o :: rest, t, h =>
    if Region.wanted o (yielded all t) then
      (op P E rec t o h).bind fun (v, h) => ops rec all rest (put t o.dst v) h
    else ops rec all rest (put t o.dst undef) h
/-- What an operation of a region that draws its order touches: nothing; some cells that it loads; a block that it looks at; more than that, but it changes nothing; some cells that it stores into; it may change anything. -/
inductive FP where
  | pure
  | ld (b o n : Nat)
  | rd
  | rb (b : Nat)
  | st (b o n : Nat)
  | md
  | al
  | wb (b : Nat)
def fp (t : Array Value) (o : Oper) : Option FP :=
  let at_ (st : Bool) (ty : TypeId) (a : Value) : Option FP :=
    match a with
    | .pointer (some ⟨b, o, none⟩) => (size? P ty).bind fun n => if n = 0 then none else some (if st then .st b o n else .ld b o n)
    | _ => none
  match o.op with
  | .move _ | .assign _ | .pick .. | .build .. | .nilCheck _ | .binOp .. | .unOp .. | .convert .. | .makeFunc .. | .fieldAddr .. | .field ..
  | .indexAddr .. | .index .. | .extract .. => some .pure
  | .load ty a => at_ false ty (ev t a)
  | .store ty a _ => at_ true ty (ev t a)
  | .lookup _ m _ _ => match ev t m with
    | .map (some b) => some (.rb b)
    | _ => some .rd
  | .slice _ x _ _ _ => match ev t x with
    | .slice (some ⟨b, _, none⟩) _ _ => some (.rb b)
    | .slice none _ _ => some .pure
    | _ => some .rd
  | .call c => match c.callee with
    | .builtin .len => match (c.argTypes[0]?).bind P.underlying with
      | some (.slice _) => some .pure
      | _ => some .rd
    | .builtin .min => some .pure
    | .builtin .max => some .pure
    | _ => some .md
  | .mapUpdate _ m _ _ => match ev t m with
    | .map (some b) => some (.wb b)
    | _ => some .md
  | .insert _ m _ _ => match ev t m with
    | .map (some b) => some (.wb b)
    | _ => some .md
  | .mapEntry _ m _ => match ev t m with
    | .map (some b) => some (.wb b)
    | _ => some .md
  | .entryStore _ m _ _ => match ev t m with
    | .map (some b) => some (.wb b)
    | _ => some .md
  | .alloc _ | .box .. | .buildSlice .. | .makeSlice .. | .makeMap .. => some .md
  | _ => none
/-- A new block of plain values: it may be made as_ early as_ one likes. -/
def allocKind (o : Oper) : Bool :=
  match o.op with
  | .alloc _ => true
  | .makeMap _ none => true
  | .makeSlice .. => true
  | .buildSlice t _ _ => match P.underlying t with
    | some (.slice e) => match P.underlying e with
      | some (.int _) => true
      | _ => false
    | _ => false
  | _ => false
def lookKind (o : Oper) : Bool :=
  match o.op with
  | .lookup .. => true
  | _ => false
/-- May it change more than cells? -/
def hardKind (o : Oper) : Bool :=
  match o.op with
  | .call c => match c.callee with
    | .builtin .len => false
    | .builtin .min => false
    | .builtin .max => false
    | _ => true
  | .alloc _ | .box .. | .buildSlice .. | .makeSlice .. | .makeMap .. | .mapUpdate .. | .insert .. | .mapEntry .. | .entryStore .. => true
  | _ => false
def isInt : Value → Bool
  | .int _ _ => true
  | _ => false
/-- Does a new block stand beside something else that changes the heap, with no order between the two? -/
def needAl (all : Array Oper) : Bool :=
  let B := Region.before all
  let l := all.toList.zipIdx
  l.any fun (o, j) => allocKind P o && l.any fun (p, i) => decide (i ≠ j) && hardKind p && !(B.getD j 0).testBit i && !(B.getD i 0).testBit j
/-- What an operation touches, where new blocks may come early. -/
def fpA (al : Bool) (t : Array Value) (o : Oper) : Option FP :=
  if al && allocKind P o then (if o.op.operands.toList.all fun x => isInt (ev t x) then some .al else none)
  else if al && lookKind o then (fp P t o).map fun _ => .rd
  else fp P t o
/-- A record of an operation that has been done: its place, what it touched, how many blocks there were ahead of it, and whether it changed none of them. -/
structure Did where
  i : Nat
  f : FP
  lo : Nat
  q : Bool
/-- May the two be done in either order? (What is loaded was there ahead of the other one, and is not changed.) -/
def free (x y : Did) : Bool :=
  match x.f, y.f with
  | .pure, _ => true
  | _, .pure => true
  | .ld b o n, .st b' o' n' => decide (b < y.lo) && decide (b ≠ b' ∨ o + n ≤ o' ∨ o' + n' ≤ o)
  | .st b' o' n', .ld b o n => decide (b < x.lo) && decide (b ≠ b' ∨ o + n ≤ o' ∨ o' + n' ≤ o)
  | .ld b _ _, .md => decide (b < y.lo) && y.q
  | .md, .ld b _ _ => decide (b < x.lo) && x.q
  | .rb b, .md => decide (b < y.lo) && y.q
  | .md, .rb b => decide (b < x.lo) && x.q
  | .ld b _ _, .al => decide (b < y.lo) && y.q
  | .al, .ld b _ _ => decide (b < x.lo) && x.q
  | .rb b, .al => decide (b < y.lo) && y.q
  | .al, .rb b => decide (b < x.lo) && x.q
  | .md, .al => true
  | .st _ _ _, .al => true
  | .al, .al => true
  | .wb _, .al => true
  | .ld b _ _, .wb b' => decide (b < y.lo) && decide (b ≠ b')
  | .wb b', .ld b _ _ => decide (b < x.lo) && decide (b ≠ b')
  | .rb b, .wb b' => decide (b < y.lo) && decide (b ≠ b')
  | .wb b', .rb b => decide (b < x.lo) && decide (b ≠ b')
  | .rb _, .rb _ => true
  | .rb _, .ld _ _ _ => true
  | .ld _ _ _, .rb _ => true
  | .rb _, .rd => true
  | .rd, .rb _ => true
  | .ld _ _ _, .ld _ _ _ => true
  | .ld _ _ _, .rd => true
  | .rd, .ld _ _ _ => true
  | .rd, .rd => true
  | _, _ => false
/-- A look at an entry and, behind it in the text, the first half of a change of that entry. -/
def twinOps (all : Array Oper) (i j : Nat) : Bool :=
  match all[i]?, all[j]? with
  | some ⟨_, .lookup t (.tmp m) (.tmp k) false, _, _, _, _⟩, some ⟨_, .mapEntry t' (.tmp m') (.tmp k'), _, _, _, _⟩ =>
    t == t' && m == m' && k == k' && (List.range j).all fun p => decide (p < i) || match (all[p]?).bind (·.dst) with
      | some d => d != m && d != k
      | none => true
  | _, _ => false
/-- The look sees the same behind it. -/
def twin (all : Array Oper) (x y : Did) : Bool :=
  match x.f, y.f with
  | .rb b, .wb b' => b == b' && twinOps all x.i y.i
  | _, _ => false
def drawGo (rec : Rec) (all : Array Oper) (B : Array Nat) : List Oper → Nat → List Did → Array Value → H → Option (Array Value × H)
  | [], _, _, t, h => some (t, h)
  | o :: rest, j, log, t, h =>
    if Region.wanted o (yielded all t) then
      (fpA P (needAl P all) t o).bind fun f => (op P E rec t o h).bind fun (v, h') =>
        if log.all fun d => (B.getD j 0).testBit d.i || (free d ⟨j, f, h.nx, decide (h'.wr = h.wr)⟩ || twin all d ⟨j, f, h.nx, decide (h'.wr = h.wr)⟩) then
          drawGo rec all B rest (j + 1) (⟨j, f, h.nx, decide (h'.wr = h.wr)⟩ :: log) (put t o.dst v) h'
        else none
    else drawGo rec all B rest (j + 1) log (put t o.dst undef) h
def reads (o : Oper) : List Tmp := o.op.operands.toList.filterMap fun | .tmp t => some t | _ => none
/-- The closed facts of a region that draws its order. -/
def okDraw (all : Array Oper) : Bool :=
  let B := Region.before all
  let l := all.toList.zipIdx
  l.all fun (o, j) =>
    (o.after.all fun e => !Region.binds .any e || decide (e.on < j)) &&
    (match o.guard with
      | none => true
      | some (g, _) => (B.getD j 0).testBit g && decide (g < j)) &&
    l.all fun (p, i) =>
      (decide (i = j) || match p.dst with
        | none => true
        | some d => !(o.dst == some d) && (!(reads o).contains d || (B.getD j 0).testBit i || (B.getD i 0).testBit j))
def copyKind (o : Oper) : Bool :=
  match o.op with
  | .move _ => true
  | .assign _ => true
  | _ => false
def storeKind (o : Oper) : Bool :=
  match o.op with
  | .store .. => true
  | _ => false
/-- The slots that may hold a block that came early. -/
def early (all : Array Oper) : List Tmp := all.toList.foldl (fun D o => if allocKind P o || (copyKind o && (reads o).any D.contains) then o.dst.toList ++ D else D) []
/-- Blocks that may come early are only handed on, or used by what changes something. -/
def okEarly (all : Array Oper) : Bool :=
  let D := early P all
  all.toList.all fun o => (!allocKind P o || (match o.dst with
    | some d => D.contains d
    | none => true)) && (!(reads o).any D.contains || (copyKind o && (match o.dst with
    | some d => D.contains d
    | none => true)) || hardKind o || storeKind o)
/-- Does a new block stand ahead of something that changes the heap, with no order between the two? -/
def lateQ (all : Array Oper) : Bool :=
  let B := Region.before all
  let l := all.toList.zipIdx
  l.any fun (o, i) => allocKind P o && l.any fun (p, j) => decide (i < j) && (hardKind p || storeKind p) && !allocKind P p && !(B.getD j 0).testBit i
/-- An order in which new blocks come as_ late as_ they can. -/
def lateOrd (all : Array Oper) : List Nat :=
  let B := Region.before all
  let r := all.toList.zipIdx.foldl (fun (acc : List Nat × List Nat) (q : Oper × Nat) =>
    if allocKind P q.1 then (acc.1, acc.2 ++ [q.2])
    else
      let now := acc.2.filter fun i => (B.getD q.2 0).testBit i
      (acc.1 ++ now ++ [q.2], acc.2.filter fun i => !(B.getD q.2 0).testBit i)) ([], [])
  r.1 ++ r.2
def moved (ord : List Nat) (o : Oper) : Oper := { o with after := o.after.map fun e => { e with on := ord.idxOf e.on }, guard := o.guard.map fun g => (ord.idxOf g.1, g.2) }
/-- The region in another order. -/
def permute (ord : List Nat) (all : Array Oper) : Array Oper := (ord.filterMap fun i => (all[i]?).map (moved ord)).toArray
def okPerm (ord : List Nat) (n : Nat) : Bool :=
  decide (ord.length = n) && (List.range n).all fun i => decide (ord[ord.idxOf i]? = some i) && (match ord[i]? with
    | some j => decide (j < n) && decide (ord.idxOf j = i)
    | none => false)
/-- The region in the order in which it is run. -/
def order (all : Array Oper) : Array Oper := if lateQ P all then permute (lateOrd P all) all else all
def okOrder (all : Array Oper) : Bool := okDraw all && (!lateQ P all || okPerm (lateOrd P all) all.size) && okDraw (order P all) && (!needAl P (order P all) || okEarly P (order P all))
def draw (rec : Rec) (all : Array Oper) (t : Array Value) (h : H) : Option (Array Value × H) :=
  if okOrder P all then drawGo P E rec (order P all) (Region.before (order P all)) (order P all).toList 0 [] t h else none
inductive Ex where
  | normal
  | exit (id : Nat)
  | ret
def loop (f : Array Value → H → Option (Ex × Array Value × H)) : Nat → Array Value → H → Option (Ex × Array Value × H)
  | 0, _, _ => none
  | k + 1, t, h => (f t h).bind fun (e, t, h) =>
    match e with
    | .normal => loop f k t h
    | e => some (e, t, h)
def code (rec : Rec) (k : Nat) : Code → Array Value → H → Option (Ex × Array Value × H)
  | .skip, t, h => some (.normal, t, h)
  | .region _ all false, t, h => (ops P E rec all all.toList t h).map fun (t, h) => (.normal, t, h)
  | .region _ all true, t, h => (draw P E rec all t h).map fun (t, h) => (.normal, t, h)
  | .seq a b, t, h => (code rec k a t h).bind fun (e, t, h) =>
    match e with
    | .normal => code rec k b t h
    | e => some (e, t, h)
  | .cond c a b, t, h =>
    if !okOperand E c then none else
    match ev t c with
    | .bool true => code rec k a t h
    | .bool false => code rec k b t h
    | _ => none
  | .block id c, t, h => (code rec k c t h).map fun (e, t, h) =>
    match e with
    | .exit i => (if i = id then .normal else .exit i, t, h)
    | e => (e, t, h)
  | .loop c, t, h => loop (code rec k c) k t h
  | .exit id, t, h => some (.exit id, t, h)
  | .ret, t, h => some (.ret, t, h)
  | _, _, _ => none
def resV (t : Array Value) (h : H) : ResultVar → Option Value
  | .tmp i => some (t.getD i undef)
  | .cell a ty => load P ty (t.getD a undef) h
def res (fn : Func) (t : Array Value) (h : H) : Option Value :=
  (fn.results.toList.mapM (resV P t h)).map fun vs =>
    match vs with
    | [v] => v
    | vs => .tuple vs.toArray
/-- The heap of a call that is made by itself: the globals alone. -/
def lone : H := ⟨fun b => if b < E.NG then E.G b else none, E.NG, 0⟩
def plainV : Value → Bool
  | .int _ _ => true
  | .bool _ => true
  | _ => false
def plainR : Value → Bool
  | .int _ _ => true
  | .bool _ => true
  | .tuple vs => vs.toList.all plainV
  | _ => false
def body (rec : Rec) (n : Nat) (f : FuncId) (args : Array Value) (h : H) : Option (Value × H) :=
  match P.funcs[f]? with
  | some fn =>
    match fn.body with
    | some c =>
      if fn.name = "runtime.NumGoroutine" then none else
      (code P E rec n c (args ++ Array.replicate (fn.ntmps - args.size) undef) h).bind fun (e, t, h) =>
        match e with
        | .exit _ => none
        | _ => (res P fn t h).map (·, h)
    | none => none
  | none => none
/-- Calls; those of 'iso' are made by themselves: plain values in, plain values out. -/
def call : Nat → Rec
  | 0, _, _, _ => none
  | n + 1, f, args, h =>
    if E.iso f && args.toList.all plainV then
      (body P E (call n) (n + 1) f args (lone E)).bind fun (v, _) => if plainR v then some (v, h) else none
    else body P E (call n) (n + 1) f args h
end
end Go.AM
namespace Go.AM
structure Emb where
  g : Nat
  base : Nat
  lim : Nat
  sz : Nat
def CapR (c c' : Nat) : Prop := (c < U ∧ c' = c) ∨ (U ≤ c ∧ c - U ≤ c')
inductive VR (ι : Nat → Emb) (n : Nat) : Value → Value → Prop
  | bool (b : Bool) : VR ι n (.bool b) (.bool b)
  | int (k : IntKind) (x : Int) : VR ι n (.int k x) (.int k x)
  | string (s : ByteArray) : VR ι n (.string s) (.string s)
  | ptrNil : VR ι n (.pointer none) (.pointer none)
  | ptr {b o : Nat} (hb : b < n) : VR ι n (.pointer (some ⟨b, o, none⟩)) (.pointer (some ⟨(ι b).g, (ι b).base + o, none⟩))
  | slNil : VR ι n (.slice none 0 0) (.slice none 0 0)
  | sl {b o l c c' : Nat} (hb : b < n) (hc : CapR c c') (hk : l ≤ capK c) (hl : o + c' * (ι b).sz ≤ (ι b).lim) :
      VR ι n (.slice (some ⟨b, o, none⟩) l c) (.slice (some ⟨(ι b).g, (ι b).base + o, none⟩) l c')
  | sl0 {b o c : Nat} {ad : Addr} (hb : b < n) (hc : capK c = 0) : VR ι n (.slice (some ⟨b, o, none⟩) 0 c) (.slice (some ad) 0 0)
  | mapNil : VR ι n (.map none) (.map none)
  | map {b : Nat} (hb : b < n) : VR ι n (.map (some b)) (.map (some (ι b).g))
  | nilFunc : VR ι n .nilFunc .nilFunc
  | func {f : FuncId} {xs xs' ys ys' : Array Value} (h1 : xs.size = xs'.size) (h2 : ys.size = ys'.size)
      (h3 : ∀ (i : Nat) (v v' : Value), xs[i]? = some v → xs'[i]? = some v' → VR ι n v v')
      (h4 : ∀ (i : Nat) (v v' : Value), ys[i]? = some v → ys'[i]? = some v' → VR ι n v v') : VR ι n (.func (.func f) xs ys) (.func (.func f) xs' ys')
  | nilIface : VR ι n .nilIface .nilIface
  | agg {xs xs' : Array Value} (h1 : xs.size = xs'.size) (h2 : ∀ (i : Nat) (v v' : Value), xs[i]? = some v → xs'[i]? = some v' → VR ι n v v') :
      VR ι n (.agg xs) (.agg xs')
  | tuple {xs xs' : Array Value} (h1 : xs.size = xs'.size) (h2 : ∀ (i : Nat) (v v' : Value), xs[i]? = some v → xs'[i]? = some v' → VR ι n v v') :
      VR ι n (.tuple xs) (.tuple xs')
  | any (k : IntKind) (x : Int) : VR ι n (.chan none) (.int k x)
/-- Rows of values, one by one. -/
def AR (ι : Nat → Emb) (n : Nat) (xs xs' : Array Value) : Prop :=
  xs.size = xs'.size ∧ ∀ (i : Nat) (v v' : Value), xs[i]? = some v → xs'[i]? = some v' → VR ι n v v'
def LR (ι : Nat → Emb) (n : Nat) (xs xs' : List Value) : Prop :=
  xs.length = xs'.length ∧ ∀ (i : Nat) (v v' : Value), xs[i]? = some v → xs'[i]? = some v' → VR ι n v v'
theorem VR.mono {ι ι' : Nat → Emb} {n n' : Nat} (hn : n ≤ n') (he : ∀ b, b < n → ι' b = ι b) {v v' : Value} (h : VR ι n v v') : VR ι' n' v v' := by
  induction h with
  | bool b => exact .bool b
  | int k x => exact .int k x
  | string s => exact .string s
  | ptrNil => exact .ptrNil
  | ptr hb => rw [← he _ hb]; exact .ptr (Nat.lt_of_lt_of_le hb hn)
  | slNil => exact .slNil
  | sl hb hc hk hl => rw [← he _ hb] at hl ⊢; exact .sl (Nat.lt_of_lt_of_le hb hn) hc hk hl
  | sl0 hb hc => exact .sl0 (Nat.lt_of_lt_of_le hb hn) hc
  | mapNil => exact .mapNil
  | map hb => rw [← he _ hb]; exact .map (Nat.lt_of_lt_of_le hb hn)
  | nilFunc => exact .nilFunc
  | func h1 h2 _ _ i3 i4 => exact .func h1 h2 i3 i4
  | nilIface => exact .nilIface
  | agg h1 _ i2 => exact .agg h1 i2
  | tuple h1 _ i2 => exact .tuple h1 i2
  | any k x => exact .any k x
theorem AR.mono {ι ι' : Nat → Emb} {n n' : Nat} (hn : n ≤ n') (he : ∀ b, b < n → ι' b = ι b) {v v' : Array Value} (h : AR ι n v v') : AR ι' n' v v' :=
  ⟨h.1, fun i x x' hx hx' => (h.2 i x x' hx hx').mono hn he⟩
theorem AR.toList {ι : Nat → Emb} {n : Nat} {v v' : Array Value} (h : AR ι n v v') : LR ι n v.toList v'.toList :=
  ⟨by simpa using h.1, fun i x x' hx hx' => h.2 i x x' (by simpa using hx) (by simpa using hx')⟩
theorem LR.toArray {ι : Nat → Emb} {n : Nat} {v v' : List Value} (h : LR ι n v v') : AR ι n v.toArray v'.toArray :=
  ⟨by simpa using h.1, fun i x x' hx hx' => h.2 i x x' (by simpa using hx) (by simpa using hx')⟩
theorem LR.nil {ι : Nat → Emb} {n : Nat} : LR ι n [] [] := ⟨rfl, fun i x x' h => by simp at h⟩
theorem LR.cons {ι : Nat → Emb} {n : Nat} {x x' : Value} {v v' : List Value} (hx : VR ι n x x') (h : LR ι n v v') : LR ι n (x :: v) (x' :: v') :=
  ⟨by simp [h.1], fun i y y' hy hy' => by
    cases i with
    | zero => simp at hy hy'; subst hy; subst hy'; exact hx
    | succ i => exact h.2 i y y' (by simpa using hy) (by simpa using hy')⟩
theorem LR.uncons {ι : Nat → Emb} {n : Nat} {x : Value} {v u : List Value} (h : LR ι n (x :: v) u) : ∃ x' v', u = x' :: v' ∧ VR ι n x x' ∧ LR ι n v v' := by
  cases u with
  | nil => exact absurd h.1 (by simp)
  | cons x' v' => exact ⟨x', v', rfl, h.2 0 x x' rfl rfl, by simpa using h.1, fun i y y' hy hy' => h.2 (i + 1) y y' (by simpa using hy) (by simpa using hy')⟩
theorem LR.get {ι : Nat → Emb} {n : Nat} {v v' : List Value} (h : LR ι n v v') {i : Nat} {x : Value} (hx : v[i]? = some x) : ∃ x', v'[i]? = some x' ∧ VR ι n x x' := by
  have hi : i < v'.length := by
    have : i < v.length := by
      rcases Nat.lt_or_ge i v.length with h | h
      · exact h
      · rw [List.getElem?_eq_none h] at hx; cases hx
    have := h.1
    omega
  exact ⟨v'[i], by simp [hi], h.2 i x _ hx (by simp [hi])⟩
theorem AR.get {ι : Nat → Emb} {n : Nat} {v v' : Array Value} (h : AR ι n v v') {i : Nat} {x : Value} (hx : v[i]? = some x) : ∃ x', v'[i]? = some x' ∧ VR ι n x x' := by
  obtain ⟨x', h1, h2⟩ := h.toList.get (i := i) (x := x) (by simpa using hx)
  exact ⟨x', by simpa using h1, h2⟩
theorem LR.append {ι : Nat → Emb} {n : Nat} {a a' b b' : List Value} (h : LR ι n a a') (k : LR ι n b b') : LR ι n (a ++ b) (a' ++ b') := by
  refine ⟨by simp [h.1, k.1], fun i x x' hx hx' => ?_⟩
  by_cases hi : i < a.length
  · rw [List.getElem?_append_left hi] at hx
    rw [List.getElem?_append_left (h.1 ▸ hi)] at hx'
    exact h.2 i x x' hx hx'
  · rw [List.getElem?_append_right (by omega)] at hx
    rw [List.getElem?_append_right (by have := h.1; omega), ← h.1] at hx'
    exact k.2 _ x x' hx hx'
theorem LR.map {α : Type} {ι : Nat → Emb} {n : Nat} (f f' : α → Value) (l : List α) (h : ∀ x ∈ l, VR ι n (f x) (f' x)) : LR ι n (l.map f) (l.map f') := by
  refine ⟨by simp, fun i x x' hx hx' => ?_⟩
  simp only [List.getElem?_map] at hx hx'
  cases hl : l[i]? with
  | none => rw [hl] at hx; cases hx
  | some y =>
    rw [hl] at hx hx'
    simp at hx hx'
    subst hx; subst hx'
    exact h y (List.mem_of_getElem? hl)
theorem VR.cells {ι : Nat → Emb} {n : Nat} {v v' : Value} (h : VR ι n v v') : AR ι n v.cells v'.cells := by
  cases h with
  | agg h1 h2 => exact ⟨h1, h2⟩
  | tuple h1 h2 => exact (LR.cons (VR.tuple h1 h2) .nil).toArray
  | func h1 h2 h3 h4 => exact (LR.cons (VR.func h1 h2 h3 h4) .nil).toArray
  | bool b => exact (LR.cons (VR.bool b) .nil).toArray
  | int k x => exact (LR.cons (VR.int k x) .nil).toArray
  | string s => exact (LR.cons (VR.string s) .nil).toArray
  | ptrNil => exact (LR.cons VR.ptrNil .nil).toArray
  | ptr hb => exact (LR.cons (VR.ptr hb) .nil).toArray
  | slNil => exact (LR.cons VR.slNil .nil).toArray
  | sl hb hc hk hl => exact (LR.cons (VR.sl hb hc hk hl) .nil).toArray
  | sl0 hb hc => exact (LR.cons (VR.sl0 hb hc) .nil).toArray
  | mapNil => exact (LR.cons VR.mapNil .nil).toArray
  | map hb => exact (LR.cons (VR.map hb) .nil).toArray
  | nilFunc => exact (LR.cons VR.nilFunc .nil).toArray
  | nilIface => exact (LR.cons VR.nilIface .nil).toArray
  | any k x => exact (LR.cons (VR.any k x) .nil).toArray
theorem VR.scal {ι : Nat → Emb} {n : Nat} {v v' : Value} (h : VR ι n v v') : scal v' = scal v := by
  cases h <;> rfl
/-- A value without any address stands for itself. -/
theorem VR.undef {ι : Nat → Emb} {n : Nat} : VR ι n undef undef := .tuple rfl (fun i v v' h => by simp at h)
section
variable (P : Program)
def BlkR (ι : Nat → Emb) (n : Nat) (w : World) (b : Nat) : Blk → Prop
  | .row c e true => ∃ C E, w.heap[(ι b).g]? = some (.cells C E (0, 0)) ∧ size? P e = some (ι b).sz ∧ c.length ≤ (ι b).lim ∧
      (ι b).base + (ι b).lim ≤ C.size ∧ ∀ (i : Nat) (v : Value), c[i]? = some v → ∃ v', C[(ι b).base + i]? = some v' ∧ VR ι n v v'
  | .row c e false => (ι b).g < w.heap.size ∧ size? P e = some (ι b).sz ∧
      ∀ (i : Nat) (v : Value), c[i]? = some v → ∃ v', w.cell? ⟨(ι b).g, (ι b).base + i, none⟩ = some v' ∧ VR ι n v v'
  | .mp es clk => ∃ es', w.heap[(ι b).g]? = some (.map es' clk) ∧ es.length = es'.size ∧
      ∀ (i : Nat) (e e' : MapEntry), es[i]? = some e → es'[i]? = some e' → VR ι n e.key e'.key ∧ VR ι n e.val e'.val ∧ e.born = e'.born
structure Rel (E : Env) (ι : Nat → Emb) (h : H) (w : World) : Prop where
  dom : ∀ b k, h.blk b = some k → b < h.nx
  blk : ∀ b k, h.blk b = some k → BlkR P ι h.nx w b k
  inj : ∀ b b' k k', h.blk b = some k → h.blk b' = some k' → b ≠ b' → k.own = true → (ι b).g ≠ (ι b').g
  ng : E.NG ≤ h.nx
  glob : ∀ g, g < E.NG → (ι g).g = g ∧ (ι g).base = 0
  globB : ∀ g, g < E.NG → h.blk g = E.G g
  globO : ∀ g k, g < E.NG → E.G g = some k → k.own = false ∧ BlkR P ι E.NG w g k
structure Tr (ι : Nat → Emb) (h : H) (w : World) (ι' : Nat → Emb) (h' : H) (w' : World) : Prop where
  nx : h.nx ≤ h'.nx
  ext : ∀ b, b < h.nx → ι' b = ι b
  os : w'.os = w.os
  tape : w'.tape = w.tape
  output : w'.output = w.output
  size : w.heap.size ≤ w'.heap.size
  fr : ∀ g, g < w.heap.size → (∀ b k, h.blk b = some k → k.own = true → (ι b).g ≠ g) → w'.heap[g]? = w.heap[g]?
  own : ∀ b k, h'.blk b = some k → k.own = true → (∃ b0 k0, h.blk b0 = some k0 ∧ k0.own = true ∧ (ι b0).g = (ι' b).g) ∨ w.heap.size ≤ (ι' b).g
end
theorem Tr.refl (ι : Nat → Emb) (h : H) (w : World) : Tr ι h w ι h w :=
  ⟨Nat.le_refl _, fun _ _ => rfl, rfl, rfl, rfl, Nat.le_refl _, fun _ _ _ => rfl, fun b k hb ho => .inl ⟨b, k, hb, ho, rfl⟩⟩
theorem Tr.trans {ι ι1 ι2 : Nat → Emb} {h h1 h2 : H} {w w1 w2 : World} (a : Tr ι h w ι1 h1 w1) (b : Tr ι1 h1 w1 ι2 h2 w2) : Tr ι h w ι2 h2 w2 where
  nx := Nat.le_trans a.nx b.nx
  ext := fun i hi => (b.ext i (Nat.lt_of_lt_of_le hi a.nx)).trans (a.ext i hi)
  os := b.os.trans a.os
  tape := b.tape.trans a.tape
  output := b.output.trans a.output
  size := Nat.le_trans a.size b.size
  fr := fun g hg hn => by
    have h1 := a.fr g hg hn
    rw [← h1]
    refine b.fr g (Nat.lt_of_lt_of_le hg a.size) fun i k hi ho he => ?_
    rcases a.own i k hi ho with ⟨b0, k0, hb0, ho0, e⟩ | hge
    · exact hn b0 k0 hb0 ho0 (e.trans he)
    · omega
  own := fun i k hi ho => by
    rcases b.own i k hi ho with ⟨b0, k0, hb0, ho0, e⟩ | hge
    · rcases a.own b0 k0 hb0 ho0 with ⟨b1, k1, hb1, ho1, e1⟩ | hge
      · exact .inl ⟨b1, k1, hb1, ho1, e1.trans e⟩
      · exact .inr (e ▸ hge)
    · exact .inr (Nat.le_trans a.size hge)
/-- A draw turns nothing. -/
theorem BlkR.congr {P : Program} {ι : Nat → Emb} {n : Nat} {w w' : World} {b : Nat} {k : Blk} (h : BlkR P ι n w b k) (hw : w'.heap[(ι b).g]? = w.heap[(ι b).g]?) (hs : w.heap.size ≤ w'.heap.size) :
    BlkR P ι n w' b k := by
  unfold BlkR at *
  split
  · obtain ⟨C, E, h1, h2⟩ := h
    exact ⟨C, E, hw.trans h1, h2⟩
  · obtain ⟨h1, h2, h3⟩ := h
    refine ⟨Nat.lt_of_lt_of_le h1 hs, h2, fun i v hv => ?_⟩
    obtain ⟨v', hc, hr⟩ := h3 i v hv
    refine ⟨v', ?_, hr⟩
    rw [← hc]
    simp only [World.cell?, hw]
  · obtain ⟨es', h1, h2⟩ := h
    exact ⟨es', hw.trans h1, h2⟩
theorem BlkR.lt {P : Program} {ι : Nat → Emb} {n : Nat} {w : World} {b : Nat} {k : Blk} (h : BlkR P ι n w b k) : (ι b).g < w.heap.size := by
  have key : ∀ o : Obj, w.heap[(ι b).g]? = some o → (ι b).g < w.heap.size := fun o ho => by
    rcases Nat.lt_or_ge (ι b).g w.heap.size with h | h
    · exact h
    · rw [Array.getElem?_eq_none h] at ho; cases ho
  unfold BlkR at h
  split at h
  · obtain ⟨C, E, h1, _⟩ := h; exact key _ h1
  · exact h.1
  · obtain ⟨es', h1, _⟩ := h; exact key _ h1
theorem BlkR.mono {P : Program} {ι ι' : Nat → Emb} {n n' : Nat} {w : World} {b : Nat} {k : Blk} (h : BlkR P ι n w b k) (hn : n ≤ n') (he : ∀ b, b < n → ι' b = ι b) (hb : ι' b = ι b) :
    BlkR P ι' n' w b k := by
  unfold BlkR at *
  rw [hb]
  split
  · obtain ⟨C, E, h1, h2, h3, h4, h5⟩ := h
    exact ⟨C, E, h1, h2, h3, h4, fun i v hv => let ⟨v', a, r⟩ := h5 i v hv; ⟨v', a, r.mono hn he⟩⟩
  · obtain ⟨h1, h2, h3⟩ := h
    exact ⟨h1, h2, fun i v hv => let ⟨v', a, r⟩ := h3 i v hv; ⟨v', a, r.mono hn he⟩⟩
  · obtain ⟨es', h1, h2, h3⟩ := h
    exact ⟨es', h1, h2, fun i e e' a b => let ⟨p, q, r⟩ := h3 i e e' a b; ⟨p.mono hn he, q.mono hn he, r⟩⟩
theorem Rel.drew {P : Program} {E : Env} {ι : Nat → Emb} {h : H} {w : World} (r : Rel P E ι h w) (k : Nat) : Rel P E ι h { w with drawn := k } :=
  ⟨r.dom, fun b k hb => (r.blk b k hb).congr rfl (Nat.le_refl _), r.inj, r.ng, r.glob, r.globB, fun g k hg hk => ⟨(r.globO g k hg hk).1, (r.globO g k hg hk).2.congr rfl (Nat.le_refl _)⟩⟩
/-- A cell that the abstract heap has. -/
theorem Rel.cell {P : Program} {E : Env} {ι : Nat → Emb} {h : H} {w : World} (r : Rel P E ι h w) {b o : Nat} {v : Value} (hc : h.cell b o = some v) :
    ∃ v', w.cell? ⟨(ι b).g, (ι b).base + o, none⟩ = some v' ∧ VR ι h.nx v v' := by
  unfold H.cell at hc
  split at hc
  · rename_i c e own hb
    have hR := r.blk b _ hb
    cases own with
    | true =>
      obtain ⟨C, E, h1, _, _, _, h5⟩ := hR
      obtain ⟨v', hv', hr⟩ := h5 o v hc
      exact ⟨v', by simp [World.cell?, h1, hv'], hr⟩
    | false => exact hR.2.2 o v hc
  · cases hc
theorem Rel.rd {P : Program} {E : Env} {ι : Nat → Emb} {h : H} {w : World} (r : Rel P E ι h w) {b o n : Nat} {l : List Value} (hc : h.rd b o n = some l) :
    l.length = n ∧ ∃ l', LR ι h.nx l l' ∧ ∀ j v, l'[j]? = some v → w.cell? ⟨(ι b).g, (ι b).base + o + j, none⟩ = some v := by
  unfold H.rd at hc
  split at hc
  · rename_i c e own hb
    split at hc
    · rename_i hle
      cases hc
      have hlen : ((c.drop o).take n).length = n := by simp; omega
      refine ⟨hlen, ?_⟩
      have hcell : ∀ j, j < n → ∃ v', w.cell? ⟨(ι b).g, (ι b).base + (o + j), none⟩ = some v' ∧ VR ι h.nx (c.getD (o + j) Go.undef) v' := by
        intro j hj
        have hlt : o + j < c.length := by omega
        refine r.cell ?_
        simp [H.cell, hb, List.getD, hlt]
      have hex : ∃ f : Nat → Value, ∀ j, j < n → w.cell? ⟨(ι b).g, (ι b).base + (o + j), none⟩ = some (f j) ∧ VR ι h.nx (c.getD (o + j) Go.undef) (f j) := by
        refine ⟨fun j => if hj : j < n then (hcell j hj).choose else Go.undef, fun j hj => ?_⟩
        simp only [hj, dif_pos]
        exact (hcell j hj).choose_spec
      obtain ⟨f, hf⟩ := hex
      refine ⟨(List.range n).map f, ⟨by simp; omega, fun i v v' hv hv' => ?_⟩, fun j v hv => ?_⟩
      · simp only [List.getElem?_map] at hv'
        have hi : i < n := by
          rcases Nat.lt_or_ge i n with h | h
          · exact h
          · rw [List.getElem?_eq_none (by simpa using h)] at hv'; cases hv'
        rw [List.getElem?_range hi] at hv'
        simp at hv'
        subst hv'
        have := (hf i hi).2
        rw [List.getElem?_take_of_lt hi, List.getElem?_drop] at hv
        simpa [List.getD, hv] using this
      · simp only [List.getElem?_map] at hv
        have hi : j < n := by
          rcases Nat.lt_or_ge j n with h | h
          · exact h
          · rw [List.getElem?_eq_none (by simpa using h)] at hv; cases hv
        rw [List.getElem?_range hi] at hv
        simp at hv
        subst hv
        have := (hf j hi).1
        rw [Nat.add_assoc]
        exact this
    · cases hc
  · cases hc
end Go.AM
namespace Go.AM
section
variable {P : Program} {E : Env} {ι : Nat → Emb} {h : H} {w : World}
/-- A new block. -/
def Emb.new (ι : Nat → Emb) (n : Nat) (e : Emb) : Nat → Emb := fun b => if b = n then e else ι b
theorem Emb.new_at (ι : Nat → Emb) (n : Nat) (e : Emb) : Emb.new ι n e n = e := by simp [Emb.new]
theorem Emb.new_lt (ι : Nat → Emb) (n : Nat) (e : Emb) {b : Nat} (hb : b < n) : Emb.new ι n e b = ι b := by simp [Emb.new, Nat.ne_of_lt hb]
theorem heap_push_lt (w : World) (o : Obj) {k : Nat} (hk : k < w.heap.size) : (w.alloc o).heap[k]? = w.heap[k]? := by
  show (w.heap.push o)[k]? = _
  rw [Array.getElem?_push, if_neg (by omega)]
theorem heap_push_at (w : World) (o : Obj) : (w.alloc o).heap[w.heap.size]? = some o := by
  show (w.heap.push o)[w.heap.size]? = _
  rw [Array.getElem?_push, if_pos rfl]
theorem heap_push_size (w : World) (o : Obj) : (w.alloc o).heap.size = w.heap.size + 1 := by
  show (w.heap.push o).size = _
  simp
/-- A new block of whatever kind. -/
theorem Rel.alloc (r : Rel P E ι h w) (k : Blk) (o : Obj) (e : Emb) (he : e.g = w.heap.size)
    (hb : BlkR P (Emb.new ι h.nx e) (h.nx + 1) (w.alloc o) h.nx k) :
    Tr ι h w (Emb.new ι h.nx e) (h.new k) (w.alloc o) ∧ Rel P E (Emb.new ι h.nx e) (h.new k) (w.alloc o) := by
  have hlt : ∀ {b}, b < h.nx → Emb.new ι h.nx e b = ι b := fun hb => Emb.new_lt ι _ e hb
  have hsz : w.heap.size ≤ (w.alloc o).heap.size := by rw [heap_push_size]; omega
  have hold : ∀ b k', h.blk b = some k' → (ι b).g < w.heap.size := fun b k' hb => (r.blk b k' hb).lt
  refine ⟨⟨by simp [H.new], fun b hb => hlt hb, rfl, rfl, rfl, hsz, fun g hg _ => heap_push_lt w o hg, fun b k' hb' ho => ?_⟩, ⟨?_, ?_, ?_, ?_, ?_, ?_, ?_⟩⟩
  · simp only [H.new] at hb'
    split at hb'
    · rename_i hbn
      subst hbn
      exact .inr (by rw [Emb.new_at, he]; exact Nat.le_refl _)
    · exact .inl ⟨b, k', hb', ho, by rw [hlt (r.dom b k' hb')]⟩
  · intro b k' hb'
    simp only [H.new] at hb' ⊢
    split at hb'
    · omega
    · have := r.dom b k' hb'; omega
  · intro b k' hb'
    simp only [H.new] at hb' ⊢
    split at hb'
    · rename_i hbn; subst hbn; cases hb'; exact hb
    · have hbl := r.dom b k' hb'
      have h1 := (r.blk b k' hb').mono (Nat.le_succ h.nx) (fun b hb => hlt hb) (hlt hbl)
      exact h1.congr (by rw [hlt hbl]; exact heap_push_lt w o (hold b k' hb')) hsz
  · intro b b' k1 k2 h1 h2 hne ho
    simp only [H.new] at h1 h2
    split at h1 <;> split at h2
    · omega
    · rename_i e1 e2
      subst e1
      rw [Emb.new_at, hlt (r.dom b' k2 h2), he]
      exact Nat.ne_of_gt (hold b' k2 h2)
    · rename_i e1 e2
      subst e2
      rw [Emb.new_at, hlt (r.dom b k1 h1), he]
      exact Nat.ne_of_lt (hold b k1 h1)
    · rw [hlt (r.dom b k1 h1), hlt (r.dom b' k2 h2)]
      exact r.inj b b' k1 k2 h1 h2 hne ho
  · simp only [H.new]; exact Nat.le_succ_of_le r.ng
  · intro g hg
    rw [hlt (Nat.lt_of_lt_of_le hg r.ng)]
    exact r.glob g hg
  · intro g hg
    simp only [H.new]
    rw [if_neg (by have := r.ng; omega)]
    exact r.globB g hg
  · intro g k' hg hk'
    obtain ⟨h1, h2⟩ := r.globO g k' hg hk'
    have hgl := Nat.lt_of_lt_of_le hg r.ng
    refine ⟨h1, ?_⟩
    have h3 := h2.mono (Nat.le_refl _) (fun b hb => hlt (Nat.lt_of_lt_of_le hb r.ng)) (hlt hgl)
    exact h3.congr (by rw [hlt hgl]; exact heap_push_lt w o h2.lt) hsz
/-- A new row: each cell stands for one. -/
theorem Rel.row (r : Rel P E ι h w) (c : List Value) (C : Array Value) (t T : TypeId) (s : Nat) (hs : size? P t = some s) (hl : c.length ≤ C.size)
    (hv : ∀ (i : Nat) (v : Value), c[i]? = some v → ∃ v', C[i]? = some v' ∧ VR ι h.nx v v') :
    ∃ ι', Tr ι h w ι' (h.new (.row c t true)) (w.alloc (.cells C T (0, 0))) ∧ Rel P E ι' (h.new (.row c t true)) (w.alloc (.cells C T (0, 0))) ∧
      ι' h.nx = ⟨w.heap.size, 0, C.size, s⟩ := by
  refine ⟨Emb.new ι h.nx ⟨w.heap.size, 0, C.size, s⟩, ?_⟩
  have := r.alloc (.row c t true) (.cells C T (0, 0)) ⟨w.heap.size, 0, C.size, s⟩ rfl ?_
  · exact ⟨this.1, this.2, Emb.new_at _ _ _⟩
  · refine ⟨C, T, ?_, ?_, ?_, ?_, ?_⟩
    · rw [Emb.new_at]; exact heap_push_at w _
    · rw [Emb.new_at]; exact hs
    · rw [Emb.new_at]; exact hl
    · rw [Emb.new_at]; simp
    · intro i v hi
      obtain ⟨v', h1, h2⟩ := hv i v hi
      exact ⟨v', by rw [Emb.new_at]; simpa using h1, h2.mono (Nat.le_succ _) (fun b hb => Emb.new_lt _ _ _ hb)⟩
/-- One block of one's own is laid anew in its place; another block id may stand for it from now on. -/
theorem Rel.upd (r : Rel P E ι h w) {b : Nat} {k : Blk} (hb : h.blk b = some k) (ho : k.own = true) (h' : H) (ι' : Nat → Emb) (w' : World) (b' : Nat) (k' : Blk)
    (hh : ∀ i, h'.blk i = if i = b' then some k' else if i = b then none else h.blk i) (hn : h.nx ≤ h'.nx) (hb' : b' < h'.nx) (hbb : b' = b ∨ h.nx ≤ b')
    (hι : ∀ i, i < h.nx → ι' i = ι i) (hg : (ι' b').g = (ι b).g) (hsz : w'.heap.size = w.heap.size) (hw : ∀ g, g ≠ (ι b).g → w'.heap[g]? = w.heap[g]?)
    (hos : w'.os = w.os) (htp : w'.tape = w.tape) (hout : w'.output = w.output) (hR : BlkR P ι' h'.nx w' b' k') :
    Tr ι h w ι' h' w' ∧ Rel P E ι' h' w' := by
  have hbl := r.dom b k hb
  have hother : ∀ i j, h'.blk i = some j → i ≠ b' → i ≠ b ∧ h.blk i = some j := by
    intro i j hi hne
    rw [hh, if_neg hne] at hi
    split at hi
    · cases hi
    · exact ⟨by assumption, hi⟩
  have hgne : ∀ i j, h.blk i = some j → i ≠ b → (ι i).g ≠ (ι b).g := fun i j hi hne he => r.inj b i k j hb hi (Ne.symm hne) ho he.symm
  have hnown : ∀ g k2, g < E.NG → E.G g = some k2 → g ≠ b := by
    intro g k2 hgl hG he
    subst he
    have h1 := r.globB g hgl
    rw [hG, hb] at h1
    cases h1
    rw [(r.globO g k hgl hG).1] at ho
    cases ho
  refine ⟨⟨hn, hι, hos, htp, hout, Nat.le_of_eq hsz.symm, fun g hgl hno => hw g fun he => hno b k hb ho he.symm, fun i j hi hjo => ?_⟩, ⟨?_, ?_, ?_, ?_, ?_, ?_, ?_⟩⟩
  · by_cases hib : i = b'
    · subst hib; exact .inl ⟨b, k, hb, ho, hg.symm⟩
    · obtain ⟨h1, h2⟩ := hother i j hi hib
      exact .inl ⟨i, j, h2, hjo, by rw [hι i (r.dom i j h2)]⟩
  · intro i j hi
    by_cases hib : i = b'
    · subst hib; exact hb'
    · exact Nat.lt_of_lt_of_le (r.dom i j (hother i j hi hib).2) hn
  · intro i j hi
    by_cases hib : i = b'
    · subst hib
      rw [hh, if_pos rfl] at hi
      cases hi
      exact hR
    · obtain ⟨h1, h2⟩ := hother i j hi hib
      have hil := r.dom i j h2
      exact ((r.blk i j h2).mono hn hι (hι i hil)).congr (by rw [hι i hil]; exact hw _ (hgne i j h2 h1)) (Nat.le_of_eq hsz.symm)
  · intro i i2 j j2 hi hi2 hne hjo
    by_cases e1 : i = b' <;> by_cases e2 : i2 = b'
    · omega
    · subst e1
      obtain ⟨h1, h2⟩ := hother i2 j2 hi2 e2
      rw [hg, hι i2 (r.dom i2 j2 h2)]
      exact (hgne i2 j2 h2 h1).symm
    · subst e2
      obtain ⟨h1, h2⟩ := hother i j hi e1
      rw [hg, hι i (r.dom i j h2)]
      exact hgne i j h2 h1
    · obtain ⟨h1, h2⟩ := hother i j hi e1
      obtain ⟨h3, h4⟩ := hother i2 j2 hi2 e2
      rw [hι i (r.dom i j h2), hι i2 (r.dom i2 j2 h4)]
      exact r.inj i i2 j j2 h2 h4 hne hjo
  · exact Nat.le_trans r.ng hn
  · intro g hgl
    rw [hι g (Nat.lt_of_lt_of_le hgl r.ng)]
    exact r.glob g hgl
  · intro g hgl
    have hgn := Nat.lt_of_lt_of_le hgl r.ng
    cases hG : E.G g with
    | none =>
      have h1 := r.globB g hgl
      rw [hG] at h1
      rw [hh]
      have h2 : g ≠ b := fun e => by subst e; rw [h1] at hb; cases hb
      rw [if_neg (by rcases hbb with e | e <;> omega), if_neg h2, h1]
    | some k2 =>
      have h2 := hnown g k2 hgl hG
      rw [hh, if_neg (by rcases hbb with e | e <;> omega), if_neg h2, r.globB g hgl, hG]
  · intro g k2 hgl hG
    obtain ⟨h1, h2⟩ := r.globO g k2 hgl hG
    have hgn := Nat.lt_of_lt_of_le hgl r.ng
    refine ⟨h1, ?_⟩
    have h3 := h2.mono (Nat.le_refl _) (fun i hi => hι i (Nat.lt_of_lt_of_le hi r.ng)) (hι g hgn)
    refine h3.congr ?_ (Nat.le_of_eq hsz.symm)
    rw [hι g hgn]
    have h4 := r.globB g hgl
    rw [hG] at h4
    exact hw _ (hgne g k2 h4 (hnown g k2 hgl hG))
theorem setRow_size (w : World) (g : Nat) (cs : Array Value) : (w.setRow g cs).heap.size = w.heap.size := by simp [World.setRow]
/-- A row of one's own is written. -/
theorem Rel.set (r : Rel P E ι h w) {b : Nat} {c c' : List Value} {e : TypeId} (hb : h.blk b = some (.row c e true)) {C : Array Value} {T : TypeId}
    (hC : w.heap[(ι b).g]? = some (.cells C T (0, 0))) (C' : Array Value) (hsz : C'.size = C.size) (hl : c'.length ≤ (ι b).lim)
    (hv : ∀ (i : Nat) (v : Value), c'[i]? = some v → ∃ v', C'[(ι b).base + i]? = some v' ∧ VR ι h.nx v v') :
    Tr ι h w ι (h.set b (.row c' e true)) (w.setRow (ι b).g C') ∧ Rel P E ι (h.set b (.row c' e true)) (w.setRow (ι b).g C') := by
  have hR := r.blk b _ hb
  obtain ⟨C0, T0, h1, h2, h3, h4, h5⟩ := hR
  rw [hC] at h1
  cases h1
  refine r.upd hb rfl _ ι _ b (.row c' e true) (fun i => ?_) (Nat.le_refl _) (r.dom b _ hb) (.inl rfl) (fun _ _ => rfl) rfl (setRow_size _ _ _) (fun g hg => setRow_other w _ _ _ hg) rfl rfl rfl ?_
  · simp only [H.set]
    split <;> rfl
  · refine ⟨C', T, setRow_heap w _ _ _ _ _ hC, h2, hl, by rw [hsz]; exact h4, fun i v hi => ?_⟩
    exact hv i v hi
end
end Go.AM
namespace Go.AM
section
variable {P : Program}
theorem run_sizeOf' {t : TypeId} {n : Nat} (h : size? P t = some n) (w : World) : (sizeOf t).run P w = .ok n w := by
  unfold size? at h
  cases hi : P.info? t with
  | none => rw [hi] at h; cases h
  | some i => rw [hi] at h; simp at h; simp [sizeOf, typeInfo, hi, h]
theorem run_typeInfo {t : TypeId} {i : TypeInfo} (h : P.info? t = some i) (w : World) : (typeInfo t).run P w = .ok i w := by
  simp [typeInfo, h]
theorem run_zero {t : TypeId} {z : Value} (h : zero? P t = some z) (w : World) : (zeroValue t).run P w = .ok z w := by
  unfold zero? at h
  cases hi : P.info? t with
  | none => rw [hi] at h; cases h
  | some i =>
    rw [hi] at h
    simp only [Option.bind_some] at h
    cases hz : i.zero with
    | none => rw [hz] at h; cases h
    | some z' =>
      rw [hz] at h
      simp only [Option.bind_some] at h
      split at h
      · cases h; simp [zeroValue, typeInfo, hi, hz]
      · cases h
theorem closedV_rel {ι : Nat → Emb} {n : Nat} : ∀ (d : Nat) (v : Value), closedV d v = true → VR ι n v v := by
  intro d
  induction d with
  | zero =>
    intro v h
    unfold closedV at h
    split at h <;> first | (cases h; done) | (exfalso; omega) | constructor
  | succ d ih =>
    intro v h
    unfold closedV at h
    split at h
    case h_9 =>
      rename_i cs _ e
      cases e
      exact .agg rfl fun i v v' hv hv' => by
        rw [hv] at hv'; cases hv'
        exact ih v (List.all_eq_true.1 h v (by simpa using Array.mem_of_getElem? hv))
    case h_10 =>
      rename_i cs _ e
      cases e
      exact .tuple rfl fun i v v' hv hv' => by
        rw [hv] at hv'; cases hv'
        exact ih v (List.all_eq_true.1 h v (by simpa using Array.mem_of_getElem? hv))
    all_goals first | (cases h; done) | constructor
theorem zero_rel {ι : Nat → Emb} {n : Nat} {t : TypeId} {z : Value} (h : zero? P t = some z) : VR ι n z z := by
  unfold zero? at h
  cases hi : P.info? t with
  | none => rw [hi] at h; cases h
  | some i =>
    rw [hi] at h
    simp only [Option.bind_some] at h
    cases hz : i.zero with
    | none => rw [hz] at h; cases h
    | some z' =>
      rw [hz] at h
      simp only [Option.bind_some] at h
      split at h
      · rename_i hc; cases h; exact closedV_rel 5 _ hc
      · cases h
theorem run_isAgg' {t : TypeId} {g : Bool} (h : aggT P t = some g) (w : World) : (isAgg t).run P w = .ok g w := by
  unfold aggT at h
  cases hu : P.underlying t with
  | none => rw [hu] at h; cases h
  | some d =>
    rw [hu] at h
    simp only [Option.map_some, Option.some.injEq] at h
    simp only [isAgg, Sem.run_bind, run_underlying hu, Result.andThen_ok]
    subst h
    cases d <;> rfl
theorem addr_add (b o k : Nat) : (⟨b, o, none⟩ : Addr).add k = ⟨b, o + k, none⟩ := by
  unfold Addr.add
  split
  · rename_i h; subst h; rfl
  · rfl
theorem bind_some {α β : Type} {x : Option α} {f : α → Option β} {b : β} (h : x.bind f = some b) : ∃ a, x = some a ∧ f a = some b := by
  cases x with
  | none => cases h
  | some a => exact ⟨a, rfl, h⟩
theorem map_some {α β : Type} {x : Option α} {f : α → β} {b : β} (h : x.map f = some b) : ∃ a, x = some a ∧ f a = b := by
  cases x with
  | none => cases h
  | some a => exact ⟨a, rfl, by simpa using h⟩
variable {E : Env} {ι : Nat → Emb} {h : H} {w : World}
theorem load_run (r : Rel P E ι h w) {t : TypeId} {x x' v : Value} (hx : VR ι h.nx x x') (hl : load P t x h = some v) :
    ∃ v', (Instr.loadAt t x').run P w = .ok v' w ∧ VR ι h.nx v v' := by
  unfold load at hl
  split at hl
  · rename_i b o
    cases hx
    simp only [Instr.loadAt, Instr.sureAddr, Sem.run_bind, Sem.run_pure, Result.andThen_ok, loadVar]
    cases ha : aggT P t with
    | none => rw [ha] at hl; cases hl
    | some g =>
      rw [ha] at hl
      simp only [run_isAgg' ha, Result.andThen_ok]
      cases g with
      | true =>
        obtain ⟨n, hn, hl⟩ := bind_some hl
        obtain ⟨l, hr, rfl⟩ := map_some hl
        obtain ⟨h1, l', h2, h3⟩ := r.rd hr
        simp only [if_true, Sem.run_bind, run_sizeOf' hn, Result.andThen_ok]
        have hrun := run_loadCells_list (P := P) w ⟨(ι b).g, (ι b).base + o, none⟩ l' (fun j v hv => by rw [addr_add]; exact h3 j v hv)
        rw [← h2.1, h1] at hrun
        simp only [hrun, Result.andThen_ok, Sem.run_pure]
        exact ⟨_, rfl, .agg h2.toArray.1 h2.toArray.2⟩
      | false =>
        obtain ⟨v', h1, h2⟩ := r.cell hl
        simp only [Bool.false_eq_true, if_false, run_load, h1]
        exact ⟨v', rfl, h2⟩
  · cases hl
theorem part_run {t : TypeId} {n : Nat} {cs cs' : Array Value} (hc : AR ι n cs cs') {off : Nat} {v : Value} (hl : part P t cs off = some v) :
    ∃ v', (∀ w, (Go.part t cs' off).run P w = .ok v' w) ∧ VR ι n v v' := by
  unfold part at hl
  cases ha : aggT P t with
  | none => rw [ha] at hl; cases hl
  | some g =>
    rw [ha] at hl
    cases g with
    | true =>
      obtain ⟨k, hk, rfl⟩ := map_some hl
      refine ⟨.agg (cs'.extract off (off + k)), fun w => ?_, .agg ?_ ?_⟩
      · simp only [Go.part, Sem.run_bind, run_isAgg' ha, Result.andThen_ok, if_true, run_sizeOf' hk, Sem.run_pure]
      · simp [hc.1]
      · intro i v v' hv hv'
        rw [Array.getElem?_extract] at hv hv'
        split at hv
        · split at hv'
          · exact hc.2 _ v v' hv hv'
          · cases hv'
        · cases hv
    | false =>
      simp only at hl
      obtain ⟨v', h1, h2⟩ := hc.get hl
      refine ⟨v', fun w => ?_, h2⟩
      simp only [Go.part, Sem.run_bind, run_isAgg' ha, Result.andThen_ok, Bool.false_eq_true, if_false, h1, Sem.run_pure]
theorem fieldAddr_run {n : Nat} {s : TypeId} {x x' v : Value} {f : Nat} (hx : VR ι n x x') (hl : fieldAddr P s x f = some v) (w : World) :
    ∃ v', (Instr.fieldAt s x' f).run P w = .ok v' w ∧ VR ι n v v' := by
  unfold fieldAddr at hl
  split at hl
  · rename_i fs b o hu
    obtain ⟨f', hf, hl⟩ := bind_some hl
    obtain ⟨k, hk, hl⟩ := bind_some hl
    split at hl
    · cases hl
    · rename_i hk0
      cases hl
      cases hx
      rename_i hb
      refine ⟨_, ?_, .ptr hb⟩
      simp only [Instr.fieldAt, Sem.run_bind, run_underlying hu, Result.andThen_ok, hf, Instr.sureAddr, Sem.run_pure, fieldPlace, run_sizeOf' hk, hk0, if_false, addr_add,
        Nat.add_assoc]
  · cases hl
theorem field_run {n : Nat} {t : TypeId} {x x' v : Value} {f : Nat} (hx : VR ι n x x') (hl : field P t x f = some v) (w : World) :
    ∃ v', (Instr.field t x' f).run P w = .ok v' w ∧ VR ι n v v' := by
  unfold field at hl
  split at hl
  · rename_i fs cs hu
    obtain ⟨f', hf, hl⟩ := bind_some hl
    cases hx
    rename_i xs' h1 h2
    obtain ⟨v', hr, hv⟩ := part_run (P := P) (ι := ι) (n := n) (cs := cs) (cs' := xs') ⟨h1, h2⟩ hl
    refine ⟨v', ?_, hv⟩
    simp only [Instr.field, Sem.run_bind, run_underlying hu, Result.andThen_ok, hf, asAgg, Sem.run_pure, hr]
  · cases hl
theorem indexAddr_run {n : Nat} {t : TypeId} {x x' i i' v : Value} (hx : VR ι n x x') (hi : VR ι n i i') (hl : indexAddr P t x i = some v) (w : World) :
    ∃ v', (Instr.indexAt t x' i').run P w = .ok v' w ∧ VR ι n v v' := by
  unfold indexAddr at hl
  split at hl
  · rename_i e b o l c k j hu
    split at hl
    · rename_i hj
      obtain ⟨s, hs, rfl⟩ := map_some hl
      cases hi
      cases hx with
      | sl hb hc hk hlim =>
        refine ⟨_, ?_, .ptr hb⟩
        simp only [Instr.indexAt, asIntOf, Sem.run_bind, Sem.run_pure, run_underlying hu, Result.andThen_ok]
        rw [if_pos (by exact hj)]
        simp only [Sem.run_bind, run_sizeOf' hs, Result.andThen_ok, Sem.run_pure, addr_add, Nat.add_assoc]
      | sl0 hb hc => simp at hj; omega
    · cases hl
  · rename_i m e b o k j hu
    split at hl
    · rename_i hj
      obtain ⟨s, hs, rfl⟩ := map_some hl
      cases hi
      cases hx with
      | ptr hb =>
        refine ⟨_, ?_, .ptr hb⟩
        simp only [Instr.indexAt, asIntOf, Sem.run_bind, Sem.run_pure, run_underlying hu, Result.andThen_ok, Instr.sureAddr]
        rw [if_pos (by exact hj)]
        simp only [Sem.run_bind, run_sizeOf' hs, Result.andThen_ok, Sem.run_pure, addr_add, Nat.add_assoc]
    · cases hl
  · cases hl
theorem index_run {n : Nat} {t : TypeId} {x x' i i' v : Value} (hx : VR ι n x x') (hi : VR ι n i i') (hl : index P t x i = some v) (w : World) :
    ∃ v', (Instr.index t x' i').run P w = .ok v' w ∧ VR ι n v v' := by
  unfold index at hl
  split at hl
  · rename_i m e cs k j hu
    split at hl
    · rename_i hj
      obtain ⟨s, hs, hl⟩ := bind_some hl
      cases hi
      cases hx
      rename_i xs' h1 h2
      obtain ⟨v', hr, hv⟩ := part_run (P := P) (ι := ι) (n := n) (cs := cs) (cs' := xs') ⟨h1, h2⟩ hl
      refine ⟨v', ?_, hv⟩
      simp only [Instr.index, asIntOf, Sem.run_bind, Sem.run_pure, run_underlying hu, Result.andThen_ok]
      rw [if_pos (by exact hj)]
      simp only [Sem.run_bind, run_sizeOf' hs, Result.andThen_ok, hr]
    · cases hl
  · cases hl
theorem convert_run {n : Nat} {s d : TypeId} {x x' v : Value} (hx : VR ι n x x') (hl : convert P s d x = some v) (w : World) :
    ∃ v', (Go.convert s d x').run P w = .ok v' w ∧ VR ι n v v' := by
  unfold convert at hl
  split at hl
  · rename_i u k k' m h1 h2
    cases hl
    cases hx
    refine ⟨_, ?_, .int _ _⟩
    simp only [Go.convert, Sem.run_bind, run_underlying h1, run_underlying h2, Result.andThen_ok, Conv.intToInt, Sem.run_pure]
  · cases hl
theorem unOp_run {n : Nat} {op : UnOp} {x x' v : Value} (hx : VR ι n x x') (hl : unOp op x = some v) (w : World) :
    ∃ v', (Op.unary op x').run P w = .ok v' w ∧ VR ι n v v' := by
  unfold unOp at hl
  split at hl
  · cases hl; cases hx; exact ⟨_, by simp [Op.unary, Op.intArith], .int _ _⟩
  · rename_i k m
    cases hx
    simp only [intBin] at hl
    cases hl
    exact ⟨_, by simp [Op.unary, Op.intBits], .int _ _⟩
  · cases hl; cases hx; exact ⟨_, by simp [Op.unary], .bool _⟩
  · cases hl
theorem intBin_run {op : BinOp} {k : IntKind} {a b : Int} {v : Value} (hl : intBin op k a b = some v) (w : World) {T : TypeId} :
    (Go.binOp op T (.int k a) (.int k b)).run P w = .ok v w ∧ ∀ n, VR ι n v v := by
  cases op <;> simp only [intBin] at hl
  case quo =>
    split at hl
    · cases hl
    · cases hl; rename_i hb; exact ⟨by simp [Go.binOp, Op.intDiv, hb], fun n => .int _ _⟩
  case rem =>
    split at hl
    · cases hl
    · cases hl; rename_i hb; exact ⟨by simp [Go.binOp, Op.intDiv, hb], fun n => .int _ _⟩
  all_goals first
    | (cases hl; done)
    | (cases hl; exact ⟨by simp [Go.binOp, Op.intArith, Op.intBits, Op.intCmp], fun n => by first | exact .int _ _ | exact .bool _⟩)
end
end Go.AM
namespace Go.AM
section
variable {P : Program} {ι : Nat → Emb} {n : Nat}
/-- The fields of two structs, one after the other. -/
theorem run_eqFields (d : Nat) (w : World) (ih : ∀ (t : TypeId) (x x' y y' : Value) (q : Bool), eqV P d t x y = some q → VR ι n x x' → VR ι n y y' → ∀ D, d ≤ D → (Op.equalIn D t x' y').run P w = .ok q w)
    {xs xs' ys ys' : Array Value} (hx : AR ι n xs xs') (hy : AR ι n ys ys') (D : Nat) (hD : d ≤ D) : ∀ (fs : List Field) (q : Bool),
    fs.foldr (fun f r => if f.name ≠ "_" then
          (part P f.type xs f.offset).bind fun a => (part P f.type ys f.offset).bind fun b =>
            (eqV P d f.type a b).bind fun q => if q then r else some false
        else none) (some true) = some q →
    (forIn fs ((none : Option Bool), PUnit.unit) (fun (f : Field) (_ : Option Bool × PUnit) =>
      if f.name ≠ "_" then do
        let a ← Go.part f.type xs' f.offset
        let b ← Go.part f.type ys' f.offset
        let q ← Op.equalIn D f.type a b
        if (!q) = true then pure (ForInStep.done ((some false : Option Bool), PUnit.unit)) else pure (ForInStep.yield ((none : Option Bool), PUnit.unit))
      else pure (ForInStep.yield ((none : Option Bool), PUnit.unit))) : Sem (Option Bool × PUnit)).run P w = .ok (if q then none else some false, PUnit.unit) w := by
  intro fs
  induction fs with
  | nil => intro q hq; cases hq; rfl
  | cons f fs ihf =>
    intro q hq
    simp only [List.foldr_cons] at hq
    split at hq
    · rename_i hn
      obtain ⟨a, ha, hq⟩ := bind_some hq
      obtain ⟨b, hb, hq⟩ := bind_some hq
      obtain ⟨p, hp, hq⟩ := bind_some hq
      obtain ⟨a', ra, va⟩ := part_run hx ha
      obtain ⟨b', rb, vb⟩ := part_run hy hb
      have hrun := ih f.type a a' b b' p hp va vb D hD
      simp only [List.forIn_cons]
      rw [if_pos hn]
      simp only [Sem.run_bind, ra w, rb w, Result.andThen_ok, hrun]
      cases p with
      | true => simp only [Bool.not_true, Bool.false_eq_true, if_false, Sem.run_pure, Result.andThen_ok]; exact ihf q hq
      | false =>
        have hq' : false = q := by simpa using hq
        subst hq'
        rfl
    · cases hq
theorem run_eqElems (d : Nat) (w : World) (ih : ∀ (t : TypeId) (x x' y y' : Value) (q : Bool), eqV P d t x y = some q → VR ι n x x' → VR ι n y y' → ∀ D, d ≤ D → (Op.equalIn D t x' y').run P w = .ok q w)
    {xs xs' ys ys' : Array Value} (hx : AR ι n xs xs') (hy : AR ι n ys ys') (D : Nat) (hD : d ≤ D) (e : TypeId) (s : Nat) : ∀ (is : List Nat) (q : Bool),
    is.foldr (fun i r =>
          (part P e xs (i * s)).bind fun a => (part P e ys (i * s)).bind fun b =>
            (eqV P d e a b).bind fun q => if q then r else some false) (some true) = some q →
    (forIn is ((none : Option Bool), PUnit.unit) (fun (i : Nat) (_ : Option Bool × PUnit) => do
        let a ← Go.part e xs' (i * s)
        let b ← Go.part e ys' (i * s)
        let q ← Op.equalIn D e a b
        if (!q) = true then pure (ForInStep.done ((some false : Option Bool), PUnit.unit)) else pure (ForInStep.yield ((none : Option Bool), PUnit.unit))) : Sem (Option Bool × PUnit)).run P w
      = .ok (if q then none else some false, PUnit.unit) w := by
  intro is
  induction is with
  | nil => intro q hq; cases hq; rfl
  | cons i is ihf =>
    intro q hq
    simp only [List.foldr_cons] at hq
    obtain ⟨a, ha, hq⟩ := bind_some hq
    obtain ⟨b, hb, hq⟩ := bind_some hq
    obtain ⟨p, hp, hq⟩ := bind_some hq
    obtain ⟨a', ra, va⟩ := part_run hx ha
    obtain ⟨b', rb, vb⟩ := part_run hy hb
    have hrun := ih e a a' b b' p hp va vb D hD
    simp only [List.forIn_cons, Sem.run_bind, ra w, rb w, Result.andThen_ok, hrun]
    cases p with
    | true => simp only [Bool.not_true, Bool.false_eq_true, if_false, Sem.run_pure, Result.andThen_ok]; exact ihf q hq
    | false =>
      have hq' : false = q := by simpa using hq
      subst hq'
      rfl
theorem eqV_run (w : World) : ∀ (d : Nat) (t : TypeId) (x x' y y' : Value) (q : Bool), eqV P d t x y = some q → VR ι n x x' → VR ι n y y' →
    ∀ D, d ≤ D → (Op.equalIn D t x' y').run P w = .ok q w := by
  intro d
  induction d with
  | zero => intro t x x' y y' q h; cases h
  | succ d ih =>
    intro t x x' y y' q hq hx hy D hD
    obtain ⟨D, rfl⟩ : ∃ k, D = k + 1 := ⟨D - 1, by omega⟩
    have hD' : d ≤ D := by omega
    unfold eqV at hq
    split at hq
    · rename_i hu; cases hq; cases hx; cases hy
      simp only [Op.equalIn, Sem.run_bind, run_underlying hu, Result.andThen_ok, Sem.run_pure]
    · rename_i hu
      split at hq
      · cases hq; cases hx; cases hy
        rename_i hk
        simp only [Op.equalIn, Sem.run_bind, run_underlying hu, Result.andThen_ok, hk, if_true, Sem.run_pure]
      · cases hq
    · rename_i fs xs ys hu
      split at hq
      · cases hq
      · rename_i hst
        cases hx with
        | agg h1 h2 =>
          cases hy with
          | agg h3 h4 =>
            have := run_eqFields (P := P) (ι := ι) (n := n) d w ih ⟨h1, h2⟩ ⟨h3, h4⟩ D hD' fs.toList q hq
            simp only [Op.equalIn, Sem.run_bind, run_underlying hu, Result.andThen_ok, run_program, hst, Bool.false_eq_true, if_false]
            rw [← Array.forIn_toList]
            simp only [ne_eq] at this ⊢
            rw [this]
            cases q <;> rfl
    · rename_i len e xs ys hu
      obtain ⟨s, hs, hq⟩ := bind_some hq
      cases hx with
      | agg h1 h2 =>
        cases hy with
        | agg h3 h4 =>
          have := run_eqElems (P := P) (ι := ι) (n := n) d w ih ⟨h1, h2⟩ ⟨h3, h4⟩ D hD' e s (List.range len) q hq
          simp only [Op.equalIn, Sem.run_bind, run_underlying hu, Result.andThen_ok, run_sizeOf' hs]
          simp only [Std.Legacy.Range.forIn_eq_forIn_range', Std.Legacy.Range.size, Nat.sub_zero, Nat.add_one_sub_one, Nat.div_one]
          rw [← List.range_eq_range']
          rw [this]
          cases q <;> rfl
    · rename_i hu; cases hq; cases hx; cases hy <;>
        simp [Op.equalIn, Sem.run_bind, run_underlying hu, Result.andThen_ok, Sem.run_pure]
    · rename_i hu; cases hq; cases hy; cases hx <;>
        simp [Op.equalIn, Sem.run_bind, run_underlying hu, Result.andThen_ok, Sem.run_pure]
    · rename_i hu; cases hq; cases hx; cases hy <;>
        simp [Op.equalIn, Sem.run_bind, run_underlying hu, Result.andThen_ok, Sem.run_pure]
    · rename_i hu; cases hq; cases hy; cases hx <;>
        simp [Op.equalIn, Sem.run_bind, run_underlying hu, Result.andThen_ok, Sem.run_pure]
    · rename_i hu; cases hq; cases hx; cases hy
      simp [Op.equalIn, Sem.run_bind, run_underlying hu, Result.andThen_ok, Sem.run_pure]
    · rename_i hu; cases hq; cases hx; cases hy
      simp [Op.equalIn, Sem.run_bind, run_underlying hu, Result.andThen_ok, Sem.run_pure]
    · rename_i hu; cases hq; cases hx; cases hy
      simp [Op.equalIn, Sem.run_bind, run_underlying hu, Result.andThen_ok, Sem.run_pure]
    · cases hq
theorem equal_run (w : World) {t : TypeId} {x x' y y' : Value} {q : Bool} (hq : eqV P 10 t x y = some q) (hx : VR ι n x x') (hy : VR ι n y y') :
    (Op.equal t x' y').run P w = .ok q w := eqV_run w 10 t x x' y y' q hq hx hy Op.maxDepth (by unfold Op.maxDepth; omega)
end
end Go.AM
namespace Go.AM
section
variable {P : Program} {E : Env} {ι : Nat → Emb} {n : Nat}
theorem eqGuard_run (w : World) {op : BinOp} {t : TypeId} {x x' y y' v : Value} (hb : binOp P op t x y = some v) (hx : VR ι n x x') (hy : VR ι n y y') (ox oy : Operand) :
    (eqGuard op t ox oy x' y').run P w = .ok () w := by
  by_cases ho : op = .eql ∨ op = .neq
  · unfold eqGuard
    rw [if_neg (by rcases ho with rfl | rfl <;> simp)]
    cases hx <;> cases hy <;> try rfl
    · exfalso
      rcases ho with rfl | rfl
      all_goals
        simp only [binOp] at hb
        obtain ⟨q, hq, _⟩ := map_some hb
        unfold eqV at hq
        split at hq <;> simp_all
    · simp only [Sem.run_bind, run_program, Result.andThen_ok]
      simp only [binOp] at hb
      split at hb
      · cases hb
      · rename_i hg
        rw [if_pos (by simpa using hg)]
        rfl
  · cases op <;> first | exact absurd (.inl rfl) ho | exact absurd (.inr rfl) ho | rfl
theorem binOp_run (w : World) {op : BinOp} {t : TypeId} {x x' y y' v : Value} (hb : binOp P op t x y = some v) (hx : VR ι n x x') (hy : VR ι n y y') :
    ∃ v', (Go.binOp op t x' y').run P w = .ok v' w ∧ VR ι n v v' := by
  unfold binOp at hb
  split at hb
  · rename_i k a k' b
    cases hx; cases hy
    split at hb
    · split at hb
      · cases hb
      · rename_i hlt
        cases hb
        exact ⟨_, by simp only [Go.binOp, Op.shift]; rw [if_neg hlt]; rfl, .int _ _⟩
    · split at hb
      · cases hb
      · rename_i hlt
        cases hb
        exact ⟨_, by simp only [Go.binOp, Op.shift]; rw [if_neg hlt]; rfl, .int _ _⟩
    · split at hb
      · rename_i hk
        subst hk
        exact ⟨v, (intBin_run (ι := ι) hb w).1, (intBin_run (ι := ι) (P := P) hb w (T := t)).2 n⟩
      · cases hb
  · rename_i a b
    split at hb
    · cases hb
    · cases hx; cases hy
      rename_i h1 h2 _ h3 h4
      split at hb
      · obtain ⟨q, hq, rfl⟩ := map_some hb
        exact ⟨_, by simp only [Go.binOp, Sem.run_bind, equal_run w hq (.agg h1 h2) (.agg h3 h4), Result.andThen_ok, Sem.run_pure], .bool _⟩
      · obtain ⟨q, hq, rfl⟩ := map_some hb
        exact ⟨_, by simp only [Go.binOp, Sem.run_bind, equal_run w hq (.agg h1 h2) (.agg h3 h4), Result.andThen_ok, Sem.run_pure], .bool _⟩
      · cases hb
  · rename_i hni hna
    split at hb
    · obtain ⟨q, hq, rfl⟩ := map_some hb
      have he := equal_run w hq hx hy
      refine ⟨.bool q, ?_, .bool _⟩
      have : Go.binOp .eql t x' y' = (do pure (.bool (← Op.equal t x' y'))) := by
        cases hx <;> cases hy <;> first | rfl | (exfalso; simp_all [eqV]; done) | (exfalso; unfold eqV at hq; split at hq <;> simp_all; done)
      rw [this]
      simp only [Sem.run_bind, he, Result.andThen_ok, Sem.run_pure]
    · obtain ⟨q, hq, rfl⟩ := map_some hb
      have he := equal_run w hq hx hy
      refine ⟨.bool (!q), ?_, .bool _⟩
      have : Go.binOp .neq t x' y' = (do pure (.bool (!(← Op.equal t x' y')))) := by
        cases hx <;> cases hy <;> first | rfl | (exfalso; simp_all [eqV]; done) | (exfalso; unfold eqV at hq; split at hq <;> simp_all; done)
      rw [this]
      simp only [Sem.run_bind, he, Result.andThen_ok, Sem.run_pure]
    · cases hb
/-- Filling a row's parts. -/
theorem foldl_set (off : Nat) : ∀ (l l' : List Value) (k : Nat) (cs cs' : Array Value), LR ι n l l' → AR ι n cs cs' →
    AR ι n ((l.zipIdx k).foldl (fun cs (cj : Value × Nat) => cs.setIfInBounds (off + cj.2) cj.1) cs) ((l'.zipIdx k).foldl (fun cs (cj : Value × Nat) => cs.setIfInBounds (off + cj.2) cj.1) cs') := by
  intro l
  induction l with
  | nil =>
    intro l' k cs cs' hl hc
    cases l' with
    | nil => exact hc
    | cons a b => exact absurd hl.1 (by simp)
  | cons x l ih =>
    intro l' k cs cs' hl hc
    obtain ⟨x', l', rfl, hx, hl⟩ := hl.uncons
    simp only [List.zipIdx_cons, List.foldl_cons]
    refine ih l' (k + 1) _ _ hl ⟨by simp [hc.1], fun i v v' hv hv' => ?_⟩
    rw [Array.getElem?_setIfInBounds] at hv hv'
    by_cases hi : off + k = i
    · rw [if_pos hi] at hv hv'
      split at hv
      · split at hv'
        · cases hv; cases hv'; exact hx
        · cases hv'
      · cases hv
    · rw [if_neg hi] at hv hv'
      exact hc.2 i v v' hv hv'
theorem fill_rel (place : Nat → Option (Nat × Nat)) (e e' : Operand → Value) : ∀ (l : List (Nat × Operand)) (cs cs' r : Array Value), (∀ p ∈ l, VR ι n (e p.2) (e' p.2)) → AR ι n cs cs' →
    Instr.fill place cs (l.map fun (i, x) => (i, e x)) = some r → ∃ r', Instr.fill place cs' (l.map fun (i, x) => (i, e' x)) = some r' ∧ AR ι n r r' := by
  intro l
  induction l with
  | nil => intro cs cs' r _ hc h; cases h; exact ⟨cs', rfl, hc⟩
  | cons p l ih =>
    intro cs cs' r he hc h
    obtain ⟨i, x⟩ := p
    simp only [List.map_cons, Instr.fill] at h ⊢
    have hx : AR ι n (e x).cells (e' x).cells := (he (i, x) (by simp)).cells
    cases hp : place i with
    | none => rw [hp] at h; cases h
    | some q =>
      obtain ⟨off, size⟩ := q
      rw [hp] at h
      simp only at h ⊢
      split at h
      · cases h
      · rename_i hc1
        rw [if_neg (by rw [← hx.1, ← hc.1]; exact hc1)]
        refine ih _ _ r (fun p hp => he p (by simp [hp])) ?_ h
        have := foldl_set (ι := ι) (n := n) off (e x).cells.toList (e' x).cells.toList 0 cs cs' hx.toList hc
        rw [← Array.foldl_toList, ← Array.foldl_toList]
        simpa [Array.toList_zipIdx] using this
theorem places_run : ∀ (fs : List Field) (ps : List (Nat × Nat)) (w : World), places P fs = some ps →
    (fs.mapM (fun f => do pure (f.offset, ← sizeOf f.type)) : Sem (List (Nat × Nat))).run P w = .ok ps w := by
  intro fs
  induction fs with
  | nil => intro ps w h; cases h; rfl
  | cons f fs ih =>
    intro ps w h
    unfold places at h ih
    simp only [List.mapM_cons] at h ⊢
    obtain ⟨a, ha, h⟩ := bind_some h
    obtain ⟨s, hs, rfl⟩ := map_some ha
    obtain ⟨as_, has, h⟩ := bind_some h
    cases h
    simp only [Sem.run_bind, run_sizeOf' hs, Result.andThen_ok, Sem.run_pure, ih as_ w has]
theorem build_run (w : World) {t : TypeId} (l : List (Nat × Operand)) (e e' : Operand → Value) {v : Value} (he : ∀ p ∈ l, VR ι n (e p.2) (e' p.2))
    (hb : build P t (l.map fun (i, x) => (i, e x)) = some v) : ∃ v', (Instr.build t (l.map fun (i, x) => (i, e' x)).toArray).run P w = .ok v' w ∧ VR ι n v v' := by
  unfold build at hb
  obtain ⟨z, hz, hb⟩ := bind_some hb
  split at hb
  · rename_i fs hu
    obtain ⟨ps, hps, hb⟩ := bind_some hb
    obtain ⟨r, hr, rfl⟩ := map_some hb
    obtain ⟨r', hr', hrr⟩ := fill_rel (ι := ι) (n := n) _ e e' l _ _ r he (VR.cells (zero_rel (ι := ι) (n := n) hz)) hr
    refine ⟨.agg r', ?_, .agg hrr.1 hrr.2⟩
    have hm : (fs.mapM (fun f => do pure (f.offset, ← sizeOf f.type)) : Sem (Array (Nat × Nat))).run P w = .ok ps.toArray w := by
      rw [Array.mapM_eq_mapM_toList]
      simp only [Sem.run_map, places_run fs.toList ps w hps, Result.andThen_ok]
    simp only [Instr.build, Sem.run_bind, run_zero hz, Result.andThen_ok, run_underlying hu, hm]
    have hpl : (fun i : Nat => ps.toArray[i]?) = (fun i : Nat => ps[i]?) := by funext i; simp
    rw [hpl, hr']
    rfl
  · rename_i m e1 hu
    obtain ⟨s, hs, hb⟩ := bind_some hb
    obtain ⟨r, hr, rfl⟩ := map_some hb
    obtain ⟨r', hr', hrr⟩ := fill_rel (ι := ι) (n := n) _ e e' l _ _ r he (VR.cells (zero_rel (ι := ι) (n := n) hz)) hr
    refine ⟨.agg r', ?_, .agg hrr.1 hrr.2⟩
    simp only [Instr.build, Sem.run_bind, run_zero hz, Result.andThen_ok, run_underlying hu, run_sizeOf' hs, hr']
    rfl
  · cases hb
end
end Go.AM
end

section
namespace Go.AM
section
variable {P : Program} {E : Env} {ι : Nat → Emb} {h : H} {w : World}
/-- What an operation on the world comes to. -/
def Out (P : Program) (E : Env) (ι : Nat → Emb) (h : H) (w : World) (s : Sem Value) (v : Value) (h' : H) : Prop :=
  ∃ v' ι' w', s.run P w = .ok v' w' ∧ Tr ι h w ι' h' w' ∧ Rel P E ι' h' w' ∧ VR ι' h'.nx v v'
theorem Out.same (r : Rel P E ι h w) {s : Sem Value} {v v' : Value} (hr : s.run P w = .ok v' w) (hv : VR ι h.nx v v') : Out P E ι h w s v h :=
  ⟨v', ι, w, hr, .refl _ _ _, r, hv⟩
theorem size_of_zero {t : TypeId} {z : Value} (hz : zero? P t = some z) : ∃ s, size? P t = some s := by
  unfold zero? at hz
  cases hi : P.info? t with
  | none => rw [hi] at hz; cases hz
  | some i => exact ⟨i.size, by simp [size?, hi]⟩
theorem size_of_info {t : TypeId} {i : TypeInfo} (hi : P.info? t = some i) : size? P t = some i.size := by simp [size?, hi]
/-- A new row out of a row of values that stand for others. -/
theorem Rel.newRow (r : Rel P E ι h w) {c c' : List Value} (hc : LR ι h.nx c c') (t : TypeId) {s : Nat} (hs : size? P t = some s) :
    ∃ ι', (Go.newRow t c'.toArray).run P w = .ok ⟨w.heap.size, 0, none⟩ (w.alloc (.cells c'.toArray t (0, 0))) ∧
      Tr ι h w ι' (h.new (.row c t true)) (w.alloc (.cells c'.toArray t (0, 0))) ∧ Rel P E ι' (h.new (.row c t true)) (w.alloc (.cells c'.toArray t (0, 0))) ∧
      ι' h.nx = ⟨w.heap.size, 0, c'.length, s⟩ := by
  obtain ⟨ι', h1, h2, h3⟩ := r.row c c'.toArray t t s hs (by simp [hc.1]) (fun i v hv => by
    obtain ⟨v', a, b⟩ := hc.get hv
    exact ⟨v', by simpa using a, b⟩)
  exact ⟨ι', by simp only [Go.newRow, Sem.run_bind, run_newObj, Result.andThen_ok, Sem.run_pure]; rfl, h1, h2, by simpa using h3⟩
theorem alloc_run (r : Rel P E ι h w) {t : TypeId} {v : Value} {h' : H} (ha : alloc P t h = some (v, h')) : Out P E ι h w (Instr.alloc t true (.tuple #[])) v h' := by
  unfold alloc at ha
  obtain ⟨z, hz, ha⟩ := map_some ha
  cases ha
  obtain ⟨s, hs⟩ := size_of_zero hz
  obtain ⟨ι', h1, h2, h3, h4⟩ := r.newRow (VR.cells (zero_rel (ι := ι) (n := h.nx) hz)).toList t hs
  refine ⟨.pointer (some ⟨w.heap.size, 0, none⟩), ι', _, ?_, h2, h3, ?_⟩
  · simp only [Instr.alloc, Sem.run_bind, run_zero hz, Result.andThen_ok, newVar]
    rw [Array.toArray_toList] at h1
    simp only [h1, Result.andThen_ok, Sem.run_pure, Array.toArray_toList]
  · have := VR.ptr (ι := ι') (n := (h.new (.row z.cells.toList t true)).nx) (b := h.nx) (o := 0) (by simp [H.new])
    rw [h4] at this
    exact this
theorem box_run (r : Rel P E ι h w) {t : TypeId} {x x' v : Value} {h' : H} (hx : VR ι h.nx x x') (ha : box P t x h = some (v, h')) : Out P E ι h w (Instr.box t x') v h' := by
  unfold box at ha
  obtain ⟨s, hs, ha⟩ := map_some ha
  cases ha
  obtain ⟨ι', h1, h2, h3, h4⟩ := r.newRow hx.cells.toList t hs
  refine ⟨.pointer (some ⟨w.heap.size, 0, none⟩), ι', _, ?_, h2, h3, ?_⟩
  · simp only [Instr.box, Sem.run_bind, newVar]
    rw [Array.toArray_toList] at h1
    simp only [h1, Result.andThen_ok, Sem.run_pure, Array.toArray_toList]
  · have := VR.ptr (ι := ι') (n := (h.new (.row x.cells.toList t true)).nx) (b := h.nx) (o := 0) (by simp [H.new])
    rw [h4] at this
    exact this
/-- A new slice's value. -/
theorem new_slice {ι' : Nat → Emb} {h' : H} {g lim s l c c' : Nat} (hn : h.nx < h'.nx) (h4 : ι' h.nx = ⟨g, 0, lim, s⟩) (hc : CapR c c') (hk : l ≤ capK c) (hl : c' * s ≤ lim) :
    VR ι' h'.nx (.slice (some ⟨h.nx, 0, none⟩) l c) (.slice (some ⟨g, 0, none⟩) l c') := by
  have := VR.sl (ι := ι') (n := h'.nx) (b := h.nx) (o := 0) (l := l) (c := c) (c' := c') hn hc hk (by rw [h4]; simpa using hl)
  rw [h4] at this
  simpa using this
theorem range0 (f : Nat → Value) : (Array.range 0).map f = #[] := by simp
theorem foldl_set_size (off : Nat) : ∀ (L : List (Value × Nat)) (c : Array Value), (L.foldl (fun cs (cj : Value × Nat) => cs.setIfInBounds (off + cj.2) cj.1) c).size = c.size := by
  intro L
  induction L with
  | nil => intro c; rfl
  | cons q L ih => intro c; simp only [List.foldl_cons]; rw [ih]; simp
theorem fill_size (place : Nat → Option (Nat × Nat)) : ∀ (ps : List (Nat × Value)) (c r : Array Value), Instr.fill place c ps = some r → r.size = c.size := by
  intro ps
  induction ps with
  | nil => intro c r h; cases h; rfl
  | cons p ps ih =>
    intro c r h
    obtain ⟨i, x⟩ := p
    simp only [Instr.fill] at h
    split at h
    · cases h
    · split at h
      · cases h
      · rw [ih _ _ h, ← Array.foldl_toList]
        exact foldl_set_size _ _ _
theorem buildSlice_run (r : Rel P E ι h w) {t : TypeId} {len : Nat} (l : List (Nat × Operand)) (e e' : Operand → Value) {v : Value} {h' : H} (he : ∀ p ∈ l, VR ι h.nx (e p.2) (e' p.2))
    (hb : buildSlice P t len (l.map fun (i, x) => (i, e x)) h = some (v, h')) : Out P E ι h w (Instr.buildSlice t len (l.map fun (i, x) => (i, e' x)).toArray) v h' := by
  unfold buildSlice at hb
  split at hb
  · rename_i el hu
    obtain ⟨s, hs, hb⟩ := bind_some hb
    obtain ⟨z, hz, hb⟩ := bind_some hb
    split at hb
    · rename_i hc
      obtain ⟨cs, hf, hb⟩ := map_some hb
      cases hb
      have hzr := VR.cells (zero_rel (ι := ι) (n := h.nx) hz)
      have hlen : ((Array.range (len * s)).map (z.cells[· % z.cells.size]!)).size = len * s := by simp
      obtain ⟨cs', hf', hr⟩ := fill_rel (ι := ι) (n := h.nx) _ e e' l _ ((Array.range (len * s)).map (z.cells[· % z.cells.size]!)) cs he ⟨by simp, fun i v v' hv hv' => by
        rw [hv] at hv'; cases hv'
        simp only [Array.getElem?_map] at hv
        cases hi : (Array.range (len * s))[i]? with
        | none => rw [hi] at hv; cases hv
        | some j =>
          rw [hi] at hv
          simp only [Option.map_some, Option.some.injEq] at hv
          have hlt : j % z.cells.size < z.cells.size := Nat.mod_lt _ (by omega)
          subst hv
          rw [getElem!_pos z.cells _ hlt]
          exact hzr.2 (j % z.cells.size) _ _ (Array.getElem?_eq_getElem hlt) (Array.getElem?_eq_getElem hlt)⟩ hf
      obtain ⟨ι', h1, h2, h3, h4⟩ := r.newRow hr.toList el hs
      refine ⟨.slice (some ⟨w.heap.size, 0, none⟩) len len, ι', _, ?_, h2, h3, ?_⟩
      · simp only [Instr.buildSlice, Sem.run_bind, run_underlying hu, Result.andThen_ok, run_sizeOf' hs]
        rw [if_neg (by omega)]
        rw [Array.toArray_toList] at h1
        by_cases h0 : len * s = 0
        · rw [if_pos h0]
          rw [h0] at hf'
          simp only [range0] at hf'
          simp only [Sem.run_bind, Sem.run_pure, Result.andThen_ok, h0, range0, hf', h1, Array.toArray_toList]
        · rw [if_neg h0]
          simp only [Sem.run_bind, Sem.run_pure, run_zero hz, Result.andThen_ok, hf', h1, Array.toArray_toList]
      · refine new_slice (by simp [H.new]) h4 ?_ ?_ ?_
        · by_cases hU : len < U
          · exact .inl ⟨hU, rfl⟩
          · exfalso
            have h5 : len * 1 ≤ len * s := Nat.mul_le_mul_left _ hc.2.1
            unfold U at hU
            omega
        · unfold capK
          split
          · exact Nat.le_refl _
          · exfalso
            rename_i hU
            have h5 : len * 1 ≤ len * s := Nat.mul_le_mul_left _ hc.2.1
            unfold U at hU
            omega
        · have := fill_size _ _ _ _ hf'
          simp only [Array.length_toList]
          omega
    · cases hb
  · cases hb
theorem makeSlice_run (r : Rel P E ι h w) {t : TypeId} {a a' b b' v : Value} {h' : H} (ha : VR ι h.nx a a') (hb : VR ι h.nx b b')
    (hm : makeSlice P t a b h = some (v, h')) : Out P E ι h w (Instr.makeSlice t a' b') v h' := by
  unfold makeSlice at hm
  split at hm
  · rename_i e k l k' c hu
    obtain ⟨i, hi, hm⟩ := bind_some hm
    obtain ⟨z, hz, hm⟩ := bind_some hm
    split at hm
    · rename_i hc
      obtain ⟨c1, c2, c3, c4, c5, c6⟩ := hc
      cases hm
      cases ha; cases hb
      have hzr := VR.cells (zero_rel (ι := ι) (n := h.nx) hz)
      have hw1 : IntKind.i64.wrap l = l := by
        have : IntKind.i64.bits = 64 := rfl
        simp only [IntKind.wrap, IntKind.signed, IntKind.bits]
        simp
        omega
      have hw2 : IntKind.i64.wrap c = c := by
        simp only [IntKind.wrap, IntKind.signed, IntKind.bits]
        simp
        omega
      have hLR : LR ι h.nx ((List.range (c.toNat * i.size)).map (z.cells[· % z.cells.size]!)) ((List.range (c.toNat * i.size)).map (z.cells[· % z.cells.size]!)) := by
        refine LR.map _ _ _ fun j _ => ?_
        have hlt : j % z.cells.size < z.cells.size := Nat.mod_lt _ (by omega)
        rw [getElem!_pos z.cells _ hlt]
        exact hzr.2 (j % z.cells.size) _ _ (Array.getElem?_eq_getElem hlt) (Array.getElem?_eq_getElem hlt)
      obtain ⟨ι', h1, h2, h3, h4⟩ := r.newRow hLR e (size_of_info hi)
      refine ⟨.slice (some ⟨w.heap.size, 0, none⟩) l.toNat c.toNat, ι', _, ?_, h2, h3, ?_⟩
      · simp only [Instr.makeSlice, Sem.run_bind, run_underlying hu, Result.andThen_ok, asInt, asIntOf, Sem.run_pure, run_typeInfo hi, hw1, hw2]
        have hby : (i.bytes : Int) * c ≤ 2 ^ 48 := by
          have h1 : (i.bytes : Int) * c ≤ 4096 * c := Int.mul_le_mul_of_nonneg_right (by omega) (by omega)
          omega
        rw [if_neg (by simp; omega)]
        simp only [Sem.run_bind, run_askRoom, Result.andThen_ok, run_sizeOf' (size_of_info hi)]
        by_cases h0 : c.toNat * i.size = 0
        · rw [if_pos h0]
          rw [h0] at h1 ⊢
          simp only [Sem.run_bind, Sem.run_pure, Result.andThen_ok, range0, List.range_zero, List.map_nil] at h1 ⊢
          simp only [h1, Result.andThen_ok]
        · rw [if_neg h0]
          have hmap : ((Array.range (c.toNat * i.size)).map (z.cells[· % z.cells.size]!)) = ((List.range (c.toNat * i.size)).map (z.cells[· % z.cells.size]!)).toArray := by
            apply Array.ext'
            simp
          simp only [Sem.run_bind, Sem.run_pure, run_zero hz, Result.andThen_ok, hmap, h1]
      · refine new_slice (by simp [H.new]) h4 (.inl ⟨by unfold U; omega, rfl⟩) ?_ (by simp)
        unfold capK
        rw [if_pos (by unfold U; omega)]
        omega
    · cases hm
  · cases hm
theorem scal_eq (v : Value) : scal v = v.oneCell' := by cases v <;> rfl
theorem setAt_length (vs : List Value) : ∀ (c : List Value) (o : Nat), (setAt c o vs).length = c.length := by
  induction vs with
  | nil => intro c o; rfl
  | cons v vs ih => intro c o; simp only [setAt]; rw [ih]; simp
theorem setAt_get : ∀ (vs c : List Value) (o i : Nat), o + vs.length ≤ c.length → (setAt c o vs)[i]? = if o ≤ i ∧ i < o + vs.length then vs[i - o]? else c[i]? := by
  intro vs
  induction vs with
  | nil => intro c o i _; simp [setAt]; omega
  | cons v vs ih =>
    intro c o i h
    simp only [List.length_cons] at h
    simp only [setAt, List.length_cons]
    rw [ih (c.set o v) (o + 1) i (by simp; omega)]
    by_cases h1 : i = o
    · subst h1
      rw [if_neg (by omega), if_pos (by omega)]
      rw [List.getElem?_set_self (by omega)]
      simp
    · by_cases h2 : o + 1 ≤ i ∧ i < o + 1 + vs.length
      · rw [if_pos h2, if_pos (by omega)]
        obtain ⟨j, hj⟩ : ∃ j, i - o = j + 1 := ⟨i - o - 1, by omega⟩
        rw [hj, List.getElem?_cons_succ]
        congr 1
        omega
      · rw [if_neg h2, if_neg (by omega)]
        rw [List.getElem?_set_ne (by omega)]
/-- Values are stored side by side into a row of one's own. -/
theorem Rel.stores (r : Rel P E ι h w) {b o : Nat} {c vs vs' : List Value} {e : TypeId} (hb : h.blk b = some (.row c e true)) (hv : LR ι h.nx vs vs') (hl : o + vs.length ≤ c.length)
    (hs : vs.all scal = true) :
    ∃ w', (storeCells ⟨(ι b).g, (ι b).base + o, none⟩ vs' 0).run P w = .ok () w' ∧ Tr ι h w ι (h.set b (.row (setAt c o vs) e true)) w' ∧
      Rel P E ι (h.set b (.row (setAt c o vs) e true)) w' := by
  obtain ⟨C, T, h1, h2, h3, h4, h5⟩ := r.blk b _ hb
  have hs' : ∀ v ∈ vs', v.oneCell' = true := by
    intro v hm
    obtain ⟨i, hi⟩ := List.mem_iff_getElem?.1 hm
    have hi' : i < vs.length := by
      have := hv.1
      rcases Nat.lt_or_ge i vs'.length with h | h
      · omega
      · rw [List.getElem?_eq_none h] at hi; cases hi
    have := hv.2 i vs[i] v (List.getElem?_eq_getElem hi') hi
    rw [← scal_eq, this.scal]
    exact List.all_eq_true.1 hs _ (List.getElem_mem hi')
  have hrun := run_storeCells_at P (ι b).g ((ι b).base + o) T vs' 0 C w h1 (by have := hv.1; omega) hs'
  simp only [Nat.add_zero] at hrun
  refine ⟨_, hrun, ?_⟩
  have hlv := hv.1
  refine r.set hb h1 _ (by simp; omega) (by rw [setAt_length]; exact h3) fun i v hi => ?_
  rw [setAt_get vs c o i hl] at hi
  split at hi
  · rename_i hin
    obtain ⟨v', a, b'⟩ := hv.get hi
    refine ⟨v', ?_, b'⟩
    simp only [List.getElem?_toArray]
    rw [List.getElem?_append_left (by simp; omega), List.getElem?_append_right (by simp; omega)]
    rw [← a]
    congr 1
    simp
    omega
  · rename_i hout
    obtain ⟨v', a, b'⟩ := h5 i v hi
    refine ⟨v', ?_, b'⟩
    simp only [List.getElem?_toArray]
    have hCi : (ι b).base + i < C.size := (Array.getElem?_eq_some_iff.1 a).1
    by_cases hlo : i < o
    · rw [List.getElem?_append_left (by simp; omega), List.getElem?_append_left (by simp; omega), List.getElem?_take_of_lt (by omega)]
      simpa using a
    · rw [List.getElem?_append_right (by simp; omega)]
      rw [List.getElem?_drop]
      simp only [List.length_append, List.length_take, Array.length_toList]
      rw [show (ι b).base + o + vs'.length + ((ι b).base + i - (min ((ι b).base + o) C.size + vs'.length)) = (ι b).base + i by omega]
      simpa using a
theorem store_run (r : Rel P E ι h w) {t : TypeId} {a a' x x' : Value} {h' : H} (ha : VR ι h.nx a a') (hx : VR ι h.nx x x') (hs : store P t a x h = some h') :
    ∃ w', (Instr.storeAt t a' x').run P w = .ok () w' ∧ Tr ι h w ι h' w' ∧ Rel P E ι h' w' := by
  unfold store at hs
  split at hs
  · rename_i b o
    split at hs
    · rename_i c e hb
      split at hs
      · rename_i hc
        cases hs
        cases ha
        obtain ⟨w', h1, h2, h3⟩ := r.stores (P := P) (E := E) hb hx.cells.toList (by simpa using hc.2.1) hc.2.2
        refine ⟨w', ?_, h2, h3⟩
        simp only [Instr.storeAt, Instr.sureAddr, Sem.run_bind, Sem.run_pure, Result.andThen_ok, storeVar, run_sizeOf' hc.1]
        rw [if_neg (by rw [hx.cells.1]; simp)]
        simpa using h1
      · cases hs
    · cases hs
  · cases hs
end
end Go.AM
namespace Go.AM
section
variable {P : Program} {E : Env} {ι : Nat → Emb} {h : H} {w : World}
theorem capK_le {c c' : Nat} (hc : CapR c c') : capK c ≤ c' := by
  unfold capK
  rcases hc with ⟨h1, h2⟩ | ⟨h1, h2⟩
  · rw [if_pos h1]; omega
  · rw [if_neg (by omega)]; exact h2
/-- A bound is a number: it stands for itself. -/
theorem bound_same {n : Nat} {lo : Option Operand} {e e' : Operand → Value} {y d m : Nat} (he : ∀ x, lo = some x → VR ι n (e x) (e' x)) (hb : bound (lo.map e) y d = some m) :
    lo.map e' = lo.map e := by
  cases lo with
  | none => rfl
  | some x =>
    have := he x rfl
    simp only [Option.map_some] at hb ⊢
    unfold bound at hb
    split at hb
    · rename_i hh; cases hh
    · rename_i hh
      simp only [Option.some.injEq] at hh
      rw [hh] at this ⊢
      generalize e' x = u at this ⊢
      cases this
      rfl
    · cases hb
theorem sliceBound_run {k : IntKind} {i : Int} {y y' m d : Nat} (hb : bound (some (.int k i)) y d = some m) (hy : y ≤ y') (code : BoundsCode) :
    (Instr.sliceBound (.int k i) y' code).run P w = .ok m w := by
  simp only [bound] at hb
  split at hb
  · rename_i hc
    cases hb
    simp only [Instr.sliceBound, asIntOf, Sem.run_bind, Sem.run_pure, Result.andThen_ok]
    rw [if_pos (by omega)]
    rfl
  · cases hb
theorem bound_le {v : Option Value} {y d m : Nat} (hb : bound v y d = some m) (hd : d ≤ y) : m ≤ y := by
  unfold bound at hb
  split at hb
  · cases hb; exact hd
  · split at hb
    · cases hb; omega
    · cases hb
  · cases hb
theorem sliceBounds_run {lo hi mx : Option Value} {n K cap m hh l : Nat} (hK : K ≤ cap) (hm : bound mx K K = some m) (hh' : bound hi m n = some hh) (hl : bound lo hh 0 = some l)
    (hx : (mx.isSome && hi.isNone) = false) : (Instr.sliceBounds true n cap lo hi mx).run P w = .ok (l, hh, if mx.isSome then m else cap) w := by
  have lowR : ∀ (code : BoundsCode) (m' : Nat), (match lo with
      | some v => (do let l ← Instr.sliceBound v hh code; pure (l, hh, m') : Sem (Nat × Nat × Nat))
      | none => (do let l ← pure 0; pure (l, hh, m') : Sem (Nat × Nat × Nat))).run P w = .ok (l, hh, m') w := by
    intro code m'
    cases lo with
    | none => simp only [bound] at hl; cases hl; rfl
    | some v =>
      cases v <;> simp only [bound] at hl <;> try (cases hl; done)
      rename_i k i
      have := sliceBound_run (P := P) (w := w) (k := k) (i := i) (d := 0) (by simp only [bound]; exact hl) (Nat.le_refl hh) code
      simp only [Sem.run_bind, this, Result.andThen_ok, Sem.run_pure]
  cases mx with
  | none =>
    simp only [bound] at hm
    cases hm
    cases hi with
    | none =>
      simp only [bound] at hh'
      cases hh'
      have := lowR .sliceB cap
      simp only [Instr.sliceBounds, Sem.run_bind, Sem.run_pure, Result.andThen_ok, Option.isSome_none, Bool.false_eq_true, if_false] at this ⊢
      cases lo <;> exact this
    | some v =>
      cases v <;> simp only [bound] at hh' <;> try (cases hh'; done)
      rename_i k i
      have h1 := sliceBound_run (P := P) (w := w) (k := k) (i := i) (y' := cap) (d := n) (by simp only [bound]; exact hh') hK .sliceAcap
      have := lowR .sliceB cap
      simp only [Instr.sliceBounds, Sem.run_bind, Sem.run_pure, Result.andThen_ok, if_true, h1, Option.isSome_none, Bool.false_eq_true, if_false] at this ⊢
      cases lo <;> exact this
  | some u =>
    cases u <;> simp only [bound] at hm <;> try (cases hm; done)
    rename_i k i
    have h0 := sliceBound_run (P := P) (w := w) (k := k) (i := i) (y' := cap) (d := K) (by simp only [bound]; exact hm) hK .slice3Acap
    cases hi with
    | none => simp at hx
    | some v =>
      cases v <;> simp only [bound] at hh' <;> try (cases hh'; done)
      rename_i k' i'
      have h1 := sliceBound_run (P := P) (w := w) (k := k') (i := i') (y' := m) (d := n) (by simp only [bound]; exact hh') (Nat.le_refl _) .slice3B
      have := lowR .slice3C m
      simp only [Instr.sliceBounds, Sem.run_bind, if_true, h0, Result.andThen_ok, h1, Option.isSome_some] at this ⊢
      cases lo <;> exact this
theorem slice_run (r : Rel P E ι h w) {t : TypeId} {x x' v : Value} {lo hi mx : Option Value} (hx : VR ι h.nx x x') (hs : slice P t x lo hi mx h = some v) :
    ∃ v', (Instr.sliceAt t x' lo hi mx).run P w = .ok v' w ∧ VR ι h.nx v v' := by
  unfold slice at hs
  split at hs
  · rename_i e hu
    cases hx
    obtain ⟨s, hsz, hs⟩ := bind_some hs
    obtain ⟨m, h3, hs⟩ := bind_some hs
    obtain ⟨hh, h2, hs⟩ := bind_some hs
    obtain ⟨l, h1, hs⟩ := bind_some hs
    split at hs
    · cases hs
    · rename_i hc
      cases hs
      have e3 : m = 0 := by have := bound_le h3 (Nat.le_refl _); omega
      subst e3
      have e2 : hh = 0 := by have := bound_le h2 (Nat.le_refl _); omega
      subst e2
      have e1 : l = 0 := by have := bound_le h1 (Nat.le_refl _); omega
      subst e1
      have hb := sliceBounds_run (P := P) (w := w) (cap := 0) (Nat.le_refl 0) h3 h2 h1 (by cases mx <;> cases hi <;> simp_all)
      refine ⟨_, ?_, .slNil⟩
      simp only [Instr.sliceAt, Sem.run_bind, run_underlying hu, Result.andThen_ok, Instr.slice, hb, run_sizeOf' hsz, Sem.run_pure]
      simp
  · rename_i e b o n c hu
    split at hs
    · rename_i cs e' own hb
      split at hs
      · rename_i hc
        obtain ⟨rfl, hcU, hmx⟩ := hc
        obtain ⟨s, hsz, hs⟩ := bind_some hs
        obtain ⟨m, hm, hs⟩ := bind_some hs
        obtain ⟨hh, hhi, hs⟩ := bind_some hs
        obtain ⟨l, hl, hs⟩ := bind_some hs
        have hsb : s = (ι b).sz := by
          have hR := r.blk b _ hb
          cases own with
          | true => obtain ⟨_, _, _, h2, _⟩ := hR; rw [hsz] at h2; exact Option.some.inj h2
          | false => have h2 := hR.2.1; rw [hsz] at h2; exact Option.some.inj h2
        have hmK := bound_le hm (Nat.le_refl _)
        cases hx with
        | sl hbn hcap hk hlim =>
          rename_i c'
          have hKc := capK_le hcap
          have hrun := sliceBounds_run (P := P) (w := w) hKc hm hhi hl hmx
          have hhm : hh ≤ m := by
            cases hi with
            | none =>
              simp only [bound] at hhi
              cases hhi
              cases mx with
              | none => simp only [bound] at hm; cases hm; exact hk
              | some _ => simp at hmx
            | some v => 
              cases v <;> simp only [bound] at hhi <;> try (cases hhi; done)
              split at hhi
              · cases hhi; omega
              · cases hhi
          have hlh : l ≤ hh := bound_le hl (Nat.zero_le _)
          have key : (Instr.sliceAt t (.slice (some ⟨(ι b).g, (ι b).base + o, none⟩) n c') lo hi mx).run P w =
              .ok (.slice (if (if mx.isSome then m else c') = l then some ⟨(ι b).g, (ι b).base + o, none⟩ else some ⟨(ι b).g, (ι b).base + o + l * s, none⟩) (hh - l) ((if mx.isSome then m else c') - l)) w := by
            simp only [Instr.sliceAt, Sem.run_bind, run_underlying hu, Result.andThen_ok, Instr.slice, hrun, run_sizeOf' hsz, Sem.run_pure, Option.map_some, addr_add]
          rw [key]
          split at hs
          · rename_i hex
            cases hs
            have hmm : (if mx.isSome then m else c') = m := by
              cases hmxs : mx.isSome with
              | true => simp
              | false =>
                rw [hmxs] at hex
                have hcU' : c < U := by rcases hex with h | h; exact absurd h (by simp); exact h
                have : mx = none := by cases mx with | none => rfl | some _ => simp at hmxs
                subst this
                simp only [bound] at hm
                cases hm
                rcases hcap with ⟨h1, h2⟩ | ⟨h1, h2⟩
                · simp only [Bool.false_eq_true, if_false, h2]; unfold capK; rw [if_pos h1]
                · omega
            rw [hmm]
            have hle : m ≤ c' := Nat.le_trans hmK hKc
            have hprod : (m - l) * (ι b).sz + l * (ι b).sz ≤ c' * (ι b).sz := by
              rw [← Nat.add_mul]
              exact Nat.mul_le_mul_right _ (by omega)
            by_cases hml : m = l
            · rw [if_pos hml, if_pos hml]
              refine ⟨_, rfl, .sl hbn (.inl ⟨by omega, rfl⟩) ?_ ?_⟩
              · unfold capK; rw [if_pos (by omega)]; omega
              · rw [hml]; simp; omega
            · rw [if_neg hml, if_neg hml]
              refine ⟨_, rfl, ?_⟩
              rw [Nat.add_assoc]
              refine .sl hbn (.inl ⟨by omega, rfl⟩) ?_ ?_
              · unfold capK; rw [if_pos (by omega)]; omega
              · rw [hsb]; omega
          · rename_i hnex
            cases hs
            have hmn : mx = none := by cases mx with | none => rfl | some _ => simp at hnex
            subst hmn
            have hcU2 : ¬ c < U := by simpa using hnex
            simp only [bound] at hm
            cases hm
            simp only [Option.isSome_none, Bool.false_eq_true, if_false]
            have hprod : (c' - l) * (ι b).sz + l * (ι b).sz ≤ c' * (ι b).sz := by
              rw [← Nat.add_mul]
              exact Nat.mul_le_mul_right _ (by omega)
            have hcK : capK (U + (capK c - l)) = capK c - l := by
              generalize capK c - l = z
              unfold capK
              rw [if_neg (by omega)]
              omega
            by_cases hml : c' = l
            · have hl0 : capK c = l := by omega
              have hh0 : hh = l := by omega
              rw [if_pos hml]
              refine ⟨_, rfl, ?_⟩
              rw [hl0, hh0, hml]
              simp only [Nat.sub_self, Nat.add_zero]
              exact .sl0 hbn (by unfold capK; simp)
            · rw [if_neg hml]
              refine ⟨_, rfl, ?_⟩
              rw [Nat.add_assoc]
              refine .sl hbn (.inr ⟨by omega, by omega⟩) (by rw [hcK]; omega) ?_
              rw [hsb]; omega
        | @sl0 _ _ _ ad hbn hK0 =>
          rw [hK0] at hm hmK
          have hm0 : m = 0 := by omega
          subst hm0
          have hh0 : hh = 0 := by have := bound_le hhi (Nat.le_refl _); omega
          subst hh0
          have hl0 : l = 0 := by have := bound_le hl (Nat.le_refl _); omega
          subst hl0
          have hrun := sliceBounds_run (P := P) (w := w) (cap := 0) (Nat.le_refl 0) hm hhi hl hmx
          have key : (Instr.sliceAt t (.slice (some ad) 0 0) lo hi mx).run P w = .ok (.slice (some ad) 0 0) w := by
            simp only [Instr.sliceAt, Sem.run_bind, run_underlying hu, Result.andThen_ok, Instr.slice, hrun, run_sizeOf' hsz, Sem.run_pure]
            simp
          rw [key]
          split at hs
          · cases hs
            exact ⟨_, rfl, .sl0 hbn (by unfold capK; simp [U])⟩
          · cases hs
            refine ⟨_, rfl, ?_⟩
            simp only [Nat.zero_mul, Nat.add_zero, Nat.sub_self]
            exact .sl0 hbn (by unfold capK; simp)
      · cases hs
    · cases hs
  · cases hs
end
end Go.AM
namespace Go.AM
section
variable {P : Program} {E : Env} {ι : Nat → Emb} {h : H} {w : World}
theorem Tr.drew {ι' : Nat → Emb} {h' : H} {w' : World} {k : Nat} (t : Tr ι h { w with drawn := k } ι' h' w') : Tr ι h w ι' h' w' :=
  ⟨t.nx, t.ext, t.os, t.tape, t.output, t.size, t.fr, t.own⟩
theorem Rel.kill (r : Rel P E ι h w) {b : Nat} {k : Blk} (hb : h.blk b = some k) (ho : k.own = true) : Tr ι h w ι (h.kill b) w ∧ Rel P E ι (h.kill b) w := by
  have hsub : ∀ i j, (h.kill b).blk i = some j → i ≠ b ∧ h.blk i = some j := by
    intro i j hi
    simp only [H.kill] at hi
    split at hi
    · cases hi
    · exact ⟨by assumption, hi⟩
  refine ⟨⟨Nat.le_refl _, fun _ _ => rfl, rfl, rfl, rfl, Nat.le_refl _, fun _ _ _ => rfl, fun i j hi hj => .inl ⟨i, j, (hsub i j hi).2, hj, rfl⟩⟩, ⟨?_, ?_, ?_, ?_, ?_, ?_, ?_⟩⟩
  · intro i j hi; exact r.dom i j (hsub i j hi).2
  · intro i j hi; exact r.blk i j (hsub i j hi).2
  · intro i i' j j' hi hi' hne hj; exact r.inj i i' j j' (hsub i j hi).2 (hsub i' j' hi').2 hne hj
  · exact r.ng
  · exact r.glob
  · intro g hg
    have h1 := r.globB g hg
    have : g ≠ b := by
      intro e
      subst e
      rw [hb] at h1
      rw [(r.globO g k hg h1.symm).1] at ho
      cases ho
    simp only [H.kill]
    rw [if_neg this, h1]
  · exact r.globO
theorem growBy_le (need M : Nat) (hM : M = need + (need + 768) / 4) : ∀ (r c : Nat), c ≤ M → Builtin.growBy need r c ≤ M := by
  intro r
  induction r with
  | zero => intro c hc; exact hc
  | succ r ih =>
    intro c hc
    simp only [Builtin.growBy]
    split
    · exact hc
    · refine ih _ ?_
      omega
theorem nextcap_le {need cap : Nat} (h : ¬ need ≤ cap) : Builtin.nextslicecap need cap ≤ 2 * need + 768 := by
  unfold Builtin.nextslicecap
  split
  · omega
  · split
    · omega
    · have := growBy_le need _ rfl 4 cap (by omega)
      omega
theorem src_run (r : Rel P E ι h w) {x x' : Value} {s k : Nat} {xs : List Value} (hx : VR ι h.nx x x') (hk : lenOf x = some k) (hs : srcCells s x h = some xs) :
    xs.length = k * s ∧ (Builtin.lenOf x').run P w = .ok k w ∧ ∃ xs', (∀ d, (Builtin.firstCells s k x').run P { w with drawn := d } = .ok xs'.toArray { w with drawn := d }) ∧ LR ι h.nx xs xs' := by
  unfold srcCells at hs
  split at hs
  · cases hs
    simp only [lenOf] at hk
    cases hk
    cases hx
    exact ⟨by simp, rfl, [], fun _ => rfl, .nil⟩
  · rename_i b o n c
    simp only [lenOf] at hk
    cases hk
    split at hs
    · rename_i h0
      cases hs
      refine ⟨by simp [h0], ?_, [], fun d => ?_, .nil⟩
      · cases hx <;> rfl
      · cases hx <;> (simp only [Builtin.firstCells, h0]; rfl)
    · rename_i h0
      obtain ⟨h1, l', h2, h3⟩ := r.rd hs
      cases hx with
      | sl hb hc hk' hl =>
        refine ⟨h1, rfl, l', fun d => ?_, h2⟩
        have hrun := run_loadCells_list (P := P) { w with drawn := d } ⟨(ι b).g, (ι b).base + o, none⟩ l' (fun j v hv => by rw [addr_add]; exact h3 j v hv)
        rw [← h2.1, h1] at hrun
        simpa only [Builtin.firstCells] using hrun
      | sl0 hb hc => simp at h0
  · cases hs
theorem zeroCells_size (z : Array Value) (n : Nat) : (Builtin.zeroCells z n).size = n * z.size := by simp [Builtin.zeroCells]
/-- The kinds of the operands of an append. -/
structure AppT (P : Program) (tys : Array TypeId) (e : TypeId) (i : TypeInfo) (z : Value) : Prop where
  st : ∃ t, tys[0]? = some t ∧ P.underlying t = some (.slice e)
  xt : ∃ t e', tys[1]? = some t ∧ P.underlying t = some (.slice e')
  info : P.info? e = some i
  zero : zero? P e = some z
  bytes : i.bytes ≤ 4096
  pos : 0 < i.size
  zs : z.cells.size = i.size
/-- An append with room. -/
theorem append_room {tys : Array TypeId} {e : TypeId} {i : TypeInfo} {z : Value} (ht : AppT P tys e i z) {T : TypeId} {x' : Value} {base : Option Addr} {n k cap : Nat} {xs' : List Value} {w' : World}
    (hk : (Builtin.lenOf x').run P w = .ok k w) (hf : (Builtin.firstCells i.size k x').run P w = .ok xs'.toArray w) (hroom : n + k ≤ cap)
    (hst : (match base with | some a => storeCells (a.add (n * i.size)) xs' | none => pure () : Sem Unit).run P w = .ok () w') :
    (Builtin.append_ tys T #[.slice base n cap, x']).run P w = .ok (.slice base (n + k) cap) w' := by
  obtain ⟨st, h1, h2⟩ := ht.st
  obtain ⟨xt, e', h3, h4⟩ := ht.xt
  unfold Builtin.append_
  simp only [h1, h3, List.getElem?_toArray, List.getElem?_cons_zero, List.getElem?_cons_succ, Sem.run_bind, run_underlying h2, run_underlying h4, Result.andThen_ok, run_sizeOf' (size_of_info ht.info), Sem.run_pure,
    Bool.false_eq_true, if_false, hk, Bool.not_false, if_true]
  rw [if_pos hroom]
  cases base with
  | none =>
    simp only [Sem.run_bind, hf, Result.andThen_ok, Sem.run_pure] at hst ⊢
    cases hst
    rfl
  | some a =>
    simp only [Sem.run_bind, hf, Result.andThen_ok, hst, Sem.run_pure]
/-- An append without room. -/
theorem append_grow (r : Rel P E ι h w) {tys : Array TypeId} {e : TypeId} {i : TypeInfo} {z : Value} (ht : AppT P tys e i z) {T : TypeId} {x' : Value} {base : Option Addr} {n k cap : Nat}
    {old old' xs xs' : List Value} (ho : ∀ d, (Builtin.firstCells i.size n (.slice base n cap)).run P { w with drawn := d } = .ok old'.toArray { w with drawn := d }) (hol : old.length = n * i.size) (hor : LR ι h.nx old old')
    (hk : (Builtin.lenOf x').run P w = .ok k w) (hf : ∀ d, (Builtin.firstCells i.size k x').run P { w with drawn := d } = .ok xs'.toArray { w with drawn := d }) (hxl : xs.length = k * i.size) (hxr : LR ι h.nx xs xs')
    (hroom : ¬ n + k ≤ cap) (hbig : n + k < 2 ^ 30) :
    ∃ newCap ι' w', (Builtin.append_ tys T #[.slice base n cap, x']).run P w = .ok (.slice (some ⟨w.heap.size, 0, none⟩) (n + k) newCap) w' ∧ n + k ≤ newCap ∧
      Tr ι h w ι' (h.new (.row (old ++ xs) e true)) w' ∧ Rel P E ι' (h.new (.row (old ++ xs) e true)) w' ∧ ι' h.nx = ⟨w.heap.size, 0, newCap * i.size, i.size⟩ := by
  obtain ⟨st, h1, h2⟩ := ht.st
  obtain ⟨xt, e', h3, h4⟩ := ht.xt
  have hq : (Question.appendCap (n + k) cap e).forced = false := rfl
  let q := Question.appendCap (n + k) cap e
  let newCap := q.cut (w.tape w.drawn q)
  have hnc : n + k ≤ newCap := by
    show n + k ≤ (n + k) + _ % _
    omega
  let w1 : World := { w with drawn := w.drawn + 1 }
  have r1 : Rel P E ι h w1 := r.drew _
  have hc' : (old' ++ xs').length = (n + k) * i.size := by
    have := hor.1
    have := hxr.1
    simp only [List.length_append, Nat.add_mul]
    omega
  let C : Array Value := (old' ++ xs').toArray ++ Builtin.zeroCells z.cells (newCap - (n + k))
  have hCs : C.size = newCap * i.size := by
    show ((old' ++ xs').toArray ++ Builtin.zeroCells z.cells (newCap - (n + k))).size = _
    rw [Array.size_append, zeroCells_size, ht.zs, List.size_toArray, hc', ← Nat.add_mul]
    congr 1
    omega
  obtain ⟨ι', t1, t2, t3⟩ := r1.row (old ++ xs) C e e i.size (size_of_info ht.info) (by
      rw [hCs]
      simp only [List.length_append, hol, hxl, ← Nat.add_mul]
      exact Nat.mul_le_mul_right _ hnc) (fun j v hv => by
    obtain ⟨v', a, b⟩ := (hor.append hxr).get hv
    refine ⟨v', ?_, b⟩
    have hj : j < (old' ++ xs').length := by
      rcases Nat.lt_or_ge j (old' ++ xs').length with h | h
      · exact h
      · rw [List.getElem?_eq_none h] at a; cases a
    show ((old' ++ xs').toArray ++ Builtin.zeroCells z.cells (newCap - (n + k)))[j]? = _
    rw [Array.getElem?_append_left (by simpa using hj)]
    simpa using a)
  refine ⟨newCap, ι', w1.alloc (.cells C e (0, 0)), ?_, hnc, t1.drew, t2, by rw [t3, hCs]⟩
  have hby : ¬ (Builtin.nextslicecap (n + k) cap * i.bytes > 2 ^ 48) := by
    have h5 := nextcap_le hroom
    have h6 : Builtin.nextslicecap (n + k) cap * i.bytes ≤ (2 * (n + k) + 768) * 4096 := Nat.mul_le_mul h5 ht.bytes
    omega
  have hne : ¬ (((n + k : Nat) : Int) > IntKind.i64.max ∧ ((false = true) ∨ i.bytes = 0)) := by
    intro hc
    have := hc.1
    simp [IntKind.max, IntKind.signed, IntKind.bits] at this
    omega
  unfold Builtin.append_
  simp only [h1, h3, List.getElem?_toArray, List.getElem?_cons_zero, List.getElem?_cons_succ, Sem.run_bind, run_underlying h2, run_underlying h4, Result.andThen_ok, run_sizeOf' (size_of_info ht.info), Sem.run_pure,
    Bool.false_eq_true, if_false, hk, Bool.not_false, if_true]
  rw [if_neg hroom]
  simp only [Sem.run_bind, run_typeInfo ht.info, Result.andThen_ok]
  rw [if_neg (by simpa using hne)]
  simp only [Sem.run_bind, run_typeInfo ht.info, Result.andThen_ok]
  rw [if_neg hby]
  have hchoose : (choose (Question.appendCap (n + k) cap e)).run P w = .ok newCap w1 := by
    rw [run_choose, hq]
    rfl
  have hw1o : (Builtin.firstCells i.size n (.slice base n cap)).run P w1 = .ok old'.toArray w1 := ho _
  have hw1x : (Builtin.firstCells i.size k x').run P w1 = .ok xs'.toArray w1 := hf _
  simp only [Sem.run_bind, hchoose, Result.andThen_ok, run_typeInfo ht.info, run_askRoom, hw1o, hw1x, run_zero ht.zero]
  have hcells : old'.toArray ++ xs'.toArray ++ Builtin.zeroCells z.cells (newCap - (n + k)) = C := by
    show _ = (old' ++ xs').toArray ++ Builtin.zeroCells z.cells (newCap - (n + k))
    simp
  rw [hcells]
  simp only [Go.newRow, Sem.run_bind, run_newObj, Result.andThen_ok, Sem.run_pure]
  rfl
/-- An append whose row may have had room: the row's block goes on under a new name. -/
theorem append_here (r : Rel P E ι h w) {b o n k c' : Nat} {cs : List Value} {e : TypeId} {tys : Array TypeId} {T : TypeId} {i : TypeInfo} {z x' : Value} {xs xs' : List Value}
    (hblk : h.blk b = some (.row cs e true)) (hfit : o + n * i.size ≤ cs.length) (hlim : o + c' * (ι b).sz ≤ (ι b).lim) (hroom : n + k ≤ c') (ht : AppT P tys e i z)
    (hrun : ∀ (T : TypeId) {w' : World}, (storeCells ((⟨(ι b).g, (ι b).base + o, none⟩ : Addr).add (n * i.size)) xs').run P w = .ok () w' →
      (Builtin.append_ tys T #[.slice (some ⟨(ι b).g, (ι b).base + o, none⟩) n c', x']).run P w = .ok (.slice (some ⟨(ι b).g, (ι b).base + o, none⟩) (n + k) c') w')
    (hxl : xs.length = k * i.size) (hxr : LR ι h.nx xs xs') (hsc : xs.all scal = true) :
    Out P E ι h w (Builtin.append_ tys T #[.slice (some ⟨(ι b).g, (ι b).base + o, none⟩) n c', x']) (.slice (some ⟨h.nx, 0, none⟩) (n + k) (U + (n + k)))
      ((h.kill b).new (.row ((cs.drop o).take (n * i.size) ++ xs) e true)) := by
  obtain ⟨C, T0, h1, h2, h3, h4, h5⟩ := r.blk b _ hblk
  have hsz : i.size = (ι b).sz := by
    rw [size_of_info ht.info] at h2
    exact Option.some.inj h2
  have hlx := hxr.1
  have hmul : (n + k) * i.size ≤ c' * (ι b).sz := by rw [hsz]; exact Nat.mul_le_mul_right _ hroom
  rw [Nat.add_mul] at hmul
  have hs' : ∀ v ∈ xs', v.oneCell' = true := by
    intro v hm
    obtain ⟨j, hj⟩ := List.mem_iff_getElem?.1 hm
    have hj' : j < xs.length := by
      rcases Nat.lt_or_ge j xs'.length with h | h
      · omega
      · rw [List.getElem?_eq_none h] at hj; cases hj
    have := hxr.2 j xs[j] v (List.getElem?_eq_getElem hj') hj
    rw [← scal_eq, this.scal]
    exact List.all_eq_true.1 hsc _ (List.getElem_mem hj')
  have hst := run_storeCells_at P (ι b).g ((ι b).base + o + n * i.size) T0 xs' 0 C w h1 (by omega) hs'
  simp only [Nat.add_zero] at hst
  have happ := hrun T (by rw [addr_add]; exact hst)
  have hold : ∀ j, j < n * i.size → ∃ v', C[(ι b).base + (o + j)]? = some v' ∧ VR ι h.nx (cs.getD (o + j) Go.undef) v' := by
    intro j hj
    have hlt : o + j < cs.length := by omega
    exact h5 (o + j) _ (by simp [List.getD, hlt])
  let ι' := Emb.new ι h.nx ⟨(ι b).g, (ι b).base + o, (ι b).lim - o, i.size⟩
  have hat : ι' h.nx = ⟨(ι b).g, (ι b).base + o, (ι b).lim - o, i.size⟩ := Emb.new_at _ _ _
  have hlt' : ∀ j, j < h.nx → ι' j = ι j := fun j hj => Emb.new_lt _ _ _ hj
  have hup := r.upd hblk rfl ((h.kill b).new (.row ((cs.drop o).take (n * i.size) ++ xs) e true)) ι' (w.setRow (ι b).g (C.toList.take ((ι b).base + o + n * i.size) ++ xs' ++ C.toList.drop ((ι b).base + o + n * i.size + xs'.length)).toArray) h.nx
    (.row ((cs.drop o).take (n * i.size) ++ xs) e true) (fun j => rfl) (by simp [H.new, H.kill]) (by simp [H.new, H.kill]) (.inr (Nat.le_refl _)) hlt' (by rw [hat]) (setRow_size _ _ _)
    (fun g hg => setRow_other w _ _ _ hg) rfl rfl rfl (by
      refine ⟨(C.toList.take ((ι b).base + o + n * i.size) ++ xs' ++ C.toList.drop ((ι b).base + o + n * i.size + xs'.length)).toArray, T0, ?_, ?_, ?_, ?_, ?_⟩
      · rw [hat]; exact setRow_heap w _ _ _ _ _ h1
      · rw [hat]; exact size_of_info ht.info
      · rw [hat]
        simp only [List.length_append, List.length_take, List.length_drop]
        omega
      · rw [hat]
        simp only [List.size_toArray, List.length_append, List.length_take, List.length_drop, Array.length_toList]
        omega
      · intro j v hj
        rw [hat]
        by_cases hjn : j < n * i.size
        · rw [List.getElem?_append_left (by simp; omega), List.getElem?_take_of_lt hjn, List.getElem?_drop] at hj
          obtain ⟨v', a, q⟩ := h5 (o + j) v hj
          have hCj : (ι b).base + (o + j) < C.size := (Array.getElem?_eq_some_iff.1 a).1
          refine ⟨v', ?_, q.mono (Nat.le_succ _) hlt'⟩
          simp only [List.getElem?_toArray]
          rw [List.getElem?_append_left (by simp; omega), List.getElem?_append_left (by simp; omega), List.getElem?_take_of_lt (by omega), Nat.add_assoc]
          simpa using a
        · rw [List.getElem?_append_right (by simp; omega)] at hj
          obtain ⟨v', a, q⟩ := hxr.get hj
          refine ⟨v', ?_, q.mono (Nat.le_succ _) hlt'⟩
          have hjx : j - n * i.size < xs'.length := by
            have hl : ((cs.drop o).take (n * i.size)).length = n * i.size := by simp; omega
            rw [hl] at a
            rcases Nat.lt_or_ge (j - n * i.size) xs'.length with h | h
            · exact h
            · rw [List.getElem?_eq_none h] at a; cases a
          simp only [List.getElem?_toArray]
          rw [List.getElem?_append_left (by simp; omega), List.getElem?_append_right (by simp; omega), ← a]
          congr 1
          simp only [List.length_take, List.length_drop, Array.length_toList]
          omega)
  refine ⟨_, ι', _, happ, hup.1, hup.2, ?_⟩
  have := VR.sl (ι := ι') (n := ((h.kill b).new (.row ((cs.drop o).take (n * i.size) ++ xs) e true)).nx) (b := h.nx) (o := 0) (l := n + k) (c := U + (n + k)) (c' := c') (by simp [H.new, H.kill]) (.inr ⟨by omega, by omega⟩)
    (by unfold capK; rw [if_neg (by omega)]; omega) (by rw [hat]; simp only [Nat.zero_add, hsz]; omega)
  rw [hat] at this
  simpa using this
/-- What the abstract machine's append is good for. -/
theorem append_run (r : Rel P E ι h w) {tys : Array TypeId} {T : TypeId} {s s' x x' v : Value} {h' : H} (hs : VR ι h.nx s s') (hx : VR ι h.nx x x')
    (ha : append P tys.toList s x h = some (v, h')) : Out P E ι h w (Builtin.append_ tys T #[s', x']) v h' := by
  unfold append at ha
  split at ha
  · rename_i st xt htys
    split at ha
    · rename_i e e' hu1 hu2
      obtain ⟨i, hi, ha1⟩ := bind_some ha
      clear ha
      obtain ⟨z, hz, ha2⟩ := bind_some ha1
      clear ha1
      obtain ⟨k, hk, ha3⟩ := bind_some ha2
      clear ha2
      obtain ⟨xs, hxs, ha⟩ := bind_some ha3
      clear ha3
      split at ha
      · rename_i hc
        have ht : AppT P tys e i z := by
          have g0 : tys[0]? = some st := by rw [← Array.getElem?_toList, htys]; rfl
          have g1 : tys[1]? = some xt := by rw [← Array.getElem?_toList, htys]; rfl
          exact ⟨⟨st, g0, hu1⟩, ⟨xt, e', g1, hu2⟩, hi, hz, hc.1, hc.2.1, hc.2.2⟩
        obtain ⟨hxl, hlen, xs', hf, hxr⟩ := src_run r hx hk hxs
        have hf0 : (Builtin.firstCells i.size k x').run P w = .ok xs'.toArray w := hf w.drawn
        have empty : k = 0 → xs' = [] := by
          intro hk0
          subst hk0
          have h1 : xs.length = 0 := by simpa using hxl
          have h2 := hxr.1
          exact List.length_eq_zero_iff.1 (by omega)
        split at ha
        · cases hs
          split at ha
          · rename_i hk0
            cases ha
            have he := empty hk0
            subst hk0
            subst he
            exact .same r (append_room ht hlen hf0 (Nat.le_refl _) rfl) .slNil
          · rename_i hk0
            split at ha
            · rename_i hk30
              cases ha
              obtain ⟨nc, ι', w', h1, h2, h3, h4, h5⟩ := append_grow (T := T) (old := []) (old' := []) (base := none) (n := 0) (cap := 0) r ht (fun _ => rfl) (by simp) .nil hlen hf hxl hxr (by omega) (by omega)
              simp only [Nat.zero_add, List.nil_append] at h1 h2 h3 h4
              exact ⟨_, ι', w', h1, h3, h4, new_slice (by simp [H.new]) h5 (.inr ⟨by omega, by omega⟩) (by unfold capK; rw [if_neg (by omega)]; omega) (Nat.le_refl _)⟩
            · cases ha
        · rename_i b o n c
          split at ha
          · rename_i hk0
            cases ha
            have he := empty hk0
            subst hk0
            subst he
            cases hs with
            | sl hb hcap hkk hlim => exact .same r (append_room ht hlen hf0 (by have := capK_le hcap; omega) rfl) (.sl hb hcap hkk hlim)
            | sl0 hb hc0 => exact .same r (append_room ht hlen hf0 (Nat.le_refl _) rfl) (.sl0 hb hc0)
          · rename_i hk0
            split at ha
            · rename_i hroom
              split at ha
              · rename_i cs e2 hblk
                split at ha
                · rename_i hcc
                  obtain ⟨rfl, hfit, hsc⟩ := hcc
                  cases ha
                  cases hs with
                  | sl hb hcap hkk hlim =>
                    obtain ⟨w', s1, s2, s3⟩ := r.stores (o := o + n * i.size) hblk hxr (by rw [hxl, Nat.add_assoc, ← Nat.add_mul]; exact hfit) hsc
                    refine ⟨_, ι, w', append_room ht hlen hf0 (Nat.le_trans hroom (capK_le hcap)) ?_, s2, s3, .sl hb hcap hroom hlim⟩
                    simp only [addr_add]
                    rw [Nat.add_assoc]
                    exact s1
                  | sl0 hb hc0 => omega
                · cases ha
              · cases ha
            · rename_i hnroom
              split at ha
              · rename_i hbig
                split at ha
                · rename_i hcU
                  obtain ⟨old, hold, ha⟩ := bind_some ha
                  cases ha
                  cases hs with
                  | @sl _ _ _ _ c' hb hcap hkk hlim =>
                    have hcc : c' = c := by rcases hcap with ⟨_, h2⟩ | ⟨h1, _⟩; exact h2; omega
                    have hKc : capK c = c := by unfold capK; rw [if_pos hcU]
                    have hlo : old.length = n * i.size ∧ ∃ old', (∀ d, (Builtin.firstCells i.size n (.slice (some ⟨(ι b).g, (ι b).base + o, none⟩) n c')).run P { w with drawn := d } = .ok old'.toArray { w with drawn := d }) ∧ LR ι h.nx old old' := by
                      split at hold
                      · rename_i hn0
                        cases hold
                        subst hn0
                        exact ⟨by simp, [], fun d => by simp only [Builtin.firstCells, Nat.zero_mul]; rfl, .nil⟩
                      · obtain ⟨g1, l', g2, g3⟩ := r.rd hold
                        refine ⟨g1, l', fun d => ?_, g2⟩
                        have hrun := run_loadCells_list (P := P) { w with drawn := d } ⟨(ι b).g, (ι b).base + o, none⟩ l' (fun j v hv => by rw [addr_add]; exact g3 j v hv)
                        rw [← g2.1, g1] at hrun
                        simpa only [Builtin.firstCells] using hrun
                    obtain ⟨hol, old', ho, hor⟩ := hlo
                    obtain ⟨nc, ι', w', h1, h2, h3, h4, h5⟩ := append_grow (T := T) r ht ho hol hor hlen hf hxl hxr (by omega) hbig
                    exact ⟨_, ι', w', h1, h3, h4, new_slice (by simp [H.new]) h5 (.inr ⟨by omega, by omega⟩) (by unfold capK; rw [if_neg (by omega)]; omega) (Nat.le_refl _)⟩
                  | @sl0 _ _ _ ad hb hc0 =>
                    rw [if_pos rfl] at hold
                    cases hold
                    obtain ⟨nc, ι', w', h1, h2, h3, h4, h5⟩ := append_grow (T := T) (old := []) (old' := []) (base := some ad) (n := 0) (cap := 0) r ht (fun d => by simp only [Builtin.firstCells, Nat.zero_mul]; rfl) (by simp) .nil hlen hf hxl hxr (by omega) (by omega)
                    exact ⟨_, ι', w', h1, h3, h4, new_slice (by simp [H.new]) h5 (.inr ⟨by omega, by omega⟩) (by unfold capK; rw [if_neg (by omega)]; omega) (Nat.le_refl _)⟩
                · rename_i hcU
                  split at ha
                  · rename_i cs e2 hblk
                    split at ha
                    · rename_i hcc
                      obtain ⟨rfl, hfit, hsc⟩ := hcc
                      cases ha
                      have hfin : ∀ {ι' : Nat → Emb} {g lim nc : Nat}, ι' h.nx = ⟨g, 0, lim, i.size⟩ → n + k ≤ nc → nc * i.size ≤ lim →
                          VR ι' (h.nx + 1) (.slice (some ⟨h.nx, 0, none⟩) (n + k) (U + (n + k))) (.slice (some ⟨g, 0, none⟩) (n + k) nc) := by
                        intro ι' g lim nc h5 h2 h6
                        exact new_slice (h' := ⟨h.blk, h.nx + 1, 0⟩) (Nat.lt_succ_self _) h5 (.inr ⟨by omega, by omega⟩) (by unfold capK; rw [if_neg (by omega)]; omega) h6
                      obtain ⟨k1, k2⟩ := r.kill hblk rfl
                      have hdlen : ((cs.drop o).take (n * i.size)).length = n * i.size := by simp; omega
                      have hrd : h.rd b o (n * i.size) = some ((cs.drop o).take (n * i.size)) := by
                        simp only [H.rd, hblk]
                        rw [if_pos hfit]
                      obtain ⟨g1, l', g2, g3⟩ := r.rd hrd
                      cases hs with
                      | @sl _ _ _ _ c' hb hcap hkk hlim =>
                        have ho : ∀ d, (Builtin.firstCells i.size n (.slice (some ⟨(ι b).g, (ι b).base + o, none⟩) n c')).run P { w with drawn := d } = .ok l'.toArray { w with drawn := d } := by
                          intro d
                          have hrun := run_loadCells_list (P := P) { w with drawn := d } ⟨(ι b).g, (ι b).base + o, none⟩ l' (fun j v hv => by rw [addr_add]; exact g3 j v hv)
                          rw [← g2.1, g1] at hrun
                          simpa only [Builtin.firstCells] using hrun
                        by_cases hroom' : n + k ≤ c'
                        · -- in its place
                          exact append_here r hblk hfit hlim hroom' ht (fun T {_} hst => append_room (T := T) (base := some _) ht hlen hf0 hroom' hst) hxl hxr hsc
                        · obtain ⟨nc, ι', w', h1, h2, h3, h4, h5⟩ := append_grow (T := T) k2 ht ho hdlen g2 hlen hf hxl hxr hroom' hbig
                          exact ⟨_, ι', w', h1, k1.trans h3, h4, hfin h5 h2 (Nat.le_refl _)⟩
                      | @sl0 _ _ _ ad hb hc0 =>
                        obtain ⟨nc, ι', w', h1, h2, h3, h4, h5⟩ := append_grow (T := T) (old := []) (old' := []) (base := some ad) (n := 0) (cap := 0) k2 ht (fun d => by simp only [Builtin.firstCells, Nat.zero_mul]; rfl) (by simp) .nil hlen hf hxl hxr (by omega) (by omega)
                        simp only [Nat.zero_mul, List.take_zero] at *
                        exact ⟨_, ι', w', h1, k1.trans h3, h4, hfin h5 h2 (Nat.le_refl _)⟩
                    · cases ha
                  · cases ha
              · cases ha
        · cases ha
      · cases ha
    · cases ha
  · cases ha
theorem copy_run (r : Rel P E ι h w) {tys : Array TypeId} {T : TypeId} {d d' x x' v : Value} {h' : H} (hd : VR ι h.nx d d') (hx : VR ι h.nx x x') (hc : copyS P tys.toList d x h = some (v, h')) :
    ∃ v' ι' w', (Builtin.copy_ tys T #[d', x']).run P w = .ok v' w' ∧ Tr ι h w ι' h' w' ∧ Rel P E ι' h' w' ∧ VR ι' h'.nx v v' := by
  unfold copyS at hc
  split at hc
  · rename_i dt tl htys
    have ht0 : tys[0]? = some dt := by rw [← Array.getElem?_toList, htys]; rfl
    split at hc
    · rename_i e hu
      obtain ⟨sz, hsz, hc⟩ := bind_some hc
      split at hc
      · rename_i bd n c bs k cs _
        have hlx : (Builtin.lenOf x').run P w = .ok k w := by cases hx <;> rfl
        have hdl : ∃ base cap, d' = .slice base n cap := by cases hd <;> exact ⟨_, _, rfl⟩
        obtain ⟨base, cap, rfl⟩ := hdl
        split at hc
        · rename_i h0
          cases hc
          refine ⟨.int .i64 0, ι, w, ?_, .refl _ _ _, r, .int _ _⟩
          unfold Builtin.copy_
          simp only [ht0, List.getElem?_toArray, List.getElem?_cons_zero, List.getElem?_cons_succ, Sem.run_bind, run_underlying hu, Result.andThen_ok, hlx, run_sizeOf' hsz]
          have hf : (Builtin.firstCells sz (Nat.min k n) x').run P w = .ok #[] w := by
            rw [show Nat.min k n = 0 from h0]
            cases hx <;> simp [Builtin.firstCells, loadCells, Sem.run_pure] <;> rfl
          simp only [hf, Result.andThen_ok]
          rw [show Nat.min k n = 0 from h0]
          cases base with
          | none => simp [Sem.run_pure, goInt]
          | some a => simp [Sem.run_pure, Sem.run_bind, storeCells, goInt]
        · rename_i h0
          split at hc
          · rename_i b o
            obtain ⟨xs, hxs, hc⟩ := bind_some hc
            split at hc
            · rename_i cells e' hb
              split at hc
              · rename_i hcond
                cases hc
                have hx2 : VR ι h.nx (.slice bs (min k n) cs) (match x' with | .slice q _ m => .slice q (min k n) m | y => y) := by
                  cases hx with
                  | slNil => simp at h0
                  | sl hb' hcr hk hl => exact .sl hb' hcr (Nat.le_trans (Nat.min_le_left _ _) hk) hl
                  | sl0 hb' hcr => simp at h0
                obtain ⟨q1, q2, xs', q3, q4⟩ := src_run (P := P) (w := w) r hx2 rfl hxs
                have q3' : (Builtin.firstCells sz (Nat.min k n) x').run P w = .ok xs'.toArray w := by
                  have := q3 w.drawn
                  rw [show Nat.min k n = min k n from rfl]
                  cases hx <;> exact this
                cases hd with
                | sl hb' hcr hk hl =>
                  obtain ⟨w', g1, g2, g3⟩ := r.stores hb q4 hcond.1 hcond.2
                  refine ⟨_, ι, w', ?_, g2, g3, .int _ _⟩
                  unfold Builtin.copy_
                  simp only [ht0, List.getElem?_toArray, List.getElem?_cons_zero, List.getElem?_cons_succ, Sem.run_bind, run_underlying hu, Result.andThen_ok, hlx, run_sizeOf' hsz, q3', g1, Sem.run_pure]
                  rfl
                | sl0 hb' hcr => simp at h0
              · cases hc
            · cases hc
          · cases hc
      · cases hc
    · cases hc
  · cases hc
theorem clear_run (r : Rel P E ι h w) {tys : Array TypeId} {T : TypeId} {x x' v : Value} {h' : H} (hx : VR ι h.nx x x') (hc : clearS P tys.toList x h = some (v, h')) :
    ∃ v' ι' w', (Builtin.clear_ tys T #[x']).run P w = .ok v' w' ∧ Tr ι h w ι' h' w' ∧ Rel P E ι' h' w' ∧ VR ι' h'.nx v v' := by
  unfold clearS at hc
  split at hc
  · rename_i t tl htys
    have ht0 : tys[0]? = some t := by rw [← Array.getElem?_toList, htys]; rfl
    split at hc
    · rename_i e hu
      split at hc
      · rename_i a n c
        split at hc
        · rename_i h0
          cases hc
          subst h0
          refine ⟨undef, ι, w, ?_, .refl _ _ _, r, .undef⟩
          unfold Builtin.clear_
          cases hx <;> simp only [ht0, List.getElem?_toArray, List.getElem?_cons_zero, Sem.run_bind, run_underlying hu, Result.andThen_ok, Sem.run_pure] <;> rfl
        · rename_i h0
          split at hc
          · rename_i b o
            obtain ⟨z, hz, hc⟩ := bind_some hc
            split at hc
            · rename_i cells e' hb
              split at hc
              · rename_i hcond
                cases hc
                have hzr := VR.cells (zero_rel (ι := ι) (n := h.nx) hz)
                have hLR : LR ι h.nx ((List.range (n * z.cells.size)).map (z.cells[· % z.cells.size]!)) ((List.range (n * z.cells.size)).map (z.cells[· % z.cells.size]!)) := by
                  refine LR.map _ _ _ fun j hj => ?_
                  have hj := List.mem_range.1 hj
                  have hpos : 0 < z.cells.size := by
                    refine Nat.pos_of_ne_zero fun e => ?_
                    rw [e, Nat.mul_zero] at hj
                    omega
                  have hlt : j % z.cells.size < z.cells.size := Nat.mod_lt _ hpos
                  rw [getElem!_pos z.cells _ hlt]
                  exact hzr.2 (j % z.cells.size) _ _ (Array.getElem?_eq_getElem hlt) (Array.getElem?_eq_getElem hlt)
                cases hx with
                | sl hb' hcr hk hl =>
                  obtain ⟨w', g1, g2, g3⟩ := r.stores hb hLR (by simpa using hcond.1) hcond.2
                  refine ⟨undef, ι, w', ?_, g2, g3, .undef⟩
                  have hzc : (Builtin.zeroCells z.cells n).toList = (List.range (n * z.cells.size)).map (z.cells[· % z.cells.size]!) := by
                    simp [Builtin.zeroCells]
                  unfold Builtin.clear_
                  cases n with
                  | zero => exact absurd rfl h0
                  | succ n =>
                    simp only [ht0, List.getElem?_toArray, List.getElem?_cons_zero, Sem.run_bind, run_underlying hu, Result.andThen_ok, run_zero hz, hzc, g1, Sem.run_pure]
                    rfl
                | sl0 hb' hcr => simp at h0
              · cases hc
            · cases hc
          · cases hc
      · cases hc
    · cases hc
  · cases hc
end
end Go.AM
namespace Go.AM
section
variable {P : Program} {E : Env} {ι : Nat → Emb} {h : H} {w : World} {n : Nat}
theorem plainC_eq {v v' : Value} (hp : plainC v = true) (hv : VR ι n v v') : v' = v := by
  cases hv <;> first | rfl | (simp [plainC] at hp; done)
theorem plainK_eq {v v' : Value} (hp : plainK v = true) (hv : VR ι n v v') : v' = v := by
  cases hv with
  | agg h1 h2 =>
    rename_i xs xs'
    simp only [plainK, List.all_eq_true] at hp
    congr 1
    apply Array.ext
    · exact h1.symm
    · intro i g1 g2
      exact plainC_eq (hp _ (by simp)) (h2 i xs[i] xs'[i] (Array.getElem?_eq_getElem g2) (Array.getElem?_eq_getElem g1))
  | bool b => rfl
  | int k x => rfl
  | _ => simp [plainK] at hp
theorem checkKey_run (w : World) (em : Bool) : ∀ (d : Nat) (t : TypeId) (x x' : Value), keyT P d t = true → eqV P d t x x = some true → VR ι n x x' →
    ∀ D, d ≤ D → (Instr.checkKey em D t x').run P w = .ok () w := by
  intro d
  induction d with
  | zero => intro t x x' h; simp [keyT] at h
  | succ d ih =>
    intro t x x' hk hq hx D hD
    obtain ⟨D, rfl⟩ : ∃ k, D = k + 1 := ⟨D - 1, by omega⟩
    have hD' : d ≤ D := by omega
    unfold keyT at hk
    unfold eqV at hq
    split at hk
    · rename_i hu
      rw [hu] at hq
      cases hx <;> simp only [reduceCtorEq] at hq
      simp only [Instr.checkKey, Sem.run_bind, run_underlying hu, Result.andThen_ok, Sem.run_pure]
    · rename_i hu
      rw [hu] at hq
      cases hx <;> simp only [reduceCtorEq] at hq
      simp only [Instr.checkKey, Sem.run_bind, run_underlying hu, Result.andThen_ok, Sem.run_pure]
    · rename_i fs hu
      rw [hu] at hq
      cases hx <;> simp only [reduceCtorEq] at hq
      rename_i xs xs' h1 h2
      simp only [Bool.and_eq_true, Bool.not_eq_true', List.all_eq_true, decide_eq_true_eq] at hk
      obtain ⟨hst, hall⟩ := hk
      rw [if_neg (by simp [hst])] at hq
      simp only [Instr.checkKey, Sem.run_bind, run_underlying hu, Result.andThen_ok]
      rw [← Array.forIn_toList]
      generalize fs.toList = L at hq hall
      induction L with
      | nil => rfl
      | cons f L ihL =>
        simp only [List.foldr_cons] at hq
        obtain ⟨hn, hp⟩ := hall f (by simp)
        rw [if_pos hn] at hq
        obtain ⟨a, ha, hq1⟩ := bind_some hq
        obtain ⟨b, hb, hq2⟩ := bind_some hq1
        rw [ha] at hb
        cases hb
        obtain ⟨q, hqq, hq3⟩ := bind_some hq2
        obtain ⟨a', ra, va⟩ := part_run (P := P) (ι := ι) (n := n) (cs := xs) (cs' := xs') ⟨h1, h2⟩ ha
        have hqt : q = true := by
          cases q with
          | true => rfl
          | false => simp at hq3
        subst hqt
        have h3 := ih f.type a a' hp hqq va D hD'
        simp only [List.forIn_cons]
        rw [if_pos hn]
        simp only [Sem.run_bind, ra w, Result.andThen_ok, h3, Sem.run_pure]
        exact ihL (by simpa using hq3) (fun y hy => hall y (by simp [hy]))
    · rename_i len e hu
      rw [hu] at hq
      cases hx <;> simp only [reduceCtorEq] at hq
      rename_i xs xs' h1 h2
      obtain ⟨s, hs, hq⟩ := bind_some hq
      simp only [Instr.checkKey, Sem.run_bind, run_underlying hu, Result.andThen_ok]
      simp only [Std.Legacy.Range.forIn_eq_forIn_range', Std.Legacy.Range.size, Nat.sub_zero, Nat.add_one_sub_one, Nat.div_one]
      rw [List.range_eq_range'] at hq
      generalize List.range' 0 len = L at hq
      induction L with
      | nil => rfl
      | cons j L ihL =>
        simp only [List.foldr_cons] at hq
        obtain ⟨a, ha, hq1⟩ := bind_some hq
        obtain ⟨b, hb, hq2⟩ := bind_some hq1
        rw [ha] at hb
        cases hb
        obtain ⟨q, hqq, hq3⟩ := bind_some hq2
        obtain ⟨a', ra, va⟩ := part_run (P := P) (ι := ι) (n := n) (cs := xs) (cs' := xs') ⟨h1, h2⟩ ha
        have hqt : q = true := by
          cases q with
          | true => rfl
          | false => simp at hq3
        subst hqt
        have h3 := ih e a a' hk hqq va D hD'
        simp only [List.forIn_cons, Sem.run_bind, run_sizeOf' hs, ra w, Result.andThen_ok, h3, Sem.run_pure]
        exact ihL (by simpa using hq3)
    · cases hk
/-- What is found, on both sides. -/
def FR (ι : Nat → Emb) (n : Nat) : Option (Nat × Value) → Option (Nat × Value) → Prop
  | none, none => True
  | some (i, v), some (i', v') => i = i' ∧ VR ι n v v'
  | _, _ => False
/-- Entries, one by one. -/
def ER (ι : Nat → Emb) (n : Nat) (es es' : List MapEntry) : Prop :=
  es.length = es'.length ∧ ∀ (i : Nat) (e e' : MapEntry), es[i]? = some e → es'[i]? = some e' → VR ι n e.key e'.key ∧ VR ι n e.val e'.val ∧ e.born = e'.born
theorem ER.uncons {e : MapEntry} {es u : List MapEntry} (h : ER ι n (e :: es) u) : ∃ e' es', u = e' :: es' ∧ VR ι n e.key e'.key ∧ VR ι n e.val e'.val ∧ e.born = e'.born ∧ ER ι n es es' := by
  cases u with
  | nil => exact absurd h.1 (by simp)
  | cons e' es' =>
    obtain ⟨a, b, c⟩ := h.2 0 e e' rfl rfl
    exact ⟨e', es', rfl, a, b, c, by simpa using h.1, fun i x x' hx hx' => h.2 (i + 1) x x' (by simpa using hx) (by simpa using hx')⟩
theorem findAsking_run (w : World) {kt : TypeId} {k k' : Value} (hk : VR ι n k k') : ∀ (es es' : List MapEntry) (i : Nat) (r : Option (Nat × Value)), ER ι n es es' → findK P kt k es i = some r →
    ∃ r', (Instr.findAsking kt k' es' i).run P w = .ok r' w ∧ FR ι n r r' := by
  intro es
  induction es with
  | nil =>
    intro es' i r he hr
    cases es' with
    | nil => cases hr; exact ⟨none, rfl, trivial⟩
    | cons a b => exact absurd he.1 (by simp)
  | cons e es ih =>
    intro es' i r he hr
    obtain ⟨e', es', rfl, hke, hve, hbe, he'⟩ := he.uncons
    simp only [findK] at hr
    obtain ⟨q, hq, hr⟩ := bind_some hr
    have := equal_run w hq hk hke
    simp only [Instr.findAsking, Sem.run_bind, this, Result.andThen_ok]
    cases q with
    | true =>
      simp only [if_true, Option.some.injEq] at hr
      subst hr
      exact ⟨some (i, e'.val), rfl, rfl, hve⟩
    | false =>
      simp only [Bool.false_eq_true, if_false] at hr ⊢
      exact ih es' (i + 1) r he' hr
theorem findNow_run {kt : TypeId} {d : TypeDesc} (hu : P.underlying kt = some d) (hd : (∃ k, d = .int k) ∨ d = .bool) {k k' : Value} (hk : VR ι n k k') :
    ∀ (es es' : List MapEntry) (i : Nat) (r : Option (Nat × Value)), ER ι n es es' → findK P kt k es i = some r → ∃ r', Instr.findNow d k' es' i = some r' ∧ FR ι n r r' := by
  intro es
  induction es with
  | nil =>
    intro es' i r he hr
    cases es' with
    | nil => cases hr; exact ⟨none, rfl, trivial⟩
    | cons a b => exact absurd he.1 (by simp)
  | cons e es ih =>
    intro es' i r he hr
    obtain ⟨e', es', rfl, hke, hve, hbe, he'⟩ := he.uncons
    simp only [findK] at hr
    obtain ⟨q, hq, hr⟩ := bind_some hr
    have hs : Instr.sameNow d k' e'.key = some q := by
      obtain ⟨ek, ev, eb⟩ := e
      obtain ⟨ek', ev', eb'⟩ := e'
      simp only at hke hq ⊢
      unfold eqV at hq
      rw [hu] at hq
      rcases hd with ⟨kk, rfl⟩ | rfl
      · cases hk <;> simp only [reduceCtorEq] at hq
        cases hke <;> simp only [reduceCtorEq] at hq
        simpa only [Instr.sameNow] using hq
      · cases hk <;> simp only [reduceCtorEq] at hq
        cases hke <;> simp only [reduceCtorEq] at hq
        simpa only [Instr.sameNow] using hq
    simp only [Instr.findNow, hs]
    cases q with
    | true =>
      simp only [if_true, Option.some.injEq] at hr
      subst hr
      exact ⟨some (i, e'.val), rfl, rfl, hve⟩
    | false =>
      simp only [Bool.false_eq_true, if_false] at hr
      exact ih es' (i + 1) r he' hr
theorem findKey_run (w : World) {kt : TypeId} {k k' : Value} (hkt : keyT P 10 kt = true) (hk : VR ι n k k') {es es' : List MapEntry} {r : Option (Nat × Value)} (he : ER ι n es es')
    (hr : findK P kt k es 0 = some r) : ∃ r', (Instr.findKey kt k' es').run P w = .ok r' w ∧ FR ι n r r' := by
  unfold keyT at hkt
  have plain : ∀ d, P.underlying kt = some d → ((∃ k, d = .int k) ∨ d = .bool) → ∃ r', (Instr.findKey kt k' es').run P w = .ok r' w ∧ FR ι n r r' := by
    intro d hu hd
    obtain ⟨r', h1, h2⟩ := findNow_run (P := P) hu hd hk es es' 0 r he hr
    refine ⟨r', ?_, h2⟩
    simp only [Instr.findKey, Sem.run_bind, run_underlying hu, Result.andThen_ok, h1, Sem.run_pure]
  have asked : ∀ d, P.underlying kt = some d → (∀ a b, Instr.sameNow d a b = none) → ∃ r', (Instr.findKey kt k' es').run P w = .ok r' w ∧ FR ι n r r' := by
    intro d hu hd
    cases es' with
    | nil =>
      cases es with
      | nil =>
        cases hr
        refine ⟨none, ?_, trivial⟩
        simp only [Instr.findKey, Sem.run_bind, run_underlying hu, Result.andThen_ok, Instr.findNow, Sem.run_pure]
      | cons a b => exact absurd he.1 (by simp)
    | cons e' es' =>
      obtain ⟨r', h1, h2⟩ := findAsking_run (P := P) w hk es (e' :: es') 0 r he hr
      refine ⟨r', ?_, h2⟩
      simp only [Instr.findKey, Sem.run_bind, run_underlying hu, Result.andThen_ok, Instr.findNow, hd]
      exact h1
  split at hkt
  · rename_i hu; exact plain _ hu (.inl ⟨_, rfl⟩)
  · rename_i hu; exact plain _ hu (.inr rfl)
  · rename_i hu; exact asked _ hu (fun a b => rfl)
  · rename_i hu; exact asked _ hu (fun a b => rfl)
  · cases hkt
theorem run_getObj {b : Nat} {es : Array MapEntry} {c : Nat} (hb : w.heap[b]? = some (.map es c)) : (getObj b).run P w = .ok (.map es c) w := by
  simp only [getObj, Sem.run, hb]
theorem run_setObj {b : Nat} {es : Array MapEntry} {c : Nat} (hb : w.heap[b]? = some (.map es c)) (o : Obj) : (setObj b o).run P w = .ok () { w with heap := w.heap.setIfInBounds b o } := by
  simp only [setObj, Sem.run, hb]
theorem isKey_parts {kt : TypeId} {k : Value} (hk : isKey P kt k = true) : plainK k = true ∧ keyT P 10 kt = true ∧ eqV P 10 kt k k = some true := by
  unfold isKey at hk
  simp only [Bool.and_eq_true, beq_iff_eq] at hk
  exact ⟨hk.1.1, hk.1.2, hk.2⟩
theorem lookup_run (r : Rel P E ι h w) {t : TypeId} {m m' k k' v : Value} {ok : Bool} (hm : VR ι h.nx m m') (hk : VR ι h.nx k k') (hl : lookup P t m k ok h = some v) :
    ∃ v', (Instr.lookup t m' k' ok).run P w = .ok v' w ∧ VR ι h.nx v v' := by
  unfold lookup at hl
  split at hl
  · rename_i kt vt hu
    split at hl
    · rename_i hkey
      obtain ⟨p1, p2, p3⟩ := isKey_parts hkey
      obtain ⟨⟨es, c⟩, hmo, hl1⟩ := bind_some hl
      clear hl
      obtain ⟨r1, hf, hl⟩ := bind_some hl1
      clear hl1
      have tail : ∀ es' : Array MapEntry, ER ι h.nx es es'.toList → ∃ v', VR ι h.nx v v' ∧ ((Instr.checkKey es'.isEmpty 10000 kt k').run P w = .ok () w) ∧
          ∃ r', (Instr.findKey kt k' es'.toList).run P w = .ok r' w ∧ (match r' with
            | some (_, u) => v' = if ok then .tuple #[u, .bool true] else u
            | none => ∃ z, (zeroValue vt).run P w = .ok z w ∧ v' = if ok then .tuple #[z, .bool false] else z) := by
        intro es' her
        obtain ⟨r', hfr, hFR⟩ := findKey_run (P := P) w p2 hk her hf
        have hck := checkKey_run (P := P) w es'.isEmpty 10 kt k k' p2 p3 hk 10000 (by omega)
        cases r1 with
        | none =>
          cases r' with
          | some _ => exact hFR.elim
          | none =>
            simp only at hl
            obtain ⟨z, hz, hv⟩ := map_some hl
            refine ⟨v, ?_, hck, none, hfr, z, run_zero hz w, hv.symm⟩
            rw [← hv]
            have hzr := zero_rel (ι := ι) (n := h.nx) hz
            cases ok
            · exact hzr
            · obtain ⟨g1, g2⟩ := (LR.cons hzr (LR.cons (VR.bool false) .nil)).toArray
              exact .tuple g1 g2
        | some p =>
          obtain ⟨i, u⟩ := p
          cases r' with
          | none => exact hFR.elim
          | some p' =>
            obtain ⟨i', u'⟩ := p'
            obtain ⟨_, huu⟩ := hFR
            simp only [Option.some.injEq] at hl
            refine ⟨if ok then .tuple #[u', .bool true] else u', ?_, hck, some (i', u'), hfr, rfl⟩
            rw [← hl]
            cases ok
            · exact huu
            · obtain ⟨g1, g2⟩ := (LR.cons huu (LR.cons (VR.bool true) .nil)).toArray
              exact .tuple g1 g2
      unfold mapOf at hmo
      split at hmo
      · cases hmo
        cases hm
        obtain ⟨v', hv', hck, r', hfr, htail⟩ := tail #[] ⟨rfl, fun i e e' a => by simp at a⟩
        refine ⟨v', ?_, hv'⟩
        simp only [Instr.lookup, Sem.run_bind, run_underlying hu, Result.andThen_ok, Sem.run_pure, hck, hfr]
        cases r' with
        | none => obtain ⟨z, hz, rfl⟩ := htail; simp only [Sem.run_bind, hz, Result.andThen_ok, Sem.run_pure]
        | some p => obtain ⟨i, u⟩ := p; simp only at htail; subst htail; simp only [Sem.run_bind, Result.andThen_ok, Sem.run_pure]
      · rename_i b
        split at hmo
        · rename_i es0 c0 hb
          cases hmo
          cases hm
          obtain ⟨es', g1, g2, g3⟩ := r.blk b _ hb
          obtain ⟨v', hv', hck, r', hfr, htail⟩ := tail es' ⟨by simpa using g2, fun i e e' a a' => g3 i e e' a (by simpa using a')⟩
          refine ⟨v', ?_, hv'⟩
          simp only [Instr.lookup, Sem.run_bind, run_underlying hu, Result.andThen_ok, run_getObj g1, Sem.run_pure, hck, hfr]
          cases r' with
          | none => obtain ⟨z, hz, rfl⟩ := htail; simp only [Sem.run_bind, hz, Result.andThen_ok, Sem.run_pure]
          | some p => obtain ⟨i, u⟩ := p; simp only at htail; subst htail; simp only [Sem.run_bind, Result.andThen_ok, Sem.run_pure]
        · cases hmo
      · cases hmo
    · cases hl
  · cases hl
theorem heap_set_other (w : World) (g k : Nat) (o : Obj) (hk : k ≠ g) : ({ w with heap := w.heap.setIfInBounds g o } : World).heap[k]? = w.heap[k]? := by
  simp only [Array.getElem?_setIfInBounds]
  rw [if_neg (by omega)]
theorem heap_set_same (w : World) (g : Nat) (o o' : Obj) (hg : w.heap[g]? = some o') : ({ w with heap := w.heap.setIfInBounds g o } : World).heap[g]? = some o := by
  have : g < w.heap.size := (Array.getElem?_eq_some_iff.1 hg).1
  simp [this]
theorem Rel.setMap (r : Rel P E ι h w) {b : Nat} {es : List MapEntry} {c : Nat} (hb : h.blk b = some (.mp es c)) (es2 : List MapEntry) (es2' : Array MapEntry) (c2 : Nat) (he : ER ι h.nx es2 es2'.toList) :
    Tr ι h w ι (h.set b (.mp es2 c2)) { w with heap := w.heap.setIfInBounds (ι b).g (.map es2' c2) } ∧
      Rel P E ι (h.set b (.mp es2 c2)) { w with heap := w.heap.setIfInBounds (ι b).g (.map es2' c2) } := by
  obtain ⟨es', g1, g2, g3⟩ := r.blk b _ hb
  refine r.upd hb rfl _ ι _ b (.mp es2 c2) (fun i => ?_) (Nat.le_refl _) (r.dom b _ hb) (.inl rfl) (fun _ _ => rfl) rfl (by simp) (fun g hg => heap_set_other w _ _ _ hg) rfl rfl rfl ?_
  · simp only [H.set]
    split <;> rfl
  · exact ⟨es2', heap_set_same w _ _ _ g1, by simpa using he.1, fun i e e' a a' => he.2 i e e' a (by simpa using a')⟩
theorem mapUpdate_run (r : Rel P E ι h w) {t : TypeId} {m m' k k' x x' : Value} {h' : H} (hm : VR ι h.nx m m') (hk : VR ι h.nx k k') (hx : VR ι h.nx x x') (hu' : mapUpdate P t m k x h = some h') :
    ∃ w', (Instr.mapUpdate t m' k' x').run P w = .ok () w' ∧ Tr ι h w ι h' w' ∧ Rel P E ι h' w' := by
  unfold mapUpdate at hu'
  split at hu'
  · rename_i kt vt b hu
    split at hu'
    · rename_i hkey
      obtain ⟨p1, p2, p3⟩ := isKey_parts hkey
      obtain ⟨⟨es, c⟩, hmo, hl1⟩ := bind_some hu'
      clear hu'
      obtain ⟨r1, hf, hl⟩ := bind_some hl1
      clear hl1
      unfold mapOf at hmo
      simp only at hmo
      split at hmo
      · rename_i es0 c0 hb
        cases hmo
        cases hm
        obtain ⟨es', g1, g2, g3⟩ := r.blk b _ hb
        have her : ER ι h.nx es es'.toList := ⟨by simpa using g2, fun i e e' a a' => g3 i e e' a (by simpa using a')⟩
        obtain ⟨r', hfr, hFR⟩ := findKey_run (P := P) w p2 hk her hf
        have hck := checkKey_run (P := P) w false 10 kt k k' p2 p3 hk 10000 (by omega)
        have hkk : k' = k := plainK_eq p1 hk
        cases r1 with
        | none =>
          cases r' with
          | some _ => exact hFR.elim
          | none =>
            simp only [Option.some.injEq] at hl
            subst hl
            have := r.setMap hb (es ++ [{ key := k, val := x, born := c }]) (es'.push { key := k', val := x', born := c }) (c + 1) ⟨by simp [g2], fun i e e' a a' => by
              by_cases hi : i < es.length
              · rw [List.getElem?_append_left hi] at a
                have hi' : i < es'.size := by omega
                have a2 : es'[i]? = some e' := by
                  rw [Array.getElem?_toList, Array.getElem?_push_lt hi'] at a'
                  rw [← a', Array.getElem?_eq_getElem hi']
                exact g3 i e e' a a2
              · by_cases hi2 : i = es.length
                · subst hi2
                  rw [List.getElem?_append_right (Nat.le_refl _)] at a
                  simp only [Nat.sub_self, List.getElem?_cons_zero, Option.some.injEq] at a
                  rw [Array.getElem?_toList, g2, Array.getElem?_push_size] at a'
                  simp only [Option.some.injEq] at a'
                  subst a; subst a'
                  exact ⟨hk, hx, rfl⟩
                · rw [List.getElem?_eq_none (by simp; omega)] at a
                  cases a⟩
            refine ⟨_, ?_, this.1, this.2⟩
            simp only [Instr.mapUpdate, Sem.run_bind, run_underlying hu, Result.andThen_ok, run_getObj g1, hck, hfr]
            exact run_setObj g1 _
        | some p =>
          obtain ⟨i, u⟩ := p
          cases r' with
          | none => exact hFR.elim
          | some p' =>
            obtain ⟨i', u'⟩ := p'
            obtain ⟨hii, huu⟩ := hFR
            subst hii
            simp only at hl
            split at hl
            · rename_i hsame
              simp only [Option.some.injEq] at hl
              subst hl
              simp only [Bool.and_eq_true] at hsame
              have hold : ((es'[i]?).map (·.key)).getD k' = ((es[i]?).map (·.key)).getD k := by
                cases hi : es[i]? with
                | none =>
                  have : es'[i]? = none := by
                    rw [List.getElem?_eq_none_iff] at hi
                    rw [Array.getElem?_eq_none_iff]
                    omega
                  rw [this]
                  simp [hkk]
                | some e =>
                  have hil : i < es.length := by
                    rcases Nat.lt_or_ge i es.length with h | h
                    · exact h
                    · rw [List.getElem?_eq_none h] at hi; cases hi
                  have hi' : es'[i]? = some es'[i] := Array.getElem?_eq_getElem (by omega)
                  rw [hi']
                  have := (g3 i e _ hi hi').1
                  rw [hi] at hsame
                  simp only [Option.map_some, Option.getD_some] at hsame ⊢
                  exact plainK_eq hsame.2 this
              have := r.setMap hb (es.modify i fun e => { e with key := k, val := x }) (es'.modify i fun e => { e with key := k', val := x' }) c ⟨by simp [g2], fun j e e' a a' => by
                rw [List.getElem?_modify] at a
                rw [Array.getElem?_toList, Array.getElem?_modify] at a'
                by_cases hj : i = j
                · rw [if_pos hj] at a'
                  simp only [hj, if_true] at a
                  cases hej : es[j]? with
                  | none => rw [hej] at a; cases a
                  | some e0 =>
                    cases hej' : es'[j]? with
                    | none => rw [hej'] at a'; cases a'
                    | some e0' =>
                      rw [hej] at a
                      rw [hej'] at a'
                      simp only [Option.map_some, Option.some.injEq, Option.map_eq_map] at a a'
                      subst a; subst a'
                      exact ⟨hk, hx, (g3 j e0 e0' hej hej').2.2⟩
                · rw [if_neg hj] at a'
                  simp only [hj, if_false] at a
                  exact g3 j e e' (by simpa using a) (by simpa using a')⟩
              refine ⟨_, ?_, this.1, this.2⟩
              simp only [Instr.mapUpdate, Sem.run_bind, run_underlying hu, Result.andThen_ok, run_getObj g1, hck, hfr, Instr.keyThatStays, hold]
              rw [hkk, if_pos hsame.1]
              simp only [Sem.run_pure, Result.andThen_ok]
              exact run_setObj g1 _
            · cases hl
      · cases hmo
    · cases hu'
  · cases hu'
theorem mapEntry_run (r : Rel P E ι h w) {t : TypeId} {m m' k k' v : Value} {h' : H} (hm : VR ι h.nx m m') (hk : VR ι h.nx k k') (hu' : mapEntry P t m k h = some (v, h')) :
    Out P E ι h w (Instr.mapEntry t m' k') v h' := by
  unfold mapEntry at hu'
  split at hu'
  · rename_i kt vt b hu
    split at hu'
    · rename_i hkey
      obtain ⟨p1, p2, p3⟩ := isKey_parts hkey
      obtain ⟨⟨es, c⟩, hmo, hl1⟩ := bind_some hu'
      clear hu'
      obtain ⟨r1, hf, hl⟩ := bind_some hl1
      clear hl1
      unfold mapOf at hmo
      simp only at hmo
      split at hmo
      · rename_i es0 c0 hb
        cases hmo
        cases hm
        obtain ⟨es', g1, g2, g3⟩ := r.blk b _ hb
        have her : ER ι h.nx es es'.toList := ⟨by simpa using g2, fun i e e' a a' => g3 i e e' a (by simpa using a')⟩
        obtain ⟨r', hfr, hFR⟩ := findKey_run (P := P) w p2 hk her hf
        have hck := checkKey_run (P := P) w false 10 kt k k' p2 p3 hk 10000 (by omega)
        have hkk : k' = k := plainK_eq p1 hk
        cases r1 with
        | none =>
          cases r' with
          | some _ => exact hFR.elim
          | none =>
            obtain ⟨z, hz, hl⟩ := map_some hl
            cases hl
            have := r.setMap hb (es ++ [{ key := k, val := z, born := c }]) (es'.push { key := k', val := z, born := c }) (c + 1) ⟨by simp [g2], fun i e e' a a' => by
              by_cases hi : i < es.length
              · rw [List.getElem?_append_left hi] at a
                have hi' : i < es'.size := by omega
                have a2 : es'[i]? = some e' := by
                  rw [Array.getElem?_toList, Array.getElem?_push_lt hi'] at a'
                  rw [← a', Array.getElem?_eq_getElem hi']
                exact g3 i e e' a a2
              · by_cases hi2 : i = es.length
                · subst hi2
                  rw [List.getElem?_append_right (Nat.le_refl _)] at a
                  simp only [Nat.sub_self, List.getElem?_cons_zero, Option.some.injEq] at a
                  rw [Array.getElem?_toList, g2, Array.getElem?_push_size] at a'
                  simp only [Option.some.injEq] at a'
                  subst a; subst a'
                  exact ⟨hk, zero_rel hz, rfl⟩
                · rw [List.getElem?_eq_none (by simp; omega)] at a
                  cases a⟩
            refine ⟨.tuple #[z, .int .i64 (c : Nat)], _, _, ?_, this.1, this.2, ?_⟩
            · simp only [Instr.mapEntry, Sem.run_bind, run_underlying hu, Result.andThen_ok, run_getObj g1, hck, hfr, run_zero hz, run_setObj g1, Sem.run_pure]
              rfl
            · obtain ⟨q1, q2⟩ := (LR.cons (ι := ι) (n := (h.set b (.mp (es ++ [{ key := k, val := z, born := c }]) (c + 1))).nx) (zero_rel hz) (LR.cons (VR.int .i64 (c : Nat)) .nil)).toArray
              exact .tuple q1 q2
        | some p =>
          obtain ⟨i, u⟩ := p
          cases r' with
          | none => exact hFR.elim
          | some p' =>
            obtain ⟨i', u'⟩ := p'
            obtain ⟨hii, huu⟩ := hFR
            subst hii
            simp only at hl
            split at hl
            · rename_i hsame
              simp only [Option.some.injEq, Prod.mk.injEq] at hl
              obtain ⟨rfl, rfl⟩ := hl
              simp only [Bool.and_eq_true] at hsame
              have hold : ((es'[i]?).map (·.key)).getD k' = ((es[i]?).map (·.key)).getD k ∧ ((es'[i]?).map (·.born)).getD 0 = ((es[i]?).map (·.born)).getD 0 := by
                cases hi : es[i]? with
                | none =>
                  have : es'[i]? = none := by
                    rw [List.getElem?_eq_none_iff] at hi
                    rw [Array.getElem?_eq_none_iff]
                    omega
                  rw [this]
                  simp [hkk]
                | some e =>
                  have hil : i < es.length := by
                    rcases Nat.lt_or_ge i es.length with h | h
                    · exact h
                    · rw [List.getElem?_eq_none h] at hi; cases hi
                  have hi' : es'[i]? = some es'[i] := Array.getElem?_eq_getElem (by omega)
                  rw [hi']
                  have := g3 i e _ hi hi'
                  rw [hi] at hsame
                  simp only [Option.map_some, Option.getD_some] at hsame ⊢
                  exact ⟨plainK_eq hsame.2 this.1, this.2.2.symm⟩
              have := r.setMap hb (es.modify i fun e => { e with key := k }) (es'.modify i fun e => { e with key := k' }) c ⟨by simp [g2], fun j e e' a a' => by
                rw [List.getElem?_modify] at a
                rw [Array.getElem?_toList, Array.getElem?_modify] at a'
                by_cases hj : i = j
                · rw [if_pos hj] at a'
                  simp only [hj, if_true] at a
                  cases hej : es[j]? with
                  | none => rw [hej] at a; cases a
                  | some e0 =>
                    cases hej' : es'[j]? with
                    | none => rw [hej'] at a'; cases a'
                    | some e0' =>
                      rw [hej] at a
                      rw [hej'] at a'
                      simp only [Option.map_some, Option.some.injEq, Option.map_eq_map] at a a'
                      subst a; subst a'
                      exact ⟨hk, (g3 j e0 e0' hej hej').2.1, (g3 j e0 e0' hej hej').2.2⟩
                · rw [if_neg hj] at a'
                  simp only [hj, if_false] at a
                  exact g3 j e e' (by simpa using a) (by simpa using a')⟩
              refine ⟨.tuple #[u', .int .i64 (((es[i]?).map (·.born)).getD 0 : Nat)], _, _, ?_, this.1, this.2, ?_⟩
              · have hb2 : ((es'[i]?).map (fun x => (x.born : Int))).getD 0 = (((es[i]?).map (·.born)).getD 0 : Nat) := by
                  rw [← hold.2]
                  cases es'[i]? <;> rfl
                simp only [Instr.mapEntry, Sem.run_bind, run_underlying hu, Result.andThen_ok, run_getObj g1, hck, hfr, Instr.keyThatStays, hold.1, hb2]
                rw [hkk, if_pos hsame.1]
                simp only [Sem.run_pure, Result.andThen_ok, run_setObj g1]
                rfl
              · obtain ⟨q1, q2⟩ := (LR.cons (ι := ι) (n := (h.set b (.mp (es.modify i fun e => { e with key := k }) c)).nx) huu (LR.cons (VR.int .i64 (((es[i]?).map (·.born)).getD 0 : Nat)) .nil)).toArray
                exact .tuple q1 q2
            · cases hl
      · cases hmo
    · cases hu'
  · cases hu'
theorem ER.findIdx {ι : Nat → Emb} {n : Nat} (x : Int) : ∀ {es es' : List MapEntry}, ER ι n es es' → es'.findIdx? (fun e => (e.born : Int) == x) = es.findIdx? (fun e => (e.born : Int) == x) := by
  intro es
  induction es with
  | nil =>
    intro es' h
    cases es' with
    | nil => rfl
    | cons a b => exact absurd h.1 (by simp)
  | cons e es ih =>
    intro es' h
    obtain ⟨e', es1, rfl, _, _, hb, ht⟩ := h.uncons
    simp only [List.findIdx?_cons, hb, ih ht]
theorem entryStore_run (r : Rel P E ι h w) {t : TypeId} {m m' s s' x x' : Value} {h' : H} (hm : VR ι h.nx m m') (hs : VR ι h.nx s s') (hx : VR ι h.nx x x') (hu' : entryStore m s x h = some h') :
    ∃ w', (Instr.entryStore t m' s' x').run P w = .ok () w' ∧ Tr ι h w ι h' w' ∧ Rel P E ι h' w' := by
  unfold entryStore at hu'
  split at hu'
  · rename_i b kd n
    cases hm
    cases hs
    split at hu'
    · rename_i es c hb
      obtain ⟨i, hi, hl⟩ := map_some hu'
      subst hl
      obtain ⟨es', g1, g2, g3⟩ := r.blk b _ hb
      have her : ER ι h.nx es es'.toList := ⟨by simpa using g2, fun i e e' a a' => g3 i e e' a (by simpa using a')⟩
      have hi' : es'.findIdx? (fun e => (e.born : Int) == n) = some i := by
        rw [show es'.findIdx? (fun e => (e.born : Int) == n) = es'.toList.findIdx? (fun e => (e.born : Int) == n) by obtain ⟨l⟩ := es'; simp, her.findIdx n, hi]
      have := r.setMap hb (es.modify i fun e => { e with val := x }) (es'.modify i fun e => { e with val := x' }) c ⟨by simp [g2], fun j e e' a a' => by
        rw [List.getElem?_modify] at a
        rw [Array.getElem?_toList, Array.getElem?_modify] at a'
        by_cases hj : i = j
        · rw [if_pos hj] at a'
          simp only [hj, if_true] at a
          cases hej : es[j]? with
          | none => rw [hej] at a; cases a
          | some e0 =>
            cases hej' : es'[j]? with
            | none => rw [hej'] at a'; cases a'
            | some e0' =>
              rw [hej] at a
              rw [hej'] at a'
              simp only [Option.map_some, Option.some.injEq, Option.map_eq_map] at a a'
              subst a; subst a'
              exact ⟨(g3 j e0 e0' hej hej').1, hx, (g3 j e0 e0' hej hej').2.2⟩
        · rw [if_neg hj] at a'
          simp only [hj, if_false] at a
          exact g3 j e e' (by simpa using a) (by simpa using a')⟩
      refine ⟨_, ?_, this.1, this.2⟩
      simp only [Instr.entryStore, Sem.run_bind, Result.andThen_ok, run_getObj g1, asInt, asIntOf, Sem.run_pure, hi', run_setObj g1]
    · cases hu'
  · cases hu'
theorem delete_run (r : Rel P E ι h w) {tys : Array TypeId} {T : TypeId} {m m' k k' v : Value} {h' : H} (hm : VR ι h.nx m m') (hk : VR ι h.nx k k') (hu' : deleteM P tys.toList m k h = some (v, h')) :
    Out P E ι h w (Builtin.delete_ tys T #[m', k']) v h' := by
  unfold deleteM at hu'
  split at hu'
  · rename_i kt vt b hd
    obtain ⟨t, ht, hu⟩ := bind_some hd
    have ht' : tys[0]? = some t := by rw [← Array.getElem?_toList]; exact ht
    split at hu'
    · rename_i hkey
      obtain ⟨p1, p2, p3⟩ := isKey_parts hkey
      obtain ⟨⟨es, c⟩, hmo, hl1⟩ := bind_some hu'
      clear hu'
      obtain ⟨r1, hf, hl⟩ := map_some hl1
      clear hl1
      unfold mapOf at hmo
      simp only at hmo
      split at hmo
      · rename_i es0 c0 hb
        cases hmo
        cases hm
        obtain ⟨es', g1, g2, g3⟩ := r.blk b _ hb
        have her : ER ι h.nx es es'.toList := ⟨by simpa using g2, fun i e e' a a' => g3 i e e' a (by simpa using a')⟩
        obtain ⟨r', hfr, hFR⟩ := findKey_run (P := P) w p2 hk her hf
        have hck := checkKey_run (P := P) w es'.isEmpty 10 kt k k' p2 p3 hk 10000 (by omega)
        cases r1 with
        | none =>
          cases r' with
          | some _ => exact hFR.elim
          | none =>
            simp only [Prod.mk.injEq] at hl
            obtain ⟨rfl, rfl⟩ := hl
            have := r.setMap hb es es' c her
            refine ⟨undef, _, _, ?_, this.1, this.2, .undef⟩
            simp only [Builtin.delete_, ht', List.getElem?_toArray, Sem.run_bind, run_underlying hu, Result.andThen_ok, run_getObj g1, hck, hfr, run_setObj g1, Sem.run_pure, show (#[Value.map (some (ι b).g), k'] : Array Value)[0]? = some (.map (some (ι b).g)) from rfl, show (#[Value.map (some (ι b).g), k'] : Array Value)[1]? = some k' from rfl]
            rfl
        | some p =>
          obtain ⟨i, u⟩ := p
          cases r' with
          | none => exact hFR.elim
          | some p' =>
            obtain ⟨i', u'⟩ := p'
            obtain ⟨hii, huu⟩ := hFR
            subst hii
            simp only [Prod.mk.injEq] at hl
            obtain ⟨rfl, rfl⟩ := hl
            have hE : (es'.eraseIdxIfInBounds i).toList = es'.toList.eraseIdx i := by
              unfold Array.eraseIdxIfInBounds
              split
              · simp
              · rename_i hlt
                rw [List.eraseIdx_of_length_le (by simpa using hlt)]
            have := r.setMap hb (es.eraseIdx i) (es'.eraseIdxIfInBounds i) c ⟨by rw [hE, List.length_eraseIdx, List.length_eraseIdx]; simp [g2], fun j e e' a a' => by
              rw [hE] at a'
              rw [List.getElem?_eraseIdx] at a a'
              split at a
              · rename_i hlt; rw [if_pos hlt] at a'; exact her.2 j e e' a a'
              · rename_i hlt; rw [if_neg hlt] at a'; exact her.2 (j + 1) e e' a a'⟩
            refine ⟨undef, _, _, ?_, this.1, this.2, .undef⟩
            simp only [Builtin.delete_, ht', List.getElem?_toArray, Sem.run_bind, run_underlying hu, Result.andThen_ok, run_getObj g1, hck, hfr, run_setObj g1, Sem.run_pure, show (#[Value.map (some (ι b).g), k'] : Array Value)[0]? = some (.map (some (ι b).g)) from rfl, show (#[Value.map (some (ι b).g), k'] : Array Value)[1]? = some k' from rfl]
            rfl
      · cases hmo
    · cases hu'
  · cases hu'
theorem makeMap_run (r : Rel P E ι h w) {t : TypeId} {v : Value} {h' : H} (hm : makeMap none h = some (v, h')) : Out P E ι h w (Instr.makeMap t none) v h' := by
  unfold makeMap at hm
  simp only [Option.some.injEq, Prod.mk.injEq] at hm
  obtain ⟨rfl, rfl⟩ := hm
  have := r.alloc (.mp [] 0) (.map #[] 0) ⟨w.heap.size, 0, 0, 0⟩ rfl ⟨#[], by rw [Emb.new_at]; exact heap_push_at w _, rfl, fun i e e' a => by simp at a⟩
  refine ⟨.map (some w.heap.size), _, _, ?_, this.1, this.2, ?_⟩
  · simp only [Instr.makeMap, Sem.run_bind, run_newObj, Result.andThen_ok, Sem.run_pure]
    rfl
  · have h2 := VR.map (ι := Emb.new ι h.nx ⟨w.heap.size, 0, 0, 0⟩) (n := (h.new (.mp [] 0)).nx) (b := h.nx) (by simp [H.new])
    rw [Emb.new_at] at h2
    exact h2
end
end Go.AM
namespace Go.AM
/-- What a heap may have become. -/
def Grow (h h' : H) : Prop := h.nx ≤ h'.nx ∧ h.wr ≤ h'.wr ∧ (h'.wr = h.wr → ∀ b, b < h.nx → h'.blk b = h.blk b) ∧ ∀ b k, h'.blk b = some k → k.own = false → h.blk b = some k
theorem Grow.refl (h : H) : Grow h h := ⟨Nat.le_refl _, Nat.le_refl _, fun _ _ _ => rfl, fun _ _ h _ => h⟩
theorem Grow.trans {a b c : H} (p : Grow a b) (q : Grow b c) : Grow a c :=
  ⟨Nat.le_trans p.1 q.1, Nat.le_trans p.2.1 q.2.1, fun e i hi => by
    have e1 : b.wr = a.wr := by have := p.2.1; have := q.2.1; omega
    have e2 : c.wr = b.wr := by omega
    rw [q.2.2.1 e2 i (Nat.lt_of_lt_of_le hi p.1), p.2.2.1 e1 i hi], fun i k hk ho => p.2.2.2 i k (q.2.2.2 i k hk ho) ho⟩
theorem Grow.new (h : H) (k : Blk) (hk : k.own = true) : Grow h (h.new k) :=
  ⟨by simp [H.new], Nat.le_refl _, fun _ b hb => by simp only [H.new]; rw [if_neg (by omega)], fun b k' hb ho => by
    simp only [H.new] at hb
    split at hb
    · cases hb; rw [hk] at ho; cases ho
    · exact hb⟩
theorem Grow.set (h : H) (b : Nat) (k : Blk) (hk : k.own = true) : Grow h (h.set b k) :=
  ⟨Nat.le_refl _, by simp [H.set], fun e => by simp [H.set] at e, fun i k' hb ho => by
    simp only [H.set] at hb
    split at hb
    · cases hb; rw [hk] at ho; cases ho
    · exact hb⟩
theorem Grow.kill (h : H) (b : Nat) : Grow h (h.kill b) :=
  ⟨Nat.le_refl _, Nat.le_succ _, fun e => by simp [H.kill] at e, fun i k' hb _ => by
    simp only [H.kill] at hb
    split at hb
    · cases hb
    · exact hb⟩
theorem Grow.killNew (h : H) (b : Nat) (k : Blk) (hk : k.own = true) : Grow h ((h.kill b).new k) := (Grow.kill h b).trans (.new _ _ hk)
section
variable {P : Program} {E : Env}
structure SoundR (P : Program) (E : Env) (rec : Rec) : Prop where
  fn : ∀ f args h v h', rec f args h = some (v, h') → ∃ fn c, P.funcs[f]? = some fn ∧ fn.body = some c ∧ fn.name ≠ "runtime.NumGoroutine"
  grow : ∀ f args h v h', rec f args h = some (v, h') → Grow h h'
  calls : ∀ f args h v h', rec f args h = some (v, h') → ∀ ι w args', Rel P E ι h w → AR ι h.nx args args' →
    Calls P f args' w fun e w' => ∃ v' ι', e = .returned v' ∧ Tr ι h w ι' h' w' ∧ Rel P E ι' h' w' ∧ VR ι' h'.nx v v'
theorem append_grows {tys : List TypeId} {s x v : Value} {h h' : H} (ha : append P tys s x h = some (v, h')) : Grow h h' := by
  unfold append at ha
  split at ha
  · split at ha
    · obtain ⟨i, hi, ha1⟩ := bind_some ha
      clear ha
      obtain ⟨z, hz, ha2⟩ := bind_some ha1
      clear ha1
      obtain ⟨k, hk, ha3⟩ := bind_some ha2
      clear ha2
      obtain ⟨xs, hxs, ha⟩ := bind_some ha3
      clear ha3
      split at ha
      · split at ha
        · split at ha
          · cases ha; exact .refl _
          · split at ha
            · cases ha; exact .new _ _ rfl
            · cases ha
        · split at ha
          · cases ha; exact .refl _
          · split at ha
            · split at ha
              · split at ha
                · cases ha; exact .set _ _ _ rfl
                · cases ha
              · cases ha
            · split at ha
              · split at ha
                · obtain ⟨old, ho, hb⟩ := bind_some ha
                  cases hb; exact .new _ _ rfl
                · split at ha
                  · split at ha
                    · cases ha; exact .killNew _ _ _ rfl
                    · cases ha
                  · cases ha
              · cases ha
        · cases ha
      · cases ha
    · cases ha
  · cases ha
theorem copy_grows {tys : List TypeId} {d x v : Value} {h h' : H} (ha : copyS P tys d x h = some (v, h')) : Grow h h' := by
  unfold copyS at ha
  split at ha
  · split at ha
    · obtain ⟨_, _, ha⟩ := bind_some ha
      split at ha
      · split at ha
        · cases ha; exact .refl _
        · split at ha
          · obtain ⟨_, _, ha⟩ := bind_some ha
            split at ha
            · split at ha
              · cases ha; exact .set _ _ _ rfl
              · cases ha
            · cases ha
          · cases ha
      · cases ha
    · cases ha
  · cases ha
theorem clear_grows {tys : List TypeId} {x v : Value} {h h' : H} (ha : clearS P tys x h = some (v, h')) : Grow h h' := by
  unfold clearS at ha
  split at ha
  · split at ha
    · split at ha
      · split at ha
        · cases ha; exact .refl _
        · split at ha
          · obtain ⟨_, _, ha⟩ := bind_some ha
            split at ha
            · split at ha
              · cases ha; exact .set _ _ _ rfl
              · cases ha
            · cases ha
          · cases ha
      · cases ha
    · cases ha
  · cases ha
theorem delete_grows {tys : List TypeId} {m k v : Value} {h h' : H} (ha : deleteM P tys m k h = some (v, h')) : Grow h h' := by
  unfold deleteM at ha
  split at ha
  · split at ha
    · obtain ⟨_, _, ha⟩ := bind_some ha
      obtain ⟨_, _, ha⟩ := map_some ha
      split at ha
      · cases ha; exact .set _ _ _ rfl
      · cases ha; exact .set _ _ _ rfl
    · cases ha
  · cases ha
theorem builtin_grows {b : Builtin} {tys : List TypeId} {args : List Value} {v : Value} {h h' : H} (ha : builtin P b tys args h = some (v, h')) : Grow h h' := by
  unfold builtin at ha
  split at ha
  · exact append_grows ha
  · exact copy_grows ha
  · exact clear_grows ha
  · split at ha
    · cases ha; exact .refl _
    · cases ha; exact .refl _
    · split at ha
      · cases ha; exact .refl _
      · cases ha
    · cases ha
  · exact delete_grows ha
  · obtain ⟨_, _, hb⟩ := map_some ha; cases hb; exact .refl _
  · obtain ⟨_, _, hb⟩ := map_some ha; cases hb; exact .refl _
  · cases ha
theorem mapUpdate_grows {t : TypeId} {m k x : Value} {h h' : H} (hs : mapUpdate P t m k x h = some h') : Grow h h' := by
  unfold mapUpdate at hs
  split at hs
  · split at hs
    · obtain ⟨⟨_, _⟩, _, hb⟩ := bind_some hs
      obtain ⟨_, _, hb⟩ := bind_some hb
      split at hb
      · split at hb
        · cases hb; exact .set _ _ _ rfl
        · cases hb
      · cases hb; exact .set _ _ _ rfl
    · cases hs
  · cases hs
theorem mapEntry_grows {t : TypeId} {m k v : Value} {h h' : H} (hs : mapEntry P t m k h = some (v, h')) : Grow h h' := by
  unfold mapEntry at hs
  split at hs
  · split at hs
    · obtain ⟨⟨_, _⟩, _, hb⟩ := bind_some hs
      obtain ⟨_, _, hb⟩ := bind_some hb
      split at hb
      · split at hb
        · cases hb; exact .set _ _ _ rfl
        · cases hb
      · obtain ⟨_, _, hb⟩ := map_some hb
        cases hb; exact .set _ _ _ rfl
    · cases hs
  · cases hs
theorem entryStore_grows {m s x : Value} {h h' : H} (hs : entryStore m s x h = some h') : Grow h h' := by
  unfold entryStore at hs
  split at hs
  · split at hs
    · obtain ⟨_, _, hb⟩ := map_some hs
      subst hb
      exact .set _ _ _ rfl
    · cases hs
  · cases hs
theorem op_grows {rec : Rec} (hrec : SoundR P E rec) {t : Array Value} {o : Oper} {h h' : H} {v : Value} (ho : op P E rec t o h = some (v, h')) : Grow h h' := by
  have pure : ∀ {x : Option Value}, x.map (fun v => (v, h)) = some (v, h') → Grow h h' := by
    intro x hx
    obtain ⟨_, _, hb⟩ := map_some hx
    cases hb
    exact .refl _
  unfold op at ho
  split at ho
  · cases ho
  · simp only at ho
    split at ho
    all_goals try (cases ho; exact .refl _; done)
    all_goals try (exact pure ho; done)
    · split at ho
      · cases ho; exact .refl _
      · cases ho; exact .refl _
      · cases ho
    · obtain ⟨_, _, hb⟩ := map_some ho; cases hb; exact .new _ _ rfl
    · obtain ⟨_, _, hb⟩ := map_some ho; cases hb; exact .new _ _ rfl
    · unfold buildSlice at ho
      split at ho
      · obtain ⟨_, _, hb⟩ := bind_some ho
        obtain ⟨_, _, hb⟩ := bind_some hb
        split at hb
        · obtain ⟨_, _, hb⟩ := map_some hb; cases hb; exact .new _ _ rfl
        · cases hb
      · cases ho
    · obtain ⟨h1, hs, hb⟩ := map_some ho
      cases hb
      unfold store at hs
      split at hs
      · split at hs
        · split at hs
          · cases hs; exact .set _ _ _ rfl
          · cases hs
        · cases hs
      · cases hs
    · split at ho
      · cases ho; exact .refl _
      · cases ho; exact .refl _
      · cases ho
    · split at ho
      · cases ho; exact .refl _
      · cases ho
    · unfold makeMap at ho
      split at ho
      · cases ho; exact .new _ _ rfl
      · cases ho
    · unfold makeSlice at ho
      split at ho
      · obtain ⟨_, _, hb⟩ := bind_some ho
        obtain ⟨_, _, hb⟩ := bind_some hb
        split at hb
        · cases hb; exact .new _ _ rfl
        · cases hb
      · cases ho
    · obtain ⟨h1, hs, hb⟩ := map_some ho
      cases hb
      exact mapUpdate_grows hs
    · obtain ⟨h1, hs, hb⟩ := map_some ho
      cases hb
      exact mapUpdate_grows hs
    · exact mapEntry_grows ho
    · obtain ⟨h1, hs, hb⟩ := map_some ho
      cases hb
      exact entryStore_grows hs
    · split at ho
      · exact pure ho
      · cases ho
    · split at ho
      · exact builtin_grows ho
      · unfold callV at ho
        split at ho
        · exact hrec.grow _ _ _ _ _ ho
        · cases ho
      · cases ho
    · cases ho
end
end Go.AM
namespace Go.AM
section
variable {P : Program} {E : Env} {ι : Nat → Emb} {h : H} {w : World}
theorem ev_rel (r : Rel P E ι h w) {t : Array Value} {a : Act} (ht : AR ι h.nx t a.tmps) {x : Operand} (hx : okOperand E x = true) : VR ι h.nx (ev t x) (a.eval x) := by
  cases x with
  | tmp i =>
    simp only [ev, Act.eval, Array.getD_eq_getD_getElem?]
    cases hi : t[i]? with
    | none =>
      have : a.tmps[i]? = none := by
        rw [Array.getElem?_eq_none_iff] at hi ⊢
        have := ht.1
        omega
      rw [this]
      exact .undef
    | some v =>
      obtain ⟨v', h1, h2⟩ := ht.get hi
      rw [h1]
      exact h2
  | const v => exact closedV_rel 5 v hx
  | global g =>
    have hg : g < E.NG := of_decide_eq_true hx
    obtain ⟨h1, h2⟩ := r.glob g hg
    have := VR.ptr (ι := ι) (n := h.nx) (b := g) (o := 0) (Nat.lt_of_lt_of_le hg r.ng)
    rw [h1, h2] at this
    exact this
  | func f => exact .func rfl rfl (fun i v v' hv => by simp at hv) (fun i v v' hv => by simp at hv)
theorem evs_rel {l : List Operand} {e e' : Operand → Value} {n : Nat} (he : ∀ x ∈ l, VR ι n (e x) (e' x)) : LR ι n (l.map e) (l.map e') := LR.map e e' l he
theorem evs_rel' {l : Array Operand} {e e' : Operand → Value} {n : Nat} (he : ∀ x ∈ l, VR ι n (e x) (e' x)) : AR ι n (l.map e) (l.map e') := by
  have := (LR.map e e' l.toList (fun x hx => he x (by simpa using hx))).toArray
  have e1 : ∀ f : Operand → Value, (l.toList.map f).toArray = l.map f := fun f => by apply Array.ext'; simp
  rw [e1, e1] at this
  exact this
theorem AR.append {n : Nat} {a a' b b' : Array Value} (p : AR ι n a a') (q : AR ι n b b') : AR ι n (a ++ b) (a' ++ b') := by
  have := (p.toList.append q.toList).toArray
  have e1 : ∀ x y : Array Value, (x.toList ++ y.toList).toArray = x ++ y := fun x y => by apply Array.ext'; simp
  rw [e1, e1] at this
  exact this
theorem minmax_fold {n : Nat} (mx : Bool) (w : World) : ∀ (l l' : List Value) (x x' v : Value), LR ι n l l' → VR ι n x x' →
    l.foldlM (fun a b =>
      match a, b with
      | .int k p, .int _ q => some (if mx then .int k (if p < q then q else p) else .int k (if q < p then q else p))
      | _, _ => none) x = some v → ∃ v', (l'.foldlM (if mx then Builtin.max2 else Builtin.min2) x' : Sem Value).run P w = .ok v' w ∧ VR ι n v v' := by
  intro l
  induction l with
  | nil =>
    intro l' x x' v hl hx hm
    cases l' with
    | nil =>
      simp only [List.foldlM_nil] at hm
      cases hm
      exact ⟨x', rfl, hx⟩
    | cons a b => exact absurd hl.1 (by simp)
  | cons y l ih =>
    intro l' x x' v hl hx hm
    obtain ⟨y', l', rfl, hy, hl⟩ := hl.uncons
    simp only [List.foldlM_cons] at hm ⊢
    obtain ⟨z, hz, hm⟩ := bind_some hm
    have hzz : ∃ z', ((if mx then Builtin.max2 else Builtin.min2) x' y').run P w = .ok z' w ∧ VR ι n z z' := by
      split at hz
      · cases hx; cases hy
        cases hz
        cases mx
        · refine ⟨_, rfl, ?_⟩
          exact .int _ _
        · refine ⟨_, rfl, ?_⟩
          exact .int _ _
      · cases hz
    obtain ⟨z', hz1, hz2⟩ := hzz
    simp only [Sem.run_bind, hz1, Result.andThen_ok]
    exact ih l' z z' v hl hz2 hm
theorem minmax_run {n : Nat} (mx : Bool) (w : World) {l l' : List Value} {v : Value} (hl : LR ι n l l') (hm : minmax mx l = some v) :
    ∃ v', ((match l' with | [] => stuck "x" | x :: rest => rest.foldlM (if mx then Builtin.max2 else Builtin.min2) x : Sem Value)).run P w = .ok v' w ∧ VR ι n v v' := by
  cases l with
  | nil => cases hm
  | cons x l =>
    obtain ⟨x', l', rfl, hx, hl⟩ := hl.uncons
    exact minmax_fold mx w l l' x x' v hl hx hm
theorem builtin_wp (r : Rel P E ι h w) {b : Builtin} {tys : Array TypeId} {T : TypeId} {args : List Value} {args' : Array Value} (hargs : LR ι h.nx args args'.toList) {v : Value} {h' : H}
    (hb : builtin P b tys.toList args h = some (v, h')) :
    ∃ v' ι' w', (∀ cs, (Go.builtin b tys T cs args').run P w = .ok (.value v') w') ∧ Tr ι h w ι' h' w' ∧ Rel P E ι' h' w' ∧ VR ι' h'.nx v v' := by
  unfold builtin at hb
  split at hb
  · obtain ⟨s', u, e1, hs, hu⟩ := hargs.uncons
    obtain ⟨x', u2, rfl, hx, hu2⟩ := hu.uncons
    have : u2 = [] := List.length_eq_zero_iff.1 (by have := hu2.1; simpa using this.symm)
    subst this
    have e2 : args' = #[s', x'] := by apply Array.ext'; simpa using e1
    subst e2
    obtain ⟨v', ι', w', h1, h2, h3, h4⟩ := append_run (T := T) r hs hx hb
    exact ⟨v', ι', w', fun cs => by simp only [Go.builtin, Sem.run_bind, h1, Result.andThen_ok, Sem.run_pure], h2, h3, h4⟩
  · obtain ⟨s', u, e1, hs, hu⟩ := hargs.uncons
    obtain ⟨x', u2, rfl, hx, hu2⟩ := hu.uncons
    have : u2 = [] := List.length_eq_zero_iff.1 (by have := hu2.1; simpa using this.symm)
    subst this
    have e2 : args' = #[s', x'] := by apply Array.ext'; simpa using e1
    subst e2
    obtain ⟨v', ι', w', h1, h2, h3, h4⟩ := copy_run (T := T) r hs hx hb
    exact ⟨v', ι', w', fun cs => by simp only [Go.builtin, Sem.run_bind, h1, Result.andThen_ok, Sem.run_pure], h2, h3, h4⟩
  · obtain ⟨x', u, e1, hx, hu⟩ := hargs.uncons
    have : u = [] := List.length_eq_zero_iff.1 (by have := hu.1; simpa using this.symm)
    subst this
    have e2 : args' = #[x'] := by apply Array.ext'; simpa using e1
    subst e2
    obtain ⟨v', ι', w', h1, h2, h3, h4⟩ := clear_run (T := T) r hx hb
    exact ⟨v', ι', w', fun cs => by simp only [Go.builtin, Sem.run_bind, h1, Result.andThen_ok, Sem.run_pure], h2, h3, h4⟩
  · obtain ⟨x', u, e1, hx, hu⟩ := hargs.uncons
    have : u = [] := List.length_eq_zero_iff.1 (by have := hu.1; simpa using this.symm)
    subst this
    have e2 : args' = #[x'] := by apply Array.ext'; simpa using e1
    subst e2
    have ty : ∀ d, (tys.toList[0]?).bind P.underlying = some d → ∃ t, tys[0]? = some t ∧ P.underlying t = some d := by
      intro d hd
      obtain ⟨t, h1, h2⟩ := bind_some hd
      exact ⟨t, by rw [← Array.getElem?_toList]; exact h1, h2⟩
    split at hb
    · rename_i hd
      obtain ⟨t, h1, h2⟩ := ty _ hd
      cases hb
      refine ⟨.int .i64 _, ι, w, fun cs => ?_, .refl _ _ _, r, .int _ _⟩
      cases hx <;> simp [Go.builtin, Builtin.len_, h1, run_underlying h2, goInt]
    · rename_i hd
      obtain ⟨t, h1, h2⟩ := ty _ hd
      cases hb
      refine ⟨.int .i64 0, ι, w, fun cs => ?_, .refl _ _ _, r, .int _ _⟩
      cases hx
      simp [Go.builtin, Builtin.len_, h1, run_underlying h2, goInt]
    · rename_i bb hd
      obtain ⟨t, h1, h2⟩ := ty _ hd
      split at hb
      · rename_i es c hblk
        cases hb
        cases hx
        obtain ⟨es', g1, g2, g3⟩ := r.blk _ _ hblk
        refine ⟨.int .i64 es.length, ι, w, fun cs => ?_, .refl _ _ _, r, .int _ _⟩
        simp [Go.builtin, Builtin.len_, h1, run_underlying h2, goInt, run_getObj g1, g2]
      · cases hb
    · cases hb
  · obtain ⟨s', u, e1, hs, hu⟩ := hargs.uncons
    obtain ⟨x', u2, rfl, hx, hu2⟩ := hu.uncons
    have : u2 = [] := List.length_eq_zero_iff.1 (by have := hu2.1; simpa using this.symm)
    subst this
    have e2 : args' = #[s', x'] := by apply Array.ext'; simpa using e1
    subst e2
    obtain ⟨v', ι', w', h1, h2, h3, h4⟩ := delete_run (T := T) r hs hx hb
    exact ⟨v', ι', w', fun cs => by simp only [Go.builtin, Sem.run_bind, h1, Result.andThen_ok, Sem.run_pure], h2, h3, h4⟩
  · obtain ⟨m, hm, hb⟩ := map_some hb
    cases hb
    obtain ⟨v', h1, h2⟩ := minmax_run (P := P) false w hargs hm
    refine ⟨v', ι, w, fun cs => ?_, .refl _ _ _, r, h2⟩
    simp only [Go.builtin, Builtin.min_, Sem.run_bind]
    cases hl : args'.toList with
    | nil => rw [hl] at h1; cases h1
    | cons a b =>
      rw [hl] at h1
      simp only [Bool.false_eq_true, if_false] at h1
      simp only [h1, Result.andThen_ok, Sem.run_pure]
  · obtain ⟨m, hm, hb⟩ := map_some hb
    cases hb
    obtain ⟨v', h1, h2⟩ := minmax_run (P := P) true w hargs hm
    refine ⟨v', ι, w, fun cs => ?_, .refl _ _ _, r, h2⟩
    simp only [Go.builtin, Builtin.max_, Sem.run_bind]
    cases hl : args'.toList with
    | nil => rw [hl] at h1; cases h1
    | cons a b =>
      rw [hl] at h1
      simp only [if_true] at h1
      simp only [h1, Result.andThen_ok, Sem.run_pure]
  · cases hb
theorem op_wpE {rec : Rec} (hrec : SoundR P E rec) {t : Array Value} {o : Oper} {h' : H} {v : Value} (ho : op P E rec t o h = some (v, h')) {a : Act} {K : Act → World → Prop} {Q : Exit → Act → World → Prop}
    (r : Rel P E ι h w) (hall0 : ∀ x ∈ o.op.operands, okOperand E x = true → VR ι h.nx (ev t x) (a.eval x)) (hK : ∀ v' ι' w', Tr ι h w ι' h' w' → Rel P E ι' h' w' → VR ι' h'.nx v v' → K (a.put o.dst v') w') : o.wp P a w K Q := by
  obtain ⟨dst, opn, type, pos, after, guard⟩ := o
  simp only at hK hall0
  unfold op at ho
  simp only at ho
  split at ho
  · cases ho
  rename_i hok
  have hall : ∀ x ∈ opn.operands, VR ι h.nx (ev t x) (a.eval x) := by
    intro x hx
    simp only [Bool.not_eq_true', Bool.not_eq_false, List.all_eq_true] at hok
    exact hall0 x hx (hok x (by simpa using hx))
  clear hok hall0
  -- three ways to end
  have val : ∀ (s : Sem Value), execOp a.eval ⟨dst, opn, type, pos, after, guard⟩ = (do pure (Next.value (← s))) → ∀ v' ι' w', s.run P w = .ok v' w' → Tr ι h w ι' h' w' → Rel P E ι' h' w' → VR ι' h'.nx v v' →
      Oper.wp P ⟨dst, opn, type, pos, after, guard⟩ a w K Q := by
    intro s hs v' ι' w' hr h1 h2 h3
    unfold Oper.wp
    rw [hs]
    simp only [Sem.run_bind, hr, Result.andThen_ok, Sem.run_pure, Oper.upon_value]
    exact hK v' ι' w' h1 h2 h3
  have same : ∀ (s : Sem Value), execOp a.eval ⟨dst, opn, type, pos, after, guard⟩ = (do pure (Next.value (← s))) → h = h' → ∀ v', s.run P w = .ok v' w → VR ι h.nx v v' →
      Oper.wp P ⟨dst, opn, type, pos, after, guard⟩ a w K Q := by
    intro s hs hh v' hr h3
    subst hh
    exact val s hs v' ι w hr (.refl _ _ _) r h3
  have now : ∀ v', execOp a.eval ⟨dst, opn, type, pos, after, guard⟩ = pure (Next.value v') → h = h' → VR ι h.nx v v' → Oper.wp P ⟨dst, opn, type, pos, after, guard⟩ a w K Q := by
    intro v' hs hh h3
    exact same (pure v') (by rw [hs]; rfl) hh v' rfl h3
  have unit : ∀ (s : Sem Unit), execOp a.eval ⟨dst, opn, type, pos, after, guard⟩ = (do s; pure Next.skip) → v = undef → ∀ ι' w', s.run P w = .ok () w' → Tr ι h w ι' h' w' → Rel P E ι' h' w' →
      Oper.wp P ⟨dst, opn, type, pos, after, guard⟩ a w K Q := by
    intro s hs hv ι' w' hr h1 h2
    unfold Oper.wp
    rw [hs]
    simp only [Sem.run_bind, hr, Result.andThen_ok, Sem.run_pure, Oper.upon_skip]
    exact hK _ ι' w' h1 h2 (by rw [hv]; exact .undef)
  have pureM : ∀ {x : Option Value}, x.map (fun v => (v, h)) = some (v, h') → x = some v ∧ h = h' := by
    intro x hx
    obtain ⟨_, h1, hb⟩ := map_some hx
    cases hb
    exact ⟨h1, rfl⟩
  cases opn <;> simp only at ho <;> try (cases ho; done)
  case move x => cases ho; exact now _ rfl rfl (hall x (by simp [Op.operands]))
  case assign x => cases ho; exact now _ rfl rfl (hall x (by simp [Op.operands]))
  case pick c x y =>
    have hc := hall c (by simp [Op.operands])
    split at ho
    · rename_i hcv
      cases ho
      rw [hcv] at hc
      generalize hce : a.eval c = u at hc
      cases hc
      exact same (do pure (if ← asBool (a.eval c) then a.eval x else a.eval y)) (by simp only [execOp]; rw [bind_assoc]; rfl) rfl _ (by simp only [hce, asBool, Sem.run_bind, Sem.run_pure, Result.andThen_ok, if_true]) (hall x (by simp [Op.operands]))
    · rename_i hcv
      cases ho
      rw [hcv] at hc
      generalize hce : a.eval c = u at hc
      cases hc
      exact same (do pure (if ← asBool (a.eval c) then a.eval x else a.eval y)) (by simp only [execOp]; rw [bind_assoc]; rfl) rfl _ (by simp only [hce, asBool, Sem.run_bind, Sem.run_pure, Result.andThen_ok]; rfl) (hall y (by simp [Op.operands]))
    · cases ho
  case alloc e =>
    obtain ⟨v', ι', w', h1, h2, h3, h4⟩ := alloc_run r ho
    exact val _ rfl v' ι' w' h1 h2 h3 h4
  case box e x =>
    obtain ⟨v', ι', w', h1, h2, h3, h4⟩ := box_run r (hall x (by simp [Op.operands])) ho
    exact val _ rfl v' ι' w' h1 h2 h3 h4
  case build T ps =>
    obtain ⟨h1, h2⟩ := pureM ho
    obtain ⟨v', h3, h4⟩ := build_run w ps.toList (ev t) a.eval (fun p hp => hall p.2 (by simp only [Op.operands, List.mem_toArray, List.mem_map]; exact ⟨p, hp, rfl⟩)) h1
    refine same _ rfl h2 v' ?_ h4
    rw [← h3]
    congr 2
    apply Array.ext'
    simp
  case buildSlice T n ps =>
    obtain ⟨v', ι', w', h1, h2, h3, h4⟩ := buildSlice_run r ps.toList (ev t) a.eval (fun p hp => hall p.2 (by simp only [Op.operands, List.mem_toArray, List.mem_map]; exact ⟨p, hp, rfl⟩)) ho
    refine val _ rfl v' ι' w' ?_ h2 h3 h4
    rw [← h1]
    congr 2
    apply Array.ext'
    simp
  case load T x =>
    obtain ⟨h1, h2⟩ := pureM ho
    obtain ⟨v', h3, h4⟩ := load_run r (hall x (by simp [Op.operands])) h1
    exact same _ rfl h2 v' h3 h4
  case store T x y =>
    obtain ⟨h1, hs, he⟩ := map_some ho
    cases he
    obtain ⟨w', h2, h3, h4⟩ := store_run r (hall x (by simp [Op.operands])) (hall y (by simp [Op.operands])) hs
    exact unit _ rfl rfl ι w' h2 h3 h4
  case nilCheck x =>
    have hx := hall x (by simp [Op.operands])
    split at ho
    · rename_i hv
      cases ho
      rw [hv] at hx
      generalize hce : a.eval x = u at hx
      cases hx
      exact now _ (by simp only [execOp, hce]) rfl (.ptr (by assumption))
    · rename_i hv
      cases ho
      rw [hv] at hx
      generalize hce : a.eval x = u at hx
      cases hx with
      | @func _ _ xs' _ ys' g1 g2 g3 g4 => exact now (.func (.func _) xs' ys') (by simp only [execOp, hce]) rfl (.func g1 g2 g3 g4)
    · cases ho
  case binOp b T x y T2 =>
    obtain ⟨h1, h2⟩ := pureM ho
    have hx := hall x (by simp [Op.operands])
    have hy := hall y (by simp [Op.operands])
    obtain ⟨v', h3, h4⟩ := binOp_run w h1 hx hy
    refine same _ rfl h2 v' ?_ h4
    simp only [Sem.run_bind, eqGuard_run w h1 hx hy x y, Result.andThen_ok, h3]
  case unOp b T x =>
    obtain ⟨h1, h2⟩ := pureM ho
    obtain ⟨v', h3, h4⟩ := unOp_run (P := P) (hall x (by simp [Op.operands])) h1 w
    exact same _ rfl h2 v' h3 h4
  case convert s d x =>
    obtain ⟨h1, h2⟩ := pureM ho
    obtain ⟨v', h3, h4⟩ := convert_run (P := P) (hall x (by simp [Op.operands])) h1 w
    exact same _ rfl h2 v' h3 h4
  case makeFunc fn xs ys =>
    split at ho
    · cases ho
      refine now (.func (.func _) (xs.map a.eval) (ys.map a.eval)) rfl rfl ?_
      have g1 := evs_rel' (ι := ι) (l := xs) (e := ev t) (e' := a.eval) (n := h.nx) (fun x hx => hall x (by simp only [Op.operands, Array.mem_append]; exact .inl hx))
      have g2 := evs_rel' (ι := ι) (l := ys) (e := ev t) (e' := a.eval) (n := h.nx) (fun x hx => hall x (by simp only [Op.operands, Array.mem_append]; exact .inr hx))
      exact .func g1.1 g2.1 g1.2 g2.2
    · cases ho
  case makeMap T rr =>
    cases rr with
    | some x => cases ho
    | none =>
      obtain ⟨v', ι', w', h1, h2, h3, h4⟩ := makeMap_run (t := T) r ho
      exact val _ rfl v' ι' w' h1 h2 h3 h4
  case makeSlice T l c =>
    obtain ⟨v', ι', w', h1, h2, h3, h4⟩ := makeSlice_run r (hall l (by simp [Op.operands])) (hall c (by simp [Op.operands])) ho
    exact val _ rfl v' ι' w' h1 h2 h3 h4
  case slice T x lo hi mx =>
    obtain ⟨h1, h2⟩ := pureM ho
    have e : ∀ {q : Option Operand} {y d m : Nat}, (∀ z, q = some z → z ∈ (Op.slice T x lo hi mx).operands) → bound (q.map (ev t)) y d = some m → q.map a.eval = q.map (ev t) :=
      fun hq hb => bound_same (fun z hz => hall z (hq z hz)) hb
    have hx := hall x (by simp [Op.operands])
    have eqs : lo.map a.eval = lo.map (ev t) ∧ hi.map a.eval = hi.map (ev t) ∧ mx.map a.eval = mx.map (ev t) := by
      have m1 : ∀ z, lo = some z → z ∈ (Op.slice T x lo hi mx).operands := fun z hz => by subst hz; simp [Op.operands]
      have m2 : ∀ z, hi = some z → z ∈ (Op.slice T x lo hi mx).operands := fun z hz => by subst hz; simp [Op.operands]
      have m3 : ∀ z, mx = some z → z ∈ (Op.slice T x lo hi mx).operands := fun z hz => by subst hz; simp [Op.operands]
      have h1' := h1
      unfold slice at h1'
      split at h1'
      · obtain ⟨_, _, q⟩ := bind_some h1'
        obtain ⟨_, b3, q⟩ := bind_some q
        obtain ⟨_, b2, q⟩ := bind_some q
        obtain ⟨_, b1, q⟩ := bind_some q
        exact ⟨e m1 b1, e m2 b2, e m3 b3⟩
      · split at h1'
        · split at h1'
          · obtain ⟨_, _, q⟩ := bind_some h1'
            obtain ⟨_, b3, q⟩ := bind_some q
            obtain ⟨_, b2, q⟩ := bind_some q
            obtain ⟨_, b1, q⟩ := bind_some q
            exact ⟨e m1 b1, e m2 b2, e m3 b3⟩
          · cases h1'
        · cases h1'
      · cases h1'
    obtain ⟨v', h3, h4⟩ := slice_run r hx h1
    refine same _ rfl h2 v' ?_ h4
    rw [eqs.1, eqs.2.1, eqs.2.2]
    exact h3
  case fieldAddr s x f =>
    obtain ⟨h1, h2⟩ := pureM ho
    obtain ⟨v', h3, h4⟩ := fieldAddr_run (P := P) (hall x (by simp [Op.operands])) h1 w
    exact same _ rfl h2 v' h3 h4
  case field s x f =>
    obtain ⟨h1, h2⟩ := pureM ho
    obtain ⟨v', h3, h4⟩ := field_run (P := P) (hall x (by simp [Op.operands])) h1 w
    exact same _ rfl h2 v' h3 h4
  case indexAddr s x i =>
    obtain ⟨h1, h2⟩ := pureM ho
    obtain ⟨v', h3, h4⟩ := indexAddr_run (P := P) (hall x (by simp [Op.operands])) (hall i (by simp [Op.operands])) h1 w
    exact same _ rfl h2 v' h3 h4
  case index s x i =>
    obtain ⟨h1, h2⟩ := pureM ho
    obtain ⟨v', h3, h4⟩ := index_run (P := P) (hall x (by simp [Op.operands])) (hall i (by simp [Op.operands])) h1 w
    exact same _ rfl h2 v' h3 h4
  case lookup T m k ok =>
    obtain ⟨h1, h2⟩ := pureM ho
    obtain ⟨v', h3, h4⟩ := lookup_run r (hall m (by simp [Op.operands])) (hall k (by simp [Op.operands])) h1
    exact same _ rfl h2 v' h3 h4
  case mapUpdate T m k x =>
    obtain ⟨h1, hs, he⟩ := map_some ho
    cases he
    obtain ⟨w', h2, h3, h4⟩ := mapUpdate_run r (hall m (by simp [Op.operands])) (hall k (by simp [Op.operands])) (hall x (by simp [Op.operands])) hs
    exact unit _ rfl rfl ι w' h2 h3 h4
  case insert T m k x =>
    obtain ⟨h1, hs, he⟩ := map_some ho
    cases he
    obtain ⟨w', h2, h3, h4⟩ := mapUpdate_run r (hall m (by simp [Op.operands])) (hall k (by simp [Op.operands])) (hall x (by simp [Op.operands])) hs
    exact unit _ rfl rfl ι w' h2 h3 h4
  case mapEntry T m k =>
    obtain ⟨v', ι', w', h1, h2, h3, h4⟩ := mapEntry_run r (hall m (by simp [Op.operands])) (hall k (by simp [Op.operands])) ho
    exact val _ rfl v' ι' w' h1 h2 h3 h4
  case entryStore T m s x =>
    obtain ⟨h1, hs, he⟩ := map_some ho
    cases he
    obtain ⟨w', h2, h3, h4⟩ := entryStore_run (t := T) r (hall m (by simp [Op.operands])) (hall s (by simp [Op.operands])) (hall x (by simp [Op.operands])) hs
    exact unit _ rfl rfl ι w' h2 h3 h4
  case extract x i =>
    have hx := hall x (by simp [Op.operands])
    split at ho
    · rename_i vs hv
      obtain ⟨h1, h2⟩ := pureM ho
      rw [hv] at hx
      generalize hce : a.eval x = u at hx
      cases hx with
      | tuple g1 g2 =>
        obtain ⟨v', h3, h4⟩ := AR.get (ι := ι) (n := h.nx) ⟨g1, g2⟩ h1
        exact same _ rfl h2 v' (by simp only [hce, Instr.extract, h3, Sem.run_pure]) h4
    · cases ho
  case call c =>
    obtain ⟨callee, args, argTypes⟩ := c
    cases callee with
    | invoke x m => cases ho
    | builtin b =>
      simp only at ho
      have hargs : LR ι h.nx (args.toList.map (ev t)) (args.map a.eval).toList := by
        rw [Array.toList_map]
        exact evs_rel (fun x hx => hall x (by simp only [Op.operands, Call.operands]; simpa using hx))
      obtain ⟨v', ι', w', h1, h2, h3, h4⟩ := builtin_wp (T := type) r hargs ho
      unfold Oper.wp
      simp only [execOp, resolve, Sem.run_bind, Sem.run_pure, Result.andThen_ok, invoke, h1, Oper.upon_value]
      exact hK v' ι' w' h2 h3 h4
    | value f =>
      simp only at ho
      have hf := hall f (by simp [Op.operands, Call.operands])
      unfold callV at ho
      split at ho
      · rename_i g xs ys hv
        rw [hv] at hf
        generalize hce : a.eval f = u at hf
        cases hf with
        | @func _ _ xs' _ ys' g1 g2 g3 g4 =>
          have hargs : AR ι h.nx (xs ++ args.map (ev t) ++ ys) (xs' ++ args.map a.eval ++ ys') :=
            (AR.append ⟨g1, g3⟩ (evs_rel' (fun x hx => hall x (by simp only [Op.operands, Call.operands]; simp [hx])))).append ⟨g2, g4⟩
          obtain ⟨fn, c, f1, f2, f3⟩ := hrec.fn _ _ _ _ _ ho
          have hcalls := hrec.calls _ _ _ _ _ ho ι w _ r hargs
          unfold Oper.wp
          have hex : (execOp a.eval ⟨dst, .call ⟨.value f, args, argTypes⟩, type, pos, after, guard⟩).run P w = .ok (.enter g (xs' ++ args.map a.eval ++ ys')) w := by
            simp only [execOp, resolve, hce, Deferred.ofValue, Sem.run_bind, Sem.run_pure, Result.andThen_ok, invoke, callFunc, run_program, f1]
            rw [if_neg (by simpa using f3)]
            rw [if_neg (by simp [f2])]
            rfl
          rw [hex, Oper.upon_enter]
          refine hcalls.mono fun e w' he => ?_
          obtain ⟨v', ι', rfl, h2, h3, h4⟩ := he
          exact hK v' ι' w' h2 h3 h4
      · cases ho
theorem op_wp {rec : Rec} (hrec : SoundR P E rec) {t : Array Value} {o : Oper} {h' : H} {v : Value} (ho : op P E rec t o h = some (v, h')) {a : Act} {K : Act → World → Prop} {Q : Exit → Act → World → Prop}
    (r : Rel P E ι h w) (ht : AR ι h.nx t a.tmps) (hK : ∀ v' ι' w', Tr ι h w ι' h' w' → Rel P E ι' h' w' → VR ι' h'.nx v v' → K (a.put o.dst v') w') : o.wp P a w K Q :=
  op_wpE hrec ho r (fun _ _ hx => ev_rel r ht hx) hK
end
end Go.AM
end
