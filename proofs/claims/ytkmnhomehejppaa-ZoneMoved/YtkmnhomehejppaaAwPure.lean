/- Operations that only read: what they give, over abstract values. -/
import Derived.Test.YtkmnhomehejppaaAwCore
import Derived.Laws.Cells
import Derived.Laws.Entries
import Derived.Laws.IdiomCopy
set_option linter.unusedSimpArgs false
set_option linter.unusedVariables false
set_option linter.deprecated false
namespace Go.Aw

inductive Od where
  | t (n : Nat)
  | c (x : AV)

def Od.ev (s : Slots) : Od → AV
  | .t n => s.get n
  | .c x => x

inductive AOp where
  | mov (x : Od)
  | pick (c a b : Od)
  | load (ag : Bool) (sz : Nat) (a : Od)
  | fadr (off : Nat) (x : Od)
  | iadr (sz : Nat) (x i : Od)
  | iadA (sz n : Nat) (x i : Od)
  | fld (ag : Bool) (off sz : Nat) (x : Od)
  | bld (zs : List AV) (ps : List (Nat × Nat × Od))
  | bin (op : BinOp) (x y : Od)
  | binB (op : BinOp) (x y : Od)
  | un (op : UnOp) (x : Od)
  | conv (k : IntKind) (x : Od)
  | ext (i : Nat) (x : Od)
  | len (x : Od)
  | lenS (x : Od)
  | idxS (x i : Od)
  | mkfn (f : Fn) (first cap : List Od)
  | slc (sz : Nat) (x : Od) (lo hi : Option Od)
  | slcS (x : Od) (lo hi : Option Od)
  | alloc (zs : List AV)
  | box (x : Od)
  | mkrow (sz n : Nat) (zs : List AV) (ps : List (Nat × Nat × Od))
  | store (sz : Nat) (a x : Od)
  | app (sz bytes : Nat) (x y : Od)
  | callF (f : FuncId) (args : List Od)
  | callV (f : Od) (args : List Od)

structure AO where
  d : Option Nat
  g : Option (Nat × Bool)
  op : AOp

/-- a value of a program's text -/
def avOf : Value → AV
  | .int k n => .int k n
  | .bool b => .bool b
  | .string s => .str s.data.toList
  | .slice a n c => if a = none ∧ n = 0 ∧ c = 0 then .nil else .lit (.slice a n c)
  | .func f a b => if a.size = 0 ∧ b.size = 0 then .fn f [] [] else .lit (.func f a b)
  | v => .lit v

def od : Operand → Od
  | .tmp t => .t t
  | .const v => .c (avOf v)
  | .global g => .c (.lit (.pointer (some ⟨g, 0, none⟩)))
  | .func f => .c (.fn (.func f) [] [])

def aggB (P : Program) (t : TypeId) : Bool :=
  match P.underlying t with
  | some (.struct _) | some (.array _ _) => true
  | _ => false

def place (P : Program) (t : TypeId) (i : Nat) : Option (Nat × Nat) :=
  match P.underlying t with
  | some (.struct fs) => (fs[i]?).bind fun f => (P.info? f.type).map fun j => (f.offset, j.size)
  | some (.array _ e) => (P.info? e).map fun j => (i * j.size, j.size)
  | _ => none

def parts (P : Program) (t : TypeId) (ps : List (Nat × Operand)) : Option (List (Nat × Nat × Od)) :=
  ps.mapM fun x => (place P t x.1).map fun y => (y.1, y.2, od x.2)

def zeros (P : Program) (t : TypeId) (f : List AV → Option AOp) : Option AOp :=
  match P.info? t with
  | some j => match j.zero with
    | some z => if z.cells.toList.all (·.oneCell') then f (z.cells.toList.map avOf) else none
    | none => none
  | none => none

def compB (P : Program) (b : Builtin) (args : List Operand) (ts : List TypeId) : Option AOp :=
  match b, args, ts with
  | .len, [x], [t] => match P.underlying t with
    | some (.slice _) => some (.len (od x))
    | some .string => some (.lenS (od x))
    | some (.array n _) => some (.mov (.c (.int .i64 n)))
    | _ => none
  | .append, [x, y], [t, u] => match P.underlying t with
    | some (.slice e) => if t = u then (P.info? e).bind fun j => if (j.zero.map fun z => z.cells.size) = some j.size then some (.app j.size j.bytes (od x) (od y)) else none else none
    | _ => none
  | _, _, _ => none

def compC (P : Program) (c : Call) : Option AOp :=
  match c.callee with
  | .builtin b => compB P b c.args.toList c.argTypes.toList
  | .value f => match f with
    | .func f => if (P.funcs[f]?).any (fun fn => fn.body.isSome && fn.name != "runtime.NumGoroutine") then some (.callF f (c.args.toList.map od)) else none
    | f => some (.callV (od f) (c.args.toList.map od))
  | .invoke _ _ => none

def comp (P : Program) (o : Oper) : Option AOp :=
  match o.op with
  | .move x => some (.mov (od x))
  | .assign x => some (.mov (od x))
  | .pick c a b => some (.pick (od c) (od a) (od b))
  | .load t a => if aggB P t then (P.info? t).map fun i => .load true i.size (od a) else if (P.underlying t).isSome then some (.load false 1 (od a)) else none
  | .fieldAddr t x i => match P.underlying t with
    | some (.struct fs) => (fs[i]?).bind fun f => (P.info? f.type).bind fun j => if j.size = 0 then none else some (.fadr f.offset (od x))
    | _ => none
  | .indexAddr t x i => match P.underlying t with
    | some (.slice e) => (P.info? e).map fun j => .iadr j.size (od x) (od i)
    | some (.array n e) => (P.info? e).map fun j => .iadA j.size n (od x) (od i)
    | _ => none
  | .field t x i => match P.underlying t with
    | some (.struct fs) => (fs[i]?).bind fun f => if aggB P f.type then (P.info? f.type).map fun j => .fld true f.offset j.size (od x) else if (P.underlying f.type).isSome then some (.fld false f.offset 1 (od x)) else none
    | _ => none
  | .build t ps => match P.underlying t with
    | some (.struct fs) => if fs.toList.all (fun f => (P.info? f.type).isSome) then zeros P t fun zs => (parts P t ps.toList).map fun l => .bld zs l else none
    | some (.array _ e) => if (P.info? e).isSome then zeros P t fun zs => (parts P t ps.toList).map fun l => .bld zs l else none
    | _ => none
  | .binOp op t x y _ => match P.underlying t with
    | some (.int _) => some (.bin op (od x) (od y))
    | some .string => some (.bin op (od x) (od y))
    | some .bool => some (.binB op (od x) (od y))
    | _ => none
  | .unOp op _ x => some (.un op (od x))
  | .convert a b x => match P.underlying a, P.underlying b with
    | some (.int _), some (.int k) => some (.conv k (od x))
    | _, _ => none
  | .extract x i => some (.ext i (od x))
  | .index t x i => match P.underlying t with
    | some .string => some (.idxS (od x) (od i))
    | _ => none
  | .makeFunc f a b => some (.mkfn f (a.toList.map od) (b.toList.map od))
  | .slice t x lo hi none => match P.underlying t with
    | some (.slice e) => (P.info? e).map fun j => .slc j.size (od x) (lo.map od) (hi.map od)
    | some .string => some (.slcS (od x) (lo.map od) (hi.map od))
    | _ => none
  | .alloc t => zeros P t fun zs => some (.alloc zs)
  | .box _ x => some (.box (od x))
  | .buildSlice t n ps => match P.underlying t with
    | some (.slice e) => (P.info? e).bind fun j => zeros P e fun zs =>
        if zs.length = j.size ∧ 0 < j.size ∧ n * j.size ≤ 1000000 then some (.mkrow j.size n zs (ps.toList.map fun x => (x.1 * j.size, j.size, od x.2))) else none
    | _ => none
  | .store t a x => (P.info? t).map fun i => .store i.size (od a) (od x)
  | .call c => compC P c
  | _ => none

/-- the op with its slot and guard; 'n': how many slots there are -/
def compO (P : Program) (n : Nat) (ops : Array Oper) (o : Oper) : Option AO :=
  if o.dst.all (· < n) then
    match o.guard with
    | none => (comp P o).map fun p => ⟨o.dst, none, p⟩
    | some (j, b) => ((ops[j]?).bind (·.dst)).bind fun t => (comp P o).map fun p => ⟨o.dst, some (t, b), p⟩
  else none

def mk (ag : Bool) (cs : List AV) : AV := if ag then .agg cs else cs.headD .any

/-- a value of it may be laid into cells -/
def AV.stor : AV → Bool
  | .any | .tup _ => false
  | .lit v => v.oneCell'
  | _ => true

def fillA (zs : List AV) : List (Nat × Nat × AV) → Option (List AV)
  | [] => some zs
  | (off, sz, x) :: r => if x.cells.length = sz ∧ off + sz ≤ zs.length ∧ x.stor = true then fillA (zs.take off ++ x.cells ++ zs.drop (off + sz)) r else none

def binI (op : BinOp) (k : IntKind) (x y : Int) (K : AV → Prop) : Prop :=
  match op with
  | .add => K (.int k (k.wrap (x + y)))
  | .sub => K (.int k (k.wrap (x - y)))
  | .mul => K (.int k (k.wrap (x * y)))
  | .quo => y ≠ 0 ∧ K (.int k (k.wrap (x.tdiv y)))
  | .rem => y ≠ 0 ∧ K (.int k (x.tmod y))
  | .eql => K (.bool (decide (x = y)))
  | .neq => K (.bool (!decide (x = y)))
  | .lss => K (.bool (decide (x < y)))
  | .leq => K (.bool (decide (x ≤ y)))
  | .gtr => K (.bool (decide (y < x)))
  | .geq => K (.bool (decide (y ≤ x)))
  | _ => False

def binS (op : BinOp) (x y : List UInt8) (K : AV → Prop) : Prop :=
  match op with
  | .add => x.length + y.length ≤ 9223372036854775807 ∧ K (.str (x ++ y))
  | .eql => K (.bool (decide (x = y)))
  | .neq => K (.bool (!decide (x = y)))
  | .lss => K (.bool (Op.bytesLess x y))
  | _ => False

def unV (op : UnOp) (x : AV) (K : AV → Prop) : Prop :=
  match op, x with
  | .not, .bool b => K (.bool !b)
  | .neg, .int k n => K (.int k (k.wrap (0 - n)))
  | _, _ => False

/-- the cells at an address -/
def cellsAt (own : Own) (x : AV) (sz : Nat) (K : List AV → Prop) : Prop :=
  match x with
  | .ptr k b o => match own.find k b with
    | some (.cells cs) => o + sz ≤ cs.length ∧ K ((cs.drop o).take sz)
    | _ => False
  | .ref cs => sz ≤ cs.length ∧ K (cs.take sz)
  | _ => False

/-- A pure operation's outcome. -/
def AOp.step (s : Slots) (own : Own) : AOp → (AV → Prop) → Prop
  | .mov x, K => K (x.ev s)
  | .pick c a b, K => match c.ev s with
    | .bool t => K (if t then a.ev s else b.ev s)
    | _ => False
  | .load ag sz a, K => cellsAt own (a.ev s) sz (fun cs => K (mk ag cs))
  | .fadr off x, K => match x.ev s with
    | .ptr k b o => K (.ptr k b (o + off))
    | .ref cs => K (.ref (cs.drop off))
    | _ => False
  | .iadr sz x i, K => match x.ev s, i.ev s with
    | .sl xs, .int _ n => 0 ≤ n ∧ n < xs.length ∧ (xs.getD n.toNat .any).cells.length = sz ∧ K (.ref (xs.getD n.toNat .any).cells)
    | .row k b o m _, .int _ n => 0 ≤ n ∧ n < m ∧ K (.ptr k b (o + n.toNat * sz))
    | _, _ => False
  | .iadA sz m x i, K => match x.ev s, i.ev s with
    | .ptr k b o, .int _ n => 0 ≤ n ∧ n < m ∧ K (.ptr k b (o + n.toNat * sz))
    | .ref cs, .int _ n => 0 ≤ n ∧ n < m ∧ K (.ref (cs.drop (n.toNat * sz)))
    | _, _ => False
  | .fld ag off sz x, K => match x.ev s with
    | .agg cs => off + sz ≤ cs.length ∧ K (mk ag ((cs.drop off).take sz))
    | _ => False
  | .bld zs ps, K => match fillA zs (ps.map fun p => (p.1, p.2.1, p.2.2.ev s)) with
    | some cs => K (.agg cs)
    | none => False
  | .bin op x y, K => match x.ev s, y.ev s with
    | .int k a, .int k' b => k = k' ∧ binI op k a b K
    | .str a, .str b => binS op a b K
    | _, _ => False
  | .binB op x y, K => match op, x.ev s, y.ev s with
    | .eql, .bool a, .bool b => K (.bool (a == b))
    | .neq, .bool a, .bool b => K (.bool (!(a == b)))
    | _, _, _ => False
  | .un op x, K => unV op (x.ev s) K
  | .conv k x, K => match x.ev s with
    | .int _ n => K (.int k (k.wrap n))
    | _ => False
  | .ext i x, K => match x.ev s with
    | .tup vs => i < vs.length ∧ K (vs.getD i .any)
    | _ => False
  | .len x, K => match x.ev s with
    | .sl xs => K (.int .i64 xs.length)
    | .row _ _ _ n _ => K (.int .i64 n)
    | .nil => K (.int .i64 0)
    | _ => False
  | .lenS x, K => match x.ev s with
    | .str l => K (.int .i64 l.length)
    | _ => False
  | .idxS x i, K => match x.ev s, i.ev s with
    | .str l, .int _ n => 0 ≤ n ∧ n < l.length ∧ K (.int .u8 (l.getD n.toNat 0).toNat)
    | _, _ => False
  | .mkfn f a b, K => K (.fn f (a.map (·.ev s)) (b.map (·.ev s)))
  | .slc sz x lo hi, K => match x.ev s, (lo.map (·.ev s)).getD (.int .i64 0), hi.map (·.ev s) with
    | .sl xs, .int _ l, none => (∀ x, x ∈ xs → x.cells.length = sz) ∧ 0 ≤ l ∧ l ≤ xs.length ∧ K (.sl (xs.drop l.toNat))
    | .sl xs, .int _ l, some (.int _ h) => (∀ x, x ∈ xs → x.cells.length = sz) ∧ 0 ≤ l ∧ l ≤ h ∧ h ≤ xs.length ∧ K (.sl ((xs.take h.toNat).drop l.toNat))
    | .row k b o n z, .int _ l, some (.int _ h) => l = 0 ∧ z = sz ∧ 0 ≤ h ∧ h ≤ n ∧ K (.row k b o h.toNat z)
    | _, _, _ => False
  | .slcS x lo hi, K => match x.ev s, (lo.map (·.ev s)).getD (.int .i64 0), hi.map (·.ev s) with
    | .str xs, .int _ l, none => 0 ≤ l ∧ l ≤ xs.length ∧ K (.str (xs.drop l.toNat))
    | .str xs, .int _ l, some (.int _ h) => 0 ≤ l ∧ l ≤ h ∧ h ≤ xs.length ∧ K (.str ((xs.take h.toNat).drop l.toNat))
    | _, _, _ => False
  | _, _ => False

end Go.Aw
