/- For every argument, estoppellaw06.LexerMatchesReference returns true and leaves its arguments as they were, where the listed package variables hold what the program's text lays into them. (Part 1 of what its proof rests on.) -/
import Derived.Calls
import Derived.Deep.Quiet
import Derived.Below
import Derived.Laws.Cells
import Derived.Laws.Entries
import Derived.Laws.IdiomCopy
import Derived.Laws.Tables
import Derived.Laws.StructEq
import Derived.MapKept
import Derived.ChangeKeysEq
import Derived.Laws.Strings
import Derived.Laws.AppendOwn
import Derived.RangeFuncRecord
import Derived.RangeFuncLeaves
import Derived.Laws.MakeOwn
import Derived.Lib.ConvBytes
import Derived.Orders
set_option linter.unusedSimpArgs false
set_option linter.unusedVariables false
set_option linter.deprecated false
namespace Go.Aw
inductive AV where
  | any
  | int (k : IntKind) (n : Int)
  | bool (b : Bool)
  | str (l : List UInt8)
  | lit (v : Value)
  | ptr (k b o : Nat)
  | row (k b o n s : Nat)
  | nil
  | sl (xs : List AV)
  | ref (cs : List AV)
  | agg (cs : List AV)
  | tup (vs : List AV)
  | fn (f : Fn) (first cap : List AV)
  | ifc (t : TypeId) (v : AV)
  | mapv (k b : Nat)
instance : Inhabited AV := ⟨.any⟩
def AV.cells : AV → List AV
  | .agg cs => cs
  | x => [x]
inductive Rel (F : Nat → Prop) (w : World) : Value → AV → Prop where
  | any (v : Value) : Rel F w v .any
  | int (k : IntKind) (n : Int) : Rel F w (.int k n) (.int k n)
  | bool (b : Bool) : Rel F w (.bool b) (.bool b)
  | str (l : List UInt8) : Rel F w (.string ⟨l.toArray⟩) (.str l)
  | lit (v : Value) : Rel F w v (.lit v)
  | ptr (k b o : Nat) : Rel F w (.pointer (some ⟨b, o, none⟩)) (.ptr k b o)
  | row (k b o n s cap csz : Nat) (T : TypeId) (hn : n ≤ cap) (hs : w.shape? b = some (T, csz)) (hc : o + cap * s ≤ csz) :
      Rel F w (.slice (some ⟨b, o, none⟩) n cap) (.row k b o n s)
  | nil : Rel F w (.slice none 0 0) .nil
  | slnil : Rel F w (.slice none 0 0) (.sl [])
  | sl0 (a : Addr) (cap : Nat) : Rel F w (.slice (some a) 0 cap) (.sl [])
  | sl (b o n cap s : Nat) (xs : List AV) (cv : Nat → Value) (hF : ¬ F b) (hb : b < w.heap.size) (hlen : n = xs.length) (hn : n ≤ cap)
      (hs : ∀ (i : Nat) (x : AV), xs[i]? = some x → x.cells.length = s)
      (hc : ∀ (i : Nat) (x : AV) (j : Nat) (y : AV), xs[i]? = some x → x.cells[j]? = some y → w.cell? ⟨b, o + i * s + j, none⟩ = some (cv (i * s + j)))
      (ho : ∀ (i : Nat) (x : AV) (j : Nat) (y : AV), xs[i]? = some x → x.cells[j]? = some y → (cv (i * s + j)).oneCell' = true)
      (hr : ∀ (i : Nat) (x : AV) (j : Nat) (y : AV), xs[i]? = some x → x.cells[j]? = some y → Rel F w (cv (i * s + j)) y) :
      Rel F w (.slice (some ⟨b, o, none⟩) n cap) (.sl xs)
  | ref (b o : Nat) (cs : List AV) (cv : Nat → Value) (hF : ¬ F b) (hb : b < w.heap.size)
      (hc : ∀ (j : Nat) (y : AV), cs[j]? = some y → w.cell? ⟨b, o + j, none⟩ = some (cv j))
      (ho : ∀ (j : Nat) (y : AV), cs[j]? = some y → (cv j).oneCell' = true)
      (hr : ∀ (j : Nat) (y : AV), cs[j]? = some y → Rel F w (cv j) y) :
      Rel F w (.pointer (some ⟨b, o, none⟩)) (.ref cs)
  | agg (vs : Array Value) (cs : List AV) (hlen : vs.size = cs.length) (ho : ∀ (j : Nat) (v : Value), vs[j]? = some v → v.oneCell' = true) (hr : ∀ (j : Nat) (v : Value) (y : AV), vs[j]? = some v → cs[j]? = some y → Rel F w v y) :
      Rel F w (.agg vs) (.agg cs)
  | tup (vs : Array Value) (cs : List AV) (hlen : vs.size = cs.length) (hr : ∀ (j : Nat) (v : Value) (y : AV), vs[j]? = some v → cs[j]? = some y → Rel F w v y) :
      Rel F w (.tuple vs) (.tup cs)
  | fn (f : Fn) (as bs : Array Value) (fs cs : List AV) (hlen : as.size = fs.length) (hlen' : bs.size = cs.length)
      (hr : ∀ (j : Nat) (v : Value) (y : AV), as[j]? = some v → fs[j]? = some y → Rel F w v y)
      (hr' : ∀ (j : Nat) (v : Value) (y : AV), bs[j]? = some v → cs[j]? = some y → Rel F w v y) :
      Rel F w (.func f as bs) (.fn f fs cs)
  | ifc (t : TypeId) (v : Value) (x : AV) (hr : Rel F w v x) : Rel F w (.iface t v) (.ifc t x)
  | mapv (k b : Nat) : Rel F w (.map (some b)) (.mapv k b)
structure Grow (D : Nat → Prop) (w w' : World) : Prop where
  sz : w.heap.size ≤ w'.heap.size
  same : ∀ b, b < w.heap.size → ¬ D b → w'.heap[b]? = w.heap[b]?
  shp : ∀ b s, w.shape? b = some s → w'.shape? b = some s
  frz : ∀ b, b < w.heap.size → ∀ i, w'.frozen? ⟨b, i, none⟩ = w.frozen? ⟨b, i, none⟩
  os : w'.os = w.os
  tape : w'.tape = w.tape
  out : w'.output = w.output
theorem Grow.refl (D : Nat → Prop) (w : World) : Grow D w w := ⟨Nat.le_refl _, fun _ _ _ => rfl, fun _ _ h => h, fun _ _ _ => rfl, rfl, rfl, rfl⟩
theorem Grow.trans {D : Nat → Prop} {a b c : World} (h : Grow D a b) (k : Grow D b c) : Grow D a c :=
  ⟨Nat.le_trans h.sz k.sz, fun x hx hD => (k.same x (Nat.lt_of_lt_of_le hx h.sz) hD).trans (h.same x hx hD), fun x s hs => k.shp x s (h.shp x s hs),
    fun x hx i => (k.frz x (Nat.lt_of_lt_of_le hx h.sz) i).trans (h.frz x hx i), k.os.trans h.os, k.tape.trans h.tape, k.out.trans h.out⟩
theorem Grow.mono {D D' : Nat → Prop} {w w' : World} (h : Grow D w w') (hD : ∀ b, b < w.heap.size → D b → D' b) : Grow D' w w' :=
  ⟨h.sz, fun b hb hn => h.same b hb (fun hd => hn (hD b hb hd)), h.shp, h.frz, h.os, h.tape, h.out⟩
theorem Grow.cell {D : Nat → Prop} {w w' : World} (h : Grow D w w') {b o : Nat} (hb : b < w.heap.size) (hD : ¬ D b) : w'.cell? ⟨b, o, none⟩ = w.cell? ⟨b, o, none⟩ := by
  unfold World.cell?
  simp only [h.same b hb hD]
theorem Rel.mono {F F' : Nat → Prop} {w w' : World} {v : Value} {x : AV} (h : Rel F w v x) (hg : Grow F w w') (hF : ∀ b, b < w.heap.size → F' b → F b) : Rel F' w' v x := by
  induction h with
  | any v => exact .any v
  | int k n => exact .int k n
  | bool b => exact .bool b
  | str l => exact .str l
  | lit v => exact .lit v
  | ptr k b o => exact .ptr k b o
  | row k b o n s cap csz T hn hs hc => exact .row k b o n s cap csz T hn (hg.shp _ _ hs) hc
  | nil => exact .nil
  | slnil => exact .slnil
  | sl0 a cap => exact .sl0 a cap
  | sl b o n cap s xs cv hFb hb hlen hn hs hc ho hr ih =>
    exact .sl b o n cap s xs cv (fun h => hFb (hF b hb h)) (Nat.lt_of_lt_of_le hb hg.sz) hlen hn hs
      (fun i x j y hi hj => (hg.cell hb hFb).trans (hc i x j y hi hj)) ho ih
  | ref b o cs cv hFb hb hc ho hr ih =>
    exact .ref b o cs cv (fun h => hFb (hF b hb h)) (Nat.lt_of_lt_of_le hb hg.sz) (fun j y hj => (hg.cell hb hFb).trans (hc j y hj)) ho ih
  | agg vs cs hlen ho hr ih => exact .agg vs cs hlen ho ih
  | tup vs cs hlen hr ih => exact .tup vs cs hlen ih
  | fn f as bs fs cs hlen hlen' hr hr' ih ih' => exact .fn f as bs fs cs hlen hlen' ih ih'
  | ifc t v x hr ih => exact .ifc t v x ih
  | mapv k b => exact .mapv k b
abbrev Slots := List (Nat × AV)
def Slots.get (s : Slots) (t : Nat) : AV :=
  match s with
  | [] => .any
  | (k, v) :: r => if k = t then v else Slots.get r t
inductive Ob where
  | cells (cs : List AV)
  | loop (s : Slots) (p : Loop → Prop)
  | map (es : List (AV × AV))
def Holds (F : Nat → Prop) (w : World) (b : Nat) : Ob → Prop
  | .cells cs => (∃ T sz, w.shape? b = some (T, sz) ∧ cs.length ≤ sz) ∧ (∀ i, w.frozen? ⟨b, i, none⟩ = false) ∧
      ∀ (i : Nat) (x : AV), cs[i]? = some x → ∃ v, w.cell? ⟨b, i, none⟩ = some v ∧ v.oneCell' = true ∧ Rel F w v x
  | .loop s p => ∃ r, w.heap[b]? = some (.loop r) ∧ p r ∧ ∀ t, Rel F w (r.tmps.getD t undef) (s.get t)
  | .map es => ∃ ents clock, w.heap[b]? = some (.map ents clock) ∧ ents.size = es.length ∧ ∀ (i : Nat) (e : MapEntry) (p : AV × AV), ents[i]? = some e → es[i]? = some p → Rel F w e.key p.1 ∧ Rel F w e.val p.2
theorem shape_lt {w : World} {b : Nat} {q : TypeId × Nat} (h : w.shape? b = some q) : b < w.heap.size := by
  unfold World.shape? at h
  cases hb : w.heap[b]? with
  | none => simp [hb] at h
  | some o => exact (Array.getElem?_eq_some_iff.1 hb).1
theorem shape_cell {w : World} {b : Nat} {T : TypeId} {sz : Nat} (h : w.shape? b = some (T, sz)) {i : Nat} (hi : i < sz) : (w.cell? ⟨b, i, none⟩).isSome = true := by
  unfold World.shape? at h
  unfold World.cell?
  cases hb : w.heap[b]? with
  | none => simp [hb] at h
  | some o =>
    cases o <;> simp [hb] at h
    obtain ⟨rfl, rfl⟩ := h
    simp [hi]
theorem Holds.lt {F : Nat → Prop} {w : World} {b : Nat} {ob : Ob} (h : Holds F w b ob) : b < w.heap.size := by
  cases ob with
  | cells cs =>
    obtain ⟨⟨T, sz, h, _⟩, _⟩ := h
    exact shape_lt h
  | loop s p =>
    obtain ⟨r, h, _⟩ := h
    exact (Array.getElem?_eq_some_iff.1 h).1
  | map es =>
    obtain ⟨r, c, h, _⟩ := h
    exact (Array.getElem?_eq_some_iff.1 h).1
theorem Holds.mono {F F' D : Nat → Prop} {w w' : World} {b : Nat} {ob : Ob} (h : Holds F w b ob) (hg : Grow D w w') (hD : ∀ x, D x → F x) (hb : ¬ D b) (hF : ∀ b, b < w.heap.size → F' b → F b) : Holds F' w' b ob := by
  have hlt := h.lt
  cases ob with
  | cells cs =>
    obtain ⟨⟨T, sz, h1, h3⟩, h2, h4⟩ := h
    refine ⟨⟨T, sz, hg.shp _ _ h1, h3⟩, fun i => (hg.frz b hlt i).trans (h2 i), fun i x hx => ?_⟩
    obtain ⟨v, hv, ho, hr⟩ := h4 i x hx
    exact ⟨v, (hg.cell hlt hb).trans hv, ho, hr.mono (hg.mono fun b _ h => hD b h) hF⟩
  | loop s p =>
    obtain ⟨r, h1, h2, h3⟩ := h
    exact ⟨r, (hg.same b hlt hb).trans h1, h2, fun t => (h3 t).mono (hg.mono fun b _ h => hD b h) hF⟩
  | map es =>
    obtain ⟨r, c, h1, h2, h3⟩ := h
    exact ⟨r, c, (hg.same b hlt hb).trans h1, h2, fun i e p he hp => ⟨(h3 i e p he hp).1.mono (hg.mono fun b _ h => hD b h) hF, (h3 i e p he hp).2.mono (hg.mono fun b _ h => hD b h) hF⟩⟩
abbrev Own := List (Nat × Nat × Ob)
def Own.has (own : Own) (b : Nat) : Prop := b ∈ own.map (fun e => e.2.1)
def Own.find (own : Own) (k b : Nat) : Option Ob :=
  match own with
  | [] => none
  | (k', b', ob) :: r => if k' = k then (if b' = b then some ob else none) else Own.find r k b
def Own.put (own : Own) (k : Nat) (ob : Ob) : Own :=
  match own with
  | [] => []
  | (k', b', ob') :: r => if k' = k then (k', b', ob) :: r else (k', b', ob') :: Own.put r k ob
def Own.drop (own : Own) (k : Nat) : Own :=
  match own with
  | [] => []
  | (k', b', ob') :: r => if k' = k then r else (k', b', ob') :: Own.drop r k
def Fo (fr : Nat → Prop) (own : Own) : Nat → Prop := fun b => fr b ∨ own.has b
structure OwnOk (fr : Nat → Prop) (w : World) (own : Own) : Prop where
  holds : ∀ e, e ∈ own → Holds (Fo fr own) w e.2.1 e.2.2
  nodup : (own.map fun e => e.2.1).Nodup
  apart : ∀ b, own.has b → ¬ fr b
  fr : ∀ b, fr b → b < w.heap.size
structure Cx where
  P : Program
  fr : Nat → Prop
  w0 : World
  own0 : Nat → Prop
  n : Nat
  defs : List Deferred
  rd : Option Nat
  nr : Bool
def markD (b : Nat) : Deferred := { target := .collected b, args := #[] }
def Marks (X : Cx) (own : Own) (ds : List Deferred) (w : World) : Prop :=
  (X.nr = true → ds = X.defs) ∧ ∃ bs : List Nat, ds = bs.map markD ++ X.defs ∧ bs.Nodup ∧ ∀ b, b ∈ bs → ¬ own.has b ∧ ¬ X.fr b ∧ X.w0.heap.size ≤ b ∧ w.heap[b]? = some (.deferred (some []))
theorem Marks.mono {X : Cx} {own own' : Own} {ds : List Deferred} {w w' : World} (h : Marks X own ds w) (ho : ∀ b, b < w.heap.size → own'.has b → own.has b) (hw : ∀ b, b < w.heap.size → ¬ own.has b → w'.heap[b]? = w.heap[b]?) : Marks X own' ds w' := by
  obtain ⟨h0, bs, h1, h2, h3⟩ := h
  refine ⟨h0, bs, h1, h2, fun b hb => ?_⟩
  obtain ⟨h4, h5, h6, h7⟩ := h3 b hb
  have hlt := (Array.getElem?_eq_some_iff.1 h7).1
  exact ⟨fun h => h4 (ho b hlt h), h5, h6, (hw b hlt h4).trans h7⟩
structure Rep (X : Cx) (s : Slots) (own : Own) (a : Act) (w : World) : Prop where
  tm : ∀ t, Rel (Fo X.fr own) w (a.tmps.getD t undef) (s.get t)
  ok : OwnOk X.fr w own
  new : ∀ b, own.has b → X.own0 b ∨ X.w0.heap.size ≤ b
  size : a.tmps.size = X.n
  defs : Marks X own a.defers w
  kept : Grow X.own0 X.w0 w
end Go.Aw
namespace Go.Aw
inductive KK where
  | s
  | i
  | b
  deriving DecidableEq
inductive Od where
  | t (n : Nat)
  | c (x : AV)
def Od.ev (s : Slots) : Od → AV
  | .t n => s.get n
  | .c x => x
inductive AOp where
  | mov (x : Od)
  | pick (c a b : Od)
  | load (ag : Bool) (sz : Nat) (a : Od)
  | fadr (off : Nat) (x : Od)
  | iadr (sz : Nat) (x i : Od)
  | iadA (sz n : Nat) (x i : Od)
  | fld (ag : Bool) (off sz : Nat) (x : Od)
  | bld (zs : List AV) (ps : List (Nat × Nat × Od))
  | bin (op : BinOp) (x y : Od)
  | binB (op : BinOp) (x y : Od)
  | un (op : UnOp) (x : Od)
  | conv (k : IntKind) (x : Od)
  | ext (i : Nat) (x : Od)
  | len (x : Od)
  | lenS (x : Od)
  | idxS (x i : Od)
  | mkfn (f : Fn) (first cap : List Od)
  | slc (sz : Nat) (x : Od) (lo hi : Option Od)
  | slcS (x : Od) (lo hi : Option Od)
  | alloc (zs : List AV)
  | box (x : Od)
  | mkrow (sz n : Nat) (zs : List AV) (ps : List (Nat × Nat × Od))
  | store (sz : Nat) (a x : Od)
  | app (sz bytes : Nat) (x y : Od)
  | callF (f : FuncId) (args : List Od)
  | callV (f : Od) (args : List Od)
  | nilc (x : Od)
  | eqS (neg : Bool) (ks : List KK) (x y : Od)
  | nilS (neg : Bool) (x : Od)
  | mlook (ok : Bool) (kk : KK) (z : AV) (x i : Od)
  | mlen (x : Od)
  | mkmap
  | mput (kk : KK) (x i v : Od)
  | mkslice (sz bytes : Nat) (zs : List AV) (n : Od)
  | ifc (t : TypeId) (x : Od)
  | asrt (t : TypeId) (z : AV) (x : Od)
  | nilI (neg : Bool) (x : Od)
  | s2b (x : Od)
  | pan (x : Od)
structure AO where
  d : Option Nat
  g : Option (Nat × Bool)
  op : AOp
def avOf0 : Value → AV
  | .int k n => .int k n
  | .bool b => .bool b
  | .string s => .str s.data.toList
  | .slice a n c => if a = none ∧ n = 0 ∧ c = 0 then .nil else .lit (.slice a n c)
  | .func f a b => if a.size = 0 ∧ b.size = 0 then .fn f [] [] else .lit (.func f a b)
  | v => .lit v
def avOf (v : Value) : AV :=
  match v with
  | .agg cs => if cs.toList.all (·.oneCell') = true then .agg (cs.toList.map avOf0) else .lit (.agg cs)
  | v => avOf0 v
def od : Operand → Od
  | .tmp t => .t t
  | .const v => .c (avOf v)
  | .global g => .c (.lit (.pointer (some ⟨g, 0, none⟩)))
  | .func f => .c (.fn (.func f) [] [])
def aggB (P : Program) (t : TypeId) : Bool :=
  match P.underlying t with
  | some (.struct _) | some (.array _ _) => true
  | _ => false
def place (P : Program) (t : TypeId) (i : Nat) : Option (Nat × Nat) :=
  match P.underlying t with
  | some (.struct fs) => (fs[i]?).bind fun f => (P.info? f.type).map fun j => (f.offset, j.size)
  | some (.array _ e) => (P.info? e).map fun j => (i * j.size, j.size)
  | _ => none
def parts (P : Program) (t : TypeId) (ps : List (Nat × Operand)) : Option (List (Nat × Nat × Od)) :=
  ps.mapM fun x => (place P t x.1).map fun y => (y.1, y.2, od x.2)
def zeros (P : Program) (t : TypeId) (f : List AV → Option AOp) : Option AOp :=
  match P.info? t with
  | some j => match j.zero with
    | some z => if z.cells.toList.all (·.oneCell') then f (z.cells.toList.map avOf) else none
    | none => none
  | none => none
def kkOf (P : Program) (k : TypeId) : Option KK := match P.underlying k with
  | some .string => some .s
  | some (.int _) => some .i
  | some .bool => some .b
  | _ => none
def zeroA (P : Program) (t : TypeId) : Option AV := match P.info? t with
  | some j => match j.zero with
    | some (.agg cs) => if cs.toList.all (·.oneCell') then some (.agg (cs.toList.map avOf)) else none
    | some z => some (avOf z)
    | none => none
  | none => none
def leaves (P : Program) : Nat → TypeId → Nat → Option (List (Nat × KK))
  | 0, _, _ => none
  | d + 1, t, off => match P.underlying t with
    | some .string => some [(off, .s)]
    | some (.int _) => some [(off, .i)]
    | some .bool => some [(off, .b)]
    | some (.struct fs) => if P.stoodInHeld t then none else
      (P.info? t).bind fun i => fs.toList.foldr (fun f r => if f.name = "_" then none else (P.info? f.type).bind fun j => if f.offset + j.size ≤ i.size ∧ 0 < j.size then (leaves P d f.type (off + f.offset)).bind fun a => r.map fun b => a ++ b else none) (some [])
    | some (.array n e) => (P.info? t).bind fun i => (P.info? e).bind fun j => if n * j.size ≤ i.size ∧ 0 < j.size then (List.range n).foldr (fun k r => (leaves P d e (off + k * j.size)).bind fun a => r.map fun b => a ++ b) (some []) else none
    | _ => none
def flatEq (P : Program) (t : TypeId) : Option (List KK) :=
  match P.info? t, leaves P 6 t 0 with
  | some j, some l => if l.map (·.1) = List.range' 0 j.size ∧ P.eqGuardType P.depth t = false then some (l.map (·.2)) else none
  | _, _ => none
def compB (P : Program) (b : Builtin) (args : List Operand) (ts : List TypeId) : Option AOp :=
  match b, args, ts with
  | .len, [x], [t] => match P.underlying t with
    | some (.slice _) => some (.len (od x))
    | some .string => some (.lenS (od x))
    | some (.array n _) => some (.mov (.c (.int .i64 n)))
    | some (.map _ _) => some (.mlen (od x))
    | _ => none
  | .append, [x, y], [t, u] => match P.underlying t with
    | some (.slice e) => if t = u then (P.info? e).bind fun j => if (j.zero.map fun z => z.cells.size) = some j.size then some (.app j.size j.bytes (od x) (od y)) else none else none
    | _ => none
  | _, _, _ => none
def sameOd : Operand → Operand → Bool
  | .tmp a, .tmp b => a == b
  | .const (.int k a), .const (.int k' b) => k == k' && a == b
  | _, _ => false
theorem sameOd_eq : ∀ {x y : Operand}, sameOd x y = true → x = y
  | .tmp a, .tmp b, h => by simp [sameOd] at h; rw [h]
  | .const (.int k a), .const (.int k' b), h => by simp [sameOd] at h; rw [h.1, h.2]
def compC (P : Program) (c : Call) : Option AOp :=
  match c.callee with
  | .builtin b => compB P b c.args.toList c.argTypes.toList
  | .value f => match f with
    | .func f => if (P.funcs[f]?).any (fun fn => fn.body.isSome && fn.name != "runtime.NumGoroutine") then some (.callF f (c.args.toList.map od)) else none
    | f => some (.callV (od f) (c.args.toList.map od))
  | .invoke _ _ => none
def comp (P : Program) (o : Oper) : Option AOp :=
  match o.op with
  | .move x => some (.mov (od x))
  | .assign x => some (.mov (od x))
  | .pick c a b => some (.pick (od c) (od a) (od b))
  | .load t a => if aggB P t then (P.info? t).map fun i => .load true i.size (od a) else if (P.underlying t).isSome then some (.load false 1 (od a)) else none
  | .fieldAddr t x i => match P.underlying t with
    | some (.struct fs) => (fs[i]?).bind fun f => (P.info? f.type).bind fun j => if j.size = 0 then none else some (.fadr f.offset (od x))
    | _ => none
  | .indexAddr t x i => match P.underlying t with
    | some (.slice e) => (P.info? e).map fun j => .iadr j.size (od x) (od i)
    | some (.array n e) => (P.info? e).map fun j => .iadA j.size n (od x) (od i)
    | _ => none
  | .field t x i => match P.underlying t with
    | some (.struct fs) => (fs[i]?).bind fun f => if aggB P f.type then (P.info? f.type).map fun j => .fld true f.offset j.size (od x) else if (P.underlying f.type).isSome then some (.fld false f.offset 1 (od x)) else none
    | _ => none
  | .build t ps => match P.underlying t with
    | some (.struct fs) => if fs.toList.all (fun f => (P.info? f.type).isSome) then zeros P t fun zs => (parts P t ps.toList).map fun l => .bld zs l else none
    | some (.array _ e) => if (P.info? e).isSome then zeros P t fun zs => (parts P t ps.toList).map fun l => .bld zs l else none
    | _ => none
  | .binOp op t x y _ => match P.underlying t with
    | some (.int _) => some (.bin op (od x) (od y))
    | some .string => some (.bin op (od x) (od y))
    | some .bool => some (.binB op (od x) (od y))
    | some (.interface _) => match op, y with
      | .eql, .const .nilIface => some (.nilI false (od x))
      | .neq, .const .nilIface => some (.nilI true (od x))
      | _, _ => none
    | some (.slice _) => match op, y with
      | .eql, .const (.slice none 0 0) => some (.nilS false (od x))
      | .neq, .const (.slice none 0 0) => some (.nilS true (od x))
      | _, _ => none
    | some (.struct _) => match op with
      | .eql => (flatEq P t).map fun l => .eqS false l (od x) (od y)
      | .neq => (flatEq P t).map fun l => .eqS true l (od x) (od y)
      | _ => none
    | some (.array _ _) => match op with
      | .eql => (flatEq P t).map fun l => .eqS false l (od x) (od y)
      | .neq => (flatEq P t).map fun l => .eqS true l (od x) (od y)
      | _ => none
    | _ => none
  | .unOp op _ x => some (.un op (od x))
  | .convert a b x => match P.underlying a, P.underlying b with
    | some (.int _), some (.int k) => some (.conv k (od x))
    | some .string, some (.slice e) => match P.underlying e with
      | some (.int .u8) => some (.s2b (od x))
      | _ => none
    | _, _ => none
  | .makeInterface t x => match P.underlying t with
    | some (.interface _) => none
    | some _ => some (.ifc t (od x))
    | none => none
  | .typeAssert x _ t true => match P.underlying t with
    | some (.interface _) => none
    | some _ => (zeroA P t).map fun z => .asrt t z (od x)
    | none => none
  | .panic x => some (.pan (od x))
  | .extract x i => some (.ext i (od x))
  | .index t x i => match P.underlying t with
    | some .string => some (.idxS (od x) (od i))
    | _ => none
  | .makeFunc f a b => some (.mkfn f (a.toList.map od) (b.toList.map od))
  | .slice t x lo hi none => match P.underlying t with
    | some (.slice e) => (P.info? e).map fun j => .slc j.size (od x) (lo.map od) (hi.map od)
    | some .string => some (.slcS (od x) (lo.map od) (hi.map od))
    | _ => none
  | .alloc t => zeros P t fun zs => some (.alloc zs)
  | .box _ x => some (.box (od x))
  | .buildSlice t n ps => match P.underlying t with
    | some (.slice e) => (P.info? e).bind fun j => zeros P e fun zs =>
        if zs.length = j.size ∧ 0 < j.size ∧ n * j.size ≤ 1000000 then some (.mkrow j.size n zs (ps.toList.map fun x => (x.1 * j.size, j.size, od x.2))) else none
    | _ => none
  | .store t a x => (P.info? t).map fun i => .store i.size (od a) (od x)
  | .call c => compC P c
  | .nilCheck x => some (.nilc (od x))
  | .makeMap t none => match P.underlying t with
    | some (.map _ _) => some .mkmap
    | _ => none
  | .lookup t x i ok => match P.underlying t with
    | some (.map k e) => (kkOf P k).bind fun kk => (zeroA P e).map fun z => .mlook ok kk z (od x) (od i)
    | _ => none
  | .mapUpdate t m k v => match P.underlying t with
    | some (.map kt _) => (kkOf P kt).map fun kk => .mput kk (od m) (od k) (od v)
    | _ => none
  | .makeSlice t l c => match P.underlying t with
    | some (.slice e) => if sameOd l c then (P.info? e).bind fun j => zeros P e fun zs => if zs.length = j.size ∧ 0 < j.size then some (.mkslice j.size j.bytes zs (od l)) else none else none
    | _ => none
  | _ => none
def compO (P : Program) (n : Nat) (ops : Array Oper) (o : Oper) : Option AO :=
  if o.dst.all (· < n) then
    match o.guard with
    | none => (comp P o).map fun p => ⟨o.dst, none, p⟩
    | some (j, b) => ((ops[j]?).bind (·.dst)).bind fun t => (comp P o).map fun p => ⟨o.dst, some (t, b), p⟩
  else none
def mk (ag : Bool) (cs : List AV) : AV := if ag then .agg cs else cs.headD .any
def AV.stor : AV → Bool
  | .any | .tup _ => false
  | .lit v => v.oneCell'
  | _ => true
def fillA (zs : List AV) : List (Nat × Nat × AV) → Option (List AV)
  | [] => some zs
  | (off, sz, x) :: r => if x.cells.length = sz ∧ off + sz ≤ zs.length ∧ x.stor = true then fillA (zs.take off ++ x.cells ++ zs.drop (off + sz)) r else none
def bitI (op : BinOp) (k : IntKind) (x y : Int) : Int :=
  k.wrap ((match op with
    | .and => BitVec.ofInt k.bits x &&& BitVec.ofInt k.bits y
    | .or => BitVec.ofInt k.bits x ||| BitVec.ofInt k.bits y
    | .xor => BitVec.ofInt k.bits x ^^^ BitVec.ofInt k.bits y
    | _ => BitVec.ofInt k.bits x &&& ~~~(BitVec.ofInt k.bits y) : BitVec k.bits)).toNat
def binI (op : BinOp) (k : IntKind) (x y : Int) (K : AV → Prop) : Prop :=
  match op with
  | .add => K (.int k (k.wrap (x + y)))
  | .sub => K (.int k (k.wrap (x - y)))
  | .mul => K (.int k (k.wrap (x * y)))
  | .quo => y ≠ 0 ∧ K (.int k (k.wrap (x.tdiv y)))
  | .rem => y ≠ 0 ∧ K (.int k (x.tmod y))
  | .eql => K (.bool (decide (x = y)))
  | .neq => K (.bool (!decide (x = y)))
  | .lss => K (.bool (decide (x < y)))
  | .leq => K (.bool (decide (x ≤ y)))
  | .gtr => K (.bool (decide (y < x)))
  | .geq => K (.bool (decide (y ≤ x)))
  | .and => K (.int k (bitI .and k x y))
  | .or => K (.int k (bitI .or k x y))
  | .xor => K (.int k (bitI .xor k x y))
  | .andNot => K (.int k (bitI .andNot k x y))
  | _ => False
def binS (op : BinOp) (x y : List UInt8) (K : AV → Prop) : Prop :=
  match op with
  | .add => x.length + y.length ≤ 9223372036854775807 ∧ K (.str (x ++ y))
  | .eql => K (.bool (decide (x = y)))
  | .neq => K (.bool (!decide (x = y)))
  | .lss => K (.bool (Op.bytesLess x y))
  | _ => False
def unV (op : UnOp) (x : AV) (K : AV → Prop) : Prop :=
  match op, x with
  | .not, .bool b => K (.bool !b)
  | .neg, .int k n => K (.int k (k.wrap (0 - n)))
  | _, _ => False
def cellsAt (own : Own) (x : AV) (sz : Nat) (K : List AV → Prop) : Prop :=
  match x with
  | .ptr k b o => match own.find k b with
    | some (.cells cs) => o + sz ≤ cs.length ∧ K ((cs.drop o).take sz)
    | _ => False
  | .ref cs => sz ≤ cs.length ∧ K (cs.take sz)
  | _ => False
def sameK : KK → AV → AV → Option Bool
  | .i, .int k a, .int k' b => if k = k' then some (decide (a = b)) else none
  | .s, .str a, .str b => some (decide (a = b))
  | .b, .bool a, .bool b => some (a == b)
  | _, _, _ => none
def eqCells : List KK → List AV → List AV → Option Bool
  | [], [], [] => some true
  | k :: ks, x :: xs, y :: ys => (sameK k x y).bind fun b => (eqCells ks xs ys).map fun c => b && c
  | _, _, _ => none
def mfindI (kk : KK) (k : AV) : List (AV × AV) → Nat → Option (Option Nat)
  | [], _ => some none
  | p :: r, i => match sameK kk k p.1 with
    | some true => some (some i)
    | some false => mfindI kk k r (i + 1)
    | none => none
def mres (ok : Bool) (x : AV) (b : Bool) : AV := if ok then .tup [x, .bool b] else x
def AOp.step (s : Slots) (own : Own) : AOp → (AV → Prop) → Prop
  | .mov x, K => K (x.ev s)
  | .pick c a b, K => match c.ev s with
    | .bool t => K (if t then a.ev s else b.ev s)
    | _ => False
  | .load ag sz a, K => cellsAt own (a.ev s) sz (fun cs => K (mk ag cs))
  | .fadr off x, K => match x.ev s with
    | .ptr k b o => K (.ptr k b (o + off))
    | .ref cs => K (.ref (cs.drop off))
    | _ => False
  | .iadr sz x i, K => match x.ev s, i.ev s with
    | .sl xs, .int _ n => 0 ≤ n ∧ n < xs.length ∧ (xs.getD n.toNat .any).cells.length = sz ∧ K (.ref (xs.getD n.toNat .any).cells)
    | .row k b o m _, .int _ n => 0 ≤ n ∧ n < m ∧ K (.ptr k b (o + n.toNat * sz))
    | _, _ => False
  | .iadA sz m x i, K => match x.ev s, i.ev s with
    | .ptr k b o, .int _ n => 0 ≤ n ∧ n < m ∧ K (.ptr k b (o + n.toNat * sz))
    | .ref cs, .int _ n => 0 ≤ n ∧ n < m ∧ K (.ref (cs.drop (n.toNat * sz)))
    | _, _ => False
  | .fld ag off sz x, K => match x.ev s with
    | .agg cs => off + sz ≤ cs.length ∧ K (mk ag ((cs.drop off).take sz))
    | _ => False
  | .bld zs ps, K => match fillA zs (ps.map fun p => (p.1, p.2.1, p.2.2.ev s)) with
    | some cs => K (.agg cs)
    | none => False
  | .bin op x y, K => match x.ev s, y.ev s with
    | .int k a, .int k' b => k = k' ∧ binI op k a b K
    | .str a, .str b => binS op a b K
    | _, _ => False
  | .binB op x y, K => match op, x.ev s, y.ev s with
    | .eql, .bool a, .bool b => K (.bool (a == b))
    | .neq, .bool a, .bool b => K (.bool (!(a == b)))
    | _, _, _ => False
  | .un op x, K => unV op (x.ev s) K
  | .conv k x, K => match x.ev s with
    | .int _ n => K (.int k (k.wrap n))
    | _ => False
  | .ext i x, K => match x.ev s with
    | .tup vs => i < vs.length ∧ K (vs.getD i .any)
    | _ => False
  | .len x, K => match x.ev s with
    | .sl xs => K (.int .i64 xs.length)
    | .row _ _ _ n _ => K (.int .i64 n)
    | .nil => K (.int .i64 0)
    | _ => False
  | .lenS x, K => match x.ev s with
    | .str l => K (.int .i64 l.length)
    | _ => False
  | .idxS x i, K => match x.ev s, i.ev s with
    | .str l, .int _ n => 0 ≤ n ∧ n < l.length ∧ K (.int .u8 (l.getD n.toNat 0).toNat)
    | _, _ => False
  | .mkfn f a b, K => K (.fn f (a.map (·.ev s)) (b.map (·.ev s)))
  | .slc sz x lo hi, K => match x.ev s, (lo.map (·.ev s)).getD (.int .i64 0), hi.map (·.ev s) with
    | .sl xs, .int _ l, none => (∀ x, x ∈ xs → x.cells.length = sz) ∧ 0 ≤ l ∧ l ≤ xs.length ∧ K (.sl (xs.drop l.toNat))
    | .sl xs, .int _ l, some (.int _ h) => (∀ x, x ∈ xs → x.cells.length = sz) ∧ 0 ≤ l ∧ l ≤ h ∧ h ≤ xs.length ∧ K (.sl ((xs.take h.toNat).drop l.toNat))
    | .row k b o n z, .int _ l, some (.int _ h) => l = 0 ∧ z = sz ∧ 0 ≤ h ∧ h ≤ n ∧ K (.row k b o h.toNat z)
    | _, _, _ => False
  | .slcS x lo hi, K => match x.ev s, (lo.map (·.ev s)).getD (.int .i64 0), hi.map (·.ev s) with
    | .str xs, .int _ l, none => 0 ≤ l ∧ l ≤ xs.length ∧ K (.str (xs.drop l.toNat))
    | .str xs, .int _ l, some (.int _ h) => 0 ≤ l ∧ l ≤ h ∧ h ≤ xs.length ∧ K (.str ((xs.take h.toNat).drop l.toNat))
    | _, _, _ => False
  | .nilc x, K => match x.ev s with
    | .ptr k b o => K (.ptr k b o)
    | .ref cs => K (.ref cs)
    | _ => False
  | .eqS neg ks x y, K => match x.ev s, y.ev s with
    | .agg xs, .agg ys => match eqCells ks xs ys with
      | some b => K (.bool (if neg then !b else b))
      | none => False
    | _, _ => False
  | .nilS neg x, K => match x.ev s with
    | .nil => K (.bool (!neg))
    | .row _ _ _ _ _ => K (.bool neg)
    | .sl xs => K (.bool neg) ∧ (xs = [] → K (.bool (!neg)))
    | _ => False
  | .mlook ok kk z x i, K => match x.ev s with
    | .mapv k b => match own.find k b with
      | some (.map es) => match mfindI kk (i.ev s) es 0 with
        | some (some j) => K (mres ok (es.getD j (.any, .any)).2 true)
        | some none => K (mres ok z false)
        | none => False
      | _ => False
    | _ => False
  | .mlen x, K => match x.ev s with
    | .mapv k b => match own.find k b with
      | some (.map es) => K (.int .i64 es.length)
      | _ => False
    | _ => False
  | .ifc t x, K => K (.ifc t (x.ev s))
  | .asrt t z x, K => match x.ev s with
    | .ifc t' y => (t' = t → K (.tup [y, .bool true])) ∧ (t' ≠ t → K (.tup [z, .bool false]))
    | .lit .nilIface => K (.tup [z, .bool false])
    | _ => False
  | .nilI neg x, K => match x.ev s with
    | .lit .nilIface => K (.bool (!neg))
    | .ifc _ _ => K (.bool neg)
    | _ => False
  | _, _ => False
def AV.cval : AV → Option Value
  | .int k n => some (.int k n)
  | .bool b => some (.bool b)
  | .str l => some (.string ⟨l.toArray⟩)
  | _ => none
def cvals : List AV → Option (List Value)
  | [] => some []
  | x :: r => x.cval.bind fun v => (cvals r).map fun l => v :: l
def cval (x : AV) : Option Value := match x with
  | .agg cs => (cvals cs).map fun l => .agg l.toArray
  | x => x.cval
end Go.Aw
namespace Go.Aw
def Same (D : Nat → Prop) (w w' : World) : Prop := ∀ b, b < w.heap.size → ¬ D b → w'.heap[b]? = w.heap[b]?
theorem Same.cell {D : Nat → Prop} {w w' : World} (h : Same D w w') {b o : Nat} (hb : b < w.heap.size ∧ ¬ D b) : w'.cell? ⟨b, o, none⟩ = w.cell? ⟨b, o, none⟩ := by
  unfold World.cell?
  simp only [h b hb.1 hb.2]
theorem Same.refl (D : Nat → Prop) (w : World) : Same D w w := fun _ _ _ => rfl
def Gives (P : Program) (D : Nat → Prop) (w : World) (m : Sem Next) (v : Value) : Prop := ∀ w', Same D w w' → m.run P w' = .ok (.value v) w'
theorem rel_avOf0 (F : Nat → Prop) (w : World) (v : Value) : Rel F w v (avOf0 v) := by
  cases v with
  | int k n => exact .int _ _
  | bool b => exact .bool _
  | string s => exact .str s.data.toList
  | slice a n c =>
    simp only [avOf0]
    split
    · rename_i h; obtain ⟨rfl, rfl, rfl⟩ := h; exact .nil
    · exact .lit _
  | func f a b =>
    simp only [avOf0]
    split
    · rename_i h; exact .fn _ _ _ _ _ (by simpa using h.1) (by simpa using h.2) (by simp) (by simp)
    · exact .lit _
  | _ => exact .lit _
theorem rel_avOf (F : Nat → Prop) (w : World) (v : Value) : Rel F w v (avOf v) := by
  unfold avOf
  split
  · rename_i cs
    split
    · rename_i h
      refine .agg _ _ (by simp) (fun j v hj => ?_) (fun j v y hj hy => ?_)
      · rw [List.all_eq_true] at h
        exact h v (by simpa using Array.mem_of_getElem? hj)
      · simp only [List.getElem?_map, Array.getElem?_toList, hj, Option.map_some, Option.some.injEq] at hy
        subst hy
        exact rel_avOf0 F w v
    · exact .lit _
  · exact rel_avOf0 F w _
theorem Rep.od {X : Cx} {s : Slots} {own : Own} {a : Act} {w : World} (R : Rep X s own a w) (x : Operand) : Rel (Fo X.fr own) w (a.eval x) ((od x).ev s) := by
  cases x with
  | tmp t => exact R.tm t
  | const v => exact rel_avOf _ _ v
  | global g => exact .lit _
  | func f => exact .fn _ _ _ _ _ rfl rfl (by simp) (by simp)
theorem Own.find_mem {own : Own} {k b : Nat} {ob : Ob} (h : own.find k b = some ob) : (k, b, ob) ∈ own := by
  induction own with
  | nil => cases h
  | cons e r ih =>
    obtain ⟨k', b', ob'⟩ := e
    simp only [Own.find] at h
    split at h
    · rename_i hk
      split at h
      · rename_i hb; cases h; subst hk hb; exact List.mem_cons_self ..
      · cases h
    · exact List.mem_cons_of_mem _ (ih h)
theorem add_at (b o n : Nat) : (⟨b, o, none⟩ : Addr).add n = ⟨b, o + n, none⟩ := by
  unfold Addr.add
  split <;> simp_all
variable {P : Program}
theorem run_tinfo {t : TypeId} {i : TypeInfo} (h : P.info? t = some i) (w : World) : (typeInfo t).run P w = .ok i w := by simp [typeInfo, h]
theorem run_size {t : TypeId} {i : TypeInfo} (h : P.info? t = some i) (w : World) : (sizeOf t).run P w = .ok i.size w := by simp [sizeOf, run_tinfo h]
theorem run_isAgg {t : TypeId} {d : TypeDesc} (h : P.underlying t = some d) (w : World) : (isAgg t).run P w = .ok (aggB P t) w := by
  unfold isAgg aggB
  simp only [Sem.run_bind, run_underlying h, Result.andThen_ok, h]
  cases d <;> rfl
theorem aggB_some {t : TypeId} (h : aggB P t = true) : ∃ d, P.underlying t = some d := by
  unfold aggB at h
  cases hd : P.underlying t with
  | none => simp [hd] at h
  | some d => exact ⟨d, rfl⟩
theorem loadVar_agg {t : TypeId} {i : TypeInfo} (ha : aggB P t = true) (hi : P.info? t = some i) (w : World) (b o : Nat) (vs : List Value) (hl : vs.length = i.size)
    (hc : ∀ (j : Nat) (v : Value), vs[j]? = some v → w.cell? ⟨b, o + j, none⟩ = some v) : (loadVar t ⟨b, o, none⟩).run P w = .ok (.agg vs.toArray) w := by
  obtain ⟨d, hd⟩ := aggB_some ha
  have h := run_loadCells_list (P := P) w ⟨b, o, none⟩ vs (fun j v hj => by rw [add_at]; exact hc j v hj)
  rw [hl] at h
  simp [loadVar, run_isAgg hd, ha, run_size hi, h]
theorem loadVar_one {t : TypeId} (ha : aggB P t = false) {d : TypeDesc} (hd : P.underlying t = some d) (w : World) (b o : Nat) (v : Value)
    (hc : w.cell? ⟨b, o, none⟩ = some v) : (loadVar t ⟨b, o, none⟩).run P w = .ok v w := by
  simp [loadVar, run_isAgg hd, ha, hc]
theorem vals_of {F : Nat → Prop} {w : World} {cs : List AV} {c : Nat → Option Value} (h : ∀ (i : Nat) x, cs[i]? = some x → ∃ v, c i = some v ∧ v.oneCell' = true ∧ Rel F w v x) (o sz : Nat) (hsz : o + sz ≤ cs.length) :
    ∃ vs : List Value, vs.length = sz ∧ (∀ (j : Nat) (v : Value), vs[j]? = some v → c (o + j) = some v ∧ v.oneCell' = true) ∧ ∀ (j : Nat) (v : Value) (y : AV), vs[j]? = some v → ((cs.drop o).take sz)[j]? = some y → Rel F w v y := by
  refine ⟨(List.range sz).map fun j => (c (o + j)).getD undef, by simp, ?_, ?_⟩
  · intro j v hj
    have hlt : j < sz := by
      have := (List.getElem?_eq_some_iff.1 hj).1
      simpa using this
    have hx : cs[o + j]? = some cs[o + j] := List.getElem?_eq_getElem (by omega)
    obtain ⟨u, hu, ho, _⟩ := h _ _ hx
    simp [hlt, hu] at hj
    subst hj
    exact ⟨hu, ho⟩
  · intro j v y hj hy
    have hlt : j < sz := by
      have := (List.getElem?_eq_some_iff.1 hj).1
      simpa using this
    have hx : cs[o + j]? = some cs[o + j] := List.getElem?_eq_getElem (by omega)
    obtain ⟨u, hu, _, hr⟩ := h _ _ hx
    simp [hlt, hu] at hj
    subst hj
    rw [List.getElem?_take_of_lt hlt, List.getElem?_drop, hx] at hy
    cases hy
    exact hr
theorem rel_mk {F : Nat → Prop} {w : World} {vs : List Value} {cs : List AV} (hl : vs.length = cs.length) (ho : ∀ (j : Nat) (v : Value), vs[j]? = some v → v.oneCell' = true)
    (hr : ∀ (j : Nat) (v : Value) (y : AV), vs[j]? = some v → cs[j]? = some y → Rel F w v y) : Rel F w (.agg vs.toArray) (.agg cs) :=
  .agg _ _ (by simpa using hl) (by simpa using ho) (by simpa using hr)
section
variable {X : Cx} {s : Slots} {own : Own} {a : Act} {w : World}
theorem addr_cells {v : Value} {x : AV} (R : Rep X s own a w) (hv : Rel (Fo X.fr own) w v x) {sz : Nat} {K : List AV → Prop}
    (h : cellsAt own x sz K) :
    ∃ (b o : Nat) (cs : List AV) (vs : List Value), v = .pointer (some ⟨b, o, none⟩) ∧ K cs ∧ vs.length = sz ∧ cs.length = sz ∧ (b < w.heap.size ∧ ¬ X.fr b) ∧ (∀ (j : Nat) (u : Value), vs[j]? = some u → w.cell? ⟨b, o + j, none⟩ = some u ∧ u.oneCell' = true) ∧
      ∀ (j : Nat) (u : Value) (y : AV), vs[j]? = some u → cs[j]? = some y → Rel (Fo X.fr own) w u y := by
  unfold cellsAt at h
  cases hv with
  | ptr k b o =>
    simp only at h
    cases hf : own.find k b with
    | none => simp [hf] at h
    | some ob =>
      obtain ⟨cs⟩ | ⟨_, _⟩ | ⟨_⟩ := ob
      rotate_left
      · simp [hf] at h
      · simp [hf] at h
      simp only [hf] at h
      obtain ⟨hle, hK⟩ := h
      have hh := R.ok.holds _ (Own.find_mem hf)
      have hlt := hh.lt
      obtain ⟨⟨T, csz, h1, h3⟩, h2, h4⟩ := hh
      obtain ⟨vs, hvl, hvc, hvr⟩ := vals_of (c := fun i => w.cell? ⟨b, i, none⟩) h4 o sz hle
      exact ⟨b, o, _, vs, rfl, hK, hvl, by simp; omega, ⟨hlt, R.ok.apart _ (List.mem_map.2 ⟨_, Own.find_mem hf, rfl⟩)⟩, fun j u hj => hvc j u hj, hvr⟩
  | ref b o cs cv hF hb hc ho hr =>
    obtain ⟨hle, hK⟩ := h
    obtain ⟨vs, hvl, hvc, hvr⟩ := vals_of (F := Fo X.fr own) (w := w) (cs := cs) (c := fun i => w.cell? ⟨b, o + i, none⟩) (fun i x hx => ⟨_, hc i x hx, ho i x hx, hr i x hx⟩) 0 sz (by omega)
    refine ⟨b, o, _, vs, rfl, hK, hvl, by simp; omega, ⟨hb, fun h => hF (.inl h)⟩, fun j u hj => ?_, by simpa using hvr⟩
    simpa using hvc j u hj
  | _ => simp at h
end
end Go.Aw
namespace Go.Aw
def Out (X : Cx) (own : Own) (w : World) (m : Sem Next) (K : AV → Prop) : Prop :=
  ∃ v x, K x ∧ Rel (Fo X.fr own) w v x ∧ Gives X.P X.fr w m v
section
variable {X : Cx} {s : Slots} {own : Own} {a : Act} {w : World} {K : AV → Prop}
theorem Out.value {v : Value} {x : AV} {m : Sem Next} (hK : K x) (hr : Rel (Fo X.fr own) w v x) (h : ∀ w', Same X.fr w w' → m.run X.P w' = .ok (.value v) w') : Out X own w m K := ⟨v, x, hK, hr, h⟩
theorem s_mov (R : Rep X s own a w) (o : Oper) (x : Operand) (ho : execOp a.eval o = pure (.value (a.eval x))) (h : (AOp.mov (od x)).step s own K) : Out X own w (execOp a.eval o) K := by
  rw [ho]
  exact .value h (R.od x) (fun w' _ => rfl)
theorem s_pick (R : Rep X s own a w) (o : Oper) (c x y : Operand) (ho : o.op = .pick c x y) (h : (AOp.pick (od c) (od x) (od y)).step s own K) : Out X own w (execOp a.eval o) K := by
  have hc := R.od c
  simp only [AOp.step] at h
  cases hv : (od c).ev s with
  | bool t =>
    rw [hv] at hc h
    cases hcv : a.eval c with
    | bool t' =>
      rw [hcv] at hc
      cases hc
      refine .value h (v := if t then a.eval x else a.eval y) ?_ (fun w' _ => ?_)
      · cases t
        · exact R.od y
        · exact R.od x
      · simp [execOp, ho, hcv, asBool]
    | _ => rw [hcv] at hc; cases hc
  | _ => simp [hv] at h
theorem s_load (R : Rep X s own a w) (o : Oper) (t : TypeId) (p : Operand) (ho : o.op = .load t p) (op : AOp) (hc : comp X.P o = some op) (h : op.step s own K) : Out X own w (execOp a.eval o) K := by
  have hp := R.od p
  simp only [comp, ho] at hc
  have hrun : ∀ w', (execOp a.eval o).run X.P w' = ((Instr.loadAt t (a.eval p)).run X.P w').andThen fun v w' => .ok (.value v) w' := fun w' => by
    simp [execOp, ho]
  split at hc
  · rename_i hagg
    cases hi : X.P.info? t with
    | none => simp [hi] at hc
    | some i =>
      simp only [hi, Option.map_some, Option.some.injEq] at hc
      subst hc
      simp only [AOp.step] at h
      obtain ⟨b, o', cs, vs, hv, hK, hvl, hcl, hb, hcell, hrel⟩ := addr_cells (K := fun cs => K (mk true cs)) R hp h
      refine .value hK (v := .agg vs.toArray) ?_ (fun w' hw => ?_)
      · exact rel_mk (by omega) (fun j v hj => (hcell j v hj).2) hrel
      · rw [hrun, hv]
        simp only [Instr.loadAt, Instr.sureAddr, pure_bind]
        rw [loadVar_agg hagg hi w' b o' vs hvl (fun j v hj => (hw.cell hb).trans (hcell j v hj).1)]
        rfl
  · rename_i hagg
    split at hc
    · rename_i hsome
      obtain ⟨d, hd⟩ := Option.isSome_iff_exists.1 hsome
      simp only [Option.some.injEq] at hc
      subst hc
      simp only [AOp.step] at h
      obtain ⟨b, o', cs, vs, hv, hK, hvl, hcl, hb, hcell, hrel⟩ := addr_cells (K := fun cs => K (mk false cs)) R hp h
      obtain ⟨v, rfl⟩ := List.length_eq_one_iff.1 hvl
      obtain ⟨x, rfl⟩ := List.length_eq_one_iff.1 hcl
      refine .value hK (v := v) (hrel 0 v x rfl rfl) (fun w' hw => ?_)
      rw [hrun, hv]
      simp only [Instr.loadAt, Instr.sureAddr, pure_bind]
      rw [loadVar_one (by simpa using hagg) hd w' b o' v ((hw.cell hb).trans (hcell 0 v rfl).1)]
      rfl
    · cases hc
theorem s_fadr (R : Rep X s own a w) (o : Oper) (t : TypeId) (p : Operand) (f : Nat) (ho : o.op = .fieldAddr t p f) (op : AOp) (hc : comp X.P o = some op) (h : op.step s own K) : Out X own w (execOp a.eval o) K := by
  have hp := R.od p
  simp only [comp, ho] at hc
  cases hu : X.P.underlying t with
  | none => simp [hu] at hc
  | some d =>
    cases d with
    | struct fs =>
      simp only [hu] at hc
      cases hf : fs[f]? with
      | none => simp [hf] at hc
      | some fd =>
        cases hi : X.P.info? fd.type with
        | none => simp [hf, hi] at hc
        | some i =>
          by_cases hz : i.size = 0
          · simp [hf, hi, hz] at hc
          · simp only [hf, hi, hz, Option.bind_some, if_false, Option.some.injEq] at hc
            subst hc
            simp only [AOp.step] at h
            have key : ∀ b o', a.eval p = .pointer (some ⟨b, o', none⟩) → ∀ w', (execOp a.eval o).run X.P w' = .ok (.value (.pointer (some ⟨b, o' + fd.offset, none⟩))) w' := by
              intro b o' he w'
              simp [execOp, ho, he, Instr.fieldAt, run_underlying hu, hf, Instr.sureAddr, fieldPlace, run_size hi, hz, add_at]
            cases hv : (od p).ev s with
            | ptr k b o' =>
              rw [hv] at hp h
              generalize hep : a.eval p = v at hp
              cases hp
              exact .value h (.ptr _ _ _) (fun w' _ => key _ _ hep w')
            | ref cs =>
              rw [hv] at hp h
              generalize hep : a.eval p = v at hp
              cases hp with
              | ref b o' cs cv hF hb hcc hoo hrr =>
                refine .value h (.ref b (o' + fd.offset) _ (fun j => cv (fd.offset + j)) hF hb ?_ ?_ ?_) (fun w' _ => key _ _ hep w')
                · intro j y hj
                  rw [List.getElem?_drop] at hj
                  rw [Nat.add_assoc]
                  exact hcc _ _ hj
                · intro j y hj
                  rw [List.getElem?_drop] at hj
                  exact hoo _ _ hj
                · intro j y hj
                  rw [List.getElem?_drop] at hj
                  exact hrr _ _ hj
            | _ => simp [hv] at h
    | _ => simp [hu] at hc
theorem s_iadr (R : Rep X s own a w) (o : Oper) (t : TypeId) (p q : Operand) (ho : o.op = .indexAddr t p q) (op : AOp) (hc : comp X.P o = some op) (h : op.step s own K) : Out X own w (execOp a.eval o) K := by
  have hp := R.od p
  have hq := R.od q
  simp only [comp, ho] at hc
  cases hu : X.P.underlying t with
  | none => simp [hu] at hc
  | some d =>
    cases d with
    | slice e =>
      simp only [hu] at hc
      cases hi : X.P.info? e with
      | none => simp [hi] at hc
      | some i =>
        simp only [hi, Option.map_some, Option.some.injEq] at hc
        subst hc
        have key : ∀ b o' n cap k (m : Int), a.eval p = .slice (some ⟨b, o', none⟩) n cap → a.eval q = .int k m → 0 ≤ m → m < n → ∀ w', (execOp a.eval o).run X.P w' = .ok (.value (.pointer (some ⟨b, o' + m.toNat * i.size, none⟩))) w' := by
          intro b o' n cap k m he hq h0 h1 w'
          simp [execOp, ho, he, hq, Instr.indexAt, asIntOf, run_underlying hu, run_size hi, h0, h1, add_at]
        simp only [AOp.step] at h
        cases hv : (od p).ev s with
        | sl xs =>
          cases hv2 : (od q).ev s with
          | int k m =>
            rw [hv] at hp h
            rw [hv2] at hq h
            obtain ⟨h0, h1, h2, h3⟩ := h
            generalize hep : a.eval p = v at hp
            generalize heq : a.eval q = u at hq
            cases hq
            cases hp with
            | slnil => simp at h1; omega
            | sl0 a0 cap => simp at h1; omega
            | sl b o' n cap s' xs cv hF hb hlen hn hs hcc hoo hrr =>
              have hm : m.toNat < xs.length := by omega
              have hx : xs[m.toNat]? = some (xs.getD m.toNat .any) := by simp [List.getD, List.getElem?_eq_getElem hm]
              have hss : s' = i.size := by rw [← h2]; exact (hs _ _ hx).symm
              refine .value h3 (.ref b (o' + m.toNat * i.size) _ (fun j => cv (m.toNat * s' + j)) hF hb ?_ ?_ ?_) (fun w' _ => key b o' n cap k m hep heq h0 (by omega) w')
              · intro j y hj
                rw [← hss]
                exact hcc _ _ _ _ hx hj
              · intro j y hj
                exact hoo _ _ _ _ hx hj
              · intro j y hj
                exact hrr _ _ _ _ hx hj
          | _ => simp [hv, hv2] at h
        | row kk b o' n z =>
          cases hv2 : (od q).ev s with
          | int k m =>
            rw [hv] at hp h
            rw [hv2] at hq h
            obtain ⟨h0, h1, h3⟩ := h
            generalize hep : a.eval p = v at hp
            generalize heq : a.eval q = u at hq
            cases hq
            cases hp
            exact .value h3 (.ptr _ _ _) (fun w' _ => key _ _ _ _ _ _ hep heq h0 h1 w')
          | _ => simp [hv, hv2] at h
        | _ => simp [hv] at h
    | array nn e =>
      simp only [hu] at hc
      cases hi : X.P.info? e with
      | none => simp [hi] at hc
      | some i =>
        simp only [hi, Option.map_some, Option.some.injEq] at hc
        subst hc
        have key : ∀ b o' k (m : Int), a.eval p = .pointer (some ⟨b, o', none⟩) → a.eval q = .int k m → 0 ≤ m → m < nn → ∀ w', (execOp a.eval o).run X.P w' = .ok (.value (.pointer (some ⟨b, o' + m.toNat * i.size, none⟩))) w' := by
          intro b o' k m he hq h0 h1 w'
          simp [execOp, ho, he, hq, Instr.indexAt, asIntOf, run_underlying hu, run_size hi, h0, h1, add_at, Instr.sureAddr]
        simp only [AOp.step] at h
        cases hv : (od p).ev s with
        | ptr kk b o' =>
          cases hv2 : (od q).ev s with
          | int k m =>
            rw [hv] at hp h
            rw [hv2] at hq h
            obtain ⟨h0, h1, h3⟩ := h
            generalize hep : a.eval p = v at hp
            generalize heq : a.eval q = u at hq
            cases hq
            cases hp
            exact .value h3 (.ptr _ _ _) (fun w' _ => key _ _ _ _ hep heq h0 h1 w')
          | _ => simp [hv, hv2] at h
        | ref cs =>
          cases hv2 : (od q).ev s with
          | int k m =>
            rw [hv] at hp h
            rw [hv2] at hq h
            obtain ⟨h0, h1, h3⟩ := h
            generalize hep : a.eval p = v at hp
            generalize heq : a.eval q = u at hq
            cases hq
            cases hp with
            | ref b o' cs cv hF hb hcc hoo hrr =>
              refine .value h3 (.ref b (o' + m.toNat * i.size) _ (fun j => cv (m.toNat * i.size + j)) hF hb ?_ ?_ ?_) (fun w' _ => key _ _ _ _ hep heq h0 h1 w')
              · intro j y hj
                rw [List.getElem?_drop] at hj
                rw [Nat.add_assoc]
                exact hcc _ _ hj
              · intro j y hj
                rw [List.getElem?_drop] at hj
                exact hoo _ _ hj
              · intro j y hj
                rw [List.getElem?_drop] at hj
                exact hrr _ _ hj
          | _ => simp [hv, hv2] at h
        | _ => simp [hv] at h
    | _ => simp [hu] at hc
end
end Go.Aw
namespace Go.Aw
structure RelC (F : Nat → Prop) (w : World) (vs : Array Value) (xs : List AV) : Prop where
  len : vs.size = xs.length
  one : ∀ (j : Nat) (v : Value), vs[j]? = some v → v.oneCell' = true
  rel : ∀ (j : Nat) (v : Value) (y : AV), vs[j]? = some v → xs[j]? = some y → Rel F w v y
theorem Rel.storOne {F : Nat → Prop} {w : World} {v : Value} {x : AV} (h : Rel F w v x) (hs : x.stor = true) : (∃ vs cs, v = .agg vs ∧ x = .agg cs) ∨ (v.oneCell' = true ∧ v.cells = #[v] ∧ x.cells = [x]) := by
  cases h with
  | agg vs cs => exact .inl ⟨_, _, rfl, rfl⟩
  | any v => cases hs
  | tup => cases hs
  | lit v =>
    refine .inr ⟨hs, ?_, rfl⟩
    cases v <;> first | rfl | cases hs
  | _ => exact .inr ⟨rfl, rfl, rfl⟩
theorem relC_one {F : Nat → Prop} {w : World} {v : Value} {x : AV} (h : Rel F w v x) (ho : v.oneCell' = true) : RelC F w #[v] [x] := by
  refine ⟨rfl, fun j u hj => ?_, fun j u y hj hy => ?_⟩
  · cases j with
    | zero => simp at hj; subst hj; exact ho
    | succ j => simp at hj
  · cases j with
    | zero => simp at hj hy; subst hj hy; exact h
    | succ j => simp at hj
theorem Rel.relC {F : Nat → Prop} {w : World} {v : Value} {x : AV} (h : Rel F w v x) (hs : x.stor = true) : RelC F w v.cells x.cells := by
  rcases h.storOne hs with ⟨vs, cs, rfl, rfl⟩ | ⟨h1, h2, h3⟩
  · cases h with
    | agg _ _ hl ho hr => exact ⟨hl, ho, hr⟩
  · rw [h2, h3]
    exact relC_one h h1
theorem RelC.relAgg {F : Nat → Prop} {w : World} {vs : Array Value} {xs : List AV} (h : RelC F w vs xs) : Rel F w (.agg vs) (.agg xs) := .agg _ _ h.len h.one h.rel
theorem relC_zeros (F : Nat → Prop) (w : World) (z : Value) (h : z.cells.toList.all (·.oneCell') = true) : RelC F w z.cells (z.cells.toList.map avOf) := by
  refine ⟨by simp, fun j v hj => ?_, fun j v y hj hy => ?_⟩
  · simp only [List.all_eq_true] at h
    exact h v (by simpa using Array.mem_of_getElem? hj)
  · simp only [List.getElem?_map, Array.getElem?_toList, hj, Option.map_some, Option.some.injEq] at hy
    subst hy
    exact rel_avOf F w v
theorem foldl_set (off : Nat) : ∀ (vs : List Value) (k : Nat) (cells : Array Value),
    ((vs.zipIdx k).foldl (fun cs p => cs.setIfInBounds (off + p.2) p.1) cells).size = cells.size ∧
    ∀ i, ((vs.zipIdx k).foldl (fun cs p => cs.setIfInBounds (off + p.2) p.1) cells)[i]? = if off + k ≤ i ∧ i < off + k + vs.length ∧ i < cells.size then vs[i - (off + k)]? else cells[i]?
  | [], k, cells => by
    refine ⟨rfl, fun i => ?_⟩
    rw [if_neg (by simp; omega)]
    rfl
  | v :: r, k, cells => by
    obtain ⟨h1, h2⟩ := foldl_set off r (k + 1) (cells.setIfInBounds (off + k) v)
    refine ⟨by simpa [List.zipIdx_cons] using h1, fun i => ?_⟩
    simp only [List.zipIdx_cons, List.foldl_cons]
    rw [h2 i]
    simp only [Array.size_setIfInBounds, List.length_cons]
    by_cases hi : i = off + k
    · subst hi
      rw [if_neg (by omega)]
      by_cases hlt : off + k < cells.size
      · rw [if_pos (by omega)]
        simp [hlt]
      · rw [if_neg (by omega)]
        simp [Array.getElem?_setIfInBounds, hlt]
    · by_cases hc : off + k ≤ i ∧ i < off + k + (r.length + 1) ∧ i < cells.size
      · rw [if_pos (by omega), if_pos hc]
        rw [show i - (off + k) = (i - (off + (k + 1))) + 1 by omega]
        rfl
      · rw [if_neg (by omega), if_neg hc]
        simp [Array.getElem?_setIfInBounds, Ne.symm hi]
theorem RelC.fill {F : Nat → Prop} {w : World} (pl : Nat → Option (Nat × Nat)) : ∀ (ps : List (Nat × Value)) (qs : List (Nat × Nat × AV)) (cells : Array Value) (zs cs : List AV), RelC F w cells zs →
    ps.length = qs.length → (∀ (j : Nat) p q, ps[j]? = some p → qs[j]? = some q → pl p.1 = some (q.1, q.2.1) ∧ Rel F w p.2 q.2.2) → fillA zs qs = some cs →
    ∃ cv, Instr.fill pl cells ps = some cv ∧ RelC F w cv cs
  | [], [], cells, zs, cs, hz, _, _, h => by
    simp only [fillA, Option.some.injEq] at h
    subst h
    exact ⟨cells, rfl, hz⟩
  | [], _ :: _, _, _, _, _, hl, _, _ => by simp at hl
  | _ :: _, [], _, _, _, _, hl, _, _ => by simp at hl
  | (i, v) :: ps, (off, sz, x) :: qs, cells, zs, cs, hz, hl, hp, h => by
    obtain ⟨hpl, hrel⟩ := hp 0 _ _ rfl rfl
    simp only [fillA] at h
    split at h
    · rename_i hc
      obtain ⟨h1, h2, h3⟩ := hc
      have hv := hrel.relC h3
      simp only at hv
      have hvl : v.cells.size = sz := by rw [hv.len, h1]
      simp only at hpl
      unfold Instr.fill
      simp only [hpl]
      rw [if_neg (by have := hz.len; simp [hvl]; omega)]
      have hf := foldl_set off v.cells.toList 0 cells
      have hfe : v.cells.zipIdx.foldl (fun cs x => cs.setIfInBounds (off + x.2) x.1) cells = (v.cells.toList.zipIdx 0).foldl (fun cs p => cs.setIfInBounds (off + p.2) p.1) cells := by
        rw [← Array.foldl_toList]
        simp
      obtain ⟨hf1, hf2⟩ := hf
      rw [← hfe] at hf1 hf2
      refine RelC.fill pl ps qs _ _ cs ?_ (by simpa using hl) (fun j p q hj hq => hp (j + 1) p q (by simpa using hj) (by simpa using hq)) h
      have hzl := hz.len
      refine ⟨?_, fun j u hj => ?_, fun j u y hj hy => ?_⟩
      · rw [hf1, hz.len]
        simp [h1]
        omega
      · rw [hf2 j] at hj
        split at hj
        · exact hv.one _ _ (by simpa using hj)
        · exact hz.one _ _ hj
      · rw [hf2 j] at hj
        simp only [Nat.add_zero, Array.length_toList, hvl] at hj
        rw [List.append_assoc] at hy
        by_cases hj1 : j < off
        · rw [if_neg (by omega)] at hj
          rw [List.getElem?_append_left (by simp; omega), List.getElem?_take_of_lt hj1] at hy
          exact hz.rel _ _ _ hj hy
        · rw [List.getElem?_append_right (by simp; omega)] at hy
          simp only [List.length_take, Nat.min_eq_left (show off ≤ zs.length by omega)] at hy
          by_cases hj2 : j < off + sz
          · rw [List.getElem?_append_left (by omega)] at hy
            by_cases hj3 : j < cells.size
            · rw [if_pos (by omega)] at hj
              exact hv.rel _ _ _ (by simpa using hj) hy
            · omega
          · rw [if_neg (by omega)] at hj
            rw [List.getElem?_append_right (by omega), List.getElem?_drop, h1] at hy
            rw [show off + sz + (j - off - sz) = j by omega] at hy
            exact hz.rel _ _ _ hj hy
    · cases h
end Go.Aw
namespace Go.Aw
section
variable {X : Cx} {s : Slots} {own : Own} {a : Act} {w : World} {K : AV → Prop}
theorem relC_part {F : Nat → Prop} {vs : Array Value} {cs : List AV} (h : RelC F w vs cs) (off sz : Nat) (hle : off + sz ≤ cs.length) : RelC F w (vs.extract off (off + sz)) ((cs.drop off).take sz) := by
  have hl := h.len
  refine ⟨by simp; omega, fun j v hj => ?_, fun j v y hj hy => ?_⟩
  · rw [Array.getElem?_extract] at hj
    split at hj
    · exact h.one _ _ hj
    · cases hj
  · rw [Array.getElem?_extract] at hj
    split at hj
    · rename_i hlt
      rw [List.getElem?_take_of_lt (by omega), List.getElem?_drop] at hy
      exact h.rel _ _ _ hj hy
    · cases hj
theorem s_fld (R : Rep X s own a w) (o : Oper) (t : TypeId) (p : Operand) (f : Nat) (ho : o.op = .field t p f) (op : AOp) (hc : comp X.P o = some op) (h : op.step s own K) : Out X own w (execOp a.eval o) K := by
  have hp := R.od p
  simp only [comp, ho] at hc
  cases hu : X.P.underlying t with
  | none => simp [hu] at hc
  | some d =>
    cases d with
    | struct fs =>
      simp only [hu] at hc
      cases hf : fs[f]? with
      | none => simp [hf] at hc
      | some fd =>
        simp only [hf, Option.bind_some] at hc
        split at hc
        · rename_i hagg
          cases hi : X.P.info? fd.type with
          | none => simp [hi] at hc
          | some i =>
            simp only [hi, Option.map_some, Option.some.injEq] at hc
            subst hc
            simp only [AOp.step] at h
            cases hv : (od p).ev s with
            | agg cs =>
              rw [hv] at hp h
              generalize hep : a.eval p = v at hp
              cases hp with
              | agg vs _ hl hoo hr =>
                obtain ⟨d, hd⟩ := aggB_some hagg
                obtain ⟨hle, hK⟩ := h
                refine .value hK (v := .agg (vs.extract fd.offset (fd.offset + i.size))) (relC_part ⟨hl, hoo, hr⟩ _ _ hle).relAgg (fun w' _ => ?_)
                simp [execOp, ho, hep, Instr.field, run_underlying hu, hf, asAgg, part, run_isAgg hd, hagg, run_size hi]
            | _ => simp [hv] at h
        · rename_i hagg
          split at hc
          · rename_i hsome
            obtain ⟨d, hd⟩ := Option.isSome_iff_exists.1 hsome
            simp only [Option.some.injEq] at hc
            subst hc
            simp only [AOp.step] at h
            cases hv : (od p).ev s with
            | agg cs =>
              rw [hv] at hp h
              generalize hep : a.eval p = v at hp
              cases hp with
              | agg vs _ hl hoo hr =>
                obtain ⟨hle, hK⟩ := h
                have hx : cs[fd.offset]? = some cs[fd.offset] := List.getElem?_eq_getElem (by omega)
                have hw : vs[fd.offset]? = some vs[fd.offset] := Array.getElem?_eq_getElem (by omega)
                have hmk : mk false ((cs.drop fd.offset).take 1) = cs[fd.offset] := by
                  rw [show (cs.drop fd.offset).take 1 = [cs[fd.offset]] from by
                    rw [List.drop_eq_getElem_cons (by omega)]; rfl]
                  rfl
                rw [hmk] at hK
                refine .value hK (v := vs[fd.offset]) (hr _ _ _ hw hx) (fun w' _ => ?_)
                simp [execOp, ho, hep, Instr.field, run_underlying hu, hf, asAgg, part, run_isAgg hd, hagg, hw]
            | _ => simp [hv] at h
          · cases hc
    | _ => simp [hu] at hc
theorem mapM_some {α β : Type} (f : α → Option β) : ∀ (l : List α) (r : List β), l.mapM f = some r → r.length = l.length ∧ ∀ (j : Nat) x y, l[j]? = some x → r[j]? = some y → f x = some y
  | [], r, h => by simp at h; subst h; simp
  | x :: l, r, h => by
    simp only [List.mapM_cons, Option.bind_eq_bind, Option.pure_def] at h
    cases hx : f x with
    | none => simp [hx] at h
    | some y =>
      cases hl : l.mapM f with
      | none => simp [hx, hl] at h
      | some r' =>
        simp [hx, hl] at h
        subst h
        obtain ⟨h1, h2⟩ := mapM_some f l r' hl
        refine ⟨by simp [h1], fun j u v hu hv => ?_⟩
        cases j with
        | zero => simp at hu hv; subst hu hv; exact hx
        | succ j => exact h2 j u v (by simpa using hu) (by simpa using hv)
theorem mapM_all {α β : Type} (f : α → Option β) : ∀ (l : List α), (∀ x ∈ l, (f x).isSome = true) → ∃ r, l.mapM f = some r
  | [], _ => ⟨[], rfl⟩
  | x :: l, h => by
    obtain ⟨y, hy⟩ := Option.isSome_iff_exists.1 (h x (by simp))
    obtain ⟨r, hr⟩ := mapM_all f l (fun z hz => h z (by simp [hz]))
    exact ⟨y :: r, by simp [List.mapM_cons, hy, hr]⟩
theorem zeros_some {P : Program} {t : TypeId} {f : List AV → Option AOp} {op : AOp} (h : zeros P t f = some op) : ∃ j z, P.info? t = some j ∧ j.zero = some z ∧ z.cells.toList.all (·.oneCell') = true ∧ f (z.cells.toList.map avOf) = some op := by
  unfold zeros at h
  cases hi : P.info? t with
  | none => simp [hi] at h
  | some j =>
    cases hz : j.zero with
    | none => simp [hi, hz] at h
    | some z =>
      simp only [hi, hz] at h
      split at h
      · rename_i hall
        exact ⟨j, z, rfl, hz, hall, h⟩
      · cases h
theorem s_bld (R : Rep X s own a w) (o : Oper) (t : TypeId) (ps : Array (Nat × Operand)) (ho : o.op = .build t ps) (op : AOp) (hc : comp X.P o = some op) (h : op.step s own K) : Out X own w (execOp a.eval o) K := by
  simp only [comp, ho] at hc
  have main : ∀ (j : TypeInfo) (z : Value) (pl : Nat → Option (Nat × Nat)) (l : List (Nat × Nat × Od)), X.P.info? t = some j → j.zero = some z → z.cells.toList.all (·.oneCell') = true →
      parts X.P t ps.toList = some l → op = .bld (z.cells.toList.map avOf) l → (∀ i, place X.P t i = pl i) →
      (∀ vals cells, Instr.fill pl z.cells vals = some cells → X.P.built t vals = some cells) → Out X own w (execOp a.eval o) K := by
    intro j z pl l hi hz hall hl hop hpl hb
    subst hop
    simp only [AOp.step] at h
    obtain ⟨hll, hlm⟩ := mapM_some _ _ _ hl
    generalize hq : l.map (fun p => (p.1, p.2.1, p.2.2.ev s)) = qs at h
    cases hfa : fillA (z.cells.toList.map avOf) qs with
    | none => simp [hfa] at h
    | some cs =>
      simp only [hfa] at h
      have hpart : ∀ (jj : Nat) (p : Nat × Value) (q : Nat × Nat × AV), (ps.toList.map fun x => (x.1, a.eval x.2))[jj]? = some p → qs[jj]? = some q → pl p.1 = some (q.1, q.2.1) ∧ Rel (Fo X.fr own) w p.2 q.2.2 := by
        intro jj p q hp hq'
        subst hq
        simp only [List.getElem?_map] at hp hq'
        cases hps : ps.toList[jj]? with
        | none => simp [hps] at hp
        | some x =>
          cases hls : l[jj]? with
          | none => simp [hls] at hq'
          | some y =>
            simp only [hps, hls, Option.map_some, Option.some.injEq] at hp hq'
            subst hp hq'
            have := hlm jj x y hps hls
            cases hplc : place X.P t x.1 with
            | none => simp [hplc] at this
            | some pp =>
              simp only [hplc, Option.map_some, Option.some.injEq] at this
              subst this
              exact ⟨by rw [← hpl, hplc], R.od x.2⟩
      obtain ⟨cv, hcv, hrc⟩ := RelC.fill (F := Fo X.fr own) (w := w) pl (ps.toList.map fun x => (x.1, a.eval x.2)) qs z.cells _ cs (relC_zeros _ w z hall) (by subst hq; simp [hll]) hpart hfa
      have hbt := hb _ _ hcv
      refine .value h (v := .agg cv) hrc.relAgg (fun w' _ => ?_)
      have hrun := run_build w' t (ps.map fun x => (x.1, a.eval x.2)) cv (by rw [Array.toList_map]; exact hbt)
      simp [execOp, ho, hrun]
  cases hu : X.P.underlying t with
  | none => simp [hu] at hc
  | some d =>
    cases d with
    | struct fs =>
      simp only [hu] at hc
      split at hc
      · rename_i hfs
        obtain ⟨j, z, hi, hz, hall, hf⟩ := zeros_some hc
        cases hl : parts X.P t ps.toList with
        | none => simp [hl] at hf
        | some l =>
          simp only [hl, Option.map_some, Option.some.injEq] at hf
          obtain ⟨places, hpl⟩ := mapM_all (fun f : Field => (X.P.info? f.type).map fun i => (f.offset, i.size)) fs.toList (fun f hf => by
            have := List.all_eq_true.1 hfs f hf
            cases hh : X.P.info? f.type with
            | none => simp [hh] at this
            | some i => rfl)
          obtain ⟨hp1, hp2⟩ := mapM_some _ _ _ hpl
          refine main j z (places.toArray[·]?) l hi hz hall hl hf.symm (fun i => ?_) (fun vals cells hv => ?_)
          · unfold place
            simp only [hu]
            cases hfi : fs[i]? with
            | none =>
              have : places.length ≤ i := by
                have := Array.getElem?_eq_none_iff.1 hfi
                rw [hp1]; simpa using this
              simp [this]
            | some f =>
              have hlt : i < places.length := by
                have := (Array.getElem?_eq_some_iff.1 hfi).1
                rw [hp1]; simpa using this
              have := hp2 i f places[i] (by simpa using hfi) (List.getElem?_eq_getElem hlt)
              simp [this, hlt]
          · unfold Program.built
            simp only [hi, hu, hz, hpl]
            exact hv
      · cases hc
    | array n e =>
      simp only [hu] at hc
      split at hc
      · rename_i hsome
        obtain ⟨ie, hie⟩ := Option.isSome_iff_exists.1 hsome
        obtain ⟨j, z, hi, hz, hall, hf⟩ := zeros_some hc
        cases hl : parts X.P t ps.toList with
        | none => simp [hl] at hf
        | some l =>
          simp only [hl, Option.map_some, Option.some.injEq] at hf
          refine main j z (fun i => some (i * ie.size, ie.size)) l hi hz hall hl hf.symm (fun i => ?_) (fun vals cells hv => ?_)
          · unfold place
            simp [hu, hie]
          · unfold Program.built
            simp only [hi, hu, hz, hie]
            exact hv
      · cases hc
    | _ => simp [hu] at hc
end
end Go.Aw
namespace Go.Aw
section
variable {X : Cx} {s : Slots} {own : Own} {a : Act} {w : World} {K : AV → Prop}
theorem s_nilc (R : Rep X s own a w) (o : Oper) (p : Operand) (ho : o.op = .nilCheck p) (h : (AOp.nilc (od p)).step s own K) : Out X own w (execOp a.eval o) K := by
  have hp := R.od p
  simp only [AOp.step] at h
  have key : ∀ b o', a.eval p = .pointer (some ⟨b, o', none⟩) → ∀ w', (execOp a.eval o).run X.P w' = .ok (.value (a.eval p)) w' := fun b o' he w' => by
    simp [execOp, ho, he]
  cases hv : (od p).ev s with
  | ptr k b o' =>
    rw [hv] at hp h
    generalize hep : a.eval p = v at hp
    cases hp
    have := key _ _ hep
    rw [hep] at this
    exact .value h (.ptr k b o') (fun w' _ => this w')
  | ref cs =>
    rw [hv] at hp h
    have hp' := hp
    generalize hep : a.eval p = v at hp
    cases hp with
    | ref b o' cs cv hF hb hcc hoo hrr =>
      have := key _ _ hep
      exact .value h hp' (fun w' _ => this w')
  | _ => simp [hv] at h
theorem run_getObj {P : Program} {w : World} {r : Nat} {es : Array MapEntry} {c : Nat} (h : w.heap[r]? = some (.map es c)) : (getObj r).run P w = .ok (.map es c) w := by simp [getObj, Sem.run, h]
theorem run_equalIn_slice {P : Program} {w : World} {t e : TypeId} (hu : P.underlying t = some (.slice e)) (d : Nat) (ad : Option Addr) (n c : Nat) : (Op.equalIn (d + 1) t (.slice ad n c) (.slice none 0 0)).run P w = .ok ad.isNone w := by
  cases ad <;> simp [Op.equalIn, run_underlying hu]
theorem kkOf_under {P : Program} {t : TypeId} {kk : KK} (h : kkOf P t = some kk) : (kk = .s ∧ P.underlying t = some .string) ∨ (kk = .i ∧ ∃ q, P.underlying t = some (.int q)) ∨ (kk = .b ∧ P.underlying t = some .bool) := by
  unfold kkOf at h
  split at h <;> cases h
  · rename_i hu; exact .inl ⟨rfl, hu⟩
  · rename_i hu; exact .inr (.inl ⟨rfl, _, hu⟩)
  · rename_i hu; exact .inr (.inr ⟨rfl, hu⟩)
theorem sameK_now {P : Program} {F : Nat → Prop} {w : World} {t : TypeId} {kk : KK} (hk : kkOf P t = some kk) : ∃ d, P.underlying t = some d ∧ ∀ {v u : Value} {x y : AV}, Rel F w v x → Rel F w u y → ∀ {b : Bool}, sameK kk x y = some b → Instr.sameNow d v u = some b := by
  rcases kkOf_under hk with ⟨rfl, hu⟩ | ⟨rfl, q, hu⟩ | ⟨rfl, hu⟩
  · refine ⟨_, hu, fun {v u x y} hv hy {b} h => ?_⟩
    unfold sameK at h
    split at h <;> try (cases h; done)
    all_goals simp_all
    cases hv; cases hy
    simp only [Instr.sameNow]
    subst h
    congr 1
    rw [beq_toListBytes, ByteArray.toList_eq, ByteArray.toList_eq]
    rw [Bool.eq_iff_iff]; simp
  · refine ⟨_, hu, fun {v u x y} hv hy {b} h => ?_⟩
    unfold sameK at h
    split at h <;> try (cases h; done)
    all_goals simp_all
    cases hv; cases hy
    obtain ⟨rfl, rfl⟩ := h
    simp only [Instr.sameNow]
    simp
    rw [Bool.eq_iff_iff]; simp
  · refine ⟨_, hu, fun {v u x y} hv hy {b} h => ?_⟩
    unfold sameK at h
    split at h <;> try (cases h; done)
    all_goals simp_all
    cases hv; cases hy
    simp only [Instr.sameNow]
    rw [h]
theorem run_checkKey {P : Program} {w : World} {t : TypeId} {kk : KK} (hk : kkOf P t = some kk) (e : Bool) (n : Nat) (v : Value) : (Instr.checkKey e (n + 1) t v).run P w = .ok () w := by
  rcases kkOf_under hk with ⟨_, hu⟩ | ⟨_, q, hu⟩ | ⟨_, hu⟩ <;> simp [Instr.checkKey, run_underlying hu]
theorem findNow_rel {F : Nat → Prop} {w : World} {d : TypeDesc} {kk : KK} {v : Value} {x : AV} (hd : ∀ {u : Value} {y : AV}, Rel F w u y → ∀ {b : Bool}, sameK kk x y = some b → Instr.sameNow d v u = some b) :
    ∀ (l : List MapEntry) (es : List (AV × AV)) (i : Nat) (r : Option Nat), l.length = es.length → (∀ (j : Nat) e p, l[j]? = some e → es[j]? = some p → Rel F w e.key p.1) → mfindI kk x es i = some r →
      ∃ q, Instr.findNow d v l i = some q ∧ match r with | none => q = none | some j => ∃ e, i ≤ j ∧ l[j - i]? = some e ∧ q = some (j, e.val)
  | [], [], i, r, _, _, h => by
    simp only [mfindI, Option.some.injEq] at h
    subst h
    exact ⟨none, rfl, rfl⟩
  | [], _ :: _, _, _, hl, _, _ => by simp at hl
  | _ :: _, [], _, _, hl, _, _ => by simp at hl
  | e :: l, p :: es, i, r, hl, hr, h => by
    simp only [mfindI] at h
    cases hs : sameK kk x p.1 with
    | none => simp [hs] at h
    | some b =>
      have h1 := hd (hr 0 e p rfl rfl) hs
      cases b with
      | true =>
        simp only [hs, Option.some.injEq] at h
        subst h
        exact ⟨some (i, e.val), by simp [Instr.findNow, h1], e, Nat.le_refl _, by simp, rfl⟩
      | false =>
        simp only [hs] at h
        obtain ⟨q, hq, h2⟩ := findNow_rel hd l es (i + 1) r (by simpa using hl) (fun j e p he hp => hr (j + 1) e p he hp) h
        refine ⟨q, by simp [Instr.findNow, h1, hq], ?_⟩
        cases r with
        | none => exact h2
        | some j =>
          obtain ⟨e', h3, h4, h5⟩ := h2
          exact ⟨e', by omega, by rw [show j - i = (j - (i + 1)) + 1 by omega]; exact h4, h5⟩
theorem run_findKey {P : Program} {F : Nat → Prop} {w w' : World} {t : TypeId} {kk : KK} (hk : kkOf P t = some kk) {v : Value} {x : AV} (hv : Rel F w v x) {ents : Array MapEntry} {es : List (AV × AV)} (hl : ents.size = es.length)
    (hr : ∀ (j : Nat) e p, ents[j]? = some e → es[j]? = some p → Rel F w e.key p.1) {r : Option Nat} (h : mfindI kk x es 0 = some r) :
    (∃ q, (Instr.findKey t v ents.toList).run P w' = .ok q w' ∧ match r with | none => q = none | some j => ∃ e, ents[j]? = some e ∧ q = some (j, e.val)) := by
  obtain ⟨d, hu, hd⟩ := sameK_now (F := F) (w := w) hk
  obtain ⟨q, h1, h2⟩ := findNow_rel (fun {u y} hy {b} hs => hd hv hy hs) ents.toList es 0 r (by simpa using hl) (fun j e p he hp => hr j e p (by simpa using he) hp) h
  refine ⟨q, by simp [Instr.findKey, run_underlying hu, h1], ?_⟩
  cases r with
  | none => exact h2
  | some j =>
    obtain ⟨e, _, h4, h5⟩ := h2
    exact ⟨e, by simpa using h4, h5⟩
theorem own_map (R : Rep X s own a w) {k b : Nat} {es : List (AV × AV)} (hf : own.find k b = some (.map es)) :
    ∃ ents clock, w.heap[b]? = some (.map ents clock) ∧ ents.size = es.length ∧ (∀ (i : Nat) (e : MapEntry) (p : AV × AV), ents[i]? = some e → es[i]? = some p → Rel (Fo X.fr own) w e.key p.1 ∧ Rel (Fo X.fr own) w e.val p.2) ∧ (b < w.heap.size ∧ ¬ X.fr b) := by
  have hh := R.ok.holds _ (Own.find_mem hf)
  have hlt := hh.lt
  obtain ⟨ents, clock, h1, h2, h3⟩ := hh
  exact ⟨ents, clock, h1, h2, h3, hlt, R.ok.apart _ (List.mem_map.2 ⟨_, Own.find_mem hf, rfl⟩)⟩
theorem s_mlen (R : Rep X s own a w) (o : Oper) (p : Operand) (t k e : TypeId) (c : Call) (ho : o.op = .call c) (hb : c.callee = .builtin .len) (ha : c.args = #[p]) (hts : c.argTypes = #[t]) (hu : X.P.underlying t = some (.map k e))
    (h : (AOp.mlen (od p)).step s own K) : Out X own w (execOp a.eval o) K := by
  have hp := R.od p
  have hrun : ∀ w', (execOp a.eval o).run X.P w' = ((Builtin.len_ #[t] o.type #[a.eval p]).run X.P w').andThen fun v w' => .ok (.value v) w' := fun w' => by
    simp [execOp, ho, resolve, hb, ha, hts, invoke, builtin]
  simp only [AOp.step] at h
  cases hv : (od p).ev s with
  | mapv k b =>
    rw [hv] at hp
    simp only [hv] at h
    cases hf : own.find k b with
    | none => simp [hf] at h
    | some ob =>
      cases ob with
      | map es =>
        simp only [hf] at h
        obtain ⟨ents, clock, h1, h2, h3, h4⟩ := own_map R hf
        generalize hep : a.eval p = v at hp
        cases hp
        refine .value h (.int _ _) (fun w' hw => ?_)
        rw [hrun, hep]
        have hb' : w'.heap[b]? = some (.map ents clock) := (hw b h4.1 h4.2).trans h1
        simp [Builtin.len_, run_underlying hu, run_getObj hb', goInt, h2]
      | _ => simp [hf] at h
  | _ => simp [hv] at h
theorem zeroA_rel {P : Program} {F : Nat → Prop} {t : TypeId} {z : AV} (h : zeroA P t = some z) : ∃ v, (∀ w', (zeroValue t).run P w' = .ok v w') ∧ ∀ w, Rel F w v z := by
  unfold zeroA at h
  cases hi : P.info? t with
  | none => simp [hi] at h
  | some j =>
    cases hz : j.zero with
    | none => simp [hi, hz] at h
    | some v =>
      refine ⟨v, fun w' => by simp [zeroValue, run_tinfo hi, hz], fun w => ?_⟩
      cases v with
      | agg cs =>
        simp only [hi, hz] at h
        split at h
        · rename_i hall
          cases h
          exact (relC_zeros F w (.agg cs) hall).relAgg
        · cases h
      | _ =>
        simp only [hi, hz, Option.some.injEq] at h
        subst h
        exact rel_avOf _ _ _
theorem s_mlook (R : Rep X s own a w) (o : Oper) (t k e : TypeId) (p q : Operand) (ok : Bool) (kk : KK) (z : AV) (ho : o.op = .lookup t p q ok) (hu : X.P.underlying t = some (.map k e)) (hk : kkOf X.P k = some kk) (hz : zeroA X.P e = some z)
    (h : (AOp.mlook ok kk z (od p) (od q)).step s own K) : Out X own w (execOp a.eval o) K := by
  have hp := R.od p
  have hq := R.od q
  simp only [AOp.step] at h
  obtain ⟨zv, hz1, hz2⟩ := zeroA_rel (F := Fo X.fr own) hz
  cases hv : (od p).ev s with
  | mapv km b =>
    rw [hv] at hp
    simp only [hv] at h
    cases hf : own.find km b with
    | none => simp [hf] at h
    | some ob =>
      cases ob with
      | map es =>
        simp only [hf] at h
        obtain ⟨ents, clock, h1, h2, h3, h4⟩ := own_map R hf
        generalize hep : a.eval p = v at hp
        cases hp
        have hb' : ∀ w', Same X.fr w w' → w'.heap[b]? = some (.map ents clock) := fun w' hw => (hw b h4.1 h4.2).trans h1
        cases hm : mfindI kk ((od q).ev s) es 0 with
        | none => simp [hm] at h
        | some r =>
          simp only [hm] at h
          have hkey : ∀ (j : Nat) e p, ents[j]? = some e → es[j]? = some p → Rel (Fo X.fr own) w e.key p.1 := fun j e p he hp => (h3 j e p he hp).1
          cases r with
          | none =>
            simp only at h
            refine .value (v := if ok then .tuple #[zv, .bool false] else zv) h ?_ (fun w' hw => ?_)
            · cases ok
              · exact hz2 w
              · refine .tup _ _ rfl (fun j v y hj hy => ?_)
                match j with
                | 0 => simp at hj hy; subst hj hy; exact hz2 w
                | 1 => simp at hj hy; subst hj hy; exact .bool _
                | j + 2 => simp at hj
            · obtain ⟨q', hq1, hq2⟩ := run_findKey (w' := w') hk hq h2 hkey hm
              simp only at hq2
              subst hq2
              cases ok <;> simp [execOp, ho, hep, Instr.lookup, run_underlying hu, run_getObj (hb' w' hw), run_checkKey hk, hq1, hz1]
          | some j =>
            simp only at h
            obtain ⟨q', hq1, e0, hq2, hq3⟩ := run_findKey (w' := w) hk hq h2 hkey hm
            have hlt : j < es.length := by rw [← h2]; exact (Array.getElem?_eq_some_iff.1 hq2).1
            have hje : es[j]? = some es[j] := List.getElem?_eq_getElem hlt
            have hval := (h3 j e0 _ hq2 hje).2
            have hgd : es.getD j (.any, .any) = es[j] := by simp [List.getD, hje]
            rw [hgd] at h
            refine .value (v := if ok then .tuple #[e0.val, .bool true] else e0.val) h ?_ (fun w' hw => ?_)
            · cases ok
              · exact hval
              · refine .tup _ _ rfl (fun i v y hj hy => ?_)
                match i with
                | 0 => simp at hj hy; subst hj hy; exact hval
                | 1 => simp at hj hy; subst hj hy; exact .bool _
                | i + 2 => simp at hj
            · obtain ⟨q2, hq1', e1, hq2', hq3'⟩ := run_findKey (w' := w') hk hq h2 hkey hm
              rw [hq2] at hq2'
              cases hq2'
              subst hq3'
              cases ok <;> simp [execOp, ho, hep, Instr.lookup, run_underlying hu, run_getObj (hb' w' hw), run_checkKey hk, hq1']
      | _ => simp [hf] at h
  | _ => simp [hv] at h
theorem s_nilS (R : Rep X s own a w) (o : Oper) (t t' e : TypeId) (p : Operand) (neg : Bool) (ho : o.op = .binOp (if neg then .neq else .eql) t p (.const (.slice none 0 0)) t') (hu : X.P.underlying t = some (.slice e))
    (h : (AOp.nilS neg (od p)).step s own K) : Out X own w (execOp a.eval o) K := by
  have hp := R.od p
  simp only [AOp.step] at h
  have hrun : ∀ (ad : Option Addr) (n c : Nat), a.eval p = .slice ad n c → ∀ w', (execOp a.eval o).run X.P w' = .ok (.value (.bool (if neg then !ad.isNone else ad.isNone))) w' := by
    intro ad n c hep w'
    have heq : (Op.equal t (.slice ad n c) (.slice none 0 0)).run X.P w' = .ok ad.isNone w' := by
      exact run_equalIn_slice hu 9999 ad n c
    have hc : a.eval (.const (.slice none 0 0)) = .slice none 0 0 := rfl
    cases neg <;> simp [execOp, ho, hep, hc, eqGuard, binOp, heq]
  cases hv : (od p).ev s with
  | nil =>
    rw [hv] at hp
    simp only [hv] at h
    generalize hep : a.eval p = v at hp
    cases hp
    have := hrun _ _ _ hep
    refine .value h (.bool _) (fun w' _ => ?_)
    rw [this w']
    cases neg <;> rfl
  | row k b o' n z =>
    rw [hv] at hp
    simp only [hv] at h
    generalize hep : a.eval p = v at hp
    cases hp
    have := hrun _ _ _ hep
    refine .value h (.bool _) (fun w' _ => ?_)
    rw [this w']
    cases neg <;> rfl
  | sl xs =>
    rw [hv] at hp
    simp only [hv] at h
    generalize hep : a.eval p = v at hp
    cases hp with
    | slnil =>
      have := hrun _ _ _ hep
      refine .value (h.2 rfl) (.bool _) (fun w' _ => ?_)
      rw [this w']
      cases neg <;> rfl
    | sl0 =>
      have := hrun _ _ _ hep
      refine .value h.1 (.bool _) (fun w' _ => ?_)
      rw [this w']
      cases neg <;> rfl
    | sl =>
      have := hrun _ _ _ hep
      refine .value h.1 (.bool _) (fun w' _ => ?_)
      rw [this w']
      cases neg <;> rfl
  | _ => simp [hv] at h
end
end Go.Aw
namespace Go.Aw
section
variable {P : Program}
def View (P : Program) (A : Array Value) (t : TypeId) (off : Nat) (v : Value) : Prop :=
  if aggB P t = true then ∃ i, P.info? t = some i ∧ off + i.size ≤ A.size ∧ v = .agg (A.extract off (off + i.size)) else A[off]? = some v
theorem view_part {A : Array Value} {t u : TypeId} {off o : Nat} {n : Nat} {j : TypeInfo} (hj : P.info? u = some j) (hle : o + j.size ≤ n) (hpos : 0 < j.size) (hn : off + n ≤ A.size) (hu : (P.underlying u).isSome = true) (w : World) :
    ∃ v, (part u (A.extract off (off + n)) o).run P w = .ok v w ∧ View P A u (off + o) v := by
  obtain ⟨d, hd⟩ := Option.isSome_iff_exists.1 hu
  by_cases ha : aggB P u = true
  · refine ⟨.agg ((A.extract off (off + n)).extract o (o + j.size)), by simp [part, run_isAgg hd, ha, run_size hj, -Array.extract_extract], ?_⟩
    unfold View
    rw [if_pos ha]
    refine ⟨j, hj, by omega, ?_⟩
    rw [Array.extract_extract]
    congr 2 <;> omega
  · have hlt : off + o < A.size := by omega
    have hex : (A.extract off (off + n))[o]? = some A[off + o] := by
      rw [Array.getElem?_extract, if_pos (by omega)]
      exact Array.getElem?_eq_getElem hlt
    refine ⟨A[off + o], by simp [part, run_isAgg hd, ha, hex], ?_⟩
    unfold View
    rw [if_neg ha]
    exact Array.getElem?_eq_getElem hlt
def allL (f : Nat → KK → Option Bool) : List (Nat × KK) → Option Bool
  | [] => some true
  | p :: r => (f p.1 p.2).bind fun b => (allL f r).map fun c => b && c
theorem allL_append (f : Nat → KK → Option Bool) : ∀ (l m : List (Nat × KK)) (r : Bool), allL f (l ++ m) = some r → ∃ b c, allL f l = some b ∧ allL f m = some c ∧ r = (b && c)
  | [], m, r, h => ⟨true, r, rfl, h, by simp⟩
  | p :: l, m, r, h => by
    simp only [List.cons_append, allL, Option.bind_eq_some_iff, Option.map_eq_some_iff] at h
    obtain ⟨b, hb, c, hc, rfl⟩ := h
    obtain ⟨b', c', h1, h2, rfl⟩ := allL_append f l m c hc
    refine ⟨b && b', c', ?_, h2, by rw [Bool.and_assoc]⟩
    simp [allL, hb, h1]
theorem eq_leaves {A B : Array Value} {f : Nat → KK → Option Bool} {F : Nat → Prop} {w0 : World} (hf : ∀ o k b, f o k = some b → ∃ x y u v, A[o]? = some u ∧ B[o]? = some v ∧ Rel F w0 u x ∧ Rel F w0 v y ∧ sameK k x y = some b) :
    ∀ (d D : Nat) (t : TypeId) (off : Nat) (L : List (Nat × KK)) (r : Bool) (u v : Value) (w : World), leaves P d t off = some L → allL f L = some r → View P A t off u → View P B t off v → (Op.equalIn (D + d) t u v).run P w = .ok r w := by
  intro d
  induction d with
  | zero => intro D t off L r u v w h; simp [leaves] at h
  | succ d ih =>
    intro D t off L r u v w h hr hu hv
    have leaf : ∀ kk, kkOf P t = some kk → L = [(off, kk)] → (Op.equalIn (D + (d + 1)) t u v).run P w = .ok r w := by
      intro kk hk hL
      subst hL
      simp only [allL, Option.bind_eq_some_iff, Option.map_eq_some_iff, Option.some.injEq] at hr
      obtain ⟨b, hb, c, rfl, rfl⟩ := hr
      obtain ⟨x, y, u', v', h1, h2, h3, h4, h5⟩ := hf _ _ _ hb
      have hag : aggB P t = false := by
        rcases kkOf_under hk with ⟨_, hu⟩ | ⟨_, q, hu⟩ | ⟨_, hu⟩ <;> simp [aggB, hu]
      unfold View at hu hv
      simp only [hag, Bool.false_eq_true, if_false] at hu hv
      rw [hu] at h1
      rw [hv] at h2
      cases h1; cases h2
      have e1 : D + (d + 1) = (D + d) + 1 := by omega
      rw [e1, Bool.and_true]
      rcases kkOf_under hk with ⟨rfl, hud⟩ | ⟨rfl, q, hud⟩ | ⟨rfl, hud⟩
      · unfold sameK at h5
        split at h5 <;> try (cases h5; done)
        all_goals simp_all
        cases h3; cases h4
        rw [run_equalIn_string _ _ _ _ _ hud]
        subst h5
        rw [ByteArray.toList_eq, ByteArray.toList_eq]
        congr 1
        rw [Bool.eq_iff_iff]; simp
      · unfold sameK at h5
        split at h5 <;> try (cases h5; done)
        all_goals simp_all
        cases h3; cases h4
        obtain ⟨rfl, rfl⟩ := h5
        rw [run_equalIn_int _ _ _ _ _ _ _ hud]
        congr 1
      · unfold sameK at h5
        split at h5 <;> try (cases h5; done)
        all_goals simp_all
        cases h3; cases h4
        rw [run_equalIn_bool' _ _ _ _ _ hud]
        subst h5
        rfl
    simp only [leaves] at h
    split at h
    · rename_i hk; exact leaf .s (by simp [kkOf, hk]) (by simpa using h.symm)
    · rename_i hk; exact leaf .i (by simp [kkOf, hk]) (by simpa using h.symm)
    · rename_i hk; exact leaf .b (by simp [kkOf, hk]) (by simpa using h.symm)
    · rename_i fs hk
      split at h
      · cases h
      rename_i hst
      simp only [Option.bind_eq_some_iff] at h
      obtain ⟨i, hi, h⟩ := h
      have hag : aggB P t = true := by simp [aggB, hk]
      unfold View at hu hv
      simp only [hag, if_true] at hu hv
      obtain ⟨i1, e1, hle1, rfl⟩ := hu
      obtain ⟨i2, e2, hle2, rfl⟩ := hv
      rw [hi] at e1 e2
      cases e1; cases e2
      have e1 : D + (d + 1) = (D + d) + 1 := by omega
      have hfo : P.fieldsOf t = fs := by simp [Program.fieldsOf, hk]
      rw [e1, run_equalIn_struct w (D + d) t _ _ (by rw [hfo]; exact hk) (by simpa using hst), hfo]
      clear e1 hk hfo leaf
      generalize fs.toList = l at h
      induction l generalizing L r w with
      | nil =>
        simp at h
        subst h
        simp only [allL, Option.some.injEq] at hr
        subst hr
        simp [Op.eqFields]
      | cons fd l ihl =>
        simp only [List.foldr_cons] at h
        split at h
        · cases h
        rename_i hname
        simp only [Option.bind_eq_some_iff] at h
        obtain ⟨j, hj, h⟩ := h
        split at h
        · rename_i hsz
          simp only [Option.bind_eq_some_iff, Option.map_eq_some_iff] at h
          obtain ⟨a, ha, b, hb, rfl⟩ := h
          obtain ⟨ra, rb, h1, h2, rfl⟩ := allL_append f a b r hr
          have hsome : (P.underlying fd.type).isSome = true := by
            cases hd : P.underlying fd.type with
            | some _ => rfl
            | none =>
              cases d with
              | zero => simp [leaves] at ha
              | succ d => simp [leaves, hd] at ha
          obtain ⟨v1, hv1, hw1⟩ := view_part (t := t) hj hsz.1 hsz.2 hle1 hsome w
          obtain ⟨v2, hv2, hw2⟩ := view_part (t := t) hj hsz.1 hsz.2 hle2 hsome w
          have := ih D fd.type (off + fd.offset) a ra v1 v2 w ha h1 hw1 hw2
          simp only [Op.eqFields, ne_eq, hname, not_false_eq_true, if_true, Sem.run_bind, hv1, hv2, Result.andThen_ok, this]
          cases ra with
          | false => simp
          | true =>
            simp only [Bool.not_true, Bool.false_eq_true, if_false, Bool.true_and]
            exact ihl b rb w h2 hb
        · cases h
    · rename_i n e hk
      simp only [Option.bind_eq_some_iff] at h
      obtain ⟨i, hi, j, hj, h⟩ := h
      split at h
      rotate_left
      · cases h
      rename_i hsz
      have hag : aggB P t = true := by simp [aggB, hk]
      unfold View at hu hv
      simp only [hag, if_true] at hu hv
      obtain ⟨i1, e1, hle1, rfl⟩ := hu
      obtain ⟨i2, e2, hle2, rfl⟩ := hv
      rw [hi] at e1 e2
      cases e1; cases e2
      have e1 : D + (d + 1) = (D + d) + 1 := by omega
      have hc : P.cellsOf e = j.size := by simp [Program.cellsOf, hj]
      rw [e1, run_equalIn_array w (D + d) _ _ hk hj, hc]
      clear e1 hk hc leaf
      have hall : ∀ k, k ∈ List.range n → k * j.size + j.size ≤ i.size := fun k hk => by
        have h1 : k + 1 ≤ n := List.mem_range.1 hk
        have h2 := Nat.mul_le_mul_right j.size h1
        rw [Nat.add_mul] at h2
        omega
      generalize List.range n = l at h hall
      induction l generalizing L r w with
      | nil =>
        simp at h
        subst h
        simp only [allL, Option.some.injEq] at hr
        subst hr
        simp [Op.eqItems]
      | cons k l ihl =>
        simp only [List.foldr_cons, Option.bind_eq_some_iff, Option.map_eq_some_iff] at h
        obtain ⟨a, ha, b, hb, rfl⟩ := h
        obtain ⟨ra, rb, h1, h2, rfl⟩ := allL_append f a b r hr
        have hsome : (P.underlying e).isSome = true := by
          cases hd : P.underlying e with
          | some _ => rfl
          | none =>
            cases d with
            | zero => simp [leaves] at ha
            | succ d => simp [leaves, hd] at ha
        obtain ⟨v1, hv1, hw1⟩ := view_part (t := t) hj (hall k (List.mem_cons_self ..)) hsz.2 hle1 hsome w
        obtain ⟨v2, hv2, hw2⟩ := view_part (t := t) hj (hall k (List.mem_cons_self ..)) hsz.2 hle2 hsome w
        have := ih D e (off + k * j.size) a ra v1 v2 w ha h1 hw1 hw2
        simp only [Op.eqItems, Sem.run_bind, hv1, hv2, Result.andThen_ok, this]
        cases ra with
        | false => simp
        | true =>
          simp only [Bool.not_true, Bool.false_eq_true, if_false, Bool.true_and]
          exact ihl b rb w h2 hb (fun k hk => hall k (List.mem_cons_of_mem _ hk))
    · cases h
theorem eqCells_allL : ∀ (ks : List KK) (xs ys : List AV) (off : Nat) (r : Bool), eqCells ks xs ys = some r → ∀ (l : List (Nat × KK)), l.map (·.1) = List.range' off ks.length → l.map (·.2) = ks → ∀ (f : Nat → KK → Option Bool), (∀ i k x y, xs[i]? = some x → ys[i]? = some y → f (off + i) k = sameK k x y) → allL f l = some r
  | [], [], [], off, r, h, l, h1, h2, f, hf => by
    simp only [eqCells, Option.some.injEq] at h
    have : l = [] := by simpa using h2
    subst this
    simp [allL, h]
  | k :: ks, x :: xs, y :: ys, off, r, h, l, h1, h2, f, hf => by
    simp only [eqCells, Option.bind_eq_some_iff, Option.map_eq_some_iff] at h
    obtain ⟨b, hb, c, hc, rfl⟩ := h
    cases l with
    | nil => simp at h2
    | cons p l =>
      simp only [List.map_cons, List.cons.injEq, List.length_cons, List.range'_succ] at h1 h2
      have := eqCells_allL ks xs ys (off + 1) c hc l h1.2 h2.2 f (fun i k x y hx hy => by
        have := hf (i + 1) k x y (by simpa using hx) (by simpa using hy)
        rw [← this]
        congr 1
        omega)
      have h0 := hf 0 p.2 x y rfl rfl
      rw [Nat.add_zero, ← h1.1] at h0
      obtain ⟨p1, p2⟩ := p
      simp only at h0 h2
      obtain ⟨rfl, _⟩ := h2
      simp [allL, this, h0, hb]
  | [], [], _ :: _, _, _, h, _, _, _, _, _ => by simp [eqCells] at h
  | [], _ :: _, _, _, _, h, _, _, _, _, _ => by simp [eqCells] at h
  | _ :: _, [], _, _, _, h, _, _, _, _, _ => by simp [eqCells] at h
  | _ :: _, _ :: _, [], _, _, h, _, _, _, _, _ => by simp [eqCells] at h
theorem eqCells_len : ∀ (ks : List KK) (xs ys : List AV) (r : Bool), eqCells ks xs ys = some r → xs.length = ks.length ∧ ys.length = ks.length
  | [], [], [], _, _ => ⟨rfl, rfl⟩
  | k :: ks, x :: xs, y :: ys, r, h => by
    simp only [eqCells, Option.bind_eq_some_iff, Option.map_eq_some_iff] at h
    obtain ⟨b, hb, c, hc, rfl⟩ := h
    obtain ⟨h1, h2⟩ := eqCells_len ks xs ys c hc
    simp [h1, h2]
  | [], [], _ :: _, _, h => by simp [eqCells] at h
  | [], _ :: _, _, _, h => by simp [eqCells] at h
  | _ :: _, [], _, _, h => by simp [eqCells] at h
  | _ :: _, _ :: _, [], _, h => by simp [eqCells] at h
end
section
variable {X : Cx} {s : Slots} {own : Own} {a : Act} {w : World} {K : AV → Prop}
theorem s_eqS (R : Rep X s own a w) (o : Oper) (t t' : TypeId) (p q : Operand) (neg : Bool) (ks : List KK) (ho : o.op = .binOp (if neg then .neq else .eql) t p q t') (hag : aggB X.P t = true) (hk : flatEq X.P t = some ks)
    (h : (AOp.eqS neg ks (od p) (od q)).step s own K) : Out X own w (execOp a.eval o) K := by
  have hp := R.od p
  have hq := R.od q
  simp only [AOp.step] at h
  unfold flatEq at hk
  split at hk
  rotate_left
  · cases hk
  rename_i j L hj hL
  split at hk
  rotate_left
  · cases hk
  rename_i hcond
  obtain ⟨hrange, hguard⟩ := hcond
  simp only [Option.some.injEq] at hk
  subst hk
  cases hv : (od p).ev s with
  | agg xs =>
    cases hv2 : (od q).ev s with
    | agg ys =>
      rw [hv] at hp
      rw [hv2] at hq
      simp only [hv, hv2] at h
      cases hc : eqCells (L.map (·.2)) xs ys with
      | none => simp [hc] at h
      | some r =>
        simp only [hc] at h
        generalize hep : a.eval p = v at hp
        generalize heq : a.eval q = u at hq
        cases hp with
        | agg A _ hlA hoA hrA =>
        cases hq with
        | agg B _ hlB hoB hrB =>
        obtain ⟨hlx, hly⟩ := eqCells_len _ _ _ _ hc
        have hLlen : L.length = j.size := by
          have := congrArg List.length hrange
          simpa using this
        simp only [List.length_map] at hlx hly
        let f : Nat → KK → Option Bool := fun o k => match xs[o]?, ys[o]? with | some x, some y => sameK k x y | _, _ => none
        have hall : allL f L = some r := eqCells_allL _ xs ys 0 r hc L (by rw [hrange]; simp [hLlen]) rfl f (fun i k x y hx hy => by simp [f, hx, hy])
        have view : ∀ C : Array Value, C.size = j.size → View X.P C t 0 (.agg C) := fun C hC => by
          unfold View
          rw [if_pos hag]
          refine ⟨j, hj, by omega, ?_⟩
          rw [Nat.zero_add, ← hC]
          simp
        have hrun : ∀ w', (Op.equalIn 10000 t (.agg A) (.agg B)).run X.P w' = .ok r w' := fun w' => by
          refine eq_leaves (F := Fo X.fr own) (w0 := w) (A := A) (B := B) (f := f) (fun o k b hb => ?_) 6 9994 t 0 L r _ _ w' hL hall (view A (by omega)) (view B (by omega))
          simp only [f] at hb
          split at hb
          · rename_i x y hx hy
            have h1 : o < A.size := by have := (List.getElem?_eq_some_iff.1 hx).1; omega
            have h2 : o < B.size := by have := (List.getElem?_eq_some_iff.1 hy).1; omega
            exact ⟨x, y, _, _, Array.getElem?_eq_getElem h1, Array.getElem?_eq_getElem h2, hrA _ _ _ (Array.getElem?_eq_getElem h1) hx, hrB _ _ _ (Array.getElem?_eq_getElem h2) hy, hb⟩
          · cases hb
        refine .value h (.bool _) (fun w' _ => ?_)
        cases neg
        · simp [execOp, ho, hep, heq, run_eqGuard_agg w' _ t p q A B hguard, run_eql_struct, hrun]
        · simp [execOp, ho, hep, heq, run_eqGuard_agg w' _ t p q A B hguard, run_neq_struct, hrun]
    | _ => simp [hv, hv2] at h
  | _ => simp [hv] at h
end
end Go.Aw
namespace Go.Aw
section
variable {X : Cx} {s : Slots} {own : Own} {a : Act} {w : World} {K : AV → Prop}
theorem run_eqGuard_int {P : Program} (op : BinOp) (t : TypeId) (x y : Operand) (k k' : IntKind) (u v : Int) (w : World) : (eqGuard op t x y (.int k u) (.int k' v)).run P w = .ok () w := by
  unfold eqGuard
  simp only
  split <;> rfl
theorem run_eqGuard_str {P : Program} (op : BinOp) (t : TypeId) (x y : Operand) (u v : ByteArray) (w : World) : (eqGuard op t x y (.string u) (.string v)).run P w = .ok () w := by
  unfold eqGuard
  simp only
  split <;> rfl
theorem run_eqGuard_bool {P : Program} (op : BinOp) (t : TypeId) (x y : Operand) (u v : Bool) (w : World) : (eqGuard op t x y (.bool u) (.bool v)).run P w = .ok () w := by
  unfold eqGuard
  simp only
  split <;> rfl
theorem binI_out {P : Program} {F : Nat → Prop} (op : BinOp) (k : IntKind) (x y : Int) (h : binI op k x y K) (t : TypeId) : ∃ v z, K z ∧ Rel F w v z ∧ ∀ w', (binOp op t (.int k x) (.int k y)).run P w' = .ok v w' := by
  cases op <;> simp only [binI] at h <;> try (exact h.elim)
  case add => exact ⟨_, _, h, .int _ _, fun w' => by simp [binOp, Op.intArith]⟩
  case sub => exact ⟨_, _, h, .int _ _, fun w' => by simp [binOp, Op.intArith]⟩
  case mul => exact ⟨_, _, h, .int _ _, fun w' => by simp [binOp, Op.intArith]⟩
  case quo => exact ⟨_, _, h.2, .int _ _, fun w' => by simp [binOp, Op.intDiv, h.1]⟩
  case rem => exact ⟨_, _, h.2, .int _ _, fun w' => by simp [binOp, Op.intDiv, h.1]⟩
  case eql => exact ⟨_, _, h, .bool _, fun w' => by simp [binOp, Op.intCmp]; rfl⟩
  case neq => exact ⟨_, _, h, .bool _, fun w' => by simp [binOp, Op.intCmp]; rfl⟩
  case lss => exact ⟨_, _, h, .bool _, fun w' => by simp [binOp, Op.intCmp]⟩
  case leq => exact ⟨_, _, h, .bool _, fun w' => by simp [binOp, Op.intCmp]⟩
  case gtr => exact ⟨_, _, h, .bool _, fun w' => by simp [binOp, Op.intCmp]⟩
  case geq => exact ⟨_, _, h, .bool _, fun w' => by simp [binOp, Op.intCmp]⟩
  case and => exact ⟨_, _, h, .int _ _, fun w' => by simp [binOp, Op.intBits, bitI]⟩
  case or => exact ⟨_, _, h, .int _ _, fun w' => by simp [binOp, Op.intBits, bitI]⟩
  case xor => exact ⟨_, _, h, .int _ _, fun w' => by simp [binOp, Op.intBits, bitI]⟩
  case andNot => exact ⟨_, _, h, .int _ _, fun w' => by simp [binOp, Op.intBits, bitI]⟩
theorem binS_out {P : Program} {F : Nat → Prop} (op : BinOp) (x y : List UInt8) (h : binS op x y K) (t : TypeId) : ∃ v z, K z ∧ Rel F w v z ∧ ∀ w', (binOp op t (.string ⟨x.toArray⟩) (.string ⟨y.toArray⟩)).run P w' = .ok v w' := by
  have tl : ∀ l : List UInt8, (ByteArray.mk l.toArray).toList = l := fun l => by
    rw [ByteArray.toList_eq]
  have sz : ∀ l : List UInt8, (ByteArray.mk l.toArray).size = l.length := fun l => by
    simp [ByteArray.size]
  cases op <;> simp only [binS] at h <;> try (exact h.elim)
  case add =>
    refine ⟨_, _, h.2, .str _, fun w' => ?_⟩
    have h1 := h.1
    have hap : ByteArray.mk x.toArray ++ ByteArray.mk y.toArray = ByteArray.mk (x ++ y).toArray := by
      apply ByteArray.ext
      simp
    have hmax : IntKind.i64.max = 9223372036854775807 := by decide
    simp only [binOp, Op.stringOp, sz, hmax]
    rw [if_neg (by omega)]
    simp [hap]
  case eql =>
    refine ⟨_, _, h, .bool _, fun w' => ?_⟩
    have hb : (x == y) = decide (x = y) := by rw [Bool.eq_iff_iff]; simp
    simp only [binOp, Op.stringOp, tl, hb]
    rfl
  case neq =>
    refine ⟨_, _, h, .bool _, fun w' => ?_⟩
    have hb : (x == y) = decide (x = y) := by rw [Bool.eq_iff_iff]; simp
    simp only [binOp, Op.stringOp, tl, hb]
    rfl
  case lss =>
    refine ⟨_, _, h, .bool _, fun w' => ?_⟩
    simp only [binOp, Op.stringOp, tl]
    simp
theorem s_bin (R : Rep X s own a w) (o : Oper) (bo : BinOp) (t t' : TypeId) (p q : Operand) (ho : o.op = .binOp bo t p q t') (h : (AOp.bin bo (od p) (od q)).step s own K) : Out X own w (execOp a.eval o) K := by
  have hp := R.od p
  have hq := R.od q
  simp only [AOp.step] at h
  cases hv : (od p).ev s with
  | int k x =>
    cases hv2 : (od q).ev s with
    | int k' y =>
      rw [hv] at hp h
      rw [hv2] at hq h
      obtain ⟨rfl, h⟩ := h
      generalize hep : a.eval p = v at hp
      generalize heq : a.eval q = u at hq
      cases hp
      cases hq
      obtain ⟨v, z, hK, hr, hrun⟩ := binI_out (P := X.P) (F := Fo X.fr own) (w := w) bo k x y h t
      refine .value hK hr (fun w' _ => ?_)
      simp [execOp, ho, hep, heq, run_eqGuard_int, run_eqGuard_str, hrun]
    | _ => simp [hv, hv2] at h
  | str x =>
    cases hv2 : (od q).ev s with
    | str y =>
      rw [hv] at hp h
      rw [hv2] at hq h
      generalize hep : a.eval p = v at hp
      generalize heq : a.eval q = u at hq
      cases hp
      cases hq
      obtain ⟨v, z, hK, hr, hrun⟩ := binS_out (P := X.P) (F := Fo X.fr own) (w := w) bo x y h t
      refine .value hK hr (fun w' _ => ?_)
      simp [execOp, ho, hep, heq, run_eqGuard_int, run_eqGuard_str, hrun]
    | _ => simp [hv, hv2] at h
  | _ => simp [hv] at h
theorem s_binB (R : Rep X s own a w) (o : Oper) (bo : BinOp) (t t' : TypeId) (p q : Operand) (ho : o.op = .binOp bo t p q t') (hu : X.P.underlying t = some .bool) (h : (AOp.binB bo (od p) (od q)).step s own K) : Out X own w (execOp a.eval o) K := by
  have hp := R.od p
  have hq := R.od q
  simp only [AOp.step] at h
  cases hv : (od p).ev s with
  | bool x =>
    cases hv2 : (od q).ev s with
    | bool y =>
      rw [hv] at hp h
      rw [hv2] at hq h
      generalize hep : a.eval p = v at hp
      generalize heq : a.eval q = u at hq
      cases hp
      cases hq
      have heql : ∀ w', (Op.equal t (.bool x) (.bool y)).run X.P w' = .ok (x == y) w' := fun w' => by
        exact run_equalIn_bool' w' 9999 t x y hu
      cases bo <;> try (exact h.elim)
      case eql => exact .value h (.bool _) (fun w' _ => by simp [execOp, ho, hep, heq, run_eqGuard_bool, binOp, heql])
      case neq => exact .value h (.bool _) (fun w' _ => by simp [execOp, ho, hep, heq, run_eqGuard_bool, binOp, heql])
    | _ => cases bo <;> simp [hv, hv2] at h
  | _ => cases bo <;> simp [hv] at h
theorem s_un (R : Rep X s own a w) (o : Oper) (uo : UnOp) (t : TypeId) (p : Operand) (ho : o.op = .unOp uo t p) (h : (AOp.un uo (od p)).step s own K) : Out X own w (execOp a.eval o) K := by
  have hp := R.od p
  simp only [AOp.step] at h
  cases uo <;> cases hv : (od p).ev s <;> rw [hv] at h hp <;> simp only [unV] at h <;> try (exact h.elim)
  · generalize hep : a.eval p = v at hp
    cases hp
    refine .value h (.int _ _) (fun w' _ => ?_)
    simp [execOp, ho, hep, Op.unary, Op.intArith]
  · generalize hep : a.eval p = v at hp
    cases hp
    exact .value h (.bool _) (fun w' _ => by simp [execOp, ho, hep, Op.unary])
theorem s_conv (R : Rep X s own a w) (o : Oper) (t t' : TypeId) (p : Operand) (ho : o.op = .convert t t' p) (k k' : IntKind) (hu : X.P.underlying t = some (.int k')) (hu' : X.P.underlying t' = some (.int k)) (h : (AOp.conv k (od p)).step s own K) : Out X own w (execOp a.eval o) K := by
  have hp := R.od p
  simp only [AOp.step] at h
  cases hv : (od p).ev s with
  | int k2 n =>
    rw [hv] at hp h
    generalize hep : a.eval p = v at hp
    cases hp
    exact .value h (.int _ _) (fun w' _ => by simp [execOp, ho, hep, convert, run_underlying hu, run_underlying hu', Conv.intToInt])
  | _ => simp [hv] at h
theorem s_ext (R : Rep X s own a w) (o : Oper) (p : Operand) (i : Nat) (ho : o.op = .extract p i) (h : (AOp.ext i (od p)).step s own K) : Out X own w (execOp a.eval o) K := by
  have hp := R.od p
  simp only [AOp.step] at h
  cases hv : (od p).ev s with
  | tup vs =>
    rw [hv] at hp h
    obtain ⟨hi, h⟩ := h
    generalize hep : a.eval p = v at hp
    cases hp with
    | tup us _ hl hr =>
      have hx : vs[i]? = some (vs.getD i .any) := by simp [List.getD, List.getElem?_eq_getElem hi]
      have hy : us[i]? = some us[i] := Array.getElem?_eq_getElem (by omega)
      exact .value h (hr _ _ _ hy hx) (fun w' _ => by simp [execOp, ho, hep, Instr.extract, hy])
  | _ => simp [hv] at h
theorem s_len (R : Rep X s own a w) (o : Oper) (p : Operand) (t : TypeId) (c : Call) (ho : o.op = .call c) (hb : c.callee = .builtin .len) (ha : c.args = #[p]) (hts : c.argTypes = #[t]) (op : AOp)
    (hc : compB X.P .len [p] [t] = some op) (h : op.step s own K) : Out X own w (execOp a.eval o) K := by
  have hp := R.od p
  have hrun : ∀ w', (execOp a.eval o).run X.P w' = ((Builtin.len_ #[t] o.type #[a.eval p]).run X.P w').andThen fun v w' => .ok (.value v) w' := fun w' => by
    simp [execOp, ho, resolve, hb, ha, hts, invoke, builtin]
  simp only [compB] at hc
  cases hu : X.P.underlying t with
  | none => simp [hu] at hc
  | some d =>
    cases d with
    | slice e =>
      simp only [hu, Option.some.injEq] at hc
      subst hc
      simp only [AOp.step] at h
      cases hv : (od p).ev s with
      | sl xs =>
        rw [hv] at hp h
        generalize hep : a.eval p = v at hp
        cases hp with
        | slnil => exact .value h (.int _ _) (fun w' _ => by rw [hrun]; simp [hep, Builtin.len_, run_underlying hu, goInt])
        | sl0 a0 cap => exact .value h (.int _ _) (fun w' _ => by rw [hrun]; simp [hep, Builtin.len_, run_underlying hu, goInt])
        | sl b o' n cap s' _ cv hF hb hlen =>
          subst hlen
          exact .value h (.int _ _) (fun w' _ => by rw [hrun]; simp [hep, Builtin.len_, run_underlying hu, goInt])
      | row k b o' n z =>
        rw [hv] at hp h
        generalize hep : a.eval p = v at hp
        cases hp
        exact .value h (.int _ _) (fun w' _ => by rw [hrun]; simp [hep, Builtin.len_, run_underlying hu, goInt])
      | nil =>
        rw [hv] at hp h
        generalize hep : a.eval p = v at hp
        cases hp
        exact .value h (.int _ _) (fun w' _ => by rw [hrun]; simp [hep, Builtin.len_, run_underlying hu, goInt])
      | _ => simp [hv] at h
    | string =>
      simp only [hu, Option.some.injEq] at hc
      subst hc
      simp only [AOp.step] at h
      cases hv : (od p).ev s with
      | str l =>
        rw [hv] at hp h
        generalize hep : a.eval p = v at hp
        cases hp
        exact .value h (.int _ _) (fun w' _ => by rw [hrun]; simp [hep, Builtin.len_, run_underlying hu, goInt]; rfl)
      | _ => simp [hv] at h
    | array n e =>
      simp only [hu, Option.some.injEq] at hc
      subst hc
      exact .value h (.int _ _) (fun w' _ => by rw [hrun]; simp [Builtin.len_, run_underlying hu, goInt])
    | map _ _ => simp only [hu, Option.some.injEq] at hc; subst hc; exact s_mlen R o p t _ _ c ho hb ha hts hu h
    | _ => simp [hu] at hc
theorem s_idxS (R : Rep X s own a w) (o : Oper) (t : TypeId) (p q : Operand) (ho : o.op = .index t p q) (hu : X.P.underlying t = some .string) (h : (AOp.idxS (od p) (od q)).step s own K) : Out X own w (execOp a.eval o) K := by
  have hp := R.od p
  have hq := R.od q
  simp only [AOp.step] at h
  cases hv : (od p).ev s with
  | str l =>
    cases hv2 : (od q).ev s with
    | int k n =>
      rw [hv] at hp h
      rw [hv2] at hq h
      obtain ⟨h0, h1, h⟩ := h
      generalize hep : a.eval p = v at hp
      generalize heq : a.eval q = u at hq
      cases hp
      cases hq
      have hlt : n.toNat < l.length := by omega
      refine .value h (.int _ _) (fun w' _ => ?_)
      have hg : (ByteArray.mk l.toArray)[n.toNat]? = some l[n.toNat] := by
        rw [getElem?_pos (ByteArray.mk l.toArray) n.toNat (by simpa [ByteArray.size] using hlt)]
        rfl
      simp [execOp, ho, hep, heq, Instr.index, asIntOf, run_underlying hu, h0, hg, List.getD, List.getElem?_eq_getElem hlt]
    | _ => simp [hv, hv2] at h
  | _ => simp [hv] at h
theorem relL_map (R : Rep X s own a w) (l : Array Operand) : (l.map a.eval).size = ((l.toList.map od).map (·.ev s)).length ∧ ∀ (j : Nat) (v : Value) (y : AV), (l.map a.eval)[j]? = some v → ((l.toList.map od).map (·.ev s))[j]? = some y → Rel (Fo X.fr own) w v y := by
  refine ⟨by simp, fun j v y hv hy => ?_⟩
  simp only [Array.getElem?_map, List.getElem?_map, Array.getElem?_toList] at hv hy
  cases hl : l[j]? with
  | none => simp [hl] at hv
  | some x =>
    simp only [hl, Option.map_some, Option.some.injEq] at hv hy
    subst hv hy
    exact R.od x
theorem s_mkfn (R : Rep X s own a w) (o : Oper) (f : Fn) (p q : Array Operand) (ho : o.op = .makeFunc f p q) (h : (AOp.mkfn f (p.toList.map od) (q.toList.map od)).step s own K) : Out X own w (execOp a.eval o) K := by
  obtain ⟨h1, h2⟩ := relL_map R p
  obtain ⟨h3, h4⟩ := relL_map R q
  exact .value h (.fn f _ _ _ _ h1 h3 h2 h4) (fun w' _ => by simp [execOp, ho, Instr.makeFunc])
theorem sl_take {F : Nat → Prop} {b o n cap sz : Nat} {xs : List AV} (h : Rel F w (.slice (some ⟨b, o, none⟩) n cap) (.sl xs)) (l m : Nat) (hm : m ≤ xs.length) (hlm : l ≤ m) (c : Nat) (hc : m - l ≤ c)
    (o' : Nat) (ho' : l < m → o' = o + l * sz) (hsz : ∀ x, x ∈ xs → x.cells.length = sz) : Rel F w (.slice (some ⟨b, o', none⟩) (m - l) c) (.sl ((xs.take m).drop l)) := by
  cases h with
  | sl0 =>
    have e1 : m - l = 0 := by simp at hm; omega
    have e2 : (([] : List AV).take m).drop l = [] := by simp
    rw [e1, e2]
    exact .sl0 _ _
  | sl _ _ _ _ s' _ cv hF hb hlen hn hs hcc hoo hrr =>
    have hg : ∀ (i : Nat) (x : AV), ((xs.take m).drop l)[i]? = some x → xs[l + i]? = some x ∧ l + i < m := fun i x hx => by
      rw [List.getElem?_drop, List.getElem?_take] at hx
      split at hx
      · exact ⟨hx, by assumption⟩
      · cases hx
    refine .sl b o' _ c s' _ (fun j => cv (l * s' + j)) hF hb (by simp; omega) hc (fun i x hx => hs _ _ (hg i x hx).1) ?_ ?_ ?_
    · intro i x j y hx hy
      obtain ⟨h1, h2⟩ := hg i x hx
      have hss : s' = sz := by rw [← hsz x (List.mem_of_getElem? h1)]; exact (hs _ _ h1).symm
      have := hcc _ _ _ _ h1 hy
      rw [ho' (by omega), ← hss]
      rw [show o + l * s' + i * s' + j = o + (l + i) * s' + j by rw [Nat.add_mul]; omega, this, Nat.add_mul, Nat.add_assoc]
    · intro i x j y hx hy
      obtain ⟨h1, h2⟩ := hg i x hx
      have := hoo _ _ _ _ h1 hy
      rw [Nat.add_mul] at this
      rw [← Nat.add_assoc]
      exact this
    · intro i x j y hx hy
      obtain ⟨h1, h2⟩ := hg i x hx
      have := hrr _ _ _ _ h1 hy
      rw [Nat.add_mul] at this
      rw [← Nat.add_assoc]
      exact this
theorem run_bounds {P : Program} (b : Bool) (len cap : Nat) (lo hi : Option Value) (l h : Nat) (hl : match lo with | none => l = 0 | some v => ∃ k, v = .int k l) (hh : match hi with | none => h = len | some v => ∃ k, v = .int k h)
    (h1 : l ≤ h) (h2 : h ≤ cap) (w : World) : (Instr.sliceBounds b len cap lo hi none).run P w = .ok (l, h, cap) w := by
  unfold Instr.sliceBounds
  cases lo <;> cases hi <;> simp only at hl hh
  · subst hl hh; simp
  · obtain ⟨k, rfl⟩ := hh; subst hl
    simp [Instr.sliceBound, asIntOf, h2]
  · obtain ⟨k, rfl⟩ := hl; subst hh
    simp [Instr.sliceBound, asIntOf, h1]
  · obtain ⟨k, rfl⟩ := hl; obtain ⟨k', rfl⟩ := hh
    simp [Instr.sliceBound, asIntOf, h1, h2]
theorem od_lo (R : Rep X s own a w) (lo : Option Operand) (k : IntKind) (n : Int) (h : ((lo.map od).map (·.ev s)).getD (.int .i64 0) = .int k n) (l : Nat) (hn : n = l) :
    match lo.map a.eval with | none => l = 0 | some v => ∃ k, v = .int k l := by
  cases lo with
  | none => simp at h ⊢; omega
  | some x =>
    have := R.od x
    simp at h
    rw [h] at this
    simp only [Option.map_some]
    generalize a.eval x = v at this
    cases this
    exact ⟨k, by rw [hn]⟩
theorem od_hi (R : Rep X s own a w) (hi : Option Operand) (k : IntKind) (n : Int) (h : (hi.map od).map (·.ev s) = some (.int k n)) (l : Nat) (hn : n = l) (len : Nat) :
    match hi.map a.eval with | none => l = len | some v => ∃ k, v = .int k l := by
  cases hi with
  | none => simp at h
  | some x =>
    have := R.od x
    simp at h
    rw [h] at this
    simp only [Option.map_some]
    generalize a.eval x = v at this
    cases this
    exact ⟨k, by rw [hn]⟩
theorem addr_part (b o l sz m : Nat) : ∃ o', (if m = l then (some (⟨b, o, none⟩ : Addr)) else (some (⟨b, o, none⟩ : Addr)).map (·.add (l * sz))) = some ⟨b, o', none⟩ ∧ ((l < m → o' = o + l * sz) ∧ (l = 0 → o' = o)) := by
  by_cases h : m = l
  · exact ⟨o, by simp [h], fun h' => by omega, fun _ => rfl⟩
  · exact ⟨o + l * sz, by simp [h, add_at], fun _ => rfl, fun h0 => by simp [h0]⟩
theorem s_slc (R : Rep X s own a w) (o : Oper) (t e : TypeId) (p : Operand) (lo hi : Option Operand) (j : TypeInfo) (ho : o.op = .slice t p lo hi none) (hu : X.P.underlying t = some (.slice e)) (hj : X.P.info? e = some j)
    (h : (AOp.slc j.size (od p) (lo.map od) (hi.map od)).step s own K) : Out X own w (execOp a.eval o) K := by
  have hp := R.od p
  simp only [AOp.step] at h
  have hrun : ∀ w', (execOp a.eval o).run X.P w' = ((Instr.slice t (a.eval p) (lo.map a.eval) (hi.map a.eval) none).run X.P w').andThen fun v w' => .ok (.value v) w' := fun w' => by
    simp [execOp, ho, Instr.sliceAt, run_underlying hu]
  have main : ∀ (b o' n cap l h : Nat), a.eval p = .slice (some ⟨b, o', none⟩) n cap → (match lo.map a.eval with | none => l = 0 | some v => ∃ k, v = .int k l) → (match hi.map a.eval with | none => h = n | some v => ∃ k, v = .int k h) → l ≤ h → h ≤ cap →
      ∃ o'' : Nat, ((l < cap → o'' = o' + l * j.size) ∧ (l = 0 → o'' = o')) ∧ ∀ w', (execOp a.eval o).run X.P w' = .ok (.value (.slice (some ⟨b, o'', none⟩) (h - l) (cap - l))) w' := by
    intro b o' n cap l h hep hl hh h1 h2
    obtain ⟨o'', ho1, ho2⟩ := addr_part b o' l j.size cap
    refine ⟨o'', ho2, fun w' => ?_⟩
    rw [hrun, hep]
    simp [Instr.slice, run_underlying hu, run_bounds true n cap _ _ l h hl hh h1 h2, run_size hj, ho1]
    simpa using ho1
  have nilc : ∀ (l h : Nat), a.eval p = .slice none 0 0 → (match lo.map a.eval with | none => l = 0 | some v => ∃ k, v = .int k l) → (match hi.map a.eval with | none => h = 0 | some v => ∃ k, v = .int k h) → l ≤ h → h ≤ 0 →
      ∀ w', (execOp a.eval o).run X.P w' = .ok (.value (.slice none 0 0)) w' := by
    intro l h hep hl hh h1 h2 w'
    have h3 : h = 0 := by omega
    have h4 : l = 0 := by omega
    subst h3 h4
    rw [hrun, hep]
    simp [Instr.slice, run_underlying hu, run_bounds true 0 0 _ _ 0 0 hl hh h1 h2, run_size hj]
  have zc : ∀ (a0 : Addr) (cap l h : Nat), a.eval p = .slice (some a0) 0 cap → (match lo.map a.eval with | none => l = 0 | some v => ∃ k, v = .int k l) → (match hi.map a.eval with | none => h = 0 | some v => ∃ k, v = .int k h) → l ≤ h → h ≤ 0 →
      ∀ w', (execOp a.eval o).run X.P w' = .ok (.value (.slice (some a0) 0 cap)) w' := by
    intro a0 cap l h hep hl hh h1 h2 w'
    have h3 : h = 0 := by omega
    have h4 : l = 0 := by omega
    subst h3 h4
    rw [hrun, hep]
    have hz : a0.add 0 = a0 := by simp [Addr.add]
    simp [Instr.slice, run_underlying hu, run_bounds true 0 cap _ _ 0 0 hl hh (Nat.le_refl _) (Nat.zero_le _), run_size hj, hz]
  cases hv : (od p).ev s with
  | sl xs =>
    cases hlo : ((lo.map od).map (·.ev s)).getD (.int .i64 0) with
    | int k1 l =>
      cases hhi : (hi.map od).map (·.ev s) with
      | none =>
        rw [hv] at hp
        simp only [hv, hlo, hhi] at h
        obtain ⟨hz, h0, h1, h⟩ := h
        have hin : hi.map a.eval = none := by cases hi <;> simp_all
        have hl := od_lo R lo k1 l hlo l.toNat (by omega)
        generalize hep : a.eval p = v at hp
        cases hp with
        | slnil =>
          have := nilc l.toNat 0 hep hl (by simp [hin]) (by simp at h1; omega) (Nat.le_refl _)
          have hd : ([] : List AV).drop l.toNat = [] := by simp
          rw [hd] at h
          exact .value h .slnil (fun w' _ => this w')
        | sl0 a0 cap =>
          have := zc a0 cap l.toNat 0 hep hl (by simp [hin]) (by simp at h1; omega) (Nat.le_refl _)
          have hd : ([] : List AV).drop l.toNat = [] := by simp
          rw [hd] at h
          exact .value h (.sl0 a0 cap) (fun w' _ => this w')
        | sl b o' n cap s' _ cv hF hb hlen hn hs hcc hoo hrr =>
          obtain ⟨o'', ho1, ho2⟩ := main b o' n cap l.toNat n hep hl (by simp [hin]) (by omega) hn
          have := sl_take (F := Fo X.fr own) (.sl b o' n cap s' _ cv hF hb hlen hn hs hcc hoo hrr) l.toNat n (by omega) (by omega) (cap - l.toNat) (by omega) o'' (fun hh => ho1.1 (by omega)) hz
          rw [List.take_of_length_le (by omega)] at this
          exact .value h this (fun w' _ => ho2 w')
      | some hx =>
        cases hx with
        | int k2 m =>
          rw [hv] at hp
          simp only [hv, hlo, hhi] at h
          obtain ⟨hz, h0, h1, h2, h⟩ := h
          have hl := od_lo R lo k1 l hlo l.toNat (by omega)
          generalize hep : a.eval p = v at hp
          cases hp with
          | slnil =>
            have := nilc l.toNat m.toNat hep hl (od_hi R hi k2 m hhi m.toNat (by omega) 0) (by omega) (by simp at h2; omega)
            have hd : (([] : List AV).take m.toNat).drop l.toNat = [] := by simp
            rw [hd] at h
            exact .value h .slnil (fun w' _ => this w')
          | sl0 a0 cap =>
            have := zc a0 cap l.toNat m.toNat hep hl (od_hi R hi k2 m hhi m.toNat (by omega) 0) (by omega) (by simp at h2; omega)
            have hd : (([] : List AV).take m.toNat).drop l.toNat = [] := by simp
            rw [hd] at h
            exact .value h (.sl0 a0 cap) (fun w' _ => this w')
          | sl b o' n cap s' _ cv hF hb hlen hn hs hcc hoo hrr =>
            obtain ⟨o'', ho1, ho2⟩ := main b o' n cap l.toNat m.toNat hep hl (od_hi R hi k2 m hhi m.toNat (by omega) n) (by omega) (by omega)
            exact .value h (sl_take (F := Fo X.fr own) (.sl b o' n cap s' _ cv hF hb hlen hn hs hcc hoo hrr) l.toNat m.toNat (by omega) (by omega) (cap - l.toNat) (by omega) o'' (fun hh => ho1.1 (by omega)) hz) (fun w' _ => ho2 w')
        | _ => exact (by rw [hv, hlo, hhi] at h; simp at h)
    | _ => exact (by rw [hv, hlo] at h; simp at h)
  | row k b o' n z =>
    cases hlo : ((lo.map od).map (·.ev s)).getD (.int .i64 0) with
    | int k1 l =>
      cases hhi : (hi.map od).map (·.ev s) with
      | none => exact (by rw [hv, hlo, hhi] at h; simp at h)
      | some hx =>
        cases hx with
        | int k2 m =>
          rw [hv] at hp
          simp only [hv, hlo, hhi] at h
          obtain ⟨rfl, rfl, h0, h1, h⟩ := h
          have hl := od_lo R lo k1 0 hlo 0 rfl
          generalize hep : a.eval p = v at hp
          cases hp with
          | row _ _ _ _ _ cap csz T hn hs hc =>
            obtain ⟨o'', ho1, ho2⟩ := main b o' n cap 0 m.toNat hep hl (od_hi R hi k2 m hhi m.toNat (by omega) n) (by omega) (by omega)
            have := ho1.2 rfl
            subst this
            exact .value h (.row _ _ _ _ _ cap csz T (by omega) hs hc) (fun w' _ => by simpa using ho2 w')
        | _ => exact (by rw [hv, hlo, hhi] at h; simp at h)
    | _ => exact (by rw [hv, hlo] at h; simp at h)
  | _ => exact (by rw [hv] at h; simp at h)
theorem s_slcS (R : Rep X s own a w) (o : Oper) (t : TypeId) (p : Operand) (lo hi : Option Operand) (ho : o.op = .slice t p lo hi none) (hu : X.P.underlying t = some .string)
    (h : (AOp.slcS (od p) (lo.map od) (hi.map od)).step s own K) : Out X own w (execOp a.eval o) K := by
  have hp := R.od p
  simp only [AOp.step] at h
  have main : ∀ (xs : List UInt8) (l h : Nat), a.eval p = .string ⟨xs.toArray⟩ → (match lo.map a.eval with | none => l = 0 | some v => ∃ k, v = .int k l) → (match hi.map a.eval with | none => h = xs.length | some v => ∃ k, v = .int k h) → l ≤ h → h ≤ xs.length →
      ∀ w', (execOp a.eval o).run X.P w' = .ok (.value (.string ⟨((xs.take h).drop l).toArray⟩)) w' := by
    intro xs l h hep hl hh h1 h2 w'
    have hsz : (ByteArray.mk xs.toArray).size = xs.length := rfl
    have hex : (ByteArray.mk xs.toArray).extract l h = ⟨((xs.take h).drop l).toArray⟩ := by
      apply ByteArray.ext
      simp [List.drop_take]
    have hb := run_bounds (P := X.P) false xs.length xs.length _ _ l h hl hh h1 h2 w'
    simp [execOp, ho, Instr.sliceAt, run_underlying hu, hep, Instr.slice, hsz, hb, hex]
  cases hv : (od p).ev s with
  | str xs =>
    cases hlo : ((lo.map od).map (·.ev s)).getD (.int .i64 0) with
    | int k1 l =>
      cases hhi : (hi.map od).map (·.ev s) with
      | none =>
        rw [hv] at hp
        simp only [hv, hlo, hhi] at h
        obtain ⟨h0, h1, h⟩ := h
        have hin : hi.map a.eval = none := by cases hi <;> simp_all
        have hl := od_lo R lo k1 l hlo l.toNat (by omega)
        generalize hep : a.eval p = v at hp
        cases hp
        have := main xs l.toNat xs.length hep hl (by simp [hin]) (by omega) (Nat.le_refl _)
        rw [List.take_length] at this
        exact .value h (.str _) (fun w' _ => this w')
      | some hx =>
        cases hx with
        | int k2 m =>
          rw [hv] at hp
          simp only [hv, hlo, hhi] at h
          obtain ⟨h0, h1, h2, h⟩ := h
          have hl := od_lo R lo k1 l hlo l.toNat (by omega)
          generalize hep : a.eval p = v at hp
          cases hp
          exact .value h (.str _) (fun w' _ => main xs l.toNat m.toNat hep hl (od_hi R hi k2 m hhi m.toNat (by omega) _) (by omega) (by omega) w')
        | _ => exact (by rw [hv, hlo, hhi] at h; simp at h)
    | _ => exact (by rw [hv, hlo] at h; simp at h)
  | _ => exact (by rw [hv] at h; simp at h)
theorem s_ifc (R : Rep X s own a w) (o : Oper) (t : TypeId) (d : TypeDesc) (p : Operand) (ho : o.op = .makeInterface t p) (hu : X.P.underlying t = some d) (hn : ∀ ms, d = .interface ms → False) (h : (AOp.ifc t (od p)).step s own K) : Out X own w (execOp a.eval o) K := by
  refine .value h (.ifc _ _ _ (R.od p)) (fun w' _ => ?_)
  have : (Instr.makeInterface t (a.eval p)).run X.P w' = .ok (.iface t (a.eval p)) w' := by
    cases d <;> first
      | (simp [Instr.makeInterface, run_underlying hu]; done)
      | exact (hn _ rfl).elim
  simp [execOp, ho, this]
theorem s_asrt (R : Rep X s own a w) (o : Oper) (xt t : TypeId) (d : TypeDesc) (p : Operand) (z : AV) (ho : o.op = .typeAssert p xt t true) (hu : X.P.underlying t = some d) (hn : ∀ ms, d = .interface ms → False) (hz : zeroA X.P t = some z) (h : (AOp.asrt t z (od p)).step s own K) : Out X own w (execOp a.eval o) K := by
  have hp := R.od p
  obtain ⟨zv, hz1, hz2⟩ := zeroA_rel (F := Fo X.fr own) hz
  have two : ∀ (v : Value) (x : AV) (b : Bool), Rel (Fo X.fr own) w v x → Rel (Fo X.fr own) w (.tuple #[v, .bool b]) (.tup [x, .bool b]) := fun v x b hr => .tup _ _ rfl (fun j u y hj hy => by
    match j with
    | 0 => simp only [List.getElem?_cons_zero, Option.some.injEq, List.getElem?_toArray] at hj hy; subst hj; subst hy; exact hr
    | 1 => simp only [List.getElem?_cons_zero, List.getElem?_cons_succ, Option.some.injEq, List.getElem?_toArray] at hj hy; subst hj; subst hy; exact .bool b
    | j + 2 => simp at hy)
  simp only [AOp.step] at h
  have hno : ∀ w', (Instr.typeAssert .nilIface xt t true).run X.P w' = .ok (.tuple #[zv, .bool false]) w' := fun w' => by
    cases d <;> first
      | (simp [Instr.typeAssert, run_underlying hu, hz1]; done)
      | exact (hn _ rfl).elim
  have hyes : ∀ (t' : TypeId) (v : Value) w', (Instr.typeAssert (.iface t' v) xt t true).run X.P w' = .ok (if t' = t then .tuple #[v, .bool true] else .tuple #[zv, .bool false]) w' := fun t' v w' => by
    cases d <;> first
      | (simp only [Instr.typeAssert, run_underlying hu, Sem.run_bind, Result.andThen]; by_cases e : t' = t <;> simp [e, hz1]; done)
      | exact (hn _ rfl).elim
  cases hv : (od p).ev s with
  | ifc t' y =>
    rw [hv] at hp
    simp only [hv] at h
    generalize hep : a.eval p = v at hp
    cases hp
    rename_i u hr
    by_cases e : t' = t
    · refine .value (h.1 e) (two _ _ true hr) (fun w' _ => ?_)
      simp [execOp, ho, hep, hyes, e]
    · refine .value (h.2 e) (two _ _ false (hz2 w)) (fun w' _ => ?_)
      simp [execOp, ho, hep, hyes, e]
  | lit l =>
    rw [hv] at hp
    simp only [hv] at h
    cases l with
    | nilIface =>
      generalize hep : a.eval p = v at hp
      cases hp
      refine .value h (two _ _ false (hz2 w)) (fun w' _ => ?_)
      simp [execOp, ho, hep, hno]
    | _ => simp at h
  | _ => simp [hv] at h
theorem s_nilI (R : Rep X s own a w) (o : Oper) (t t' : TypeId) (ms : Array (String × TypeId)) (p : Operand) (neg : Bool) (ho : o.op = .binOp (if neg then .neq else .eql) t p (.const .nilIface) t') (hu : X.P.underlying t = some (.interface ms))
    (h : (AOp.nilI neg (od p)).step s own K) : Out X own w (execOp a.eval o) K := by
  have hp := R.od p
  simp only [AOp.step] at h
  have hc : a.eval (.const .nilIface) = .nilIface := rfl
  have h0' : ∀ (n : Nat) w', (Op.equalIn (n + 1) t .nilIface .nilIface).run X.P w' = .ok true w' := fun n w' => by
    simp [Op.equalIn, run_underlying hu]
  have h1' : ∀ (n : Nat) t' v w', (Op.equalIn (n + 1) t (.iface t' v) .nilIface).run X.P w' = .ok false w' := fun n t' v w' => by
    simp [Op.equalIn, run_underlying hu]
  have h0 : ∀ w', (Op.equal t .nilIface .nilIface).run X.P w' = .ok true w' := fun w' => h0' 9999 w'
  have h1 : ∀ t' v w', (Op.equal t (.iface t' v) .nilIface).run X.P w' = .ok false w' := fun t' v w' => h1' 9999 t' v w'
  cases hv : (od p).ev s with
  | ifc t' y =>
    rw [hv] at hp
    simp only [hv] at h
    generalize hep : a.eval p = v at hp
    cases hp
    rename_i u hr
    refine .value h (.bool _) (fun w' _ => ?_)
    cases neg <;> simp [execOp, ho, hep, hc, eqGuard, binOp, h1]
  | lit l =>
    rw [hv] at hp
    simp only [hv] at h
    cases l with
    | nilIface =>
      generalize hep : a.eval p = v at hp
      cases hp
      refine .value h (.bool _) (fun w' _ => ?_)
      cases neg <;> simp [execOp, ho, hep, hc, eqGuard, binOp, h0]
    | _ => simp at h
  | _ => simp [hv] at h
theorem step_sound (R : Rep X s own a w) (o : Oper) (op : AOp) (hc : comp X.P o = some op) (h : op.step s own K) : Out X own w (execOp a.eval o) K := by
  cases ho : o.op with
  | move x => simp only [comp, ho, Option.some.injEq] at hc; subst hc; exact s_mov R o x (by simp [execOp, ho]) h
  | assign x => simp only [comp, ho, Option.some.injEq] at hc; subst hc; exact s_mov R o x (by simp [execOp, ho]) h
  | pick c x y => simp only [comp, ho, Option.some.injEq] at hc; subst hc; exact s_pick R o c x y ho h
  | load t p => exact s_load R o t p ho op hc h
  | fieldAddr t x f => exact s_fadr R o t x f ho op hc h
  | indexAddr t x i => exact s_iadr R o t x i ho op hc h
  | field t x f => exact s_fld R o t x f ho op hc h
  | build t ps => exact s_bld R o t ps ho op hc h
  | binOp bo t x y t' =>
    simp only [comp, ho] at hc
    cases hu : X.P.underlying t with
    | none => simp [hu] at hc
    | some d =>
      cases d with
      | bool => simp only [hu, Option.some.injEq] at hc; subst hc; exact s_binB R o bo t t' x y ho hu h
      | int _ => simp only [hu, Option.some.injEq] at hc; subst hc; exact s_bin R o bo t t' x y ho h
      | string => simp only [hu, Option.some.injEq] at hc; subst hc; exact s_bin R o bo t t' x y ho h
      | interface _ =>
        simp only [hu] at hc
        split at hc
        · cases hc; exact s_nilI R o t t' _ x false ho hu h
        · cases hc; exact s_nilI R o t t' _ x true ho hu h
        · cases hc
      | slice e =>
        simp only [hu] at hc
        split at hc
        · cases hc; exact s_nilS R o t t' e x false ho hu h
        · cases hc; exact s_nilS R o t t' e x true ho hu h
        · cases hc
      | struct fs =>
        simp only [hu] at hc
        split at hc
        · obtain ⟨ks, hk, rfl⟩ := Option.map_eq_some_iff.1 hc
          exact s_eqS R o t t' x y false ks ho (by simp [aggB, hu]) hk h
        · obtain ⟨ks, hk, rfl⟩ := Option.map_eq_some_iff.1 hc
          exact s_eqS R o t t' x y true ks ho (by simp [aggB, hu]) hk h
        · cases hc
      | array n e =>
        simp only [hu] at hc
        split at hc
        · obtain ⟨ks, hk, rfl⟩ := Option.map_eq_some_iff.1 hc
          exact s_eqS R o t t' x y false ks ho (by simp [aggB, hu]) hk h
        · obtain ⟨ks, hk, rfl⟩ := Option.map_eq_some_iff.1 hc
          exact s_eqS R o t t' x y true ks ho (by simp [aggB, hu]) hk h
        · cases hc
      | _ => simp [hu] at hc
  | unOp uo t x => simp only [comp, ho, Option.some.injEq] at hc; subst hc; exact s_un R o uo t x ho h
  | convert t t' x =>
    simp only [comp, ho] at hc
    split at hc
    · rename_i hu hu'
      cases hc
      exact s_conv R o t t' x ho _ _ hu hu' h
    · split at hc
      · cases hc; exact h.elim
      · cases hc
    · cases hc
  | extract x i => simp only [comp, ho, Option.some.injEq] at hc; subst hc; exact s_ext R o x i ho h
  | index t x i =>
    simp only [comp, ho] at hc
    cases hu : X.P.underlying t with
    | none => simp [hu] at hc
    | some d =>
      cases d <;> simp only [hu, Option.some.injEq, reduceCtorEq] at hc
      subst hc
      exact s_idxS R o t x i ho hu h
  | makeFunc f p q => simp only [comp, ho, Option.some.injEq] at hc; subst hc; exact s_mkfn R o f p q ho h
  | slice t x lo hi mx =>
    cases mx with
    | some _ => simp [comp, ho] at hc
    | none =>
      simp only [comp, ho] at hc
      cases hu : X.P.underlying t with
      | none => simp [hu] at hc
      | some d =>
        cases d <;> try (simp [hu] at hc; done)
        · simp only [hu, Option.some.injEq] at hc
          subst hc
          exact s_slcS R o t x lo hi ho hu h
        · rename_i e
          cases hj : X.P.info? e with
          | none => simp [hu, hj] at hc
          | some j =>
            simp only [hu, hj, Option.map_some, Option.some.injEq] at hc
            subst hc
            exact s_slc R o t e x lo hi j ho hu hj h
  | alloc t =>
    simp only [comp, ho] at hc
    obtain ⟨j, z, _, _, _, hf⟩ := zeros_some hc
    simp only [Option.some.injEq] at hf
    subst hf
    exact h.elim
  | box t x => simp only [comp, ho, Option.some.injEq] at hc; subst hc; exact h.elim
  | buildSlice t n ps =>
    simp only [comp, ho] at hc
    cases hu : X.P.underlying t with
    | none => simp [hu] at hc
    | some d =>
      cases d <;> try (simp [hu] at hc; done)
      rename_i e
      cases hj : X.P.info? e with
      | none => simp [hu, hj] at hc
      | some j =>
        simp only [hu, hj, Option.bind_some] at hc
        obtain ⟨j, z, _, _, _, hf⟩ := zeros_some hc
        split at hf
        · simp only [Option.some.injEq] at hf
          subst hf
          exact h.elim
        · cases hf
  | store t x y =>
    simp only [comp, ho] at hc
    cases hj : X.P.info? t with
    | none => simp [hj] at hc
    | some j =>
      simp only [hj, Option.map_some, Option.some.injEq] at hc
      subst hc
      exact h.elim
  | call c =>
    simp only [comp, ho, compC] at hc
    cases hcc : c.callee with
    | builtin b =>
      simp only [hcc] at hc
      unfold compB at hc
      split at hc
      · rename_i x t hargs hts
        have ha : c.args = #[x] := Array.toList_inj.1 hargs
        have ht : c.argTypes = #[t] := Array.toList_inj.1 hts
        split at hc
        · rename_i hu; exact s_len R o x t c ho hcc ha ht op (by simp only [compB, hu]; exact hc) h
        · rename_i hu; exact s_len R o x t c ho hcc ha ht op (by simp only [compB, hu]; exact hc) h
        · rename_i hu; exact s_len R o x t c ho hcc ha ht op (by simp only [compB, hu]; exact hc) h
        · rename_i hu; cases hc; exact s_mlen R o x t _ _ c ho hcc ha ht hu h
        · cases hc
      · split at hc
        · rename_i e _
          split at hc
          · cases hj : X.P.info? e with
            | none => simp [hj] at hc
            | some j =>
              simp only [hj, Option.bind_some] at hc
              split at hc
              · simp only [Option.some.injEq] at hc
                subst hc
                exact h.elim
              · cases hc
          · cases hc
        · cases hc
      · cases hc
    | value f =>
      simp only [hcc] at hc
      split at hc
      · split at hc
        · simp only [Option.some.injEq] at hc; subst hc; exact h.elim
        · cases hc
      · simp only [Option.some.injEq] at hc; subst hc; exact h.elim
    | invoke _ _ => simp [hcc] at hc
  | nilCheck x => simp only [comp, ho, Option.some.injEq] at hc; subst hc; exact s_nilc R o x ho h
  | makeInterface t x =>
    simp only [comp, ho] at hc
    split at hc
    · cases hc
    · rename_i d hn hu; cases hc; exact s_ifc R o t d x ho hu hn h
    · cases hc
  | typeAssert x xt t ok =>
    cases ok with
    | false => simp [comp, ho] at hc
    | true =>
      simp only [comp, ho] at hc
      split at hc
      · cases hc
      · rename_i d hn hu
        obtain ⟨z, hz, rfl⟩ := Option.map_eq_some_iff.1 hc
        exact s_asrt R o xt t d x z ho hu hn hz h
      · cases hc
  | panic x => simp only [comp, ho, Option.some.injEq] at hc; subst hc; exact h.elim
  | lookup t x i ok =>
    simp only [comp, ho] at hc
    cases hu : X.P.underlying t with
    | none => simp [hu] at hc
    | some d =>
      cases d <;> try (simp [hu] at hc; done)
      simp only [hu, Option.bind_eq_some_iff, Option.map_eq_some_iff] at hc
      obtain ⟨kk, hk, z, hz, rfl⟩ := hc
      exact s_mlook R o t _ _ x i ok kk z ho hu hk hz h
  | makeMap t r =>
    cases r with
    | some _ => simp [comp, ho] at hc
    | none =>
      simp only [comp, ho] at hc
      split at hc
      · cases hc; exact h.elim
      · cases hc
  | mapUpdate t m k v =>
    simp only [comp, ho] at hc
    split at hc
    · obtain ⟨kk, hk, rfl⟩ := Option.map_eq_some_iff.1 hc
      exact h.elim
    · cases hc
  | makeSlice t l c =>
    simp only [comp, ho] at hc
    split at hc
    · split at hc
      · obtain ⟨j, _, hc⟩ := Option.bind_eq_some_iff.1 hc
        obtain ⟨_, _, _, _, _, hf⟩ := zeros_some hc
        split at hf
        · cases hf; exact h.elim
        · cases hf
      · cases hc
    · cases hc
  | _ => simp [comp, ho] at hc
end
end Go.Aw
namespace Go.Aw
def putS (d : Option Nat) (x : AV) (s : Slots) : Slots :=
  match d with
  | some t => (t, x) :: s
  | none => s
section
variable {X : Cx} {s : Slots} {own : Own} {a : Act} {w : World}
theorem Rep.put (R : Rep X s own a w) (d : Option Nat) (hd : d.all (· < X.n) = true) {v : Value} {x : AV} (hr : Rel (Fo X.fr own) w v x) : Rep X (putS d x s) own (a.put d v) w := by
  cases d with
  | none => exact R
  | some t =>
    have ht : t < X.n := by simpa using hd
    refine ⟨fun u => ?_, R.ok, R.new, by simpa [Act.put] using R.size, R.defs, R.kept⟩
    simp only [putS, Slots.get, Act.put]
    by_cases hu : t = u
    · subst hu
      have : t < a.tmps.size := by rw [R.size]; exact ht
      simp [this, hr]
    · rw [if_neg hu]
      have := R.tm u
      simp only [Array.getD_eq_getD_getElem?, Array.getElem?_setIfInBounds, if_neg hu] at this ⊢
      exact this
theorem grow_alloc (w : World) (o : Obj) : Grow (fun _ => False) w (w.alloc o) := by
  refine ⟨by simp, fun b hb _ => RowKit.Below.heap_alloc w o b hb, fun b q hq => ?_, fun b hb i => ?_, rfl, rfl, rfl⟩
  · have := shape_lt hq
    unfold World.shape? at hq ⊢
    rw [RowKit.Below.heap_alloc w o b this]
    exact hq
  · exact World.frozen?_alloc_old w _ _ (by simp; omega)
theorem fo_cons {fr : Nat → Prop} {own : Own} {k b : Nat} {ob : Ob} {x : Nat} : Fo fr ((k, b, ob) :: own) x ↔ x = b ∨ Fo fr own x := by
  unfold Fo Own.has
  simp
  constructor
  · rintro (h | h | h)
    · exact .inr (.inl h)
    · exact .inl h
    · exact .inr (.inr h)
  · rintro (h | h | h)
    · exact .inr (.inl h)
    · exact .inl h
    · exact .inr (.inr h)
theorem has_cons {own : Own} {k b : Nat} {ob : Ob} {x : Nat} : Own.has ((k, b, ob) :: own) x ↔ x = b ∨ own.has x := by
  unfold Own.has
  simp
theorem OwnOk.lt (h : OwnOk X.fr w own) {b : Nat} (hb : own.has b) : b < w.heap.size := by
  unfold Own.has at hb
  obtain ⟨e, he, rfl⟩ := List.mem_map.1 hb
  exact (h.holds e he).lt
theorem OwnOk.mono {fr : Nat → Prop} {w' : World} (h : OwnOk fr w own) (hg : Grow (fun _ => False) w w') : OwnOk fr w' own :=
  ⟨fun e he => (h.holds e he).mono hg (fun _ f => f.elim) (fun f => f) (fun _ _ h => h), h.nodup, h.apart, fun b hb => Nat.lt_of_lt_of_le (h.fr b hb) hg.sz⟩
theorem Rep.grow {w' : World} (R : Rep X s own a w) (hg : Grow (fun _ => False) w w') : Rep X s own a w' :=
  ⟨fun t => (R.tm t).mono (hg.mono fun _ _ f => f.elim) (fun _ _ h => h), R.ok.mono hg, R.new, R.size, R.defs.mono (fun _ _ h => h) (fun b hb _ => hg.same b hb (fun f => f)), R.kept.trans (hg.mono fun _ _ f => f.elim)⟩
theorem Rep.alloc (R : Rep X s own a w) (k : Nat) (c : Array Value) (T : TypeId) (zs : List AV) (hle : zs.length ≤ c.size)
    (hc : ∀ (i : Nat) (x : AV), zs[i]? = some x → ∃ v, c[i]? = some v ∧ v.oneCell' = true ∧ Rel (Fo X.fr own) w v x) :
    Rep X s ((k, w.heap.size, .cells zs) :: own) a (w.alloc (.cells c T)) := by
  have hg := grow_alloc w (.cells c T)
  have hF : ∀ b, b < w.heap.size → Fo X.fr ((k, w.heap.size, .cells zs) :: own) b → Fo X.fr own b := fun b hb h => by
    rcases fo_cons.1 h with h | h
    · omega
    · exact h
  have hgF : Grow (Fo X.fr own) w (w.alloc (.cells c T)) := hg.mono fun _ _ f => f.elim
  refine ⟨fun t => (R.tm t).mono hgF hF, ⟨fun e he => ?_, ?_, fun b hb => ?_, fun b hb => ?_⟩, fun b hb => ?_, R.size, R.defs.mono (fun b hb h => by
    rcases has_cons.1 h with h | h
    · omega
    · exact h) (fun b hb _ => hg.same b hb (fun f => f)), R.kept.trans (hg.mono fun _ _ f => f.elim)⟩
  · rcases List.mem_cons.1 he with rfl | he
    · refine ⟨⟨T, c.size, ?_, hle⟩, fun i => ?_, fun i x hx => ?_⟩
      · have : (w.alloc (.cells c T)).heap[w.heap.size]? = some (.cells c T) := by
          show (w.heap.push _)[w.heap.size]? = _
          simp
        simp only [World.shape?, this]
      · simp
      · obtain ⟨v, hv, ho, hr⟩ := hc i x hx
        exact ⟨v, by simp [hv], ho, hr.mono hgF hF⟩
    · exact (R.ok.holds e he).mono hg (fun _ f => f.elim) (fun f => f) hF
  · simp only [List.map_cons, List.nodup_cons]
    refine ⟨fun h => ?_, R.ok.nodup⟩
    have := R.ok.lt (X := X) (b := w.heap.size) h
    omega
  · rcases has_cons.1 hb with rfl | hb
    · intro h
      have := R.ok.fr _ h
      omega
    · exact R.ok.apart b hb
  · exact Nat.lt_of_lt_of_le (R.ok.fr b hb) hg.sz
  · rcases has_cons.1 hb with rfl | hb
    · exact .inr R.kept.sz
    · exact R.new b hb
theorem shape_setCell (w : World) (p : Addr) (v : Value) (b : Nat) : (w.setCell p v).shape? b = w.shape? b := by
  unfold World.shape? World.setCell
  simp only [Array.getElem?_modify]
  by_cases h : p.block = b
  · subst h
    rw [if_pos rfl]
    cases w.heap[p.block]? with
    | none => rfl
    | some o =>
      cases o <;> simp
      split <;> simp
  · rw [if_neg h]
theorem shape_setCells (b' : Nat) : ∀ (vs : List Value) (o : Nat) (w : World) (b : Nat), (w.setCells b' o vs).shape? b = w.shape? b
  | [], _, _, _ => rfl
  | v :: r, o, w, b => by
    rw [World.setCells, shape_setCells b' r, shape_setCell]
theorem heap_setCells (b' : Nat) : ∀ (vs : List Value) (o : Nat) (w : World) (b : Nat), b ≠ b' → (w.setCells b' o vs).heap[b]? = w.heap[b]?
  | [], _, _, _, _ => rfl
  | v :: r, o, w, b, h => by
    rw [World.setCells, heap_setCells b' r _ _ _ h, RowKit.Below.heap_setCell _ _ _ _ h]
theorem size_setCells (b' : Nat) : ∀ (vs : List Value) (o : Nat) (w : World), (w.setCells b' o vs).heap.size = w.heap.size
  | [], _, _ => rfl
  | v :: r, o, w => by
    rw [World.setCells, size_setCells b' r]
    simp
theorem rest_setCells (b' : Nat) : ∀ (vs : List Value) (o : Nat) (w : World), (w.setCells b' o vs).os = w.os ∧ (w.setCells b' o vs).tape = w.tape ∧ (w.setCells b' o vs).output = w.output
  | [], _, _ => ⟨rfl, rfl, rfl⟩
  | v :: r, o, w => rest_setCells b' r (o + 1) (w.setCell ⟨b', o, none⟩ v)
theorem grow_setCells (w : World) (b o : Nat) (vs : List Value) : Grow (fun x => x = b) w (w.setCells b o vs) := by
  obtain ⟨h1, h2, h3⟩ := rest_setCells b vs o w
  exact ⟨by rw [size_setCells]; exact Nat.le_refl _, fun x _ hx => heap_setCells b vs o w x hx, fun x q hq => by rw [shape_setCells]; exact hq, fun x _ i => World.frozen?_setCells b vs o w _, h1, h2, h3⟩
theorem put_keys (own : Own) (k : Nat) (ob : Ob) : (own.put k ob).map (fun e => e.2.1) = own.map (fun e => e.2.1) := by
  induction own with
  | nil => rfl
  | cons e r ih =>
    obtain ⟨k', b', ob'⟩ := e
    simp only [Own.put]
    split
    · rfl
    · simp [ih]
theorem put_mem {own : Own} {k b : Nat} {ob ob' : Ob} (hf : own.find k b = some ob') : ∀ e, e ∈ own.put k ob → e = (k, b, ob) ∨ (e ∈ own ∧ ((own.map fun e => e.2.1).Nodup → e.2.1 ≠ b)) := by
  induction own with
  | nil => cases hf
  | cons e r ih =>
    obtain ⟨k', b', ob2⟩ := e
    simp only [Own.find] at hf
    simp only [Own.put]
    intro e he
    split at hf
    · rename_i hk
      subst hk
      split at hf
      · rename_i hb
        subst hb
        rw [if_pos rfl] at he
        rcases List.mem_cons.1 he with rfl | he
        · exact .inl rfl
        · refine .inr ⟨List.mem_cons_of_mem _ he, fun hn hb => ?_⟩
          simp only [List.map_cons, List.nodup_cons] at hn
          exact hn.1 (List.mem_map.2 ⟨e, he, hb⟩)
      · cases hf
    · rename_i hk
      rw [if_neg hk] at he
      rcases List.mem_cons.1 he with rfl | he
      · refine .inr ⟨List.mem_cons_self .., fun hn hb => ?_⟩
        simp only [List.map_cons, List.nodup_cons] at hn
        have := Own.find_mem hf
        exact hn.1 (List.mem_map.2 ⟨_, this, hb.symm⟩)
      · rcases ih hf e he with h | ⟨h1, h2⟩
        · exact .inl h
        · refine .inr ⟨List.mem_cons_of_mem _ h1, fun hn => h2 ?_⟩
          simp only [List.map_cons, List.nodup_cons] at hn
          exact hn.2
theorem Rep.store (R : Rep X s own a w) {k b o : Nat} {cs : List AV} (hf : own.find k b = some (.cells cs)) {vs : Array Value} {xs : List AV} (hx : RelC (Fo X.fr own) w vs xs) (hle : o ≤ cs.length) (hle' : ∀ T sz, w.shape? b = some (T, sz) → cs.length ≤ sz → o + xs.length ≤ sz) :
    (∀ j, j < vs.toList.length → (w.cell? ⟨b, o + j, none⟩).isSome = true) ∧ (∀ j, j < vs.toList.length → w.frozen? ⟨b, o + j, none⟩ = false) ∧
    Rep X s (own.put k (.cells (cs.take o ++ xs ++ cs.drop (o + xs.length)))) a (w.setCells b o vs.toList) := by
  have hm := Own.find_mem hf
  obtain ⟨⟨T, sz, hs, hl⟩, hfz, hcs⟩ := R.ok.holds _ hm
  have hxl := hx.len
  have hsz := hle' T sz hs hl
  have hown : own.has b := List.mem_map.2 ⟨_, hm, rfl⟩
  have hcell : ∀ j, j < vs.toList.length → (w.cell? ⟨b, o + j, none⟩).isSome = true := fun j hj => shape_cell hs (by simp at hj; omega)
  have hg := grow_setCells w b o vs.toList
  have hF : ∀ x, Fo X.fr (own.put k (.cells (cs.take o ++ xs ++ cs.drop (o + xs.length)))) x ↔ Fo X.fr own x := fun x => by
    unfold Fo Own.has
    rw [put_keys]
  have hh : ∀ x, (own.put k (.cells (cs.take o ++ xs ++ cs.drop (o + xs.length)))).has x ↔ own.has x := fun x => by
    unfold Own.has
    rw [put_keys]
  have hgF : Grow (Fo X.fr own) w (w.setCells b o vs.toList) := hg.mono fun x _ hx => hx ▸ .inr hown
  refine ⟨hcell, fun j _ => hfz _, fun t => (R.tm t).mono hgF (fun x _ h => (hF x).1 h), ⟨fun e he => ?_, by rw [put_keys]; exact R.ok.nodup, fun x hx => R.ok.apart x ((hh x).1 hx), fun x hx => Nat.lt_of_lt_of_le (R.ok.fr x hx) hg.sz⟩, fun x hx => R.new x ((hh x).1 hx), R.size, R.defs.mono (fun x _ hx => (hh x).1 hx) (fun x hx hn => hg.same x hx (fun he => hn (he ▸ hown))), ?_⟩
  · rcases put_mem hf e he with rfl | ⟨h1, h2⟩
    · refine ⟨⟨T, sz, by rw [shape_setCells]; exact hs, by simp only [List.length_append, List.length_take, List.length_drop]; omega⟩, fun i => by rw [World.frozen?_setCells]; exact hfz i, fun i y hy => ?_⟩
      by_cases h1 : i < o
      · rw [List.append_assoc, List.getElem?_append_left (by simp; omega), List.getElem?_take_of_lt h1] at hy
        obtain ⟨v, hv, ho, hr⟩ := hcs i y hy
        refine ⟨v, ?_, ho, hr.mono hgF (fun x _ h => (hF x).1 h)⟩
        rw [World.cell?_setCells_out b vs.toList o w ⟨b, i, none⟩ (fun _ _ => .inl h1)]
        exact hv
      · rw [List.append_assoc, List.getElem?_append_right (by simp; omega)] at hy
        simp only [List.length_take, Nat.min_eq_left (show o ≤ cs.length by omega)] at hy
        have hlen : o + xs.length ≤ sz := hsz
        by_cases h2 : i < o + xs.length
        · rw [List.getElem?_append_left (by omega)] at hy
          have hlt : i - o < vs.toList.length := by simp; omega
          have hv : vs[i - o]? = some vs.toList[i - o] := by simp at hlt ⊢
          refine ⟨vs.toList[i - o], ?_, hx.one _ _ hv, (hx.rel _ _ _ hv hy).mono hgF (fun x _ h => (hF x).1 h)⟩
          have := World.cell?_setCells_in b vs.toList o w hcell (i - o) hlt
          rwa [show o + (i - o) = i by omega] at this
        · rw [List.getElem?_append_right (by omega), List.getElem?_drop, show o + xs.length + (i - o - xs.length) = i by omega] at hy
          obtain ⟨v, hv, ho, hr⟩ := hcs i y hy
          refine ⟨v, ?_, ho, hr.mono hgF (fun x _ h => (hF x).1 h)⟩
          rw [World.cell?_setCells_out b vs.toList o w ⟨b, i, none⟩ (fun _ _ => .inr (by simp; omega))]
          exact hv
    · have hne : e.2.1 ≠ b := h2 R.ok.nodup
      exact (R.ok.holds e h1).mono hg (fun x hx => hx ▸ .inr hown) hne (fun x _ h => (hF x).1 h)
  · have hk := R.kept
    have hb := R.new b hown
    refine ⟨Nat.le_trans hk.sz hg.sz, fun x hx hn => ?_, fun x q hq => hg.shp _ _ (hk.shp _ _ hq), fun x hx i => ?_, hg.os.trans hk.os, hg.tape.trans hk.tape, hg.out.trans hk.out⟩
    · have hne : x ≠ b := fun h => by
        subst h
        rcases hb with hb | hb
        · exact hn hb
        · omega
      exact (hg.same x (Nat.lt_of_lt_of_le hx hk.sz) hne).trans (hk.same x hx hn)
    · exact (World.frozen?_setCells _ _ _ _ _).trans (hk.frz x hx i)
def ObLe : Ob → Ob → Prop
  | .cells cs, .cells cs' => ∀ (i : Nat) (x : AV), cs'[i]? = some x → cs[i]? = some x
  | .loop s p, .loop s' p' => s = s' ∧ ∀ r, p r → p' r
  | .map es, .map es' => es = es'
  | _, _ => False
theorem ObLe.refl : ∀ ob, ObLe ob ob
  | .cells _ => fun _ _ h => h
  | .loop _ _ => ⟨rfl, fun _ h => h⟩
  | .map _ => rfl
theorem Holds.le {F : Nat → Prop} {w : World} {b : Nat} {ob ob' : Ob} (h : Holds F w b ob) (hl : ObLe ob ob') : Holds F w b ob' := by
  cases ob with
  | cells cs =>
    cases ob' with
    | loop => exact hl.elim
    | map => exact hl.elim
    | cells cs' =>
      obtain ⟨⟨T, sz, hs, hle⟩, hfz, hc⟩ := h
      refine ⟨⟨T, sz, hs, Nat.le_trans ?_ hle⟩, hfz, fun i x hx => hc i x (hl i x hx)⟩
      rcases Nat.lt_or_ge cs.length cs'.length with hlt | hge
      · have := hl cs.length _ (List.getElem?_eq_getElem hlt)
        simp at this
      · exact hge
  | loop s p =>
    cases ob' with
    | cells => exact hl.elim
    | loop s' p' =>
      obtain ⟨rfl, hp⟩ := hl
      obtain ⟨r, h1, h2, h3⟩ := h
      exact ⟨r, h1, hp r h2, h3⟩
    | map => exact hl.elim
  | map es =>
    cases ob' with
    | map es' =>
      obtain rfl : es = es' := hl
      exact h
    | _ => exact hl.elim
theorem Rep.reown (R : Rep X s own a w) (own' : Own) (h : ∀ e, e ∈ own' → ∃ e0, e0 ∈ own ∧ e0.2.1 = e.2.1 ∧ ObLe e0.2.2 e.2.2)
    (hn : (own'.map fun e => e.2.1).Nodup) : Rep X s own' a w := by
  have hh : ∀ b, own'.has b → own.has b := fun b hb => by
    obtain ⟨e, he, rfl⟩ := List.mem_map.1 hb
    obtain ⟨e0, h0, h1, _⟩ := h e he
    exact List.mem_map.2 ⟨e0, h0, h1⟩
  have hF : ∀ b, b < w.heap.size → Fo X.fr own' b → Fo X.fr own b := fun b _ hb => hb.imp id (hh b)
  refine ⟨fun t => (R.tm t).mono (Grow.refl _ _) hF, ⟨fun e he => ?_, hn, fun b hb => R.ok.apart b (hh b hb), R.ok.fr⟩, fun b hb => R.new b (hh b hb), R.size, R.defs.mono (fun b _ h => hh b h) (fun _ _ _ => rfl), R.kept⟩
  obtain ⟨e0, h0, h1, h2⟩ := h e he
  have hd := (R.ok.holds e0 h0).mono (F' := Fo X.fr own') (Grow.refl (fun _ => False) w) (fun _ f => f.elim) (fun f => f) hF
  rw [← h1]
  exact hd.le h2
theorem drop_sub (own : Own) (k : Nat) : (own.drop k).Sublist own := by
  induction own with
  | nil => exact List.Sublist.refl _
  | cons e r ih =>
    obtain ⟨k', b', ob'⟩ := e
    simp only [Own.drop]
    split
    · exact List.sublist_cons_self _ _
    · exact ih.cons₂ _
theorem drop_not {own : Own} {k b : Nat} {ob : Ob} (hf : own.find k b = some ob) (hn : (own.map fun e => e.2.1).Nodup) : b ∉ (own.drop k).map (fun e => e.2.1) := by
  induction own with
  | nil => cases hf
  | cons e r ih =>
    obtain ⟨k', b', ob'⟩ := e
    simp only [Own.find] at hf
    simp only [List.map_cons, List.nodup_cons] at hn
    simp only [Own.drop]
    split at hf
    · rename_i hk
      split at hf
      · rename_i hb
        subst hb
        rw [if_pos hk]
        exact hn.1
      · cases hf
    · rename_i hk
      rw [if_neg hk]
      simp only [List.map_cons, List.mem_cons, not_or]
      refine ⟨fun hb => ?_, ih hf hn.2⟩
      subst hb
      exact hn.1 (List.mem_map.2 ⟨_, Own.find_mem hf, rfl⟩)
theorem put_in {own : Own} {k b : Nat} {ob ob' : Ob} (hf : own.find k b = some ob') : (k, b, ob) ∈ own.put k ob := by
  induction own with
  | nil => cases hf
  | cons e r ih =>
    obtain ⟨k', b', ob2⟩ := e
    simp only [Own.find] at hf
    simp only [Own.put]
    split at hf
    · rename_i hk
      split at hf
      · rename_i hb
        rw [if_pos hk, hb, hk]
        exact List.mem_cons_self ..
      · cases hf
    · rename_i hk
      rw [if_neg hk]
      exact List.mem_cons_of_mem _ (ih hf)
theorem drop_put (own : Own) (k : Nat) (ob : Ob) : ∀ e, e ∈ own.drop k → e ∈ own.put k ob := by
  induction own with
  | nil => intro e h; exact h
  | cons e r ih =>
    obtain ⟨k', b', ob2⟩ := e
    intro e he
    simp only [Own.drop] at he
    simp only [Own.put]
    split at he
    · rename_i hk
      rw [if_pos hk]
      exact List.mem_cons_of_mem _ he
    · rename_i hk
      rw [if_neg hk]
      rcases List.mem_cons.1 he with rfl | he
      · exact List.mem_cons_self ..
      · exact List.mem_cons_of_mem _ (ih e he)
end
end Go.Aw
namespace Go.Aw
structure Calm (D : Nat → Prop) (w w' : World) : Prop where
  sz : w.heap.size ≤ w'.heap.size
  same : ∀ b, b < w.heap.size → ¬ D b → w'.heap[b]? = w.heap[b]?
  cell : ∀ b o v, w.cell? ⟨b, o, none⟩ = some v → w'.cell? ⟨b, o, none⟩ = some v
  shp : ∀ b s, w.shape? b = some s → w'.shape? b = some s
  frz : ∀ b, b < w.heap.size → ∀ i, w'.frozen? ⟨b, i, none⟩ = w.frozen? ⟨b, i, none⟩
  os : w'.os = w.os
  tape : w'.tape = w.tape
  out : w'.output = w.output
theorem Calm.refl (D : Nat → Prop) (w : World) : Calm D w w := ⟨Nat.le_refl _, fun _ _ _ => rfl, fun _ _ _ h => h, fun _ _ h => h, fun _ _ _ => rfl, rfl, rfl, rfl⟩
theorem Calm.grow {D : Nat → Prop} {w w' : World} (h : Calm D w w') : Grow D w w' := ⟨h.sz, h.same, h.shp, h.frz, h.os, h.tape, h.out⟩
theorem Rel.calm {F D : Nat → Prop} {w w' : World} {v : Value} {x : AV} (h : Rel F w v x) (hg : Calm D w w') : Rel F w' v x := by
  induction h with
  | any v => exact .any v
  | int k n => exact .int k n
  | bool b => exact .bool b
  | str l => exact .str l
  | lit v => exact .lit v
  | ptr k b o => exact .ptr k b o
  | row k b o n s cap csz T hn hs hc => exact .row k b o n s cap csz T hn (hg.shp _ _ hs) hc
  | nil => exact .nil
  | slnil => exact .slnil
  | sl0 a cap => exact .sl0 a cap
  | sl b o n cap s xs cv hFb hb hlen hn hs hc ho hr ih =>
    exact .sl b o n cap s xs cv hFb (Nat.lt_of_lt_of_le hb hg.sz) hlen hn hs (fun i x j y hi hj => hg.cell _ _ _ (hc i x j y hi hj)) ho ih
  | ref b o cs cv hFb hb hc ho hr ih =>
    exact .ref b o cs cv hFb (Nat.lt_of_lt_of_le hb hg.sz) (fun j y hj => hg.cell _ _ _ (hc j y hj)) ho ih
  | agg vs cs hlen ho hr ih => exact .agg vs cs hlen ho ih
  | tup vs cs hlen hr ih => exact .tup vs cs hlen ih
  | fn f as bs fs cs hlen hlen' hr hr' ih ih' => exact .fn f as bs fs cs hlen hlen' ih ih'
  | ifc t v x hr ih => exact .ifc t v x ih
  | mapv k b => exact .mapv k b
theorem Holds.calm {F D : Nat → Prop} {w w' : World} {b : Nat} {ob : Ob} (h : Holds F w b ob) (hg : Calm D w w') (hb : ¬ D b) : Holds F w' b ob := by
  have hlt := h.lt
  cases ob with
  | cells cs =>
    obtain ⟨⟨T, sz, h1, h3⟩, h2, h4⟩ := h
    refine ⟨⟨T, sz, hg.shp _ _ h1, h3⟩, fun i => (hg.frz b hlt i).trans (h2 i), fun i x hx => ?_⟩
    obtain ⟨v, hv, ho, hr⟩ := h4 i x hx
    exact ⟨v, hg.cell _ _ _ hv, ho, hr.calm hg⟩
  | loop s p =>
    obtain ⟨r, h1, h2, h3⟩ := h
    exact ⟨r, (hg.same b hlt hb).trans h1, h2, fun t => (h3 t).calm hg⟩
  | map es =>
    obtain ⟨r, c, h1, h2, h3⟩ := h
    exact ⟨r, c, (hg.same b hlt hb).trans h1, h2, fun i e p he hp => ⟨(h3 i e p he hp).1.calm hg, (h3 i e p he hp).2.calm hg⟩⟩
theorem OwnOk.calm {fr D : Nat → Prop} {w w' : World} {own : Own} (h : OwnOk fr w own) (hg : Calm D w w') (hD : ∀ b, D b → ¬ own.has b) : OwnOk fr w' own :=
  ⟨fun e he => (h.holds e he).calm hg (fun hd => hD _ hd (List.mem_map.2 ⟨e, he, rfl⟩)), h.nodup, h.apart, fun b hb => Nat.lt_of_lt_of_le (h.fr b hb) hg.sz⟩
def isC : Obj → Bool
  | .cells .. => true
  | _ => false
theorem putObj_cell {w : World} {r : Nat} {o o' : Obj} (h : w.heap[r]? = some o) (ho : isC o = false) (ho' : isC o' = false) (p : Addr) : (w.putObj r o').cell? p = w.cell? p := by
  have hlt := (Array.getElem?_eq_some_iff.1 h).1
  unfold World.cell?
  by_cases hb : p.block = r
  · subst hb
    rw [World.putObj_heap_same hlt, h]
    cases o <;> cases o' <;> simp_all [isC]
  · rw [World.putObj_heap_other hb]
theorem putObj_calm {w : World} {r : Nat} {o o' : Obj} (h : w.heap[r]? = some o) (ho : isC o = false) (ho' : isC o' = false) : Calm (fun x => x = r) w (w.putObj r o') := by
  have hlt := (Array.getElem?_eq_some_iff.1 h).1
  refine ⟨by simp, fun b _ hb => World.putObj_heap_other hb, fun b i v hv => by rw [putObj_cell h ho ho']; exact hv, fun b q hq => ?_, fun b _ i => ?_, rfl, rfl, rfl⟩
  · unfold World.shape? at hq ⊢
    by_cases hb : b = r
    · subst hb
      rw [h] at hq
      cases o <;> simp_all [isC]
    · rw [World.putObj_heap_other hb]; exact hq
  · unfold World.frozen?
    by_cases hb : b = r
    · subst hb
      simp only [World.putObj_heap_same hlt, h]
      cases o <;> cases o' <;> simp_all [isC]
    · simp only [World.putObj_heap_other hb]
section
variable {X : Cx} {s : Slots} {own : Own} {a : Act} {w : World}
def shut (w : World) : List Nat → World
  | [] => w
  | b :: r => shut (w.putObj b (.deferred none)) r
theorem shut_calm : ∀ (bs : List Nat) (w : World), bs.Nodup → (∀ b, b ∈ bs → w.heap[b]? = some (.deferred (some []))) → Calm (fun x => x ∈ bs) w (shut w bs)
  | [], w, _, _ => Calm.refl _ _
  | b :: r, w, hn, h => by
    simp only [List.nodup_cons] at hn
    have h1 := putObj_calm (o' := .deferred none) (h b (List.mem_cons_self ..)) rfl rfl
    have h2 := shut_calm r (w.putObj b (.deferred none)) hn.2 (fun c hc => by
      have hne : c ≠ b := fun he => hn.1 (by rw [← he]; exact hc)
      rw [World.putObj_heap_other hne]
      exact h c (List.mem_cons_of_mem _ hc))
    refine ⟨Nat.le_trans h1.sz h2.sz, fun c hc hd => ?_, fun c o v hv => h2.cell _ _ _ (h1.cell _ _ _ hv), fun c q hq => h2.shp _ _ (h1.shp _ _ hq), fun c hc i => (h2.frz c (Nat.lt_of_lt_of_le hc h1.sz) i).trans (h1.frz c hc i), h2.os.trans h1.os, h2.tape.trans h1.tape, h2.out.trans h1.out⟩
    simp only [List.mem_cons, not_or] at hd
    exact (h2.same c (Nat.lt_of_lt_of_le hc h1.sz) hd.2).trans (h1.same c hc hd.1)
theorem leaves_marks {F : Fence} {n : Nat} {P : Program} {fn : Func} {tmps : Array Value} {R : Ending → World → Prop} {u : FrameMode} (hu : u ≠ .run) : ∀ (bs : List Nat) (w : World), bs.Nodup → (∀ b, b ∈ bs → w.heap[b]? = some (.deferred (some []))) →
    LeavesIn F n P fn tmps R [] u (shut w bs) → LeavesInM F n P fn tmps R (bs.map markD) u w
  | [], w, _, _, h => h
  | b :: r, w, hn, hb, h => by
    simp only [List.nodup_cons] at hn
    refine ⟨hu, .inl ⟨b, _, rfl, run_takeDeferred (hb b (List.mem_cons_self ..)), ?_⟩⟩
    exact leaves_marks hu r _ hn.2 (fun c hc => by
      have hne : c ≠ b := fun he => hn.1 (by rw [← he]; exact hc)
      rw [World.putObj_heap_other hne]
      exact hb c (List.mem_cons_of_mem _ hc)) h
theorem Rep.shut (R : Rep X s own a w) {bs : List Nat} (h2 : bs.Nodup) (h3 : ∀ b, b ∈ bs → ¬ own.has b ∧ ¬ X.fr b ∧ X.w0.heap.size ≤ b ∧ w.heap[b]? = some (.deferred (some []))) (hd : X.defs = []) :
    Rep X s own { a with defers := [] } (Aw.shut w bs) := by
  have hc := shut_calm bs w h2 (fun b hb => (h3 b hb).2.2.2)
  refine ⟨fun t => (R.tm t).calm hc, R.ok.calm hc (fun b hb => (h3 b hb).1), R.new, R.size, ⟨fun _ => hd.symm, [], by simp [hd], List.nodup_nil, by simp⟩, ?_⟩
  have hk := R.kept
  refine ⟨Nat.le_trans hk.sz hc.sz, fun x hx hn => (hc.same x (Nat.lt_of_lt_of_le hx hk.sz) (fun hd => ?_)).trans (hk.same x hx hn), fun x q hq => hc.shp _ _ (hk.shp _ _ hq), fun x hx i => (hc.frz x (Nat.lt_of_lt_of_le hx hk.sz) i).trans (hk.frz x hx i), hc.os.trans hk.os, hc.tape.trans hk.tape, hc.out.trans hk.out⟩
  have := (h3 x hd).2.2.1
  omega
end
end Go.Aw
namespace Go.Aw
def elemsOf (own : Own) (sz : Nat) (y : AV) (K : Nat → List AV → Prop) : Prop :=
  match y with
  | .nil => K 0 []
  | .sl ys => (∀ x, x ∈ ys → x.cells.length = sz) ∧ K ys.length (ys.flatMap AV.cells)
  | .row k b o m z => z = sz ∧ match own.find k b with
    | some (.cells cs) => o + m * sz ≤ cs.length ∧ K m ((cs.drop o).take (m * sz))
    | _ => False
  | _ => False
def ElemsV (w : World) (y : Value) (m : Nat) (vs : List Value) : Prop :=
  ((y = .slice none 0 0 ∨ ∃ a cap, y = .slice (some a) 0 cap) ∧ m = 0 ∧ vs = []) ∨ ∃ b o cap, y = .slice (some ⟨b, o, none⟩) m cap ∧ ∀ (j : Nat) (v : Value), vs[j]? = some v → w.cell? ⟨b, o + j, none⟩ = some v
theorem flat_get {sz : Nat} : ∀ (ys : List AV) (_ : ∀ x, x ∈ ys → x.cells.length = sz) (_ : 0 < sz), (ys.flatMap AV.cells).length = ys.length * sz ∧
    ∀ (i : Nat) (y : AV), (ys.flatMap AV.cells)[i]? = some y → ∃ x, ys[i / sz]? = some x ∧ x.cells[i % sz]? = some y
  | [], _, _ => ⟨by simp, fun i y h => by simp at h⟩
  | x :: r, hs, hz => by
    obtain ⟨h1, h2⟩ := flat_get r (fun y hy => hs y (List.mem_cons_of_mem _ hy)) hz
    have hx := hs x (List.mem_cons_self ..)
    refine ⟨by simp [List.flatMap_cons, h1, hx, Nat.add_mul]; omega, fun i y h => ?_⟩
    rw [List.flatMap_cons] at h
    by_cases hi : i < sz
    · rw [List.getElem?_append_left (by omega)] at h
      exact ⟨x, by simp [Nat.div_eq_of_lt hi], by rw [Nat.mod_eq_of_lt hi]; exact h⟩
    · rw [List.getElem?_append_right (by omega), hx] at h
      obtain ⟨z, hz1, hz2⟩ := h2 _ _ h
      have hd : i / sz = (i - sz) / sz + 1 := by
        rw [show i = (i - sz) + sz by omega, Nat.add_div_right _ hz]
        simp
      have hm : i % sz = (i - sz) % sz := by
        conv => lhs; rw [show i = (i - sz) + sz by omega]
        rw [Nat.add_mod_right]
      exact ⟨z, by rw [hd]; simpa using hz1, by rw [hm]; exact hz2⟩
section
variable {X : Cx} {s : Slots} {own : Own} {a : Act} {w : World}
theorem elems_vals (R : Rep X s own a w) {v : Value} {y : AV} (hv : Rel (Fo X.fr own) w v y) {sz : Nat} (hz : 0 < sz) {K : Nat → List AV → Prop} (h : elemsOf own sz y K) :
    ∃ m cells vs, K m cells ∧ ElemsV w v m vs ∧ vs.length = m * sz ∧ cells.length = m * sz ∧ RelC (Fo X.fr own) w vs.toArray cells := by
  cases hv with
  | nil => exact ⟨0, [], [], h, .inl ⟨.inl rfl, rfl, rfl⟩, by simp, by simp, by constructor <;> simp⟩
  | slnil => exact ⟨0, [], [], by simpa [elemsOf] using h, .inl ⟨.inl rfl, rfl, rfl⟩, by simp, by simp, by constructor <;> simp⟩
  | sl0 a0 cap => exact ⟨0, [], [], by simpa [elemsOf] using h, .inl ⟨.inr ⟨a0, cap, rfl⟩, rfl, rfl⟩, by simp, by simp, by constructor <;> simp⟩
  | sl b o n cap s' ys cv hF hb hlen hn hs hc ho hr =>
    obtain ⟨hsz, hK⟩ := h
    obtain ⟨hl, hg⟩ := flat_get ys hsz hz
    have key : ∀ (i : Nat) (y : AV), (ys.flatMap AV.cells)[i]? = some y → w.cell? ⟨b, o + i, none⟩ = some (cv i) ∧ (cv i).oneCell' = true ∧ Rel (Fo X.fr own) w (cv i) y := by
      intro i y hy
      obtain ⟨x, hx1, hx2⟩ := hg i y hy
      have hss : s' = sz := by rw [← hsz x (List.mem_of_getElem? hx1)]; exact (hs _ _ hx1).symm
      have he : i / sz * s' + i % sz = i := by rw [hss]; exact Nat.div_add_mod' i sz
      have h1 := hc _ _ _ _ hx1 hx2
      have h2 := ho _ _ _ _ hx1 hx2
      have h3 := hr _ _ _ _ hx1 hx2
      rw [Nat.add_assoc, he] at h1
      rw [he] at h2 h3
      exact ⟨h1, h2, h3⟩
    have hget : ∀ (j : Nat) (v : Value), ((List.range (ys.length * sz)).map cv)[j]? = some v → j < ys.length * sz ∧ v = cv j := fun j v hj => by
      have hlt : j < ys.length * sz := by have := (List.getElem?_eq_some_iff.1 hj).1; simpa using this
      simp [hlt] at hj
      exact ⟨hlt, hj.symm⟩
    refine ⟨_, _, (List.range (ys.length * sz)).map cv, hK, .inr ⟨b, o, cap, by rw [hlen], fun j v hj => ?_⟩, by simp, hl, ⟨by simp [hl], fun j v hj => ?_, fun j v y hj hy => ?_⟩⟩
    · obtain ⟨hlt, rfl⟩ := hget j v hj
      exact (key j _ (List.getElem?_eq_getElem (by omega))).1
    · obtain ⟨hlt, rfl⟩ := hget j v (by simpa using hj)
      exact (key j _ (List.getElem?_eq_getElem (by omega))).2.1
    · obtain ⟨hlt, rfl⟩ := hget j v (by simpa using hj)
      exact (key j _ hy).2.2
  | row k b o n z cap csz T hn hs hc =>
    obtain ⟨rfl, h⟩ := h
    cases hf : own.find k b with
    | none => simp [hf] at h
    | some ob =>
      obtain ⟨cs⟩ | ⟨_, _⟩ | ⟨_⟩ := ob
      rotate_left
      · simp [hf] at h
      · simp [hf] at h
      simp only [hf] at h
      obtain ⟨hle, hK⟩ := h
      obtain ⟨_, _, h4⟩ := R.ok.holds _ (Own.find_mem hf)
      obtain ⟨vs, hvl, hvc, hvr⟩ := vals_of (c := fun i => w.cell? ⟨b, i, none⟩) h4 o (n * z) hle
      exact ⟨_, _, vs, hK, .inr ⟨b, o, cap, rfl, fun j v hj => (hvc j v hj).1⟩, hvl, by simp; omega, ⟨by simp; omega, fun j v hj => (hvc j v (by simpa using hj)).2, fun j v y hj hy => hvr j v y (by simpa using hj) hy⟩⟩
  | _ => simp [elemsOf] at h
theorem firstCells_elems {P : Program} {y : Value} {m sz : Nat} {vs : List Value} (h : ElemsV w y m vs) (hl : vs.length = m * sz) : (Builtin.firstCells sz m y).run P w = .ok vs.toArray w ∧ (Builtin.lenOf y).run P w = .ok m w := by
  rcases h with ⟨rfl | ⟨a0, cap, rfl⟩, rfl, rfl⟩ | ⟨b, o, cap, rfl, hc⟩
  · exact ⟨run_firstCells_none w _ _ _ _, rfl⟩
  · exact ⟨by simp [Builtin.firstCells, loadCells, loadCellsFrom], rfl⟩
  · exact ⟨run_firstCells_some w sz m _ m cap vs hl (fun j v hj => by rw [add_at]; exact hc j v hj), rfl⟩
theorem ElemsV.drew {y : Value} {m : Nat} {vs : List Value} (h : ElemsV w y m vs) : ElemsV w.drew y m vs := h
theorem run_room {P : Program} (t ty e : TypeId) (i : TypeInfo) (ht : P.underlying t = some (.slice e)) (hi : P.info? e = some i) (b n cap m : Nat) (y : Value) (vs : List Value) (hv : ElemsV w y m vs) (hl : vs.length = m * i.size)
    (hroom : n + m ≤ cap) (hc : ∀ j, j < vs.length → (w.cell? ⟨b, n * i.size + j, none⟩).isSome = true) (hf : ∀ j, j < vs.length → w.frozen? ⟨b, n * i.size + j, none⟩ = false) (h1 : ∀ v ∈ vs, v.oneCell' = true) :
    (Builtin.append_ #[t, t] ty #[.slice (some ⟨b, 0, none⟩) n cap, y]).run P w = .ok (.slice (some ⟨b, 0, none⟩) (n + m) cap) (w.setCells b (n * i.size) vs) := by
  obtain ⟨h2, h3⟩ := firstCells_elems (P := P) hv hl
  have hst := run_storeCells_cells (P := P) b (n * i.size) vs 0 w (by simpa using hc) (by simpa using hf) h1
  simp only [Nat.add_zero] at hst
  simp [Builtin.append_, run_underlying ht, run_size hi, h2, h3, hroom, add_at, hst]
theorem run_grow {P : Program} (t ty e : TypeId) (i : TypeInfo) (z : Value) (ht : P.underlying t = some (.slice e)) (hi : P.info? e = some i) (hz : i.zero = some z) (x y : Value) (n cap m : Nat) (os vs : List Value)
    (hx : (x = .slice none 0 0 ∧ n = 0 ∧ cap = 0 ∧ os = []) ∨ ∃ b, x = .slice (some ⟨b, 0, none⟩) n cap ∧ ∀ (j : Nat) (v : Value), os[j]? = some v → w.cell? ⟨b, j, none⟩ = some v) (ho : os.length = n * i.size)
    (hv : ElemsV w y m vs) (hl : vs.length = m * i.size) (hroom : cap < n + m) (hfit : (n + m) * i.bytes ≤ 140737488355328) (h63 : n + m ≤ 9223372036854775807) :
    (Builtin.append_ #[t, t] ty #[x, y]).run P w = .ok (.slice (some ⟨w.heap.size, 0, none⟩) (n + m) (grownCap w (n + m) cap e))
      (w.drew.alloc (.cells ((os ++ vs).toArray ++ Builtin.zeroCells z.cells (grownCap w (n + m) cap e - (n + m))) e)) := by
  obtain ⟨h2, h3⟩ := firstCells_elems (P := P) hv hl
  obtain ⟨h2', _⟩ := firstCells_elems (P := P) hv.drew hl
  have hr : ¬ (n + m ≤ cap) := by omega
  have h63' : ¬ (9223372036854775807 < ((n : Int) + (m : Int))) := by omega
  have hcap := growslice_fits (need := n + m) (old := cap) (bytes := i.bytes) hroom hfit
  have hcap' : ¬ (281474976710656 < Builtin.nextslicecap (n + m) cap * i.bytes) := by omega
  have happ : ∀ c : Array Value, (os.toArray ++ (vs.toArray ++ c)) = (os ++ vs).toArray ++ c := fun c => by
    apply Array.ext'
    simp
  rcases hx with ⟨rfl, rfl, rfl, rfl⟩ | ⟨b, rfl, hb⟩
  · simp only [Nat.zero_add] at *
    have hm0 : ¬ m = 0 := by omega
    have hm1 : ¬ (9223372036854775807 < (m : Int)) := by omega
    simp [Builtin.append_, hm0, hm1, run_underlying ht, run_size hi, h3, hr, run_tinfo hi, zeroValue, hz, h63', hcap', Question.forced, run_firstCells_none, h2', newRow, grownCap]
  · have hfo := run_firstCells_some (P := P) w.drew i.size n ⟨b, 0, none⟩ n cap os ho (fun j v hj => by rw [add_at, Nat.zero_add]; exact hb j v hj)
    simp [Builtin.append_, run_underlying ht, run_size hi, h3, hr, run_tinfo hi, zeroValue, hz, h63', hcap', Question.forced, hfo, h2', newRow, grownCap, happ]
def appA (own : Own) (d : Option Nat) (sz bytes : Nat) (x y : AV) (s : Slots) (K : Slots → Own → Prop) : Prop :=
  match x with
  | .nil => elemsOf own sz y fun m cells => m * bytes ≤ 140737488355328 ∧ m ≤ 140737488355328 ∧ (m = 0 → K (putS d .nil s) own) ∧ (0 < m → ∀ b, K (putS d (.row (d.getD 0) b 0 m sz) s) ((d.getD 0, b, .cells cells) :: own))
  | .row k b o n z => o = 0 ∧ z = sz ∧ match own.find k b with
    | some (.cells cs) => elemsOf own sz y fun m cells => n * sz ≤ cs.length ∧ (n + m) * bytes ≤ 140737488355328 ∧ n + m ≤ 140737488355328 ∧
        ∀ b', K (putS d (.row (d.getD 0) b' 0 (n + m) sz) s) ((d.getD 0, b', .cells (cs.take (n * sz) ++ cells)) :: own.drop k)
    | _ => False
  | _ => False
theorem app_sound (R : Rep X s own a w) (d : Option Nat) (hd : d.all (· < X.n) = true) (t ty e : TypeId) (i : TypeInfo) (z : Value) (ht : X.P.underlying t = some (.slice e)) (hi : X.P.info? e = some i) (hz : i.zero = some z) (hzs : z.cells.size = i.size) (hpos : 0 < i.size)
    {v u : Value} {x y : AV} (hx : Rel (Fo X.fr own) w v x) (hy : Rel (Fo X.fr own) w u y) {K : Slots → Own → Prop} (h : appA own d i.size i.bytes x y s K) :
    ∃ r w', (Builtin.append_ #[t, t] ty #[v, u]).run X.P w = .ok r w' ∧ ∃ s' own', K s' own' ∧ Rep X s' own' (a.put d r) w' := by
  have fresh : ∀ (s0 : Slots) (own0 : Own) (W : World), Rep X s0 own0 a W → ∀ (cs : List AV) (vs : List Value) (m cap : Nat), RelC (Fo X.fr own0) W vs.toArray cs → vs.length = m * i.size → m ≤ cap →
      Rep X (putS d (.row (d.getD 0) W.heap.size 0 m i.size) s0) ((d.getD 0, W.heap.size, .cells cs) :: own0) (a.put d (.slice (some ⟨W.heap.size, 0, none⟩) m cap)) (W.alloc (.cells (vs.toArray ++ Builtin.zeroCells z.cells (cap - m)) e)) := by
    intro s0 own0 W R0 cs vs m cap hrc hvl hmc
    have hl := hrc.len
    simp at hl
    have hR := R0.alloc (d.getD 0) (vs.toArray ++ Builtin.zeroCells z.cells (cap - m)) e cs (by simp; omega) (fun j x hx => by
      have hlt : j < vs.toArray.size := by have := (List.getElem?_eq_some_iff.1 hx).1; simp; omega
      refine ⟨vs.toArray[j], by rw [Array.getElem?_append_left hlt]; exact Array.getElem?_eq_getElem hlt, hrc.one j _ (Array.getElem?_eq_getElem hlt), hrc.rel j _ _ (Array.getElem?_eq_getElem hlt) hx⟩)
    refine hR.put d hd (.row _ _ _ _ _ cap ((vs.toArray ++ Builtin.zeroCells z.cells (cap - m)).size) e hmc ?_ ?_)
    · have : (W.alloc (.cells (vs.toArray ++ Builtin.zeroCells z.cells (cap - m)) e)).heap[W.heap.size]? = some (.cells (vs.toArray ++ Builtin.zeroCells z.cells (cap - m)) e) := by
        show (W.heap.push _)[W.heap.size]? = _
        simp
      simp only [World.shape?, this]
    · simp only [Array.size_append, List.size_toArray, hvl, size_zeroCells, hzs, ← Nat.add_mul]
      rw [show m + (cap - m) = cap by omega]
      omega
  have hdrew : Grow (fun _ => False) w w.drew := ⟨Nat.le_refl _, fun _ _ _ => rfl, fun _ _ h => h, fun _ _ _ => rfl, rfl, rfl, rfl⟩
  cases hx with
  | nil =>
    simp only [appA] at h
    obtain ⟨m, cells, vs, ⟨hb, hb', h0, h1⟩, hev, hvl, hcl, hrc⟩ := elems_vals R hy hpos h
    by_cases hm : m = 0
    · subst hm
      obtain ⟨h2, h3⟩ := firstCells_elems (P := X.P) hev hvl
      refine ⟨.slice none 0 0, w, ?_, _, _, h0 rfl, R.put d hd .nil⟩
      simp [Builtin.append_, run_underlying ht, run_size hi, h2, h3]
    · have hr := run_grow (w := w) t ty e i z ht hi hz (.slice none 0 0) u 0 0 m [] vs (.inl ⟨rfl, rfl, rfl, rfl⟩) (by simp) hev hvl (by omega) (by simpa using hb) (by omega)
      simp only [Nat.zero_add, List.nil_append] at hr
      refine ⟨_, _, hr, _, _, h1 (by omega) w.heap.size, ?_⟩
      have hR1 := R.grow hdrew
      have hrc1 : RelC (Fo X.fr own) w.drew vs.toArray cells := ⟨hrc.len, hrc.one, fun j v y hj hy => (hrc.rel j v y hj hy).mono (hdrew.mono fun _ _ f => f.elim) (fun _ _ h => h)⟩
      exact fresh s own w.drew hR1 cells vs m _ hrc1 hvl (grownCap_ge w m 0 e)
  | row k b o n zz cap csz T hn hs hc =>
    simp only [appA] at h
    obtain ⟨rfl, rfl, h⟩ := h
    cases hf : own.find k b with
    | none => simp [hf] at h
    | some ob =>
      obtain ⟨cs⟩ | ⟨_, _⟩ | ⟨_⟩ := ob
      rotate_left
      · simp [hf] at h
      · simp [hf] at h
      simp only [hf] at h
      obtain ⟨m, cells, vs, ⟨hle, hb, hb', hK⟩, hev, hvl, hcl, hrc⟩ := elems_vals R hy hpos h
      have hm := Own.find_mem hf
      obtain ⟨⟨T', sz', hs', hl'⟩, hfz, hcs⟩ := R.ok.holds _ hm
      by_cases hroom : n + m ≤ cap
      · have hfit : n * i.size + vs.length ≤ csz := by
          have : (n + m) * i.size ≤ cap * i.size := Nat.mul_le_mul_right _ hroom
          rw [Nat.add_mul] at this
          omega
        obtain ⟨h1, h2, hR⟩ := R.store hf hrc hle (fun T2 sz2 h2 _ => by rw [hs] at h2; cases h2; rw [hcl]; omega)
        have hrun := run_room (w := w) t ty e i ht hi b n cap m u vs hev hvl hroom (by simpa using h1) (by simpa using h2) (fun v hv => by
          obtain ⟨j, hj⟩ := List.getElem?_of_mem hv
          exact hrc.one j v (by simpa using hj))
        refine ⟨_, _, hrun, _, _, hK b, ?_⟩
        refine (Rep.reown hR _ ?_ ?_).put d hd (.row _ _ _ _ _ cap csz T hroom (by rw [shape_setCells]; exact hs) hc)
        · intro e' he'
          rcases List.mem_cons.1 he' with rfl | he'
          · refine ⟨(k, b, .cells (cs.take (n * i.size) ++ cells ++ cs.drop (n * i.size + cells.length))), put_in hf, rfl, ?_⟩
            intro j x hx
            rw [List.getElem?_append_left (by have := (List.getElem?_eq_some_iff.1 hx).1; exact this)]
            exact hx
          · refine ⟨e', drop_put _ _ _ _ he', rfl, ?_⟩
            exact ObLe.refl _
        · simp only [List.map_cons, List.nodup_cons]
          exact ⟨drop_not hf R.ok.nodup, ((drop_sub own k).map _).nodup R.ok.nodup⟩
      · obtain ⟨os, hol, hoc, hor⟩ := vals_of (c := fun i => w.cell? ⟨b, i, none⟩) hcs 0 (n * i.size) (by omega)
        have hrun := run_grow (w := w) t ty e i z ht hi hz (.slice (some ⟨b, 0, none⟩) n cap) u n cap m os vs (.inr ⟨b, rfl, fun j v hj => by have := (hoc j v hj).1; rwa [Nat.zero_add] at this⟩) hol hev hvl (by omega) hb (by omega)
        refine ⟨_, _, hrun, _, _, hK w.heap.size, ?_⟩
        have hR1 := R.grow hdrew
        have hR2 := hR1.reown (own.drop k) (fun e' he' => ⟨e', (drop_sub own k).subset he', rfl, ObLe.refl _⟩) (((drop_sub own k).map _).nodup R.ok.nodup)
        have hFd : ∀ x, x < w.heap.size → Fo X.fr (own.drop k) x → Fo X.fr own x := fun x _ hx => hx.imp id (fun h => ((drop_sub own k).map _).subset h)
        have hrc1 : RelC (Fo X.fr (own.drop k)) w.drew (os ++ vs).toArray (cs.take (n * i.size) ++ cells) := by
          refine ⟨by simp [hol, hvl, hcl]; omega, fun j v hj => ?_, fun j v y hj hy => ?_⟩
          · simp only [List.getElem?_toArray] at hj
            by_cases hlt : j < os.length
            · rw [List.getElem?_append_left hlt] at hj
              exact (hoc j v hj).2
            · rw [List.getElem?_append_right (by omega)] at hj
              exact hrc.one _ v (by simpa using hj)
          · simp only [List.getElem?_toArray] at hj
            refine Rel.mono (F := Fo X.fr own) (w := w) ?_ (hdrew.mono fun _ _ f => f.elim) hFd
            by_cases hlt : j < os.length
            · rw [List.getElem?_append_left hlt] at hj
              rw [List.getElem?_append_left (by simp; omega)] at hy
              exact hor j v y hj (by simpa using hy)
            · rw [List.getElem?_append_right (by omega)] at hj
              rw [List.getElem?_append_right (by simp; omega)] at hy
              simp only [List.length_take, Nat.min_eq_left hle] at hy
              rw [hol] at hj
              exact hrc.rel _ v y (by simpa using hj) hy
        exact fresh s _ w.drew hR2 _ (os ++ vs) (n + m) _ hrc1 (by simp [hol, hvl, Nat.add_mul]) (grownCap_ge w (n + m) cap e)
  | _ => simp [appA] at h
end
end Go.Aw
namespace Go.Aw
inductive Res where
  | val (x : AV)
  | pan (c : List PanicEntry)
def okF (P : Program) (f : FuncId) : Bool := (P.funcs[f]?).any (fun fn => fn.body.isSome && fn.name != "runtime.NumGoroutine")
def EndsA (fr : Nat → Prop) (own : Own) (R : Res → Own → Prop) (w : World) (e : Ending) (w' : World) : Prop :=
  ∃ r own', R r own' ∧ (match r with | .val x => ∃ v, e = .returned v ∧ Rel (Fo fr own') w' v x | .pan c => e = .panicked c) ∧ OwnOk fr w' own' ∧ Grow own.has w w' ∧
      (∀ b, own'.has b → own.has b ∨ w.heap.size ≤ b)
theorem EndsA.mono {fr : Nat → Prop} {own : Own} {R R' : Res → Own → Prop} {w w' : World} {e : Ending} (h : EndsA fr own R w e w') (hr : ∀ r o, R r o → R' r o) : EndsA fr own R' w e w' :=
  let ⟨r, o, h4, h5⟩ := h; ⟨r, o, hr _ _ h4, h5⟩
def CallG (C : Array Value → World → (Ending → World → Prop) → Prop) (fr : Nat → Prop) (args : List AV) (own : Own) (R : Res → Own → Prop) : Prop :=
  ∀ (vs : Array Value) (w : World), vs.size = args.length → (∀ (j : Nat) (v : Value) (y : AV), vs[j]? = some v → args[j]? = some y → Rel (Fo fr own) w v y) → OwnOk fr w own → C vs w (EndsA fr own R w)
abbrev CallA (P : Program) (fr : Nat → Prop) (f : FuncId) (args : List AV) (own : Own) (R : Res → Own → Prop) : Prop := CallG (Calls P f) fr args own R
theorem CallA.mono {P : Program} {fr : Nat → Prop} {f : FuncId} {args : List AV} {own : Own} {R R' : Res → Own → Prop} (h : CallA P fr f args own R) (hr : ∀ r o, R r o → R' r o) : CallA P fr f args own R' :=
  fun vs w h1 h2 h3 => (h vs w h1 h2 h3).mono fun _ _ h => h.mono hr
def yieldsC (P : Program) (l : Nat) (vs : Array Value) (w : World) (R : Ending → World → Prop) : Prop :=
  ∃ f tmps assign body, (Instr.yield l vs).run P w = .ok (.round l f tmps assign body) w ∧ RoundIn Fence.wide 0 P l f tmps assign body w R
theorem yieldsC.mono {P : Program} {l : Nat} {vs : Array Value} {w : World} {R R' : Ending → World → Prop} (h : yieldsC P l vs w R) (hr : ∀ e w, R e w → R' e w) : yieldsC P l vs w R' := by
  obtain ⟨f, tmps, as, bd, h1, h2, h3⟩ := h
  refine ⟨f, tmps, as, bd, h1, h2, fun c cs hr' => ?_⟩
  obtain ⟨e, w', h4, h5⟩ := h3 c cs hr'
  exact ⟨e, w', hr _ _ h4, h5⟩
def ValA (P : Program) (fr : Nat → Prop) (v : AV) (args : List AV) (own : Own) (R : Res → Own → Prop) : Prop :=
  match v with
  | .fn (.func f) first cap => okF P f = true ∧ CallA P fr f (first ++ args ++ cap) own R
  | .fn (.yield l) [] [] => CallG (yieldsC P l) fr args own R
  | _ => False
def FnC (P : Program) (f : FuncId) (args : List AV) (own : Own) (R : Res → Own → Prop) : Prop := ∀ fr : Nat → Prop, CallA P fr f args own R
def guardP (g : Option (Nat × Bool)) (s : Slots) (yes no : Prop) : Prop :=
  match g with
  | none => yes
  | some (t, b) => match s.get t with
    | .bool b' => if b' = b then yes else no
    | .tup [] => no
    | _ => False
def callK (K : Slots → Own → Prop) (Q : Exit → Slots → Own → Prop) (d : Option Nat) (s : Slots) : Res → Own → Prop
  | .val x, own => K (putS d x s) own
  | .pan c, own => Q (.panic c) s own
def opA (X : Cx) (Q : Exit → Slots → Own → Prop) (d : Option Nat) (op : AOp) (s : Slots) (own : Own) (K : Slots → Own → Prop) : Prop :=
  match op with
  | .alloc zs => ∀ b, K (putS d (.ptr (d.getD 0) b 0) s) ((d.getD 0, b, .cells zs) :: own)
  | .box x => (x.ev s).stor = true ∧ ∀ b, K (putS d (.ptr (d.getD 0) b 0) s) ((d.getD 0, b, .cells (x.ev s).cells) :: own)
  | .mkrow sz n zs ps => match fillA (List.replicate n zs).flatten (ps.map fun p => (p.1, p.2.1, p.2.2.ev s)) with
    | some cs => ∀ b, K (putS d (.row (d.getD 0) b 0 n sz) s) ((d.getD 0, b, .cells cs) :: own)
    | _ => False
  | .store sz p x => match p.ev s with
    | .ptr k b o => match own.find k b with
      | some (.cells cs) => (x.ev s).stor = true ∧ (x.ev s).cells.length = sz ∧ o + sz ≤ cs.length ∧ K (putS d (.tup []) s) (own.put k (.cells (cs.take o ++ (x.ev s).cells ++ cs.drop (o + sz))))
      | _ => False
    | _ => False
  | .app sz bytes x y => 0 < sz ∧ appA own d sz bytes (x.ev s) (y.ev s) s K
  | .callF f args => CallA X.P X.fr f (args.map (·.ev s)) own (callK K Q d s)
  | .callV v args => ValA X.P X.fr (v.ev s) (args.map (·.ev s)) own (callK K Q d s)
  | .mkmap => ∀ b, K (putS d (.mapv (d.getD 0) b) s) ((d.getD 0, b, .map []) :: own)
  | .mput kk x i v => match x.ev s with
    | .mapv k b => match own.find k b with
      | some (.map es) => match mfindI kk (i.ev s) es 0 with
        | some none => K (putS d (.tup []) s) (own.put k (.map (es ++ [(i.ev s, v.ev s)])))
        | some (some j) => K (putS d (.tup []) s) (own.put k (.map (es.set j (i.ev s, v.ev s))))
        | none => False
      | _ => False
    | _ => False
  | .mkslice sz bytes zs n => match n.ev s with
    | .int _ m => 0 ≤ m ∧ bytes * m ≤ 281474976710656 ∧ m ≤ 9223372036854775807 ∧ ∀ b, K (putS d (.row (d.getD 0) b 0 m.toNat sz) s) ((d.getD 0, b, .cells (List.replicate m.toNat zs).flatten) :: own)
    | _ => False
  | .s2b x => match x.ev s with
    | .str l => K (putS d (.sl (l.map fun c => .int .u8 c.toNat)) s) own
    | _ => False
  | .pan x => match x.ev s with
    | .ifc t y => match cval y with
      | some u => Q (.panic [{ v := .iface t u, recovered := false }]) s own
      | none => False
    | _ => False
  | op => op.step s own fun x => K (putS d x s) own
def runA (X : Cx) (Q : Exit → Slots → Own → Prop) (K : Slots → Own → Prop) : List AO → Slots → Own → Prop
  | [], s, own => K s own
  | o :: r, s, own => guardP o.g s (opA X Q o.d o.op s own (runA X Q K r)) (runA X Q K r (putS o.d (.tup []) s) own)
def liftQ (X : Cx) (Q : Exit → Slots → Own → Prop) : Exit → Act → World → Prop := fun e a w => ∃ s own, Q e s own ∧ Rep X s own a w
section
variable {X : Cx} {s : Slots} {own : Own} {a : Act} {w : World}
theorem rel_undef (F : Nat → Prop) (w : World) : Rel F w undef (.tup []) := .tup _ _ rfl (by simp)
theorem guard_sound (R : Rep X s own a w) (ops : Array Oper) (o : Oper) (n : Nat) (ao : AO) (hc : compO X.P n ops o = some ao) {yes no : Prop} (h : guardP ao.g s yes no) :
    (Region.wanted o (yielded ops a.tmps) = true ∧ yes) ∨ (Region.wanted o (yielded ops a.tmps) = false ∧ no) := by
  unfold compO at hc
  split at hc
  · cases hg : o.guard with
    | none =>
      simp only [hg] at hc
      cases hcp : comp X.P o with
      | none => simp [hcp] at hc
      | some op =>
        simp only [hcp, Option.map_some, Option.some.injEq] at hc
        subst hc
        exact .inl ⟨by simp [Region.wanted, hg], h⟩
    | some jb =>
      obtain ⟨j, want⟩ := jb
      simp only [hg] at hc
      cases hd : (ops[j]?).bind (·.dst) with
      | none => simp [hd] at hc
      | some t =>
        cases hcp : comp X.P o with
        | none => simp [hd, hcp] at hc
        | some op =>
          simp only [hd, hcp, Option.map_some, Option.bind_some, Option.some.injEq] at hc
          subst hc
          simp only [guardP] at h
          have ht := R.tm t
          have hy : yielded ops a.tmps j = match a.tmps[t]? with | some (.bool b) => some b | _ => none := by
            unfold yielded
            rw [hd]
            rfl
          cases hs : s.get t with
          | bool b' =>
            rw [hs] at ht
            simp only [hs] at h
            have hb : a.tmps[t]? = some (.bool b') := by
              cases hv : a.tmps[t]? with
              | none =>
                rw [Array.getD_eq_getD_getElem?, hv] at ht
                cases ht
              | some v =>
                rw [Array.getD_eq_getD_getElem?, hv] at ht
                simp at ht
                cases ht
                rfl
            rw [hb] at hy
            simp only [Region.wanted, hg, hy]
            by_cases hbb : b' = want
            · rw [if_pos hbb] at h
              exact .inl ⟨by simp [hbb], h⟩
            · rw [if_neg hbb] at h
              exact .inr ⟨by simp [hbb], h⟩
          | tup vs =>
            cases vs with
            | cons _ _ => simp [hs] at h
            | nil =>
              rw [hs] at ht
              simp only [hs] at h
              have : yielded ops a.tmps j = none := by
                rw [hy]
                cases hv : a.tmps[t]? with
                | none => rfl
                | some v =>
                  rw [Array.getD_eq_getD_getElem?, hv] at ht
                  simp at ht
                  cases ht
                  rfl
              exact .inr ⟨by simp [Region.wanted, hg, this], h⟩
          | _ => simp [hs] at h
  · cases hc
theorem compO_op {P : Program} {n : Nat} {ops : Array Oper} {o : Oper} {ao : AO} (hc : compO P n ops o = some ao) : comp P o = some ao.op ∧ ao.d = o.dst ∧ o.dst.all (· < n) = true := by
  unfold compO at hc
  split at hc
  · rename_i hall
    cases hg : o.guard with
    | none =>
      simp only [hg] at hc
      cases hcp : comp P o with
      | none => simp [hcp] at hc
      | some op =>
        simp only [hcp, Option.map_some, Option.some.injEq] at hc
        subst hc
        exact ⟨rfl, rfl, hall⟩
    | some jb =>
      obtain ⟨j, want⟩ := jb
      simp only [hg] at hc
      cases hd : (ops[j]?).bind (·.dst) with
      | none => simp [hd] at hc
      | some t =>
        cases hcp : comp P o with
        | none => simp [hd, hcp] at hc
        | some op =>
          simp only [hd, hcp, Option.map_some, Option.bind_some, Option.some.injEq] at hc
          subst hc
          exact ⟨rfl, rfl, hall⟩
  · cases hc
theorem zeroRow (z : Array Value) (n : Nat) (hz : 0 < z.size) : ((Array.range (n * z.size)).map (z[· % z.size]!)).toList = (List.replicate n z.toList).flatten := by
  apply List.ext_getElem?
  intro i
  rw [Array.toList_map, List.getElem?_map]
  have hlen : (List.replicate n z.toList).flatten.length = n * z.size := by simp
  by_cases hi : i < n * z.size
  · have h1 : (List.replicate n z.toList).flatten[i]? = some (z[i % z.size]'(Nat.mod_lt _ hz)) := by
      clear hlen
      induction n generalizing i with
      | zero => simp at hi
      | succ n ih =>
        rw [List.replicate_succ, List.flatten_cons]
        by_cases hlt : i < z.size
        · rw [List.getElem?_append_left (by simpa using hlt)]
          simp [Nat.mod_eq_of_lt hlt, hlt]
        · rw [List.getElem?_append_right (by simpa using Nat.le_of_not_lt hlt)]
          have := ih (i - z.size) (by rw [Nat.add_mul] at hi; omega)
          simp only [Array.length_toList]
          rw [this]
          congr 2
          exact (Nat.mod_eq_sub_mod (Nat.le_of_not_lt hlt)).symm
    rw [h1]
    simp only [Array.toList_range, List.getElem?_range hi, Option.map_some]
    congr 1
    rw [getElem!_pos z (i % z.size) (Nat.mod_lt _ hz)]
  · rw [List.getElem?_eq_none (by simp; omega), List.getElem?_eq_none (by rw [hlen]; omega)]
    rfl
def wideR (r : Option Nat) : Fence := { Fence.wide with round := r }
theorem callsIn_wideR {r : Option Nat} {n : Nat} {P : Program} {f : FuncId} {args : Array Value} {w : World} {R : Ending → World → Prop} : CallsIn (wideR r) n P f args w R ↔ Calls P f args w R := callsIn_wide
def OpOut (X : Cx) (Q : Exit → Slots → Own → Prop) (K : Slots → Own → Prop) (o : Oper) (a : Act) (w : World) : Prop :=
  ∀ (next : Act → World → Prop) (Q' : Exit → Act → World → Prop), (∀ s' own' a' w', K s' own' → Rep X s' own' a' w' → next a' w') → (∀ c a' w', liftQ X Q (.panic c) a' w' → Q' (.panic c) a' w') → o.wpIn (wideR X.rd) 0 X.P a w next Q'
theorem OpOut.of_run {o' : Oper} (hnd : ∀ c, o'.op ≠ .defer c) {Q : Exit → Slots → Own → Prop} {K : Slots → Own → Prop} {v : Value} {w' : World} (hrun : (execOp a.eval o').run X.P w = .ok (.value v) w') {s' : Slots} {own' : Own} (hK : K s' own') (hR : Rep X s' own' (a.put o'.dst v) w') : OpOut X Q K o' a w := by
  intro next Q' hn _
  refine ⟨fun _ _ => trivial, ?_⟩
  rw [Oper.semAt_eq _ _ _ hnd, hrun]
  exact hn _ _ _ _ hK hR
theorem o_alloc (R : Rep X s own a w) (o : Oper) (hd : o.dst.all (· < X.n) = true) (t : TypeId) (ho : o.op = .alloc t) (op : AOp) (hc : comp X.P o = some op) {Q : Exit → Slots → Own → Prop} {K : Slots → Own → Prop} (h : opA X Q o.dst op s own K) : OpOut X Q K o a w := by
  simp only [comp, ho] at hc
  obtain ⟨j, z, hi, hz, hall, hf⟩ := zeros_some hc
  simp only [Option.some.injEq] at hf
  subst hf
  have hrun : (execOp a.eval o).run X.P w = .ok (.value (.pointer (some ⟨w.heap.size, 0, none⟩))) (w.alloc (.cells z.cells t)) := by
    simp [execOp, ho, Instr.alloc, zeroValue, run_tinfo hi, hz, newVar, newRow]
  have hrc := relC_zeros (Fo X.fr own) w z hall
  refine .of_run (by simp [ho]) hrun (h w.heap.size) ((R.alloc (o.dst.getD 0) z.cells t _ (by simp) (fun i x hx => ?_)).put o.dst hd (.ptr _ _ _))
  have hlt : i < z.cells.size := by have := (List.getElem?_eq_some_iff.1 hx).1; simpa using this
  exact ⟨_, Array.getElem?_eq_getElem hlt, hrc.one i _ (Array.getElem?_eq_getElem hlt), hrc.rel i _ _ (Array.getElem?_eq_getElem hlt) hx⟩
theorem o_box (R : Rep X s own a w) (o : Oper) (hd : o.dst.all (· < X.n) = true) (t : TypeId) (p : Operand) (ho : o.op = .box t p) {Q : Exit → Slots → Own → Prop} {K : Slots → Own → Prop} (h : opA X Q o.dst (.box (od p)) s own K) : OpOut X Q K o a w := by
  obtain ⟨hs, h⟩ := h
  have hrun : (execOp a.eval o).run X.P w = .ok (.value (.pointer (some ⟨w.heap.size, 0, none⟩))) (w.alloc (.cells (a.eval p).cells t)) := by
    simp [execOp, ho, Instr.box, newVar, newRow]
  have hrc := (R.od p).relC hs
  have hl := hrc.len
  refine .of_run (by simp [ho]) hrun (h w.heap.size) ((R.alloc (o.dst.getD 0) _ t _ (by omega) (fun i x hx => ?_)).put o.dst hd (.ptr _ _ _))
  have hlt : i < (a.eval p).cells.size := by have := (List.getElem?_eq_some_iff.1 hx).1; omega
  exact ⟨_, Array.getElem?_eq_getElem hlt, hrc.one i _ (Array.getElem?_eq_getElem hlt), hrc.rel i _ _ (Array.getElem?_eq_getElem hlt) hx⟩
theorem o_store (R : Rep X s own a w) (o : Oper) (hd : o.dst.all (· < X.n) = true) (t : TypeId) (p q : Operand) (ho : o.op = .store t p q) (op : AOp) (hc : comp X.P o = some op) {Q : Exit → Slots → Own → Prop} {K : Slots → Own → Prop} (h : opA X Q o.dst op s own K) : OpOut X Q K o a w := by
  simp only [comp, ho] at hc
  cases hi : X.P.info? t with
  | none => simp [hi] at hc
  | some i =>
    simp only [hi, Option.map_some, Option.some.injEq] at hc
    subst hc
    simp only [opA] at h
    have hp := R.od p
    cases hv : (od p).ev s with
    | ptr k b o' =>
      rw [hv] at hp
      simp only [hv] at h
      cases hf : own.find k b with
      | none => simp [hf] at h
      | some ob =>
        obtain ⟨cs⟩ | ⟨_, _⟩ | ⟨_⟩ := ob
        rotate_left
        · simp [hf] at h
        · simp [hf] at h
        simp only [hf] at h
        obtain ⟨hs, hl, hle, h⟩ := h
        have hrc := (R.od q).relC hs
        have hrl := hrc.len
        generalize hep : a.eval p = v at hp
        cases hp
        obtain ⟨h1, h2, hR⟩ := R.store (o := o') hf hrc (by omega) (fun T sz _ hh => by omega)
        have hst := run_storeCells_cells (P := X.P) b o' (a.eval q).cells.toList 0 w (by simpa using h1) (by simpa using h2) (fun v hv => by
          obtain ⟨j, hj⟩ := List.getElem?_of_mem hv
          exact hrc.one j v (by simpa using hj))
        simp only [Nat.add_zero] at hst
        have hrun : (execOp a.eval o).run X.P w = .ok .skip (w.setCells b o' (a.eval q).cells.toList) := by
          have hsz : (a.eval q).cells.size = i.size := by omega
          simp [execOp, ho, hep, Instr.storeAt, Instr.sureAddr, storeVar, run_size hi, hsz, hst]
        intro next Q' hn _
        refine ⟨fun _ _ => trivial, ?_⟩
        rw [Oper.semAt_eq _ _ _ (by simp [ho]), hrun]
        rw [hl] at hR
        exact hn _ _ _ _ h (hR.put o.dst hd (rel_undef _ _))
    | _ => simp [hv] at h
theorem fillA_len : ∀ (qs : List (Nat × Nat × AV)) (zs cs : List AV), fillA zs qs = some cs → cs.length = zs.length
  | [], zs, cs, h => by simp only [fillA, Option.some.injEq] at h; rw [h]
  | (off, sz, x) :: r, zs, cs, h => by
    simp only [fillA] at h
    split at h
    · rename_i hc
      rw [fillA_len r _ _ h]
      simp [hc.1]
      omega
    · cases h
theorem fill_flat_parts (R : Rep X s own a w) (l : List (Nat × Operand)) (sz : Nat) (zs cs : List AV) (cells : Array Value) (hz : RelC (Fo X.fr own) w cells zs)
    (h : fillA zs ((l.map fun x => (x.1 * sz, sz, od x.2)).map fun p => (p.1, p.2.1, p.2.2.ev s)) = some cs) :
    ∃ cv, Instr.fill (fun i => some (i * sz, sz)) cells (l.map fun x => (x.1, a.eval x.2)) = some cv ∧ RelC (Fo X.fr own) w cv cs := by
  refine RelC.fill _ _ _ _ _ _ hz (by simp) (fun j p q hp hq => ?_) h
  simp only [List.getElem?_map] at hp hq
  cases hl : l[j]? with
  | none => simp [hl] at hp
  | some x =>
    simp only [hl, Option.map_some, Option.some.injEq] at hp hq
    subst hp hq
    exact ⟨rfl, R.od x.2⟩
theorem o_mkrow (R : Rep X s own a w) (o : Oper) (hd : o.dst.all (· < X.n) = true) (t : TypeId) (n : Nat) (ps : Array (Nat × Operand)) (ho : o.op = .buildSlice t n ps) (op : AOp) (hc : comp X.P o = some op) {Q : Exit → Slots → Own → Prop} {K : Slots → Own → Prop} (h : opA X Q o.dst op s own K) : OpOut X Q K o a w := by
  simp only [comp, ho] at hc
  cases hu : X.P.underlying t with
  | none => simp [hu] at hc
  | some d =>
    cases d <;> try (simp [hu] at hc; done)
    rename_i e
    cases hj : X.P.info? e with
    | none => simp [hu, hj] at hc
    | some j =>
      simp only [hu, hj, Option.bind_some] at hc
      obtain ⟨j', z, hj', hz, hall, hf⟩ := zeros_some hc
      rw [hj] at hj'
      cases hj'
      split at hf
      · rename_i hsz
        obtain ⟨h1, h2, h3⟩ := hsz
        simp only [Option.some.injEq] at hf
        subst hf
        simp only [opA] at h
        cases hfa : fillA (List.replicate n (z.cells.toList.map avOf)).flatten ((ps.toList.map fun x => (x.1 * j.size, j.size, od x.2)).map fun p => (p.1, p.2.1, p.2.2.ev s)) with
        | none => exact (by rw [hfa] at h; exact h.elim)
        | some cs =>
          rw [hfa] at h
          have hzc : z.cells.size = j.size := by simpa using h1
          have hrz := relC_zeros (Fo X.fr own) w z hall
          have hz0 : RelC (Fo X.fr own) w ((Array.range (n * j.size)).map (z.cells[· % z.cells.size]!)) (List.replicate n (z.cells.toList.map avOf)).flatten := by
            have hzr := zeroRow z.cells n (by omega)
            rw [hzc] at hzr
            have hav : (List.replicate n (z.cells.toList.map avOf)).flatten = ((List.replicate n z.cells.toList).flatten).map avOf := by
              rw [List.map_flatten, List.map_replicate]
            rw [hzc, hav, ← hzr]
            have hone : ∀ (i : Nat) (v : Value), ((Array.range (n * j.size)).map (z.cells[· % j.size]!))[i]? = some v → v.oneCell' = true := by
              intro i v hv
              have hm : v ∈ (List.replicate n z.cells.toList).flatten := by
                rw [← hzr]
                exact List.mem_of_getElem? (i := i) (by rw [Array.getElem?_toList]; exact hv)
              obtain ⟨l, hl, hvl⟩ := List.mem_flatten.1 hm
              rw [(List.mem_replicate.1 hl).2] at hvl
              exact List.all_eq_true.1 hall v hvl
            refine ⟨by simp, hone, fun i v y hv hy => ?_⟩
            rw [List.getElem?_map] at hy
            rw [← Array.getElem?_toList] at hv
            rw [hv] at hy
            simp at hy
            subst hy
            exact rel_avOf _ _ _
          obtain ⟨cv, hcv, hrc⟩ := fill_flat_parts R ps.toList j.size _ cs _ hz0 hfa
          have hrl := hrc.len
          have hrun : (execOp a.eval o).run X.P w = .ok (.value (.slice (some ⟨w.heap.size, 0, none⟩) n n)) (w.alloc (.cells cv e)) := by
            have hbig : ¬ (16777216 < n * j.size) := by omega
            by_cases h0 : n * j.size = 0
            · have e1 : ∀ f : Nat → Value, Array.map f (Array.range 0) = #[] := fun f => Array.eq_empty_of_size_eq_zero (by simp)
              have hn : n = 0 := by
                rcases Nat.mul_eq_zero.1 h0 with h | h
                · exact h
                · omega
              subst hn
              have e0 : (Array.range (0 * j.size)).map (z.cells[· % z.cells.size]!) = #[] := by rw [Nat.zero_mul]; exact e1 _
              rw [e0] at hcv
              simp [execOp, ho, Instr.buildSlice, run_underlying hu, run_size hj, newRow, hcv, e1]
            · simp [execOp, ho, Instr.buildSlice, run_underlying hu, run_size hj, zeroValue, run_tinfo hj, hz, hbig, h0, newRow, hcv]
          refine .of_run (by simp [ho]) hrun (h w.heap.size) ((R.alloc (o.dst.getD 0) cv e cs (by omega) (fun i x hx => ?_)).put o.dst hd (.row _ _ _ _ _ n cv.size e (Nat.le_refl _) ?_ ?_))
          · have hlt : i < cv.size := by have := (List.getElem?_eq_some_iff.1 hx).1; omega
            exact ⟨_, Array.getElem?_eq_getElem hlt, hrc.one i _ (Array.getElem?_eq_getElem hlt), hrc.rel i _ _ (Array.getElem?_eq_getElem hlt) hx⟩
          · have : (w.alloc (.cells cv e)).heap[w.heap.size]? = some (.cells cv e) := by
              show (w.heap.push _)[w.heap.size]? = _
              simp
            simp only [World.shape?, this]
          · have hfl := fillA_len _ _ _ hfa
            simp only [List.length_flatten, List.map_replicate, List.sum_replicate_nat, List.length_map, Array.length_toList, hzc] at hfl
            omega
      · cases hf
end
end Go.Aw
namespace Go.Aw
section
variable {X : Cx} {s : Slots} {own : Own} {a : Act} {w : World}
theorem Rep.newMap (R : Rep X s own a w) (k : Nat) : Rep X s ((k, w.heap.size, .map []) :: own) a (w.alloc (.map #[] 0)) := by
  have hg := grow_alloc w (.map #[] 0)
  have hF : ∀ b, b < w.heap.size → Fo X.fr ((k, w.heap.size, .map []) :: own) b → Fo X.fr own b := fun b hb h => by
    rcases fo_cons.1 h with h | h
    · omega
    · exact h
  have hgF : Grow (Fo X.fr own) w (w.alloc (.map #[] 0)) := hg.mono fun _ _ f => f.elim
  refine ⟨fun t => (R.tm t).mono hgF hF, ⟨fun e he => ?_, ?_, fun b hb => ?_, fun b hb => ?_⟩, fun b hb => ?_, R.size, R.defs.mono (fun b hb h => by
    rcases has_cons.1 h with h | h
    · omega
    · exact h) (fun b hb _ => hg.same b hb (fun f => f)), R.kept.trans (hg.mono fun _ _ f => f.elim)⟩
  · rcases List.mem_cons.1 he with rfl | he
    · exact ⟨#[], 0, World.alloc_heap_new w _, rfl, fun i e p h => by simp at h⟩
    · exact (R.ok.holds e he).mono hg (fun _ f => f.elim) (fun f => f) hF
  · simp only [List.map_cons, List.nodup_cons]
    refine ⟨fun h => ?_, R.ok.nodup⟩
    have := R.ok.lt (X := X) (b := w.heap.size) h
    omega
  · rcases has_cons.1 hb with rfl | hb
    · intro h
      have := R.ok.fr _ h
      omega
    · exact R.ok.apart b hb
  · exact Nat.lt_of_lt_of_le (R.ok.fr b hb) hg.sz
  · rcases has_cons.1 hb with rfl | hb
    · exact .inr R.kept.sz
    · exact R.new b hb
theorem Rep.setMap (R : Rep X s own a w) {k b : Nat} {es es' : List (AV × AV)} (hf : own.find k b = some (.map es)) {ents ents' : Array MapEntry} {c c' : Nat} (hb : w.heap[b]? = some (.map ents c)) (hl : ents'.size = es'.length)
    (hr : ∀ (i : Nat) (e : MapEntry) (p : AV × AV), ents'[i]? = some e → es'[i]? = some p → Rel (Fo X.fr own) w e.key p.1 ∧ Rel (Fo X.fr own) w e.val p.2) :
    Rep X s (own.put k (.map es')) a (w.putObj b (.map ents' c')) := by
  have hm := Own.find_mem hf
  have hown : own.has b := List.mem_map.2 ⟨_, hm, rfl⟩
  have hg := putObj_calm (o' := .map ents' c') hb rfl rfl
  have hh : ∀ x, (own.put k (.map es')).has x ↔ own.has x := fun x => by
    unfold Own.has
    rw [put_keys]
  have hF : ∀ x, Fo X.fr (own.put k (.map es')) x ↔ Fo X.fr own x := fun x => by
    unfold Fo
    rw [hh]
  have hrel : ∀ {v x}, Rel (Fo X.fr own) w v x → Rel (Fo X.fr (own.put k (.map es'))) (w.putObj b (.map ents' c')) v x := fun h => (h.calm hg).mono (Grow.refl _ _) (fun x _ h => (hF x).1 h)
  refine ⟨fun t => hrel (R.tm t), ⟨fun e he => ?_, by rw [put_keys]; exact R.ok.nodup, fun x hx => R.ok.apart x ((hh x).1 hx), fun x hx => Nat.lt_of_lt_of_le (R.ok.fr x hx) hg.sz⟩, fun x hx => R.new x ((hh x).1 hx), R.size, R.defs.mono (fun x _ hx => (hh x).1 hx) (fun x hx hn => hg.same x hx (fun he => hn (he ▸ hown))), ?_⟩
  · rcases put_mem hf e he with rfl | ⟨h1, h2⟩
    · exact ⟨ents', c', World.putObj_heap_same (Array.getElem?_eq_some_iff.1 hb).1, hl, fun i e p h1 h2 => ⟨hrel (hr i e p h1 h2).1, hrel (hr i e p h1 h2).2⟩⟩
    · have hne : e.2.1 ≠ b := h2 R.ok.nodup
      exact ((R.ok.holds e h1).calm hg hne).mono (D := fun _ => False) (Grow.refl _ _) (fun _ f => f.elim) (fun f => f) (fun x _ h => (hF x).1 h)
  · have hk := R.kept
    have hb := R.new b hown
    have hg := hg.grow
    refine ⟨Nat.le_trans hk.sz hg.sz, fun x hx hn => ?_, fun x q hq => hg.shp _ _ (hk.shp _ _ hq), fun x hx i => ?_, hg.os.trans hk.os, hg.tape.trans hk.tape, hg.out.trans hk.out⟩
    · have hne : x ≠ b := fun h => by
        subst h
        rcases hb with hb | hb
        · exact hn hb
        · omega
      exact (hg.same x (Nat.lt_of_lt_of_le hx hk.sz) hne).trans (hk.same x hx hn)
    · exact (hg.frz x (Nat.lt_of_lt_of_le hx hk.sz) i).trans (hk.frz x hx i)
theorem o_mkmap (R : Rep X s own a w) (o : Oper) (hd : o.dst.all (· < X.n) = true) (t : TypeId) (ho : o.op = .makeMap t none) {Q : Exit → Slots → Own → Prop} {K : Slots → Own → Prop} (h : opA X Q o.dst .mkmap s own K) : OpOut X Q K o a w := by
  have hrun : (execOp a.eval o).run X.P w = .ok (.value (.map (some w.heap.size))) (w.alloc (.map #[] 0)) := by
    simp [execOp, ho, Instr.makeMap, newObj, Sem.run]
  exact .of_run (by simp [ho]) hrun (h w.heap.size) ((R.newMap (o.dst.getD 0)).put o.dst hd (.mapv _ _))
theorem run_setObj_map {P : Program} {w : World} {l : Nat} {es : Array MapEntry} {c : Nat} (o : Obj) (h : w.heap[l]? = some (.map es c)) : (setObj l o).run P w = .ok () (w.putObj l o) := by simp [setObj, Sem.run, h, World.putObj]
theorem sameK_bits {F : Nat → Prop} {kk : KK} {v u : Value} {x y : AV} (hv : Rel F w v x) (hu : Rel F w u y) (h : sameK kk x y = some true) : Instr.sameBits 10000 u v = true := by
  have e : (10000 : Nat) = 9999 + 1 := rfl
  unfold sameK at h
  split at h <;> try (cases h; done)
  · simp at h
    obtain ⟨rfl, rfl⟩ := h
    cases hv; cases hu
    simp [e, Instr.sameBits]
  · simp at h
    subst h
    cases hv; cases hu
    simp only [e, Instr.sameBits]
    rw [beq_toListBytes]
    simp
  · simp at h
    subst h
    cases hv; cases hu
    simp [e, Instr.sameBits]
theorem mfindI_at {kk : KK} {x : AV} : ∀ (es : List (AV × AV)) (i j : Nat), mfindI kk x es i = some (some j) → i ≤ j ∧ ∃ p, es[j - i]? = some p ∧ sameK kk x p.1 = some true
  | [], i, j, h => by simp [mfindI] at h
  | p :: es, i, j, h => by
    simp only [mfindI] at h
    cases hs : sameK kk x p.1 with
    | none => simp [hs] at h
    | some b =>
      cases b with
      | true =>
        simp only [hs, Option.some.injEq] at h
        subst h
        exact ⟨Nat.le_refl _, p, by simp, hs⟩
      | false =>
        simp only [hs] at h
        obtain ⟨h1, q, h2, h3⟩ := mfindI_at es (i + 1) j h
        exact ⟨by omega, q, by rw [show j - i = (j - (i + 1)) + 1 by omega]; exact h2, h3⟩
theorem o_mput (R : Rep X s own a w) (o : Oper) (hd : o.dst.all (· < X.n) = true) (t k e : TypeId) (p q r : Operand) (kk : KK) (ho : o.op = .mapUpdate t p q r) (hu : X.P.underlying t = some (.map k e)) (hk : kkOf X.P k = some kk)
    {Q : Exit → Slots → Own → Prop} {K : Slots → Own → Prop} (h : opA X Q o.dst (.mput kk (od p) (od q) (od r)) s own K) : OpOut X Q K o a w := by
  have hp := R.od p
  have hq := R.od q
  have hr := R.od r
  simp only [opA] at h
  cases hv : (od p).ev s with
  | mapv km b =>
    rw [hv] at hp
    simp only [hv] at h
    cases hf : own.find km b with
    | none => simp [hf] at h
    | some ob =>
      cases ob with
      | map es =>
        simp only [hf] at h
        obtain ⟨ents, clock, h1, h2, h3, h4⟩ := own_map R hf
        generalize hep : a.eval p = v at hp
        cases hp
        have hkey : ∀ (j : Nat) e p, ents[j]? = some e → es[j]? = some p → Rel (Fo X.fr own) w e.key p.1 := fun j e p he hp => (h3 j e p he hp).1
        cases hm : mfindI kk ((od q).ev s) es 0 with
        | none => simp [hm] at h
        | some res =>
          simp only [hm] at h
          obtain ⟨q', hq1, hq2⟩ := run_findKey (w' := w) hk hq h2 hkey hm
          have fin : ∀ (es' : List (AV × AV)) (ents' : Array MapEntry) (c' : Nat), (execOp a.eval o).run X.P w = .ok .skip (w.putObj b (.map ents' c')) → ents'.size = es'.length →
              (∀ (i : Nat) (e : MapEntry) (p : AV × AV), ents'[i]? = some e → es'[i]? = some p → Rel (Fo X.fr own) w e.key p.1 ∧ Rel (Fo X.fr own) w e.val p.2) → K (putS o.dst (.tup []) s) (own.put km (.map es')) → OpOut X Q K o a w := by
            intro es' ents' c' hrun hl hrel hK next Q' hn _
            refine ⟨fun _ _ => trivial, ?_⟩
            rw [Oper.semAt_eq _ _ _ (by simp [ho]), hrun]
            exact hn _ _ _ _ hK ((R.setMap hf h1 hl hrel).put o.dst hd (rel_undef _ _))
          cases res with
          | none =>
            simp only at h hq2
            subst hq2
            refine fin (es ++ [((od q).ev s, (od r).ev s)]) (ents.push { key := a.eval q, val := a.eval r, born := clock }) (clock + 1) ?_ (by simp [h2]) ?_ h
            · simp [execOp, ho, hep, Instr.mapUpdate, run_underlying hu, run_getObj h1, run_checkKey hk, hq1, run_setObj_map _ h1]
            · intro i e0 p0 he hp0
              by_cases hi : i < ents.size
              · rw [Array.getElem?_push_lt hi] at he
                rw [List.getElem?_append_left (by omega)] at hp0
                exact h3 i e0 p0 (by rw [← he]; exact Array.getElem?_eq_getElem hi) hp0
              · have hi' : i = ents.size := by
                  have := (List.getElem?_eq_some_iff.1 hp0).1
                  simp at this
                  omega
                subst hi'
                rw [Array.getElem?_push_size] at he
                rw [h2, List.getElem?_append_right (Nat.le_refl _)] at hp0
                simp at he hp0
                subst he hp0
                exact ⟨hq, hr⟩
          | some j =>
            simp only at h
            obtain ⟨e0, he0, rfl⟩ := hq2
            have hjlt : j < ents.size := (Array.getElem?_eq_some_iff.1 he0).1
            obtain ⟨_, pj, hpj, hsame⟩ := mfindI_at es 0 j hm
            rw [Nat.sub_zero] at hpj
            have hbits := sameK_bits hq (h3 j e0 pj he0 hpj).1 hsame
            refine fin (es.set j ((od q).ev s, (od r).ev s)) (ents.modify j fun e => { e with key := a.eval q, val := a.eval r }) clock ?_ (by simp [h2]) ?_ h
            · simp [execOp, ho, hep, Instr.mapUpdate, run_underlying hu, run_getObj h1, run_checkKey hk, hq1, run_setObj_map _ h1, Instr.keyThatStays, he0, hbits]
            · intro i e1 p1 he1 hp1
              rw [Array.getElem?_modify] at he1
              by_cases hij : j = i
              · subst hij
                rw [if_pos rfl, he0] at he1
                rw [List.getElem?_set_self (by omega)] at hp1
                simp at he1 hp1
                subst he1 hp1
                exact ⟨hq, hr⟩
              · rw [if_neg hij] at he1
                rw [List.getElem?_set_ne hij] at hp1
                exact h3 i e1 p1 he1 hp1
      | _ => simp [hf] at h
  | _ => simp [hv] at h
theorem o_mkslice (R : Rep X s own a w) (o : Oper) (hd : o.dst.all (· < X.n) = true) (t e : TypeId) (l c : Operand) (ho : o.op = .makeSlice t l c) (hlc : l = c) (hu : X.P.underlying t = some (.slice e)) (j : TypeInfo) (hj : X.P.info? e = some j) (z : Value) (hz : j.zero = some z) (hall : z.cells.toList.all (·.oneCell') = true)
    (hzl : z.cells.size = j.size) (hpos : 0 < j.size) {Q : Exit → Slots → Own → Prop} {K : Slots → Own → Prop} (h : opA X Q o.dst (.mkslice j.size j.bytes (z.cells.toList.map avOf) (od l)) s own K) : OpOut X Q K o a w := by
  subst hlc
  have hp := R.od l
  simp only [opA] at h
  cases hv : (od l).ev s with
  | int kk m =>
    rw [hv] at hp
    simp only [hv] at h
    obtain ⟨h0, h1, h2, h⟩ := h
    generalize hep : a.eval l = v at hp
    cases hp
    have hr := run_make (P := X.P) w t e j z hu hj hz kk kk m m h0 (Int.le_refl _) h1 h2
    have hrun : (execOp a.eval o).run X.P w = .ok (.value (.slice (some ⟨w.heap.size, 0, none⟩) m.toNat m.toNat)) (w.alloc (.cells (madeCells z.cells (m.toNat * j.size)) e)) := by
      simp [execOp, ho, hep, hr]
    have hml : (madeCells z.cells (m.toNat * j.size)).size = m.toNat * j.size := size_madeCells _ _
    have htl : (madeCells z.cells (m.toNat * j.size)).toList = (List.replicate m.toNat z.cells.toList).flatten := by
      have := zeroRow z.cells m.toNat (by omega)
      rw [← this, hzl]
      unfold madeCells
      rw [hzl]
    have hav : (List.replicate m.toNat (z.cells.toList.map avOf)).flatten = ((List.replicate m.toNat z.cells.toList).flatten).map avOf := by
      rw [List.map_flatten, List.map_replicate]
    refine .of_run (by simp [ho]) hrun (h w.heap.size) ((R.alloc (o.dst.getD 0) (madeCells z.cells (m.toNat * j.size)) e _ ?_ (fun i x hx => ?_)).put o.dst hd (.row _ _ _ _ _ m.toNat (m.toNat * j.size) e (Nat.le_refl _) ?_ ?_))
    · rw [hav, List.length_map, ← htl]
      simp
    · rw [hav, ← htl, List.getElem?_map] at hx
      cases hc : (madeCells z.cells (m.toNat * j.size)).toList[i]? with
      | none => simp [hc] at hx
      | some u =>
        simp only [hc, Option.map_some, Option.some.injEq] at hx
        subst hx
        refine ⟨u, by rw [← Array.getElem?_toList]; exact hc, ?_, rel_avOf _ _ _⟩
        have hm : u ∈ (List.replicate m.toNat z.cells.toList).flatten := by rw [← htl]; exact List.mem_of_getElem? hc
        obtain ⟨l', hl', hul⟩ := List.mem_flatten.1 hm
        rw [(List.mem_replicate.1 hl').2] at hul
        exact List.all_eq_true.1 hall u hul
    · have : (w.alloc (.cells (madeCells z.cells (m.toNat * j.size)) e)).heap[w.heap.size]? = some (.cells (madeCells z.cells (m.toNat * j.size)) e) := by
        show (w.heap.push _)[w.heap.size]? = _
        simp
      simp only [World.shape?, this, hml]
    · omega
  | _ => simp [hv] at h
end
end Go.Aw
namespace Go.Aw
section
variable {X : Cx} {s : Slots} {own : Own} {a : Act} {w : World}
theorem kept_trans {D : Nat → Prop} {w' : World} (hk : Grow X.own0 X.w0 w) (hg : Grow D w w') (hD : ∀ b, D b → X.own0 b ∨ X.w0.heap.size ≤ b) : Grow X.own0 X.w0 w' := by
  refine ⟨Nat.le_trans hk.sz hg.sz, fun x hx hn => ?_, fun x q hq => hg.shp _ _ (hk.shp _ _ hq), fun x hx i => (hg.frz x (Nat.lt_of_lt_of_le hx hk.sz) i).trans (hk.frz x hx i), hg.os.trans hk.os, hg.tape.trans hk.tape, hg.out.trans hk.out⟩
  refine (hg.same x (Nat.lt_of_lt_of_le hx hk.sz) (fun hd => ?_)).trans (hk.same x hx hn)
  rcases hD x hd with h | h
  · exact hn h
  · omega
theorem Rep.after {w' : World} {own' : Own} (R : Rep X s own a w) (hok : OwnOk X.fr w' own') (hg : Grow own.has w w') (hn : ∀ b, own'.has b → own.has b ∨ w.heap.size ≤ b) : Rep X s own' a w' := by
  have hF : ∀ b, b < w.heap.size → Fo X.fr own' b → Fo X.fr own b := fun b hb h => by
    rcases h with h | h
    · exact .inl h
    · rcases hn b h with h | h
      · exact .inr h
      · omega
  refine ⟨fun t => (R.tm t).mono (hg.mono fun _ _ h => .inr h) hF, hok, fun b hb => ?_, R.size, R.defs.mono (fun b hb h => by
    rcases hn b h with h | h
    · exact h
    · omega) (fun b hb hn => hg.same b hb hn), kept_trans R.kept hg R.new⟩
  rcases hn b hb with h | h
  · exact R.new b h
  · exact .inr (Nat.le_trans R.kept.sz h)
theorem o_call (R : Rep X s own a w) (o : Oper) (hd : o.dst.all (· < X.n) = true) (hnd : ∀ c, o.op ≠ .defer c) (f : FuncId) (vs : Array Value) (args : List AV) (hrun : (execOp a.eval o).run X.P w = .ok (.enter f vs) w)
    (hs : vs.size = args.length) (hr : ∀ (j : Nat) (v : Value) (y : AV), vs[j]? = some v → args[j]? = some y → Rel (Fo X.fr own) w v y)
    {Q : Exit → Slots → Own → Prop} {K : Slots → Own → Prop} (h : CallA X.P X.fr f args own (callK K Q o.dst s)) : OpOut X Q K o a w := by
  intro next Q' hn hq
  refine ⟨fun _ _ => trivial, ?_⟩
  rw [Oper.semAt_eq _ _ _ hnd, hrun]
  refine ⟨fun hd => (by cases hd), callsIn_wideR.2 ((h vs w hs hr R.ok).mono fun e w' ⟨r, own', hR, he, hok, hg, hnew⟩ => ?_)⟩
  have hR' := R.after hok hg hnew
  cases r with
  | val x =>
    obtain ⟨v, rfl, hrel⟩ := he
    exact hn _ _ _ _ hR (hR'.put o.dst hd hrel)
  | pan c =>
    simp only at he
    subst he
    exact hq _ _ _ ⟨_, _, hR, hR'⟩
theorem run_callFunc {P : Program} {f : FuncId} (h : okF P f = true) (args : Array Value) (w : World) : (callFunc f args).run P w = .ok (.enter f args) w := by
  unfold okF at h
  cases hf : P.funcs[f]? with
  | none => simp [hf] at h
  | some fn =>
    simp [hf] at h
    have h2 : fn.body.isNone = false := by
      cases hb : fn.body with
      | none => simp [hb] at h
      | some _ => rfl
    have h3 : (fn.name == "runtime.NumGoroutine") = false := by simpa using h.2
    unfold callFunc
    simp only [Sem.run_bind, run_program, Result.andThen_ok, hf, h2, h3]
    rfl
theorem o_callF (R : Rep X s own a w) (o : Oper) (hd : o.dst.all (· < X.n) = true) (c : Call) (ho : o.op = .call c) (f : FuncId) (hcc : c.callee = .value (.func f)) (hok : okF X.P f = true)
    {Q : Exit → Slots → Own → Prop} {K : Slots → Own → Prop} (h : opA X Q o.dst (.callF f (c.args.toList.map od)) s own K) : OpOut X Q K o a w := by
  obtain ⟨h1, h2⟩ := relL_map R c.args
  refine o_call R o hd (by simp [ho]) f (c.args.map a.eval) _ ?_ h1 h2 h
  have hc := run_callFunc hok (c.args.map a.eval) w
  simp [execOp, ho, resolve, hcc, Act.eval, Deferred.ofValue, invoke]
  exact hc
theorem o_callV (R : Rep X s own a w) (o : Oper) (hd : o.dst.all (· < X.n) = true) (c : Call) (ho : o.op = .call c) (x : Operand) (hcc : c.callee = .value x)
    {Q : Exit → Slots → Own → Prop} {K : Slots → Own → Prop} (h : opA X Q o.dst (.callV (od x) (c.args.toList.map od)) s own K) : OpOut X Q K o a w := by
  have hx := R.od x
  simp only [opA] at h
  cases hv : (od x).ev s with
  | fn ff first cap =>
    rw [hv] at hx
    simp only [hv, ValA] at h
    cases ff with
    | yield l =>
      cases first with
      | cons => exact h.elim
      | nil =>
      cases cap with
      | cons => exact h.elim
      | nil =>
      simp only at h
      generalize hep : a.eval x = v at hx
      cases hx with
      | fn _ as bs _ _ hla hlb hra hrb =>
        have ea : as = #[] := Array.eq_empty_of_size_eq_zero hla
        have eb : bs = #[] := Array.eq_empty_of_size_eq_zero hlb
        subst ea eb
        obtain ⟨h1, h2⟩ := relL_map R c.args
        obtain ⟨f, tmps, as, bd, hy, hround⟩ := h (c.args.map a.eval) w h1 h2 R.ok
        intro next Q' hn hq
        refine ⟨fun _ _ => trivial, ?_⟩
        rw [Oper.semAt_eq _ _ _ (by simp [ho])]
        have hrun : (execOp a.eval o).run X.P w = .ok (.round l f tmps as bd) w := by
          simp only [execOp, ho, resolve, hcc, Sem.run_bind, hep, Deferred.ofValue, Sem.run_pure, Result.andThen_ok, invoke]
          simpa using hy
        rw [hrun]
        refine ⟨fun hd => (by cases hd), ?_⟩
        obtain ⟨_, hround⟩ := hround
        refine ⟨trivial, fun c cs hr' => ?_⟩
        obtain ⟨e, w', ⟨r, own', hR, he, hok, hg, hnew⟩, hst⟩ := hround c cs hr'
        refine ⟨e, w', ?_, hst⟩
        have hR' := R.after hok hg hnew
        cases r with
        | val x =>
          obtain ⟨v, rfl, hrel⟩ := he
          exact hn _ _ _ _ hR (hR'.put o.dst hd hrel)
        | pan c =>
          simp only at he
          subst he
          exact hq _ _ _ ⟨_, _, hR, hR'⟩
    | func f =>
      obtain ⟨hok, h⟩ := h
      generalize hep : a.eval x = v at hx
      cases hx with
      | fn _ as bs _ _ hla hlb hra hrb =>
        obtain ⟨h1, h2⟩ := relL_map R c.args
        have hc := run_callFunc hok (as ++ c.args.map a.eval ++ bs) w
        refine o_call R o hd (by simp [ho]) f (as ++ c.args.map a.eval ++ bs) _ ?_ ?_ ?_ h
        · simp only [execOp, ho, resolve, hcc, Sem.run_bind, hep, Deferred.ofValue, Sem.run_pure, Result.andThen_ok, invoke]
          exact hc
        · simp only [Array.size_append, List.length_append, hla, hlb, h1]
        · intro j v y hj hy
          have e1 : ((first ++ (c.args.toList.map od).map (·.ev s)) ++ cap)[j]? = some y := hy
          by_cases hj1 : j < as.size
          · rw [Array.getElem?_append_left (by simp; omega), Array.getElem?_append_left hj1] at hj
            rw [List.getElem?_append_left (by simp; omega), List.getElem?_append_left (by omega)] at e1
            exact hra _ _ _ hj e1
          · by_cases hj2 : j < as.size + (c.args.map a.eval).size
            · rw [Array.getElem?_append_left (by simpa using hj2), Array.getElem?_append_right (by omega)] at hj
              rw [List.getElem?_append_left (by rw [List.length_append, ← h1]; omega), List.getElem?_append_right (by omega), ← hla] at e1
              exact h2 _ _ _ hj e1
            · rw [Array.getElem?_append_right (by simp at hj2 ⊢; omega)] at hj
              rw [List.getElem?_append_right (by rw [List.length_append, ← h1]; omega), List.length_append, ← h1, ← hla] at e1
              simp only [Array.size_append] at hj
              exact hrb _ _ _ hj e1
    | _ => simp at h
  | _ => simp [hv, ValA] at h
theorem comp_nd {P : Program} {o : Oper} {op : AOp} (hc : comp P o = some op) : ∀ c, o.op ≠ .defer c := by
  intro c h
  simp [comp, h] at hc
theorem AV.cval_rel {F : Nat → Prop} {w : World} {v u : Value} {x : AV} (h : Rel F w v x) (hc : x.cval = some u) : v = u := by
  cases h <;> simp only [AV.cval, Option.some.injEq, reduceCtorEq] at hc <;> exact hc
theorem cvals_rel {F : Nat → Prop} {w : World} : ∀ (vs : List Value) (cs : List AV) (l : List Value), cvals cs = some l → vs.length = cs.length → (∀ (j : Nat) (v : Value) (y : AV), vs[j]? = some v → cs[j]? = some y → Rel F w v y) → vs = l
  | [], [], l, hc, _, _ => by simpa [cvals] using hc
  | v :: vs, c :: cs, l, hc, hl, hr => by
    simp only [cvals, Option.bind_eq_some_iff, Option.map_eq_some_iff] at hc
    obtain ⟨u, hu, l', hl', rfl⟩ := hc
    rw [AV.cval_rel (hr 0 v c rfl rfl) hu, cvals_rel vs cs l' hl' (by simpa using hl) (fun j v y hj hy => hr (j + 1) v y (by simpa using hj) (by simpa using hy))]
  | [], _ :: _, _, _, hl, _ => by simp at hl
  | _ :: _, [], _, _, hl, _ => by simp at hl
theorem cval_rel {F : Nat → Prop} {w : World} {v u : Value} {x : AV} (h : Rel F w v x) (hc : cval x = some u) : v = u := by
  cases x with
  | agg cs =>
    obtain ⟨l, hl, rfl⟩ := Option.map_eq_some_iff.1 hc
    cases h with
    | agg vs _ hlen ho hr =>
      have := cvals_rel vs.toList cs l hl (by simpa using hlen) (fun j v y hj hy => hr j v y (by simpa using hj) hy)
      rw [← this]
  | _ => exact AV.cval_rel h hc
theorem o_pan (R : Rep X s own a w) (o : Oper) (p : Operand) (ho : o.op = .panic p) {Q : Exit → Slots → Own → Prop} {K : Slots → Own → Prop} (h : opA X Q o.dst (.pan (od p)) s own K) : OpOut X Q K o a w := by
  have hp := R.od p
  simp only [opA] at h
  cases hv : (od p).ev s with
  | ifc t y =>
    rw [hv] at hp
    simp only [hv] at h
    cases hc : cval y with
    | none => simp [hc] at h
    | some u =>
      simp only [hc] at h
      generalize hep : a.eval p = v at hp
      cases hp
      rename_i v hr
      have e := cval_rel hr hc
      subst e
      intro next Q' _ hq
      refine ⟨fun _ _ => trivial, ?_⟩
      rw [Oper.semAt_eq _ _ _ (by simp [ho])]
      have hrun : (execOp a.eval o).run X.P w = .halt (.panic (.iface t v)) w := by
        simp [execOp, ho, hep, Instr.panic, goPanic, Sem.halt, Result.andThen]
      rw [hrun]
      exact hq _ _ _ ⟨s, own, h, R⟩
  | _ => simp [hv] at h
theorem o_s2b (R : Rep X s own a w) (o : Oper) (hd : o.dst.all (· < X.n) = true) (t t' e : TypeId) (p : Operand) (ho : o.op = .convert t t' p) (hu : X.P.underlying t = some .string) (hu' : X.P.underlying t' = some (.slice e)) (he : X.P.underlying e = some (.int .u8)) {Q : Exit → Slots → Own → Prop} {K : Slots → Own → Prop} (h : opA X Q o.dst (.s2b (od p)) s own K) : OpOut X Q K o a w := by
  have hp := R.od p
  simp only [opA] at h
  cases hv : (od p).ev s with
  | str l =>
    rw [hv] at hp
    simp only [hv] at h
    generalize hep : a.eval p = v at hp
    cases hp
    have hrun : (execOp a.eval o).run X.P w = .ok (.value (.slice (some ⟨w.heap.size, 0, none⟩) (ByteArray.mk l.toArray).size (grownCap w (ByteArray.mk l.toArray).size 0 e))) (Lib.bytesWorld w e ⟨l.toArray⟩) := by
      simp [execOp, ho, hep, Lib.run_convert_string_bytes w t t' e ⟨l.toArray⟩ hu hu' he]
    have hg : Grow (fun _ => False) w (Lib.bytesWorld w e ⟨l.toArray⟩) := by
      refine ⟨by rw [Lib.bytesWorld_size]; omega, fun b hb _ => Lib.bytesWorld_at_old w e _ b hb, fun b q hq => ?_, fun b hb i => ?_, rfl, rfl, rfl⟩
      · have := shape_lt hq
        unfold World.shape? at hq ⊢
        rw [Lib.bytesWorld_at_old w e _ b this]
        exact hq
      · unfold World.frozen?
        rw [Lib.bytesWorld_at_old w e _ b hb]
    have hsz : (ByteArray.mk l.toArray).size = l.length := by simp [ByteArray.size]
    refine .of_run (by simp [ho]) hrun h ((R.grow hg).put o.dst hd ?_)
    rw [hsz]
    refine .sl _ _ _ _ 1 _ (fun j => .int .u8 (l.getD j 0).toNat) (fun hF => ?_) (by rw [Lib.bytesWorld_size]; omega) (by simp) (grownCap_ge w l.length 0 e) (fun i x hx => ?_) (fun i x j y hx hy => ?_) (fun i x j y hx hy => ?_) (fun i x j y hx hy => ?_)
    · rcases hF with hF | hF
      · have := R.ok.fr _ hF; omega
      · obtain ⟨en, he, hb⟩ := List.mem_map.1 hF
        have := (R.ok.holds en he).lt
        omega
    all_goals
      rw [List.getElem?_map] at hx
      obtain ⟨c, hc, rfl⟩ := Option.map_eq_some_iff.1 hx
    · rfl
    all_goals
      have hi := (List.getElem?_eq_some_iff.1 hc).1
      have hj : j = 0 := by
        have := (List.getElem?_eq_some_iff.1 hy).1
        simp [AV.cells] at this
        exact this
      subst hj
      simp only [AV.cells, List.getElem?_cons_zero, Option.some.injEq] at hy
      subst hy
    · have := Lib.bytesWorld_cell w e ⟨l.toArray⟩ i (by rw [hsz]; exact hi)
      simpa using this
    · rfl
    · simp only [Nat.mul_one, Nat.add_zero, List.getD, hc, Option.getD_some]
      exact .int _ _
  | _ => simp [hv] at h
theorem op_sound (R : Rep X s own a w) (o : Oper) (hd : o.dst.all (· < X.n) = true) (op : AOp) (hc : comp X.P o = some op) {Q : Exit → Slots → Own → Prop} {K : Slots → Own → Prop} (h : opA X Q o.dst op s own K) : OpOut X Q K o a w := by
  have pure' : op.step s own (fun x => K (putS o.dst x s) own) → OpOut X Q K o a w := fun h => by
    obtain ⟨v, x, hK, hr, hg⟩ := step_sound R o op hc h
    exact .of_run (comp_nd hc) (hg w (Same.refl _ w)) hK (R.put o.dst hd hr)
  cases ho : o.op with
  | alloc t => exact o_alloc R o hd t ho op hc h
  | box t x => simp only [comp, ho, Option.some.injEq] at hc; subst hc; exact o_box R o hd t x ho h
  | store t x y => exact o_store R o hd t x y ho op hc h
  | buildSlice t n ps => exact o_mkrow R o hd t n ps ho op hc h
  | call c =>
    have hc0 := hc
    simp only [comp, ho, compC] at hc
    cases hcc : c.callee with
    | builtin b =>
      simp only [hcc] at hc
      unfold compB at hc
      split at hc
      · refine pure' ?_
        split at hc <;> simp only [Option.some.injEq, reduceCtorEq] at hc <;> subst hc <;> exact h
      · rename_i x y t u hargs hts
        split at hc
        · rename_i e hu
          split at hc
          · rename_i htu
            subst htu
            cases hi : X.P.info? e with
            | none => simp [hi] at hc
            | some i =>
              simp only [hi, Option.bind_some] at hc
              split at hc
              · rename_i hz
                simp only [Option.some.injEq] at hc
                subst hc
                obtain ⟨z, hz1, hz2⟩ := Option.map_eq_some_iff.1 hz
                obtain ⟨hpos, h⟩ := h
                obtain ⟨r, w', hrun, s', own', hK, hR⟩ := app_sound R o.dst hd t o.type e i z hu hi hz1 hz2 hpos (R.od x) (R.od y) h
                refine .of_run (by simp [ho]) (v := r) (w' := w') ?_ hK hR
                have ha : c.args = #[x, y] := Array.toList_inj.1 hargs
                have hts' : c.argTypes = #[t, t] := Array.toList_inj.1 hts
                simp [execOp, ho, resolve, hcc, ha, hts', invoke, builtin, hrun]
              · cases hc
          · cases hc
        · cases hc
      · cases hc
    | value f =>
      simp only [hcc] at hc
      split at hc
      · split at hc
        · rename_i f' hok
          simp only [Option.some.injEq] at hc
          subst hc
          exact o_callF R o hd c ho _ hcc hok h
        · cases hc
      · simp only [Option.some.injEq] at hc
        subst hc
        exact o_callV R o hd c ho _ hcc h
    | invoke _ _ => simp [hcc] at hc
  | makeMap t r =>
    cases r with
    | some _ => simp [comp, ho] at hc
    | none =>
      simp only [comp, ho] at hc
      split at hc
      · cases hc; exact o_mkmap R o hd t ho h
      · cases hc
  | mapUpdate t m k v =>
    simp only [comp, ho] at hc
    split at hc
    · rename_i hu
      obtain ⟨kk, hk, rfl⟩ := Option.map_eq_some_iff.1 hc
      exact o_mput R o hd t _ _ m k v kk ho hu hk h
    · cases hc
  | makeSlice t l c =>
    simp only [comp, ho] at hc
    split at hc
    · rename_i hu
      split at hc
      · rename_i hlc
        obtain ⟨j, hj, hc⟩ := Option.bind_eq_some_iff.1 hc
        obtain ⟨j', z, hj', hz, hall, hf⟩ := zeros_some hc
        rw [hj] at hj'
        cases hj'
        split at hf
        · rename_i hs
          cases hf
          exact o_mkslice R o hd t _ l c ho (sameOd_eq hlc) hu j hj z hz hall (by simpa using hs.1) hs.2 h
        · cases hf
      · cases hc
    · cases hc
  | lookup t x i ok =>
    simp only [comp, ho] at hc
    split at hc
    · obtain ⟨_, _, hc⟩ := Option.bind_eq_some_iff.1 hc
      obtain ⟨_, _, rfl⟩ := Option.map_eq_some_iff.1 hc
      exact pure' h
    · cases hc
  | nilCheck x => simp only [comp, ho, Option.some.injEq] at hc; subst hc; exact pure' h
  | panic x => simp only [comp, ho, Option.some.injEq] at hc; subst hc; exact o_pan R o x ho h
  | makeInterface t x =>
    simp only [comp, ho] at hc
    split at hc
    · cases hc
    · cases hc; exact pure' h
    · cases hc
  | typeAssert x xt t ok =>
    cases ok with
    | false => simp [comp, ho] at hc
    | true =>
      simp only [comp, ho] at hc
      split at hc
      · cases hc
      · obtain ⟨z, hz, rfl⟩ := Option.map_eq_some_iff.1 hc
        exact pure' h
      · cases hc
  | convert t t' x =>
    simp only [comp, ho] at hc
    split at hc
    · cases hc; exact pure' h
    · rename_i e hu hu'
      split at hc
      · rename_i he; cases hc; exact o_s2b R o hd t t' e x ho hu hu' he h
      · cases hc
    · cases hc
  | binOp bo t x y t' =>
    simp only [comp, ho] at hc
    split at hc
    · cases hc; exact pure' h
    · cases hc; exact pure' h
    · cases hc; exact pure' h
    · split at hc <;> cases hc <;> exact pure' h
    · split at hc <;> cases hc <;> exact pure' h
    · split at hc
      · obtain ⟨_, _, rfl⟩ := Option.map_eq_some_iff.1 hc; exact pure' h
      · obtain ⟨_, _, rfl⟩ := Option.map_eq_some_iff.1 hc; exact pure' h
      · cases hc
    · split at hc
      · obtain ⟨_, _, rfl⟩ := Option.map_eq_some_iff.1 hc; exact pure' h
      · obtain ⟨_, _, rfl⟩ := Option.map_eq_some_iff.1 hc; exact pure' h
      · cases hc
    · cases hc
  | build t ps =>
    simp only [comp, ho] at hc
    split at hc
    · split at hc
      · obtain ⟨_, _, _, _, _, hf⟩ := zeros_some hc
        obtain ⟨l, _, rfl⟩ := Option.map_eq_some_iff.1 hf
        exact pure' h
      · cases hc
    · split at hc
      · obtain ⟨_, _, _, _, _, hf⟩ := zeros_some hc
        obtain ⟨l, _, rfl⟩ := Option.map_eq_some_iff.1 hf
        exact pure' h
      · cases hc
    · cases hc
  | _ =>
    cases op <;> first
      | exact pure' h
      | (exfalso
         simp only [comp, ho] at hc
         (repeat' split at hc) <;> first
           | (simp_all; done)
           | (obtain ⟨_, _, hc⟩ := Option.bind_eq_some_iff.1 hc
              first
                | (obtain ⟨_, _, hc⟩ := Option.bind_eq_some_iff.1 hc
                   split at hc <;> simp_all; done)
                | (split at hc <;> simp_all; done)
                | ((repeat' split at hc) <;> simp_all; done)))
end
end Go.Aw
namespace Go.Aw
inductive DT where
  | done
  | stop
  | pur (o : AO) (r : DT)
  | alt (q : Bool) (o : AO) (r more : DT)
inductive AC where
  | reg (ops : List AO)
  | regD (t : DT)
  | seq (a b : AC)
  | cond (c : Od) (a b : AC)
  | block (id : Nat) (c : AC)
  | loop (c : AC)
  | scope (c : AC)
  | exit (id : Nat)
  | ret
  | skip
  | range (f : Od) (ps : List Nat) (assign body : AC)
def compOps (P : Program) (n : Nat) (ops : Array Oper) : List Oper → Option (List AO)
  | [] => some []
  | o :: r => (compO P n ops o).bind fun x => (compOps P n ops r).map fun l => x :: l
def AOp.isPure : AOp → Bool
  | .alloc _ | .box _ | .mkrow .. | .store .. | .app .. | .callF .. | .callV .. | .mkmap | .mput .. | .mkslice .. | .s2b _ | .pan _ => false
  | _ => true
def baseT (aos : List (Option AO)) : Nat → Nat → Nat
  | 0, t => t
  | k + 1, t => match aos.find? (fun o => o.any fun o => o.d == some t) with
    | some (some ⟨_, _, .fadr _ (.t u)⟩) => baseT aos k u
    | some (some ⟨_, _, .mov (.t u)⟩) => baseT aos k u
    | some (some ⟨_, _, .nilc (.t u)⟩) => baseT aos k u
    | _ => t
def lateL (aos : List (Option AO)) (q i : Nat) : Bool :=
  match aos.getD i none with
  | some ⟨_, _, .load _ _ (.t t)⟩ => (List.range aos.length).any fun j => j != q && match aos.getD j none with
    | some ⟨_, _, .store _ (.t u) _⟩ => baseT aos 6 t == baseT aos 6 u
    | _ => false
  | _ => false
def orders (P : Program) (n : Nat) (ops : Array Oper) (q : Nat) : Nat → Array Bool → Option DT
  | 0, listed => match Region.ready .any ops listed with
    | [] => some .done
    | _ => none
  | fuel + 1, listed => match Region.ready .any ops listed with
    | [] => some .done
    | rs => match (if rs.length = 1 then none else rs.find? fun i => Region.free .any ops listed i && ((ops[i]?).bind (compO P n ops)).any (·.op.isPure) && i != q && !(lateL (ops.toList.map (compO P n ops)) q i)) with
      | some i => (ops[i]?).bind fun o => (compO P n ops o).bind fun ao => (orders P n ops q fuel (listed.setIfInBounds i true)).map fun l => .pur ao l
      | none => rs.foldr (fun i acc => (ops[i]?).bind fun o => (compO P n ops o).bind fun ao => (orders P n ops q fuel (listed.setIfInBounds i true)).bind fun l => acc.map fun m => .alt (i == q) ao l m) (some .stop)
def noDefer (ops : Array Oper) : Bool := ops.all fun o => match o.op with | .defer _ => false | _ => true
theorem noDefer_spec {ops : Array Oper} (h : noDefer ops = true) (j : Nat) (o : Oper) (ho : ops[j]? = some o) (c : Call) : o.op ≠ .defer c := by
  intro heq
  have := Array.all_eq_true_iff_forall_mem.1 h o (Array.mem_of_getElem? ho)
  simp [heq] at this
def oneSink (ops : Array Oper) (q : Nat) : Bool := (List.range ops.size).all fun i => i == q || (List.range ops.size).any fun j => decide (i < j) && ((ops[j]?).any fun o => o.after.any fun e => Region.binds .any e && e.on == i)
def sinkOf (ops : Array Oper) : Nat := if 0 < ops.size ∧ oneSink ops (ops.size - 1) = true then ops.size - 1 else ops.size
def compReg (P : Program) (n : Nat) (ops : Array Oper) (draw : Bool) : Option AC :=
  if draw then (if Region.noSelect ops = true ∧ noDefer ops = true then (orders P n ops (sinkOf ops) ops.size (Array.replicate ops.size false)).map .regD else none) else (compOps P n ops ops.toList).map .reg
theorem compReg_shape {P : Program} {n : Nat} {ops : Array Oper} {draw : Bool} {ac : AC} (h : compReg P n ops draw = some ac) :
    (∃ l, ac = .reg l ∧ draw = false ∧ compOps P n ops ops.toList = some l) ∨ (∃ l, ac = .regD l ∧ draw = true ∧ (Region.noSelect ops = true ∧ noDefer ops = true) ∧ orders P n ops (sinkOf ops) ops.size (Array.replicate ops.size false) = some l) := by
  unfold compReg at h
  split at h
  · rename_i hd
    split at h
    · rename_i hs
      obtain ⟨l, h1, rfl⟩ := Option.map_eq_some_iff.1 h
      exact .inr ⟨l, rfl, hd, hs, h1⟩
    · cases h
  · rename_i hd
    obtain ⟨l, h1, rfl⟩ := Option.map_eq_some_iff.1 h
    exact .inl ⟨l, rfl, by simpa using hd, h1⟩
def compCode (P : Program) (n : Nat) : Code → Option AC
  | .region _ ops draw => compReg P n ops draw
  | .seq a b => (compCode P n a).bind fun x => (compCode P n b).map (.seq x)
  | .cond c a b => (compCode P n a).bind fun x => (compCode P n b).map (.cond (od c) x)
  | .block id c => (compCode P n c).map (.block id)
  | .loop c => (compCode P n c).map .loop
  | .scope c => (compCode P n c).map .scope
  | .exit id => some (.exit id)
  | .ret => some .ret
  | .skip => some .skip
  | .rangeFunc f ps a b => (compCode P n a).bind fun x => (compCode P n b).map (.range (od f) ps.toList x)
  | _ => none
abbrev Post := Exit → Slots → Own → Prop
def AWP (X : Cx) (ac : AC) (s : Slots) (own : Own) (Q : Post) : Prop :=
  ∀ c, compCode X.P X.n c = some ac → ∀ a w, Rep X s own a w → c.wpIn (wideR X.rd) 0 X.P (liftQ X Q) a w
def thenQ (next : Slots → Own → Prop) (Q : Post) : Post
  | .normal, s, own => next s own
  | e, s, own => Q e s own
def blockQ (id : Nat) (Q : Post) : Post
  | .exit id', s, own => if id' = id then Q .normal s own else Q (.exit id') s own
  | e, s, own => Q e s own
section
variable {X : Cx} {s : Slots} {own : Own} {Q : Post}
theorem awp_mono {ac : AC} {Q' : Post} (h : AWP X ac s own Q) (hq : ∀ e s own, Q e s own → Q' e s own) : AWP X ac s own Q' :=
  fun c hc a w R => wpIn_mono (h c hc a w R) fun _ _ _ ⟨s', own', h1, h2⟩ => ⟨s', own', hq _ _ _ h1, h2⟩
theorem awp_seq {x y : AC} (h : AWP X x s own (thenQ (fun s own => AWP X y s own Q) Q)) : AWP X (.seq x y) s own Q := by
  intro c hc a w R
  cases c <;> first
    | (rcases compReg_shape hc with ⟨_, h, _⟩ | ⟨_, h, _⟩ <;> cases h; done)
    | simp only [compCode, Option.bind_eq_some_iff, Option.map_eq_some_iff, reduceCtorEq, and_false, exists_false, Option.some.injEq, exists_const] at hc
  rename_i ca cb
  obtain ⟨x', hx, y', hy, he⟩ := hc
  cases he
  refine wpIn_seq (wpIn_mono (h ca hx a w R) ?_)
  rintro e a' w' ⟨s', own', h1, h2⟩
  cases e with
  | normal => exact h1 cb hy a' w' h2
  | _ => exact ⟨s', own', h1, h2⟩
theorem awp_cond {x : Od} {l r : AC} (h : match x.ev s with | .bool t => (t = true → AWP X l s own Q) ∧ (t = false → AWP X r s own Q) | _ => False) : AWP X (.cond x l r) s own Q := by
  intro c hc a w R
  cases c <;> first
    | (rcases compReg_shape hc with ⟨_, h, _⟩ | ⟨_, h, _⟩ <;> cases h; done)
    | simp only [compCode, Option.bind_eq_some_iff, Option.map_eq_some_iff, reduceCtorEq, and_false, exists_false, Option.some.injEq, exists_const] at hc
  rename_i cc ca cb
  obtain ⟨x', hx, y', hy, he⟩ := hc
  cases he
  have hr := R.od cc
  cases hv : (od cc).ev s with
  | bool t =>
    rw [hv] at hr
    simp only [hv] at h
    generalize hep : a.eval cc = v at hr
    cases hr
    exact wpIn_cond_split hep (fun ht => h.1 ht _ hx a w R) (fun ht => h.2 ht _ hy a w R)
  | _ => simp [hv] at h
theorem awp_block {id : Nat} {x : AC} (h : AWP X x s own (blockQ id Q)) : AWP X (.block id x) s own Q := by
  intro c hc a w R
  cases c <;> first
    | (rcases compReg_shape hc with ⟨_, h, _⟩ | ⟨_, h, _⟩ <;> cases h; done)
    | simp only [compCode, Option.bind_eq_some_iff, Option.map_eq_some_iff, reduceCtorEq, and_false, exists_false, Option.some.injEq, exists_const] at hc
  obtain ⟨x', hx, he⟩ := hc
  cases he
  refine wpIn_block (wpIn_mono (h _ hx a w R) ?_)
  rintro e a' w' ⟨s', own', h1, h2⟩
  cases e with
  | exit id' =>
    simp only [blockQ] at h1
    simp only [Exit.inBlock]
    split
    · rename_i heq; rw [if_pos heq] at h1; exact ⟨s', own', h1, h2⟩
    · rename_i heq; rw [if_neg heq] at h1; exact ⟨s', own', h1, h2⟩
  | _ => exact ⟨s', own', h1, h2⟩
theorem awp_exit {id : Nat} (h : Q (.exit id) s own) : AWP X (.exit id) s own Q := by
  intro c hc a w R
  cases c <;> first
    | (rcases compReg_shape hc with ⟨_, h, _⟩ | ⟨_, h, _⟩ <;> cases h; done)
    | simp only [compCode, Option.bind_eq_some_iff, Option.map_eq_some_iff, reduceCtorEq, and_false, exists_false, Option.some.injEq, exists_const] at hc
  cases hc
  exact wpIn_exit ⟨s, own, h, R⟩
theorem awp_ret (h : Q .ret s own) : AWP X .ret s own Q := by
  intro c hc a w R
  cases c <;> first
    | (rcases compReg_shape hc with ⟨_, h, _⟩ | ⟨_, h, _⟩ <;> cases h; done)
    | simp only [compCode, Option.bind_eq_some_iff, Option.map_eq_some_iff, reduceCtorEq, and_false, exists_false, Option.some.injEq, exists_const] at hc
  exact wpIn_ret ⟨s, own, h, R⟩
theorem awp_skip (h : Q .normal s own) : AWP X .skip s own Q := by
  intro c hc a w R
  cases c <;> first
    | (rcases compReg_shape hc with ⟨_, h, _⟩ | ⟨_, h, _⟩ <;> cases h; done)
    | simp only [compCode, Option.bind_eq_some_iff, Option.map_eq_some_iff, reduceCtorEq, and_false, exists_false, Option.some.injEq, exists_const] at hc
  exact wpIn_skip ⟨s, own, h, R⟩
def Ent (X : Cx) (s : Slots) (own : Own) (s' : Slots) (own' : Own) : Prop := ∀ a w, Rep X s own a w → Rep X s' own' a w
theorem awp_loop {ι : Type} {x : AC} (st : ι → Slots) (ow : ι → Own) (μ : ι → Nat) (i0 : ι) (h0 : Ent X s own (st i0) (ow i0))
    (round : ∀ i, AWP X x (st i) (ow i) (thenQ (fun s own => ∃ j, μ j < μ i ∧ Ent X s own (st j) (ow j)) Q)) : AWP X (.loop x) s own Q := by
  intro c hc a w R
  cases c <;> first
    | (rcases compReg_shape hc with ⟨_, h, _⟩ | ⟨_, h, _⟩ <;> cases h; done)
    | simp only [compCode, Option.bind_eq_some_iff, Option.map_eq_some_iff, reduceCtorEq, and_false, exists_false, Option.some.injEq, exists_const] at hc
  rename_i cb
  obtain ⟨x', hx, he⟩ := hc
  cases he
  intro b k cs hro hbf hrm
  have key : ∀ n i a w, μ i = n → Rep X (st i) (ow i) a w → ∃ e a' w', liftQ X Q e a' w' ∧ ArrivesIn (Machine.fenced X.P (wideR X.rd)) X.P (lone (b.atR a (.code cb :: .inLoop cb :: k)) cs w) b k cs e a' w' := by
    intro n
    induction n using Nat.strongRecOn with
    | _ n ih =>
      intro i a w hn hR
      obtain ⟨e, a₁, w₁, ⟨s₁, own₁, hq, hR₁⟩, harr⟩ := round i cb hx a w hR b (.inLoop cb :: k) cs hro hbf hrm
      cases e with
      | normal =>
        obtain ⟨j, hlt, hent⟩ := hq
        obtain ⟨e₂, a₂, w₂, hq₂, harr₂⟩ := ih (μ j) (hn ▸ hlt) j a₁ w₁ rfl (hent a₁ w₁ hR₁)
        exact ⟨e₂, a₂, w₂, hq₂, .of_steps (StepsIn.trans harr (.one (fenced_calm hbf hrm rfl) stepR_inLoop)) harr₂⟩
      | exit id => exact ⟨_, a₁, w₁, ⟨s₁, own₁, hq, hR₁⟩, .pass (x := .inLoop cb) rfl (fun _ _ => .inl (by simp)) harr⟩
      | goto l => exact ⟨_, a₁, w₁, ⟨s₁, own₁, hq, hR₁⟩, .pass (x := .inLoop cb) rfl (fun _ _ => .inl (by simp)) harr⟩
      | ret => exact ⟨_, a₁, w₁, ⟨s₁, own₁, hq, hR₁⟩, .pass (x := .inLoop cb) rfl (fun _ _ => .inl (by simp)) harr⟩
      | panic ch => exact ⟨_, a₁, w₁, ⟨s₁, own₁, hq, hR₁⟩, .pass (x := .inLoop cb) rfl (fun _ _ => .inl (by simp)) harr⟩
      | outgrown => exact ⟨_, a₁, w₁, ⟨s₁, own₁, hq, hR₁⟩, .pass (x := .inLoop cb) rfl (fun _ _ => .inl (by simp)) harr⟩
  obtain ⟨e, a', w', hq, harr⟩ := key _ i0 a w rfl (h0 a w R)
  exact ⟨e, a', w', hq, .of_steps (.one (fenced_calm hbf hrm rfl) stepR_loop) harr⟩
theorem runA_sound {K : Slots → Own → Prop} (ops : Array Oper) : ∀ (l : List Oper) (k : Nat) (aos : List AO), (∀ j, l[j]? = ops[k + j]?) → compOps X.P X.n ops l = some aos →
    ∀ s own a w, Rep X s own a w → runA X Q K aos s own → wpOpsIn (wideR X.rd) 0 X.P ops (liftQ X (thenQ K Q)) (List.range' k l.length) a w
  | [], k, aos, hl, hc, s, own, a, w, R, h => by
    simp only [compOps, Option.some.injEq] at hc
    subst hc
    exact ⟨s, own, h, R⟩
  | o :: l, k, aos, hl, hc, s, own, a, w, R, h => by
    simp only [compOps, Option.bind_eq_some_iff, Option.map_eq_some_iff] at hc
    obtain ⟨ao, hao, aos', haos, rfl⟩ := hc
    obtain ⟨hcp, hd, hdn⟩ := compO_op hao
    have h0 : ops[k]? = some o := by simpa using (hl 0).symm
    have ih := fun s own a w => runA_sound (K := K) ops l (k + 1) aos' (fun j => by have := hl (j + 1); simpa [Nat.add_assoc, Nat.add_comm 1 j] using this) haos s own a w
    simp only [List.length_cons, List.range'_succ, wpOpsIn, h0]
    simp only [runA] at h
    rcases guard_sound R ops o X.n ao hao h with ⟨hw, h⟩ | ⟨hw, h⟩
    · rw [if_pos hw]
      rw [hd] at h
      exact op_sound R o hdn ao.op hcp h _ _ (fun s' own' a' w' hK hR => ih s' own' a' w' hR hK) (fun c a' w' h => h)
    · rw [if_neg (by simp [hw])]
      rw [hd] at h
      exact ⟨fun _ _ => trivial, ih _ _ _ _ (R.put o.dst hdn (rel_undef _ _)) h⟩
theorem comp_reg {P : Program} {n : Nat} {c : Code} {ops : List AO} (hc : compCode P n c = some (.reg ops)) : ∃ id rops, c = .region id rops false ∧ compOps P n rops rops.toList = some ops := by
  cases c <;> first
    | (obtain ⟨l, h1, h2, h3⟩ | ⟨l, h1, _⟩ := compReg_shape hc
       · cases h1
         subst h2
         exact ⟨_, _, rfl, h3⟩
       · cases h1)
    | (simp only [compCode, Option.bind_eq_some_iff, Option.map_eq_some_iff, reduceCtorEq, and_false, exists_false, Option.some.injEq, exists_const] at hc; done)
theorem comp_regD {P : Program} {n : Nat} {c : Code} {t : DT} (hc : compCode P n c = some (.regD t)) : ∃ id rops, c = .region id rops true ∧ (Region.noSelect rops = true ∧ noDefer rops = true) ∧ orders P n rops (sinkOf rops) rops.size (Array.replicate rops.size false) = some t := by
  cases c <;> first
    | (obtain ⟨l, h1, _⟩ | ⟨l, h1, h2, h3, h4⟩ := compReg_shape hc
       · cases h1
       · cases h1
         subst h2
         exact ⟨_, _, rfl, h3, h4⟩)
    | (simp only [compCode, Option.bind_eq_some_iff, Option.map_eq_some_iff, reduceCtorEq, and_false, exists_false, Option.some.injEq, exists_const] at hc; done)
theorem awp_reg {ops : List AO} (h : ∀ (K : Slots → Own → Prop) (Q' : Post), (∀ s own, Q .normal s own → K s own) → (∀ c s own, Q (.panic c) s own → Q' (.panic c) s own) → runA X Q' K ops s own) : AWP X (.reg ops) s own Q := by
  intro c hc a w R
  obtain ⟨id, rops, rfl, hx⟩ := comp_reg hc
  have := runA_sound (Q := Q) (K := Q .normal) rops rops.toList 0 ops (by simp) hx s own a w R (h _ _ (fun _ _ h => h) (fun _ _ _ h => h))
  have hq : thenQ (Q .normal) Q = Q := by
    funext e
    cases e <;> rfl
  rw [hq] at this
  refine wpIn_region ?_
  rw [List.range_eq_range']
  exact this
end
inductive RV where
  | tmp (t : Nat)
  | cell (ag : Bool) (sz : Nat) (a : Nat)
def compRes (P : Program) : List ResultVar → Option (List RV)
  | [] => some []
  | .tmp t :: r => (compRes P r).map fun l => .tmp t :: l
  | .cell a t :: r => if aggB P t then (P.info? t).bind fun i => (compRes P r).map fun l => .cell true i.size a :: l else
      if (P.underlying t).isSome then (compRes P r).map fun l => .cell false 1 a :: l else none
def resK (s : Slots) (own : Own) : List RV → (List AV → Prop) → Prop
  | [], K => K []
  | .tmp t :: r, K => resK s own r fun l => K (s.get t :: l)
  | .cell ag sz a :: r, K => cellsAt own (s.get a) sz fun cs => resK s own r fun l => K (mk ag cs :: l)
def resV : List AV → AV
  | [v] => v
  | vs => .tup vs
def Leaves (own : Own) (G : Own → Prop) : Prop := ∃ o : Own, (o.map fun e => e.2).Sublist (own.map fun e => e.2) ∧ G o
def retQ (rs : List RV) (R : Res → Own → Prop) : Post
  | .normal, s, own => resK s own rs fun vs => Leaves own (R (.val (resV vs)))
  | .ret, s, own => resK s own rs fun vs => Leaves own (R (.val (resV vs)))
  | .panic c, _, own => Leaves own (R (.pan c))
  | _, _, _ => False
def argS : Nat → List AV → Slots
  | _, [] => []
  | k, x :: r => (k, x) :: argS (k + 1) r
theorem argS_get : ∀ (args : List AV) (k t : Nat), (argS k args).get t = if k ≤ t then args.getD (t - k) .any else .any
  | [], k, t => by simp [argS, Slots.get]
  | x :: r, k, t => by
    simp only [argS, Slots.get]
    by_cases h : k = t
    · subst h; simp
    · rw [if_neg h, argS_get r (k + 1) t]
      by_cases h2 : k + 1 ≤ t
      · rw [if_pos h2, if_pos (by omega), show t - k = (t - (k + 1)) + 1 by omega]
        rfl
      · rw [if_neg h2]
        by_cases h3 : k ≤ t
        · omega
        · rw [if_neg h3]
def resM (tmps : Array Value) : ResultVar → Sem Value
  | .tmp t => pure (tmps.getD t undef)
  | .cell q t => do loadVar t (← asAddr (tmps.getD q undef))
section
variable {X : Cx} {s : Slots} {own : Own} {a : Act} {w : World}
theorem res_list (R : Rep X s own a w) : ∀ (l : List ResultVar) (rs : List RV) (_ : compRes X.P l = some rs) (K : List AV → Prop), resK s own rs K →
    ∃ vs : List Value, (l.mapM (resM a.tmps)).run X.P w = .ok vs w ∧
      ∃ xs, K xs ∧ vs.length = xs.length ∧ ∀ (j : Nat) (v : Value) (y : AV), vs[j]? = some v → xs[j]? = some y → Rel (Fo X.fr own) w v y
  | [], rs, hc, K, h => by
    simp only [compRes, Option.some.injEq] at hc
    subst hc
    exact ⟨[], by simp, [], h, rfl, by simp⟩
  | .tmp t :: l, rs, hc, K, h => by
    simp only [compRes, Option.map_eq_some_iff] at hc
    obtain ⟨rs', hc', rfl⟩ := hc
    obtain ⟨vs, hrun, xs, hK, hl, hr⟩ := res_list R l rs' hc' _ h
    refine ⟨a.tmps.getD t undef :: vs, by simp only [List.mapM_cons, resM, Sem.run_bind, Sem.run_pure, Result.andThen_ok, hrun], _, hK, by simp [hl], fun j v y hj hy => ?_⟩
    cases j with
    | zero =>
      simp only [List.getElem?_cons_zero, Option.some.injEq] at hj hy
      rw [← hj, ← hy]
      exact R.tm t
    | succ j => exact hr j v y (by simpa using hj) (by simpa using hy)
  | .cell q t :: l, rs, hc, K, h => by
    simp only [compRes] at hc
    have go : ∀ (ag : Bool) (sz : Nat) (rs' : List RV), rs = .cell ag sz q :: rs' → compRes X.P l = some rs' → (∀ b o, ∀ vs : List Value, vs.length = sz → (∀ (j : Nat) v, vs[j]? = some v → w.cell? ⟨b, o + j, none⟩ = some v ∧ v.oneCell' = true) →
        ∀ cs : List AV, cs.length = sz → (∀ (j : Nat) (v : Value) (y : AV), vs[j]? = some v → cs[j]? = some y → Rel (Fo X.fr own) w v y) → ∃ v, (loadVar t ⟨b, o, none⟩).run X.P w = .ok v w ∧ Rel (Fo X.fr own) w v (mk ag cs)) → ∃ vs : List Value, ((.cell q t :: l : List ResultVar).mapM (resM a.tmps)).run X.P w = .ok vs w ∧
      ∃ xs, K xs ∧ vs.length = xs.length ∧ ∀ (j : Nat) (v : Value) (y : AV), vs[j]? = some v → xs[j]? = some y → Rel (Fo X.fr own) w v y := by
      intro ag sz rs' hrs hc' hld
      subst hrs
      simp only [resK] at h
      obtain ⟨b, o, cs, vs0, hv, hK, hvl, hcl, hb, hcell, hrel⟩ := addr_cells (K := fun cs => resK s own rs' fun l => K (mk ag cs :: l)) R (R.tm q) h
      obtain ⟨v, hload, hvr⟩ := hld b o vs0 hvl hcell cs hcl hrel
      obtain ⟨vs, hrun, xs, hK', hl, hr⟩ := res_list R l rs' hc' _ hK
      refine ⟨v :: vs, by simp only [List.mapM_cons, resM, hv, Sem.run_bind, show (asAddr (.pointer (some ⟨b, o, none⟩))).run X.P w = .ok ⟨b, o, none⟩ w from rfl, Sem.run_pure, Result.andThen_ok, hload, hrun], _, hK', by simp [hl], fun j u y hj hy => ?_⟩
      cases j with
      | zero =>
        simp only [List.getElem?_cons_zero, Option.some.injEq] at hj hy
        rw [← hj, ← hy]
        exact hvr
      | succ j => exact hr j u y (by simpa using hj) (by simpa using hy)
    split at hc
    · rename_i hag
      simp only [Option.bind_eq_some_iff, Option.map_eq_some_iff] at hc
      obtain ⟨i, hi, rs', hc', he⟩ := hc
      refine go true i.size rs' he.symm hc' (fun b o vs hvl hcell cs hcl hrel => ⟨_, loadVar_agg hag hi w b o vs hvl (fun j v hj => (hcell j v hj).1), rel_mk (by omega) (fun j v hj => (hcell j v hj).2) hrel⟩)
    · rename_i hag
      split at hc
      · rename_i hsome
        obtain ⟨d, hd⟩ := Option.isSome_iff_exists.1 hsome
        simp only [Option.map_eq_some_iff] at hc
        obtain ⟨rs', hc', he⟩ := hc
        refine go false 1 rs' he.symm hc' (fun b o vs hvl hcell cs hcl hrel => ?_)
        obtain ⟨v, rfl⟩ := List.length_eq_one_iff.1 hvl
        obtain ⟨x, rfl⟩ := List.length_eq_one_iff.1 hcl
        exact ⟨v, loadVar_one (by simpa using hag) hd w b o v (hcell 0 v rfl).1, hrel 0 v x rfl rfl⟩
      · cases hc
end
def retV : List Value → Value
  | [v] => v
  | vs => .tuple vs.toArray
theorem results_run {P : Program} (fn : Func) (tmps : Array Value) (w : World) (vs : List Value) (h : (fn.results.toList.mapM (resM tmps)).run P w = .ok vs w) :
    (results fn tmps).run P w = .ok (retV vs) w := by
  show (do let vs ← fn.results.mapM (resM tmps); pure (if h : vs.size = 1 then vs[0] else .tuple vs) : Sem Value).run P w = _
  rw [Array.mapM_eq_mapM_toList]
  simp only [Sem.run_bind, Sem.run_map, h, Result.andThen_ok, Sem.run_pure]
  clear h
  match vs with
  | [] => rfl
  | [v] => rfl
  | _ :: _ :: _ => rfl
theorem fn_intro {P : Program} {f : FuncId} {fn : Func} {c : Code} {ac : AC} {rs : List RV} (hf : P.funcs[f]? = some fn) (hb : fn.body = some c) (hc : compCode P fn.ntmps c = some ac) (hres : compRes P fn.results.toList = some rs)
    {args : List AV} {own : Own} {R : Res → Own → Prop} (hn : args.length ≤ fn.ntmps) (h : ∀ fr w0, AWP ⟨P, fr, w0, own.has, fn.ntmps, [], none, false⟩ ac (argS 0 args) own (retQ rs R)) : FnC P f args own R := by
  intro fr vs w hl hr hok
  let X : Cx := ⟨P, fr, w, own.has, fn.ntmps, [], none, false⟩
  have R0 : Rep X (argS 0 args) own { tmps := vs ++ Array.replicate (fn.ntmps - vs.size) undef, defers := [] } w := by
    refine ⟨fun t => ?_, hok, fun b hb => .inl hb, by simp [X]; omega, ⟨fun _ => rfl, [], rfl, List.nodup_nil, by simp⟩, Grow.refl _ _⟩
    rw [argS_get, if_pos (Nat.zero_le _), Nat.sub_zero]
    rcases Nat.lt_or_ge t args.length with hlt | hge
    · have h1 : vs[t]? = some vs[t] := Array.getElem?_eq_getElem (by omega)
      have h2 : args[t]? = some args[t] := List.getElem?_eq_getElem hlt
      have := hr t _ _ h1 h2
      simp only [Array.getD_eq_getD_getElem?, Array.getElem?_append_left (show t < vs.size by omega), h1, Option.getD_some, List.getD, h2]
      exact this
    · simp only [List.getD, List.getElem?_eq_none hge, Option.getD_none]
      exact .any _
  have hR1 : ∀ {e a' w'}, liftQ X (retQ rs R) e a' w' → bodyPostM (wideR none) 0 P fn (EndsA fr own R w) e a' w' := by
    rintro e a' w' ⟨s', own', hq, hR0⟩
    obtain ⟨_, bs, hd0, hn0, hb0⟩ := hR0.defs
    have hR' := hR0.shut hn0 hb0 rfl
    have hd1 : a'.defers = bs.map markD := by simpa [X] using hd0
    generalize hw1 : Aw.shut w' bs = w1 at hR'
    have leave : ∀ o : Own, (o.map fun e => e.2).Sublist (own'.map fun e => e.2) → Rep X s' o { a' with defers := [] } w1 := by
      intro o ho
      have hm : ∀ e, e ∈ o → ∃ e0, e0 ∈ own' ∧ e0.2 = e.2 := fun e he => by
        obtain ⟨e0, h0, h1⟩ := List.mem_map.1 (ho.subset (List.mem_map.2 ⟨e, he, rfl⟩))
        exact ⟨e0, h0, h1⟩
      refine hR'.reown o (fun e he => ?_) ?_
      · obtain ⟨e0, h0, h1⟩ := hm e he
        exact ⟨e0, h0, by rw [h1], by rw [h1]; exact ObLe.refl _⟩
      · have h1 := ho.map (fun p : Nat × Ob => p.1)
        simp only [List.map_map] at h1
        exact h1.nodup hR'.ok.nodup
    have fin : resK s' own' rs (fun vs => Leaves own' (R (.val (resV vs)))) → LeavesInM (wideR none) 0 P fn a'.tmps (EndsA fr own R w) a'.defers .returning w' := by
      intro hres'
      obtain ⟨vs', hrun, xs, hK, hvl, hrel⟩ := res_list hR' fn.results.toList rs hres _ hres'
      obtain ⟨o, ho, hK⟩ := hK
      have hRo := leave o ho
      have hle : ∀ b, Fo fr o b → Fo fr own' b := fun b hb => by
        rcases hb with hb | hb
        · exact .inl hb
        · have h1 := ho.map (fun p : Nat × Ob => p.1)
          simp only [List.map_map] at h1
          exact .inr (h1.subset hb)
      have hrel : ∀ (j : Nat) (v : Value) (y : AV), vs'[j]? = some v → xs[j]? = some y → Rel (Fo fr o) w1 v y := fun j v y hj hy => (hrel j v y hj hy).mono (Grow.refl _ _) (fun b _ hb => hle b hb)
      rw [hd1]
      refine leaves_marks (by simp) bs w' hn0 (fun b hb => (hb0 b hb).2.2.2) ?_
      rw [hw1]
      refine ⟨_, results_run fn a'.tmps w1 vs' hrun, .val (resV xs), o, hK, ⟨_, rfl, ?_⟩, hRo.ok, hRo.kept, hRo.new⟩
      clear hrun hK
      match vs', xs, hvl, hrel with
      | [], [], _, _ => exact .tup _ _ rfl (by simp)
      | [v], [x], _, hrel => exact hrel 0 v x rfl rfl
      | v :: v' :: vs', x :: x' :: xs, hvl, hrel => exact .tup _ _ (by simpa using hvl) (fun j u y hj hy => hrel j u y (by simpa using hj) hy)
    cases e with
    | normal => exact fin hq
    | ret => exact fin hq
    | panic ch =>
      obtain ⟨o, ho, hK⟩ := hq
      have hRo := leave o ho
      show LeavesInM _ _ _ _ _ _ _ _ _
      rw [hd1]
      refine leaves_marks (by simp) bs w' hn0 (fun b hb => (hb0 b hb).2.2.2) ?_
      rw [hw1]
      exact ⟨.pan ch, o, hK, rfl, hRo.ok, hRo.kept, hRo.new⟩
    | _ => exact hq.elim
  refine (callsIn_wideR (r := none) (n := 0)).1 (callsIn_of_wp_marks hf hb trivial (wpIn_mono (h fr w c hc _ w R0) fun e a' w' h => hR1 h))
theorem fn_intro' {P : Program} {f : FuncId} {fn : Func} {ac : AC} {rs : List RV} (n : Nat) (hf : P.funcs[f]? = some fn) (hnt : fn.ntmps = n) (hc : fn.body.bind (compCode P n) = some ac) (hres : compRes P fn.results.toList = some rs)
    {args : List AV} {own : Own} {R : Res → Own → Prop} (hn : args.length ≤ n) (h : ∀ X : Cx, X.P = P → X.n = n → X.defs = [] → X.rd = none → AWP X ac (argS 0 args) own (retQ rs R)) : FnC P f args own R := by
  subst hnt
  obtain ⟨c, hb, hc⟩ := Option.bind_eq_some_iff.1 hc
  exact fn_intro hf hb hc hres hn fun fr w0 => h _ rfl rfl rfl rfl
def Slots.sub (s' s : Slots) : Prop :=
  match s' with
  | [] => True
  | (t, x) :: r => s.get t = x ∧ Slots.sub r s
theorem callG_of {C : Array Value → World → (Ending → World → Prop) → Prop} (hC : ∀ vs w R R', C vs w R → (∀ e w, R e w → R' e w) → C vs w R') {fr : Nat → Prop} {args : List AV} {own hand rest : Own} {R R' : Res → Own → Prop} (h : ∀ fr, CallG C fr args hand R) (hp : own.Perm (hand ++ rest)) (hk : ∀ r own', R r own' → R' r (own' ++ rest)) : CallG C fr args own R' := by
  intro vs w hl hr hok
  have hhas : ∀ b, own.has b ↔ (hand.has b ∨ rest.has b) := fun b => by
    unfold Own.has
    rw [(hp.map _).mem_iff, List.map_append, List.mem_append]
  have hnd : ((hand.map fun e => e.2.1) ++ (rest.map fun e => e.2.1)).Nodup := by
    have := (hp.map (fun e => e.2.1)).nodup_iff.1 hok.nodup
    rwa [List.map_append] at this
  obtain ⟨hnd1, hnd2, hnd3⟩ := List.nodup_append.1 hnd
  let fr' : Nat → Prop := fun b => fr b ∨ rest.has b
  have hF : ∀ b, Fo fr' hand b ↔ Fo fr own b := fun b => by
    unfold Fo
    rw [hhas]
    show (fr b ∨ rest.has b) ∨ hand.has b ↔ _
    constructor
    · rintro ((h | h) | h)
      · exact .inl h
      · exact .inr (.inr h)
      · exact .inr (.inl h)
    · rintro (h | h | h)
      · exact .inl (.inl h)
      · exact .inr h
      · exact .inl (.inr h)
  have hlt : ∀ b, own.has b → b < w.heap.size := fun b hb => by
    obtain ⟨e, he, rfl⟩ := List.mem_map.1 hb
    exact (hok.holds e he).lt
  have ok' : OwnOk fr' w hand := by
    refine ⟨fun e he => ?_, hnd1, fun b hb => ?_, fun b hb => ?_⟩
    · exact (hok.holds e (hp.mem_iff.2 (List.mem_append_left _ he))).mono (Grow.refl (fun _ => False) w) (fun _ f => f.elim) (fun f => f) (fun b _ hb => (hF b).1 hb)
    · rintro (h1 | h1)
      · exact hok.apart b ((hhas b).2 (.inl hb)) h1
      · exact hnd3 _ hb _ h1 rfl
    · rcases hb with h1 | h1
      · exact hok.fr b h1
      · exact hlt b ((hhas b).2 (.inr h1))
  refine hC _ _ _ _ (h fr' vs w hl (fun j v y hj hy => (hr j v y hj hy).mono (Grow.refl _ _) (fun b _ hb => (hF b).1 hb)) ok') ?_
  rintro e w' ⟨r, own', hR, he, hok', hg, hnew⟩
  have hF' : ∀ b, Fo fr (own' ++ rest) b ↔ Fo fr' own' b := fun b => by
    show fr b ∨ Own.has (own' ++ rest) b ↔ (fr b ∨ rest.has b) ∨ own'.has b
    unfold Own.has
    rw [List.map_append, List.mem_append]
    constructor
    · rintro (h | h | h)
      · exact .inl (.inl h)
      · exact .inr h
      · exact .inl (.inr h)
    · rintro ((h | h) | h)
      · exact .inl h
      · exact .inr (.inr h)
      · exact .inr (.inl h)
  have hrest : ∀ b, rest.has b → ¬ hand.has b := fun b h1 h2 => hnd3 _ h2 _ h1 rfl
  refine ⟨r, own' ++ rest, hk r own' hR, ?_, ⟨fun e he => ?_, ?_, fun b hb => ?_, fun b hb => Nat.lt_of_lt_of_le (hok.fr b hb) hg.sz⟩, hg.mono (fun b _ hb => (hhas b).2 (.inl hb)), fun b hb => ?_⟩
  · cases r with
    | val x =>
      obtain ⟨v, hv, hrel⟩ := he
      exact ⟨v, hv, hrel.mono (Grow.refl _ _) (fun b _ hb => (hF' b).1 hb)⟩
    | pan c => exact he
  · rcases List.mem_append.1 he with he | he
    · exact (hok'.holds e he).mono (Grow.refl (fun _ => False) w') (fun _ f => f.elim) (fun f => f) (fun b _ hb => (hF' b).1 hb)
    · have hin : rest.has e.2.1 := List.mem_map.2 ⟨e, he, rfl⟩
      refine (hok.holds e (hp.mem_iff.2 (List.mem_append_right _ he))).mono hg (fun b hb => .inr ((hhas b).2 (.inl hb))) (hrest _ hin) (fun b hb hfo => ?_)
      rcases (hF' b).1 hfo with h1 | h1
      · rcases h1 with h1 | h1
        · exact .inl h1
        · exact .inr ((hhas b).2 (.inr h1))
      · rcases hnew b h1 with h2 | h2
        · exact .inr ((hhas b).2 (.inl h2))
        · omega
  · rw [List.map_append]
    refine List.nodup_append.2 ⟨hok'.nodup, hnd2, fun x hx y hy hxy => ?_⟩
    subst hxy
    exact hok'.apart x hx (.inr hy)
  · unfold Own.has at hb
    rw [List.map_append, List.mem_append] at hb
    rcases hb with hb | hb
    · exact fun h1 => hok'.apart b hb (.inl h1)
    · exact hok.apart b ((hhas b).2 (.inr hb))
  · unfold Own.has at hb
    rw [List.map_append, List.mem_append] at hb
    rcases hb with hb | hb
    · rcases hnew b hb with h1 | h1
      · exact .inl ((hhas b).2 (.inl h1))
      · exact .inr h1
    · exact .inl ((hhas b).2 (.inr hb))
theorem call_of {P : Program} {fr : Nat → Prop} {f : FuncId} {args : List AV} {own hand rest : Own} {R R' : Res → Own → Prop} (h : FnC P f args hand R) (hp : own.Perm (hand ++ rest)) (hk : ∀ r own', R r own' → R' r (own' ++ rest)) : CallA P fr f args own R' :=
  callG_of (fun _ _ _ _ h hr => h.mono hr) h hp hk
def PureC (P : Program) (f : FuncId) (args : List AV) (x : AV) : Prop := FnC P f args [] fun r o => r = .val x ∧ o = []
section
variable {X : Cx} {s : Slots} {own : Own} {Q : Post}
theorem awp_then {x : Od} {l r : AC} (hx : x.ev s = .bool true) (h : AWP X l s own Q) : AWP X (.cond x l r) s own Q :=
  awp_cond (by rw [hx]; exact ⟨fun _ => h, fun h => (by cases h)⟩)
theorem awp_else {x : Od} {l r : AC} (hx : x.ev s = .bool false) (h : AWP X r s own Q) : AWP X (.cond x l r) s own Q :=
  awp_cond (by rw [hx]; exact ⟨fun h => (by cases h), fun _ => h⟩)
theorem exit_here {id : Nat} (h : Q .normal s own) : blockQ id Q (.exit id) s own := by
  simp only [blockQ, if_true]
  exact h
theorem exit_on {id id' : Nat} (hne : (id' == id) = false) (h : Q (.exit id') s own) : blockQ id Q (.exit id') s own := by
  simp only [blockQ, if_neg (show ¬ id' = id by simpa using hne)]
  exact h
theorem then_exit {id : Nat} {n : Slots → Own → Prop} (h : Q (.exit id) s own) : thenQ n Q (.exit id) s own := h
theorem then_ret {n : Slots → Own → Prop} (h : Q .ret s own) : thenQ n Q .ret s own := h
theorem then_normal {n : Slots → Own → Prop} (h : n s own) : thenQ n Q .normal s own := h
theorem blk_ret {id : Nat} (h : Q .ret s own) : blockQ id Q .ret s own := h
theorem blk_normal {id : Nat} (h : Q .normal s own) : blockQ id Q .normal s own := h
theorem resK_nil {G : List AV → Prop} : resK s own [] G = G [] := by rfl
theorem resK_tmp {t : Nat} {r : List RV} {G : List AV → Prop} : resK s own (.tmp t :: r) G = resK s own r fun l => G (s.get t :: l) := by rfl
theorem resK_cell {ag : Bool} {sz a : Nat} {r : List RV} {G : List AV → Prop} : resK s own (.cell ag sz a :: r) G = cellsAt own (s.get a) sz fun cs => resK s own r fun l => G (mk ag cs :: l) := by rfl
theorem resV_one {v : AV} : resV [v] = v := by rfl
theorem resV_two {v u : AV} : resV [v, u] = .tup [v, u] := by rfl
theorem resV_three {v u x : AV} : resV [v, u, x] = .tup [v, u, x] := by rfl
theorem resV_nil : resV [] = .tup [] := by rfl
end
theorem leaves_none {own : Own} {x : AV} {y : AV} (h : y = x) : Leaves own (fun o => Res.val y = .val x ∧ o = []) := ⟨[], List.nil_sublist _, by rw [h], rfl⟩
end Go.Aw
