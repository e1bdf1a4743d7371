/- The core of a small program logic over the kit's runs: abstract values, what they say of a world, and how that is kept. -/
import Derived.Calls
import Derived.Deep.Quiet
import Derived.Below
set_option linter.unusedSimpArgs false
set_option linter.unusedVariables false
set_option linter.deprecated false
namespace Go.Aw

/-- An abstract value. 'any': nothing known. 'ptr', 'row': an address in a block that is owned ('k' is a label to find it by). 'sl': a slice in memory that does not change. 'ref': the address of cells that do not change. -/
inductive AV where
  | any
  | int (k : IntKind) (n : Int)
  | bool (b : Bool)
  | str (l : List UInt8)
  | lit (v : Value)
  | ptr (k b o : Nat)
  | row (k b o n s : Nat)
  | nil
  | sl (xs : List AV)
  | ref (cs : List AV)
  | agg (cs : List AV)
  | tup (vs : List AV)
  | fn (f : Fn) (first cap : List AV)
  | ifc (t : TypeId) (v : AV)

instance : Inhabited AV := ⟨.any⟩

def AV.cells : AV → List AV
  | .agg cs => cs
  | x => [x]

/-- 'v' reads as 'x' in 'w', by memory outside of 'F' where it is memory that does not change. -/
inductive Rel (F : Nat → Prop) (w : World) : Value → AV → Prop where
  | any (v : Value) : Rel F w v .any
  | int (k : IntKind) (n : Int) : Rel F w (.int k n) (.int k n)
  | bool (b : Bool) : Rel F w (.bool b) (.bool b)
  | str (l : List UInt8) : Rel F w (.string ⟨l.toArray⟩) (.str l)
  | lit (v : Value) : Rel F w v (.lit v)
  | ptr (k b o : Nat) : Rel F w (.pointer (some ⟨b, o, none⟩)) (.ptr k b o)
  | row (k b o n s cap csz : Nat) (T : TypeId) (hn : n ≤ cap) (hs : w.shape? b = some (T, csz)) (hc : o + cap * s ≤ csz) :
      Rel F w (.slice (some ⟨b, o, none⟩) n cap) (.row k b o n s)
  | nil : Rel F w (.slice none 0 0) .nil
  | slnil : Rel F w (.slice none 0 0) (.sl [])
  | sl0 (a : Addr) (cap : Nat) : Rel F w (.slice (some a) 0 cap) (.sl [])
  | sl (b o n cap s : Nat) (xs : List AV) (cv : Nat → Value) (hF : ¬ F b) (hb : b < w.heap.size) (hlen : n = xs.length) (hn : n ≤ cap)
      (hs : ∀ (i : Nat) (x : AV), xs[i]? = some x → x.cells.length = s)
      (hc : ∀ (i : Nat) (x : AV) (j : Nat) (y : AV), xs[i]? = some x → x.cells[j]? = some y → w.cell? ⟨b, o + i * s + j, none⟩ = some (cv (i * s + j)))
      (ho : ∀ (i : Nat) (x : AV) (j : Nat) (y : AV), xs[i]? = some x → x.cells[j]? = some y → (cv (i * s + j)).oneCell' = true)
      (hr : ∀ (i : Nat) (x : AV) (j : Nat) (y : AV), xs[i]? = some x → x.cells[j]? = some y → Rel F w (cv (i * s + j)) y) :
      Rel F w (.slice (some ⟨b, o, none⟩) n cap) (.sl xs)
  | ref (b o : Nat) (cs : List AV) (cv : Nat → Value) (hF : ¬ F b) (hb : b < w.heap.size)
      (hc : ∀ (j : Nat) (y : AV), cs[j]? = some y → w.cell? ⟨b, o + j, none⟩ = some (cv j))
      (ho : ∀ (j : Nat) (y : AV), cs[j]? = some y → (cv j).oneCell' = true)
      (hr : ∀ (j : Nat) (y : AV), cs[j]? = some y → Rel F w (cv j) y) :
      Rel F w (.pointer (some ⟨b, o, none⟩)) (.ref cs)
  | agg (vs : Array Value) (cs : List AV) (hlen : vs.size = cs.length) (ho : ∀ (j : Nat) (v : Value), vs[j]? = some v → v.oneCell' = true) (hr : ∀ (j : Nat) (v : Value) (y : AV), vs[j]? = some v → cs[j]? = some y → Rel F w v y) :
      Rel F w (.agg vs) (.agg cs)
  | tup (vs : Array Value) (cs : List AV) (hlen : vs.size = cs.length) (hr : ∀ (j : Nat) (v : Value) (y : AV), vs[j]? = some v → cs[j]? = some y → Rel F w v y) :
      Rel F w (.tuple vs) (.tup cs)
  | fn (f : Fn) (as bs : Array Value) (fs cs : List AV) (hlen : as.size = fs.length) (hlen' : bs.size = cs.length)
      (hr : ∀ (j : Nat) (v : Value) (y : AV), as[j]? = some v → fs[j]? = some y → Rel F w v y)
      (hr' : ∀ (j : Nat) (v : Value) (y : AV), bs[j]? = some v → cs[j]? = some y → Rel F w v y) :
      Rel F w (.func f as bs) (.fn f fs cs)
  | ifc (t : TypeId) (v : Value) (x : AV) (hr : Rel F w v x) : Rel F w (.iface t v) (.ifc t x)

/-- From 'w' to 'w'' only blocks of 'D' and new blocks have turned. -/
structure Grow (D : Nat → Prop) (w w' : World) : Prop where
  sz : w.heap.size ≤ w'.heap.size
  same : ∀ b, b < w.heap.size → ¬ D b → w'.heap[b]? = w.heap[b]?
  shp : ∀ b s, w.shape? b = some s → w'.shape? b = some s
  frz : ∀ b, b < w.heap.size → ∀ i, w'.frozen? ⟨b, i, none⟩ = w.frozen? ⟨b, i, none⟩
  os : w'.os = w.os
  tape : w'.tape = w.tape
  out : w'.output = w.output

theorem Grow.refl (D : Nat → Prop) (w : World) : Grow D w w := ⟨Nat.le_refl _, fun _ _ _ => rfl, fun _ _ h => h, fun _ _ _ => rfl, rfl, rfl, rfl⟩
theorem Grow.trans {D : Nat → Prop} {a b c : World} (h : Grow D a b) (k : Grow D b c) : Grow D a c :=
  ⟨Nat.le_trans h.sz k.sz, fun x hx hD => (k.same x (Nat.lt_of_lt_of_le hx h.sz) hD).trans (h.same x hx hD), fun x s hs => k.shp x s (h.shp x s hs),
    fun x hx i => (k.frz x (Nat.lt_of_lt_of_le hx h.sz) i).trans (h.frz x hx i), k.os.trans h.os, k.tape.trans h.tape, k.out.trans h.out⟩
theorem Grow.mono {D D' : Nat → Prop} {w w' : World} (h : Grow D w w') (hD : ∀ b, b < w.heap.size → D b → D' b) : Grow D' w w' :=
  ⟨h.sz, fun b hb hn => h.same b hb (fun hd => hn (hD b hb hd)), h.shp, h.frz, h.os, h.tape, h.out⟩
theorem Grow.cell {D : Nat → Prop} {w w' : World} (h : Grow D w w') {b o : Nat} (hb : b < w.heap.size) (hD : ¬ D b) : w'.cell? ⟨b, o, none⟩ = w.cell? ⟨b, o, none⟩ := by
  unfold World.cell?
  simp only [h.same b hb hD]

theorem Rel.mono {F F' : Nat → Prop} {w w' : World} {v : Value} {x : AV} (h : Rel F w v x) (hg : Grow F w w') (hF : ∀ b, b < w.heap.size → F' b → F b) : Rel F' w' v x := by
  induction h with
  | any v => exact .any v
  | int k n => exact .int k n
  | bool b => exact .bool b
  | str l => exact .str l
  | lit v => exact .lit v
  | ptr k b o => exact .ptr k b o
  | row k b o n s cap csz T hn hs hc => exact .row k b o n s cap csz T hn (hg.shp _ _ hs) hc
  | nil => exact .nil
  | slnil => exact .slnil
  | sl0 a cap => exact .sl0 a cap
  | sl b o n cap s xs cv hFb hb hlen hn hs hc ho hr ih =>
    exact .sl b o n cap s xs cv (fun h => hFb (hF b hb h)) (Nat.lt_of_lt_of_le hb hg.sz) hlen hn hs
      (fun i x j y hi hj => (hg.cell hb hFb).trans (hc i x j y hi hj)) ho ih
  | ref b o cs cv hFb hb hc ho hr ih =>
    exact .ref b o cs cv (fun h => hFb (hF b hb h)) (Nat.lt_of_lt_of_le hb hg.sz) (fun j y hj => (hg.cell hb hFb).trans (hc j y hj)) ho ih
  | agg vs cs hlen ho hr ih => exact .agg vs cs hlen ho ih
  | tup vs cs hlen hr ih => exact .tup vs cs hlen ih
  | fn f as bs fs cs hlen hlen' hr hr' ih ih' => exact .fn f as bs fs cs hlen hlen' ih ih'
  | ifc t v x hr ih => exact .ifc t v x ih

abbrev Slots := List (Nat × AV)
def Slots.get (s : Slots) (t : Nat) : AV :=
  match s with
  | [] => .any
  | (k, v) :: r => if k = t then v else Slots.get r t

/-- What an owned block holds: cells; or the record of a range over a function, its temporaries read as 's'. -/
inductive Ob where
  | cells (cs : List AV)
  | loop (s : Slots) (p : Loop → Prop)

def Holds (F : Nat → Prop) (w : World) (b : Nat) : Ob → Prop
  | .cells cs => (∃ T sz, w.shape? b = some (T, sz) ∧ cs.length ≤ sz) ∧ (∀ i, w.frozen? ⟨b, i, none⟩ = false) ∧
      ∀ (i : Nat) (x : AV), cs[i]? = some x → ∃ v, w.cell? ⟨b, i, none⟩ = some v ∧ v.oneCell' = true ∧ Rel F w v x
  | .loop s p => ∃ r, w.heap[b]? = some (.loop r) ∧ p r ∧ ∀ t, Rel F w (r.tmps.getD t undef) (s.get t)

theorem shape_lt {w : World} {b : Nat} {q : TypeId × Nat} (h : w.shape? b = some q) : b < w.heap.size := by
  unfold World.shape? at h
  cases hb : w.heap[b]? with
  | none => simp [hb] at h
  | some o => exact (Array.getElem?_eq_some_iff.1 hb).1

theorem shape_cell {w : World} {b : Nat} {T : TypeId} {sz : Nat} (h : w.shape? b = some (T, sz)) {i : Nat} (hi : i < sz) : (w.cell? ⟨b, i, none⟩).isSome = true := by
  unfold World.shape? at h
  unfold World.cell?
  cases hb : w.heap[b]? with
  | none => simp [hb] at h
  | some o =>
    cases o <;> simp [hb] at h
    obtain ⟨rfl, rfl⟩ := h
    simp [hi]

theorem Holds.lt {F : Nat → Prop} {w : World} {b : Nat} {ob : Ob} (h : Holds F w b ob) : b < w.heap.size := by
  cases ob with
  | cells cs =>
    obtain ⟨⟨T, sz, h, _⟩, _⟩ := h
    exact shape_lt h
  | loop s p =>
    obtain ⟨r, h, _⟩ := h
    exact (Array.getElem?_eq_some_iff.1 h).1

/-- An owned block is as it was, what it leads to too. -/
theorem Holds.mono {F F' D : Nat → Prop} {w w' : World} {b : Nat} {ob : Ob} (h : Holds F w b ob) (hg : Grow D w w') (hD : ∀ x, D x → F x) (hb : ¬ D b) (hF : ∀ b, b < w.heap.size → F' b → F b) : Holds F' w' b ob := by
  have hlt := h.lt
  cases ob with
  | cells cs =>
    obtain ⟨⟨T, sz, h1, h3⟩, h2, h4⟩ := h
    refine ⟨⟨T, sz, hg.shp _ _ h1, h3⟩, fun i => (hg.frz b hlt i).trans (h2 i), fun i x hx => ?_⟩
    obtain ⟨v, hv, ho, hr⟩ := h4 i x hx
    exact ⟨v, (hg.cell hlt hb).trans hv, ho, hr.mono (hg.mono fun b _ h => hD b h) hF⟩
  | loop s p =>
    obtain ⟨r, h1, h2, h3⟩ := h
    exact ⟨r, (hg.same b hlt hb).trans h1, h2, fun t => (h3 t).mono (hg.mono fun b _ h => hD b h) hF⟩

abbrev Own := List (Nat × Nat × Ob)
def Own.has (own : Own) (b : Nat) : Prop := b ∈ own.map (fun e => e.2.1)
def Own.find (own : Own) (k b : Nat) : Option Ob :=
  match own with
  | [] => none
  | (k', b', ob) :: r => if k' = k then (if b' = b then some ob else none) else Own.find r k b
def Own.put (own : Own) (k : Nat) (ob : Ob) : Own :=
  match own with
  | [] => []
  | (k', b', ob') :: r => if k' = k then (k', b', ob) :: r else (k', b', ob') :: Own.put r k ob
def Own.drop (own : Own) (k : Nat) : Own :=
  match own with
  | [] => []
  | (k', b', ob') :: r => if k' = k then r else (k', b', ob') :: Own.drop r k
def Fo (fr : Nat → Prop) (own : Own) : Nat → Prop := fun b => fr b ∨ own.has b

/-- The owned blocks stand apart and hold what is said. -/
structure OwnOk (fr : Nat → Prop) (w : World) (own : Own) : Prop where
  holds : ∀ e, e ∈ own → Holds (Fo fr own) w e.2.1 e.2.2
  nodup : (own.map fun e => e.2.1).Nodup
  apart : ∀ b, own.has b → ¬ fr b
  fr : ∀ b, fr b → b < w.heap.size

structure Cx where
  P : Program
  fr : Nat → Prop
  w0 : World
  own0 : Nat → Prop
  n : Nat
  defs : List Deferred
  rd : Option Nat

/-- the mark that a range over a function leaves -/
def markD (b : Nat) : Deferred := { target := .collected b, args := #[] }

/-- the calls that are deferred: marks of blocks that hold none, then what the function has deferred itself -/
def Marks (X : Cx) (own : Own) (ds : List Deferred) (w : World) : Prop :=
  ∃ bs : List Nat, ds = bs.map markD ++ X.defs ∧ bs.Nodup ∧ ∀ b, b ∈ bs → ¬ own.has b ∧ ¬ X.fr b ∧ X.w0.heap.size ≤ b ∧ w.heap[b]? = some (.deferred (some []))

theorem Marks.mono {X : Cx} {own own' : Own} {ds : List Deferred} {w w' : World} (h : Marks X own ds w) (ho : ∀ b, b < w.heap.size → own'.has b → own.has b) (hw : ∀ b, b < w.heap.size → ¬ own.has b → w'.heap[b]? = w.heap[b]?) : Marks X own' ds w' := by
  obtain ⟨bs, h1, h2, h3⟩ := h
  refine ⟨bs, h1, h2, fun b hb => ?_⟩
  obtain ⟨h4, h5, h6, h7⟩ := h3 b hb
  have hlt := (Array.getElem?_eq_some_iff.1 h7).1
  exact ⟨fun h => h4 (ho b hlt h), h5, h6, (hw b hlt h4).trans h7⟩

/-- The state 's', 'own' is that of the run. -/
structure Rep (X : Cx) (s : Slots) (own : Own) (a : Act) (w : World) : Prop where
  tm : ∀ t, Rel (Fo X.fr own) w (a.tmps.getD t undef) (s.get t)
  ok : OwnOk X.fr w own
  new : ∀ b, own.has b → X.own0 b ∨ X.w0.heap.size ≤ b
  size : a.tmps.size = X.n
  defs : Marks X own a.defers w
  kept : Grow X.own0 X.w0 w

end Go.Aw
