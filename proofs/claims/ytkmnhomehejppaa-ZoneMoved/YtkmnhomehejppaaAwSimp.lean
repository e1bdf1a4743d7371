/- Laws by which a simplifier runs regions over abstract states. -/
import Derived.Test.YtkmnhomehejppaaAwLoop
import Derived.Test.YtkmnhomehejppaaAwDraw
set_option linter.unusedSimpArgs false
set_option linter.unusedVariables false
set_option linter.deprecated false
namespace Go.Aw

section
variable {X : Cx} {Q : Post} {K : Slots → Own → Prop} {d : Option Nat} {r : List AO} {s : Slots} {own : Own}

def goA (X : Cx) (Q : Post) (K : Slots → Own → Prop) (d : Option Nat) (r : List AO) (s : Slots) (own : Own) (x : AV) : Prop := runA X Q K r (putS d x s) own
theorem goA_some {t : Nat} {x : AV} : goA X Q K (some t) r s own x = runA X Q K r ((t, x) :: s) own := by rfl
theorem goA_none {x : AV} : goA X Q K none r s own x = runA X Q K r s own := by rfl

theorem runA_nil : runA X Q K [] s own = K s own := by rfl
def grdA (X : Cx) (Q : Post) (K : Slots → Own → Prop) (b : Bool) (d : Option Nat) (op : AOp) (r : List AO) (s : Slots) (own : Own) (g : AV) : Prop :=
  match g with
  | .bool b' => if b' = b then runA X Q K (⟨d, none, op⟩ :: r) s own else goA X Q K d r s own (.tup [])
  | .tup [] => goA X Q K d r s own (.tup [])
  | _ => False
theorem runA_guard {t : Nat} {b : Bool} {op : AOp} : runA X Q K (⟨d, some (t, b), op⟩ :: r) s own = grdA X Q K b d op r s own (s.get t) := by
  rfl
theorem grdA_bool {b b' : Bool} {op : AOp} : grdA X Q K b d op r s own (.bool b') = if b' = b then runA X Q K (⟨d, none, op⟩ :: r) s own else goA X Q K d r s own (.tup []) := by rfl
theorem grdA_undef {b : Bool} {op : AOp} : grdA X Q K b d op r s own (.tup []) = goA X Q K d r s own (.tup []) := by rfl

theorem runA_mov {x : Od} : runA X Q K (⟨d, none, .mov x⟩ :: r) s own = goA X Q K d r s own (x.ev s) := by rfl

def pickA (X : Cx) (Q : Post) (K : Slots → Own → Prop) (d : Option Nat) (r : List AO) (s : Slots) (own : Own) (c x y : AV) : Prop :=
  match c with
  | .bool t => goA X Q K d r s own (if t then x else y)
  | _ => False
theorem runA_pick {c x y : Od} : runA X Q K (⟨d, none, .pick c x y⟩ :: r) s own = pickA X Q K d r s own (c.ev s) (x.ev s) (y.ev s) := by rfl
theorem pickA_bool {t : Bool} {x y : AV} : pickA X Q K d r s own (.bool t) x y = goA X Q K d r s own (if t then x else y) := by rfl

def ldA (X : Cx) (Q : Post) (K : Slots → Own → Prop) (d : Option Nat) (r : List AO) (s : Slots) (own : Own) (ag : Bool) (sz : Nat) (v : AV) : Prop := cellsAt own v sz fun cs => goA X Q K d r s own (mk ag cs)
def ldO (X : Cx) (Q : Post) (K : Slots → Own → Prop) (d : Option Nat) (r : List AO) (s : Slots) (own : Own) (ag : Bool) (sz o : Nat) (v : Option Ob) : Prop :=
  match v with
  | some (.cells cs) => o + sz ≤ cs.length ∧ goA X Q K d r s own (mk ag ((cs.drop o).take sz))
  | _ => False
theorem runA_load {ag : Bool} {sz : Nat} {p : Od} : runA X Q K (⟨d, none, .load ag sz p⟩ :: r) s own = ldA X Q K d r s own ag sz (p.ev s) := by rfl
theorem ldA_ptr {ag : Bool} {sz k b o : Nat} : ldA X Q K d r s own ag sz (.ptr k b o) = ldO X Q K d r s own ag sz o (own.find k b) := by
  rfl
theorem ldA_ref {ag : Bool} {sz : Nat} {cs : List AV} : ldA X Q K d r s own ag sz (.ref cs) = (sz ≤ cs.length ∧ goA X Q K d r s own (mk ag (cs.take sz))) := by rfl
theorem ldO_some {ag : Bool} {sz o : Nat} {cs : List AV} : ldO X Q K d r s own ag sz o (some (.cells cs)) = (o + sz ≤ cs.length ∧ goA X Q K d r s own (mk ag ((cs.drop o).take sz))) := by rfl
theorem mk_true {cs : List AV} : mk true cs = .agg cs := by rfl
theorem mk_false {x : AV} {cs : List AV} : mk false (x :: cs) = x := by rfl

def fadA (X : Cx) (Q : Post) (K : Slots → Own → Prop) (d : Option Nat) (r : List AO) (s : Slots) (own : Own) (off : Nat) (v : AV) : Prop :=
  match v with
  | .ptr k b o => goA X Q K d r s own (.ptr k b (o + off))
  | .ref cs => goA X Q K d r s own (.ref (cs.drop off))
  | _ => False
theorem runA_fadr {off : Nat} {p : Od} : runA X Q K (⟨d, none, .fadr off p⟩ :: r) s own = fadA X Q K d r s own off (p.ev s) := by
  rfl
theorem fadA_ptr {off k b o : Nat} : fadA X Q K d r s own off (.ptr k b o) = goA X Q K d r s own (.ptr k b (o + off)) := by rfl
theorem fadA_ref {off : Nat} {cs : List AV} : fadA X Q K d r s own off (.ref cs) = goA X Q K d r s own (.ref (cs.drop off)) := by rfl

def iadA (X : Cx) (Q : Post) (K : Slots → Own → Prop) (d : Option Nat) (r : List AO) (s : Slots) (own : Own) (sz : Nat) (v i : AV) : Prop :=
  match v, i with
  | .sl xs, .int _ n => 0 ≤ n ∧ n < xs.length ∧ (xs.getD n.toNat .any).cells.length = sz ∧ goA X Q K d r s own (.ref (xs.getD n.toNat .any).cells)
  | .row k b o m _, .int _ n => 0 ≤ n ∧ n < m ∧ goA X Q K d r s own (.ptr k b (o + n.toNat * sz))
  | _, _ => False
theorem runA_iadr {sz : Nat} {p i : Od} : runA X Q K (⟨d, none, .iadr sz p i⟩ :: r) s own = iadA X Q K d r s own sz (p.ev s) (i.ev s) := by
  rfl
theorem iadA_sl {sz : Nat} {xs : List AV} {k : IntKind} {n : Int} : iadA X Q K d r s own sz (.sl xs) (.int k n) = (0 ≤ n ∧ n < xs.length ∧ (xs.getD n.toNat .any).cells.length = sz ∧ goA X Q K d r s own (.ref (xs.getD n.toNat .any).cells)) := by rfl
theorem iadA_row {sz k b o m z : Nat} {kk : IntKind} {n : Int} : iadA X Q K d r s own sz (.row k b o m z) (.int kk n) = (0 ≤ n ∧ n < m ∧ goA X Q K d r s own (.ptr k b (o + n.toNat * sz))) := by rfl

def iaaA (X : Cx) (Q : Post) (K : Slots → Own → Prop) (d : Option Nat) (r : List AO) (s : Slots) (own : Own) (sz m : Nat) (v i : AV) : Prop :=
  match v, i with
  | .ptr k b o, .int _ n => 0 ≤ n ∧ n < m ∧ goA X Q K d r s own (.ptr k b (o + n.toNat * sz))
  | .ref cs, .int _ n => 0 ≤ n ∧ n < m ∧ goA X Q K d r s own (.ref (cs.drop (n.toNat * sz)))
  | _, _ => False
theorem runA_iadA {sz m : Nat} {p i : Od} : runA X Q K (⟨d, none, .iadA sz m p i⟩ :: r) s own = iaaA X Q K d r s own sz m (p.ev s) (i.ev s) := by
  rfl
theorem iaaA_ptr {sz m k b o : Nat} {kk : IntKind} {n : Int} : iaaA X Q K d r s own sz m (.ptr k b o) (.int kk n) = (0 ≤ n ∧ n < m ∧ goA X Q K d r s own (.ptr k b (o + n.toNat * sz))) := by rfl
theorem iaaA_ref {sz m : Nat} {cs : List AV} {kk : IntKind} {n : Int} : iaaA X Q K d r s own sz m (.ref cs) (.int kk n) = (0 ≤ n ∧ n < m ∧ goA X Q K d r s own (.ref (cs.drop (n.toNat * sz)))) := by rfl

def fldA (X : Cx) (Q : Post) (K : Slots → Own → Prop) (d : Option Nat) (r : List AO) (s : Slots) (own : Own) (ag : Bool) (off sz : Nat) (v : AV) : Prop :=
  match v with
  | .agg cs => off + sz ≤ cs.length ∧ goA X Q K d r s own (mk ag ((cs.drop off).take sz))
  | _ => False
theorem runA_fld {ag : Bool} {off sz : Nat} {p : Od} : runA X Q K (⟨d, none, .fld ag off sz p⟩ :: r) s own = fldA X Q K d r s own ag off sz (p.ev s) := by
  rfl
theorem fldA_agg {ag : Bool} {off sz : Nat} {cs : List AV} : fldA X Q K d r s own ag off sz (.agg cs) = (off + sz ≤ cs.length ∧ goA X Q K d r s own (mk ag ((cs.drop off).take sz))) := by rfl

def evP (s : Slots) (ps : List (Nat × Nat × Od)) : List (Nat × Nat × AV) :=
  match ps with
  | [] => []
  | p :: r => (p.1, p.2.1, p.2.2.ev s) :: evP s r
theorem evP_eq (s : Slots) (ps : List (Nat × Nat × Od)) : evP s ps = ps.map fun p => (p.1, p.2.1, p.2.2.ev s) := by
  induction ps with
  | nil => rfl
  | cons p r ih => simp [evP, ih]
theorem evP_nil : evP s [] = [] := by rfl
theorem evP_cons {a b : Nat} {x : Od} {l : List (Nat × Nat × Od)} : evP s ((a, b, x) :: l) = (a, b, x.ev s) :: evP s l := by rfl
def evL (s : Slots) (ps : List Od) : List AV :=
  match ps with
  | [] => []
  | p :: r => p.ev s :: evL s r
theorem evL_eq (s : Slots) (ps : List Od) : evL s ps = ps.map (·.ev s) := by
  induction ps with
  | nil => rfl
  | cons p r ih => simp [evL, ih]
theorem evL_nil : evL s [] = [] := by rfl
theorem evL_cons {x : Od} {l : List Od} : evL s (x :: l) = x.ev s :: evL s l := by rfl
theorem fillA_nil {zs : List AV} : fillA zs [] = some zs := by rfl
theorem fillA_cons {zs : List AV} {off sz : Nat} {x : AV} {l : List (Nat × Nat × AV)} : fillA zs ((off, sz, x) :: l) = if x.cells.length = sz ∧ off + sz ≤ zs.length ∧ x.stor = true then fillA (zs.take off ++ x.cells ++ zs.drop (off + sz)) l else none := by rfl

def bldA (X : Cx) (Q : Post) (K : Slots → Own → Prop) (d : Option Nat) (r : List AO) (s : Slots) (own : Own) (v : Option (List AV)) : Prop :=
  match v with
  | some cs => goA X Q K d r s own (.agg cs)
  | none => False
theorem runA_bld {zs : List AV} {ps : List (Nat × Nat × Od)} : runA X Q K (⟨d, none, .bld zs ps⟩ :: r) s own = bldA X Q K d r s own (fillA zs (evP s ps)) := by
  rw [evP_eq]
  rfl
theorem bldA_some {cs : List AV} : bldA X Q K d r s own (some cs) = goA X Q K d r s own (.agg cs) := by rfl

def binA (X : Cx) (Q : Post) (K : Slots → Own → Prop) (d : Option Nat) (r : List AO) (s : Slots) (own : Own) (op : BinOp) (x y : AV) : Prop :=
  match x, y with
  | .int k a, .int k' b => k = k' ∧ binI op k a b (goA X Q K d r s own)
  | .str a, .str b => binS op a b (goA X Q K d r s own)
  | _, _ => False
theorem runA_bin {op : BinOp} {x y : Od} : runA X Q K (⟨d, none, .bin op x y⟩ :: r) s own = binA X Q K d r s own op (x.ev s) (y.ev s) := by
  rfl
theorem binA_int {op : BinOp} {k k' : IntKind} {a b : Int} : binA X Q K d r s own op (.int k a) (.int k' b) = (k = k' ∧ binI op k a b (goA X Q K d r s own)) := by rfl
theorem binA_str {op : BinOp} {a b : List UInt8} : binA X Q K d r s own op (.str a) (.str b) = binS op a b (goA X Q K d r s own) := by rfl
theorem binI_add {k : IntKind} {x y : Int} {G : AV → Prop} : binI .add k x y G = G (.int k (k.wrap (x + y))) := by rfl
theorem binI_sub {k : IntKind} {x y : Int} {G : AV → Prop} : binI .sub k x y G = G (.int k (k.wrap (x - y))) := by rfl
theorem binI_mul {k : IntKind} {x y : Int} {G : AV → Prop} : binI .mul k x y G = G (.int k (k.wrap (x * y))) := by rfl
theorem binI_quo {k : IntKind} {x y : Int} {G : AV → Prop} : binI .quo k x y G = (y ≠ 0 ∧ G (.int k (k.wrap (x.tdiv y)))) := by rfl
theorem binI_rem {k : IntKind} {x y : Int} {G : AV → Prop} : binI .rem k x y G = (y ≠ 0 ∧ G (.int k (x.tmod y))) := by rfl
theorem binI_eql {k : IntKind} {x y : Int} {G : AV → Prop} : binI .eql k x y G = G (.bool (decide (x = y))) := by rfl
theorem binI_neq {k : IntKind} {x y : Int} {G : AV → Prop} : binI .neq k x y G = G (.bool (!decide (x = y))) := by rfl
theorem binI_lss {k : IntKind} {x y : Int} {G : AV → Prop} : binI .lss k x y G = G (.bool (decide (x < y))) := by rfl
theorem binI_leq {k : IntKind} {x y : Int} {G : AV → Prop} : binI .leq k x y G = G (.bool (decide (x ≤ y))) := by rfl
theorem binI_gtr {k : IntKind} {x y : Int} {G : AV → Prop} : binI .gtr k x y G = G (.bool (decide (y < x))) := by rfl
theorem binI_geq {k : IntKind} {x y : Int} {G : AV → Prop} : binI .geq k x y G = G (.bool (decide (y ≤ x))) := by rfl
theorem binS_add {x y : List UInt8} {G : AV → Prop} : binS .add x y G = (x.length + y.length ≤ 9223372036854775807 ∧ G (.str (x ++ y))) := by rfl
theorem binS_eql {x y : List UInt8} {G : AV → Prop} : binS .eql x y G = G (.bool (decide (x = y))) := by rfl
theorem binS_neq {x y : List UInt8} {G : AV → Prop} : binS .neq x y G = G (.bool (!decide (x = y))) := by rfl
theorem binS_lss {x y : List UInt8} {G : AV → Prop} : binS .lss x y G = G (.bool (Op.bytesLess x y)) := by rfl

def bibA (X : Cx) (Q : Post) (K : Slots → Own → Prop) (d : Option Nat) (r : List AO) (s : Slots) (own : Own) (op : BinOp) (x y : AV) : Prop :=
  match op, x, y with
  | .eql, .bool a, .bool b => goA X Q K d r s own (.bool (a == b))
  | .neq, .bool a, .bool b => goA X Q K d r s own (.bool (!(a == b)))
  | _, _, _ => False
theorem runA_binB {op : BinOp} {x y : Od} : runA X Q K (⟨d, none, .binB op x y⟩ :: r) s own = bibA X Q K d r s own op (x.ev s) (y.ev s) := by
  rfl
theorem bibA_eql {a b : Bool} : bibA X Q K d r s own .eql (.bool a) (.bool b) = goA X Q K d r s own (.bool (a == b)) := by rfl
theorem bibA_neq {a b : Bool} : bibA X Q K d r s own .neq (.bool a) (.bool b) = goA X Q K d r s own (.bool (!(a == b))) := by rfl

theorem runA_un {op : UnOp} {x : Od} : runA X Q K (⟨d, none, .un op x⟩ :: r) s own = unV op (x.ev s) (goA X Q K d r s own) := by rfl
theorem unV_not {b : Bool} {G : AV → Prop} : unV .not (.bool b) G = G (.bool !b) := by rfl
theorem unV_neg {k : IntKind} {n : Int} {G : AV → Prop} : unV .neg (.int k n) G = G (.int k (k.wrap (0 - n))) := by rfl

def cnvA (X : Cx) (Q : Post) (K : Slots → Own → Prop) (d : Option Nat) (r : List AO) (s : Slots) (own : Own) (k : IntKind) (x : AV) : Prop :=
  match x with
  | .int _ n => goA X Q K d r s own (.int k (k.wrap n))
  | _ => False
theorem runA_conv {k : IntKind} {x : Od} : runA X Q K (⟨d, none, .conv k x⟩ :: r) s own = cnvA X Q K d r s own k (x.ev s) := by
  rfl
theorem cnvA_int {k k' : IntKind} {n : Int} : cnvA X Q K d r s own k (.int k' n) = goA X Q K d r s own (.int k (k.wrap n)) := by rfl

def extA (X : Cx) (Q : Post) (K : Slots → Own → Prop) (d : Option Nat) (r : List AO) (s : Slots) (own : Own) (i : Nat) (x : AV) : Prop :=
  match x with
  | .tup vs => i < vs.length ∧ goA X Q K d r s own (vs.getD i .any)
  | _ => False
theorem runA_ext {i : Nat} {x : Od} : runA X Q K (⟨d, none, .ext i x⟩ :: r) s own = extA X Q K d r s own i (x.ev s) := by
  rfl
theorem extA_0 {x : AV} {l : List AV} : extA X Q K d r s own 0 (.tup (x :: l)) = goA X Q K d r s own x := by simp [extA]
theorem extA_1 {x y : AV} {l : List AV} : extA X Q K d r s own 1 (.tup (x :: y :: l)) = goA X Q K d r s own y := by simp [extA]
theorem extA_2 {x y z : AV} {l : List AV} : extA X Q K d r s own 2 (.tup (x :: y :: z :: l)) = goA X Q K d r s own z := by simp [extA]
theorem extA_3 {x y z u : AV} {l : List AV} : extA X Q K d r s own 3 (.tup (x :: y :: z :: u :: l)) = goA X Q K d r s own u := by simp [extA]

def lenA (X : Cx) (Q : Post) (K : Slots → Own → Prop) (d : Option Nat) (r : List AO) (s : Slots) (own : Own) (x : AV) : Prop :=
  match x with
  | .sl xs => goA X Q K d r s own (.int .i64 xs.length)
  | .row _ _ _ n _ => goA X Q K d r s own (.int .i64 n)
  | .nil => goA X Q K d r s own (.int .i64 0)
  | _ => False
theorem runA_len {x : Od} : runA X Q K (⟨d, none, .len x⟩ :: r) s own = lenA X Q K d r s own (x.ev s) := by
  rfl
theorem lenA_sl {xs : List AV} : lenA X Q K d r s own (.sl xs) = goA X Q K d r s own (.int .i64 xs.length) := by rfl
theorem lenA_row {k b o n z : Nat} : lenA X Q K d r s own (.row k b o n z) = goA X Q K d r s own (.int .i64 n) := by rfl
theorem lenA_nil : lenA X Q K d r s own .nil = goA X Q K d r s own (.int .i64 0) := by rfl
def lnsA (X : Cx) (Q : Post) (K : Slots → Own → Prop) (d : Option Nat) (r : List AO) (s : Slots) (own : Own) (x : AV) : Prop :=
  match x with
  | .str l => goA X Q K d r s own (.int .i64 l.length)
  | _ => False
theorem runA_lenS {x : Od} : runA X Q K (⟨d, none, .lenS x⟩ :: r) s own = lnsA X Q K d r s own (x.ev s) := by
  rfl
theorem lnsA_str {l : List UInt8} : lnsA X Q K d r s own (.str l) = goA X Q K d r s own (.int .i64 l.length) := by rfl

def ixsA (X : Cx) (Q : Post) (K : Slots → Own → Prop) (d : Option Nat) (r : List AO) (s : Slots) (own : Own) (x i : AV) : Prop :=
  match x, i with
  | .str l, .int _ n => 0 ≤ n ∧ n < l.length ∧ goA X Q K d r s own (.int .u8 (l.getD n.toNat 0).toNat)
  | _, _ => False
theorem runA_idxS {x i : Od} : runA X Q K (⟨d, none, .idxS x i⟩ :: r) s own = ixsA X Q K d r s own (x.ev s) (i.ev s) := by
  rfl
theorem ixsA_str {l : List UInt8} {k : IntKind} {n : Int} : ixsA X Q K d r s own (.str l) (.int k n) = (0 ≤ n ∧ n < l.length ∧ goA X Q K d r s own (.int .u8 (l.getD n.toNat 0).toNat)) := by rfl

theorem runA_mkfn {f : Go.Fn} {p q : List Od} : runA X Q K (⟨d, none, .mkfn f p q⟩ :: r) s own = goA X Q K d r s own (.fn f (evL s p) (evL s q)) := by
  rw [evL_eq, evL_eq]
  rfl

def evO (s : Slots) : Option Od → Option AV
  | none => none
  | some x => some (x.ev s)
theorem evO_eq (s : Slots) (x : Option Od) : evO s x = x.map (·.ev s) := by cases x <;> rfl
theorem evO_none : evO s none = none := by rfl
theorem evO_some {x : Od} : evO s (some x) = some (x.ev s) := by rfl

def slcA (X : Cx) (Q : Post) (K : Slots → Own → Prop) (d : Option Nat) (r : List AO) (s : Slots) (own : Own) (sz : Nat) (x : AV) (lo hi : Option AV) : Prop :=
  match x, lo.getD (.int .i64 0), hi with
  | .sl xs, .int _ l, none => (∀ x, x ∈ xs → x.cells.length = sz) ∧ 0 ≤ l ∧ l ≤ xs.length ∧ goA X Q K d r s own (.sl (xs.drop l.toNat))
  | .sl xs, .int _ l, some (.int _ h) => (∀ x, x ∈ xs → x.cells.length = sz) ∧ 0 ≤ l ∧ l ≤ h ∧ h ≤ xs.length ∧ goA X Q K d r s own (.sl ((xs.take h.toNat).drop l.toNat))
  | .row k b o n z, .int _ l, some (.int _ h) => l = 0 ∧ z = sz ∧ 0 ≤ h ∧ h ≤ n ∧ goA X Q K d r s own (.row k b o h.toNat z)
  | _, _, _ => False
theorem runA_slc {sz : Nat} {x : Od} {lo hi : Option Od} : runA X Q K (⟨d, none, .slc sz x lo hi⟩ :: r) s own = slcA X Q K d r s own sz (x.ev s) (evO s lo) (evO s hi) := by
  rw [evO_eq, evO_eq]
  rfl
theorem slcA_to {sz : Nat} {xs : List AV} {k : IntKind} {h : Int} : slcA X Q K d r s own sz (.sl xs) none (some (.int k h)) = ((∀ x, x ∈ xs → x.cells.length = sz) ∧ 0 ≤ h ∧ h ≤ xs.length ∧ goA X Q K d r s own (.sl (xs.take h.toNat))) := by
  simp [slcA]
theorem slcA_from {sz : Nat} {xs : List AV} {k : IntKind} {l : Int} : slcA X Q K d r s own sz (.sl xs) (some (.int k l)) none = ((∀ x, x ∈ xs → x.cells.length = sz) ∧ 0 ≤ l ∧ l ≤ xs.length ∧ goA X Q K d r s own (.sl (xs.drop l.toNat))) := by rfl
theorem slcA_both {sz : Nat} {xs : List AV} {k k' : IntKind} {l h : Int} : slcA X Q K d r s own sz (.sl xs) (some (.int k l)) (some (.int k' h)) = ((∀ x, x ∈ xs → x.cells.length = sz) ∧ 0 ≤ l ∧ l ≤ h ∧ h ≤ xs.length ∧ goA X Q K d r s own (.sl ((xs.take h.toNat).drop l.toNat))) := by rfl
theorem slcA_row {sz k b o n z : Nat} {k' : IntKind} {h : Int} : slcA X Q K d r s own sz (.row k b o n z) none (some (.int k' h)) = (z = sz ∧ 0 ≤ h ∧ h ≤ n ∧ goA X Q K d r s own (.row k b o h.toNat z)) := by
  simp [slcA]

def slsA (X : Cx) (Q : Post) (K : Slots → Own → Prop) (d : Option Nat) (r : List AO) (s : Slots) (own : Own) (x : AV) (lo hi : Option AV) : Prop :=
  match x, lo.getD (.int .i64 0), hi with
  | .str xs, .int _ l, none => 0 ≤ l ∧ l ≤ xs.length ∧ goA X Q K d r s own (.str (xs.drop l.toNat))
  | .str xs, .int _ l, some (.int _ h) => 0 ≤ l ∧ l ≤ h ∧ h ≤ xs.length ∧ goA X Q K d r s own (.str ((xs.take h.toNat).drop l.toNat))
  | _, _, _ => False
theorem runA_slcS {x : Od} {lo hi : Option Od} : runA X Q K (⟨d, none, .slcS x lo hi⟩ :: r) s own = slsA X Q K d r s own (x.ev s) (evO s lo) (evO s hi) := by
  rw [evO_eq, evO_eq]
  rfl
theorem slsA_to {xs : List UInt8} {k : IntKind} {h : Int} : slsA X Q K d r s own (.str xs) none (some (.int k h)) = (0 ≤ h ∧ h ≤ xs.length ∧ goA X Q K d r s own (.str (xs.take h.toNat))) := by
  simp [slsA]
theorem slsA_from {xs : List UInt8} {k : IntKind} {l : Int} : slsA X Q K d r s own (.str xs) (some (.int k l)) none = (0 ≤ l ∧ l ≤ xs.length ∧ goA X Q K d r s own (.str (xs.drop l.toNat))) := by rfl
theorem slsA_both {xs : List UInt8} {k k' : IntKind} {l h : Int} : slsA X Q K d r s own (.str xs) (some (.int k l)) (some (.int k' h)) = (0 ≤ l ∧ l ≤ h ∧ h ≤ xs.length ∧ goA X Q K d r s own (.str ((xs.take h.toNat).drop l.toNat))) := by rfl

/-! #### memory -/
theorem runA_alloc {t : Nat} {zs : List AV} : runA X Q K (⟨some t, none, .alloc zs⟩ :: r) s own = ∀ b, runA X Q K r ((t, .ptr t b 0) :: s) ((t, b, .cells zs) :: own) := by rfl
def boxA (X : Cx) (Q : Post) (K : Slots → Own → Prop) (t : Nat) (r : List AO) (s : Slots) (own : Own) (x : AV) : Prop := x.stor = true ∧ ∀ b, runA X Q K r ((t, .ptr t b 0) :: s) ((t, b, .cells x.cells) :: own)
theorem runA_box {t : Nat} {x : Od} : runA X Q K (⟨some t, none, .box x⟩ :: r) s own = boxA X Q K t r s own (x.ev s) := by rfl
theorem boxA_agg {t : Nat} {cs : List AV} : boxA X Q K t r s own (.agg cs) = ∀ b, runA X Q K r ((t, .ptr t b 0) :: s) ((t, b, .cells cs) :: own) := by
  simp [boxA, AV.stor, AV.cells]
theorem boxA_one {t : Nat} {x : AV} (h : x.stor = true) (h' : x.cells = [x]) : boxA X Q K t r s own x = ∀ b, runA X Q K r ((t, .ptr t b 0) :: s) ((t, b, .cells [x]) :: own) := by
  simp [boxA, h, h']
def mkrA (X : Cx) (Q : Post) (K : Slots → Own → Prop) (t : Nat) (r : List AO) (s : Slots) (own : Own) (sz n : Nat) (v : Option (List AV)) : Prop :=
  match v with
  | some cs => ∀ b, runA X Q K r ((t, .row t b 0 n sz) :: s) ((t, b, .cells cs) :: own)
  | _ => False
theorem runA_mkrow {t sz n : Nat} {zs : List AV} {ps : List (Nat × Nat × Od)} : runA X Q K (⟨some t, none, .mkrow sz n zs ps⟩ :: r) s own = mkrA X Q K t r s own sz n (fillA (List.replicate n zs).flatten (evP s ps)) := by
  rw [evP_eq]
  rfl
theorem mkrA_some {t sz n : Nat} {cs : List AV} : mkrA X Q K t r s own sz n (some cs) = ∀ b, runA X Q K r ((t, .row t b 0 n sz) :: s) ((t, b, .cells cs) :: own) := by rfl

def stoA (X : Cx) (Q : Post) (K : Slots → Own → Prop) (r : List AO) (s : Slots) (own : Own) (sz : Nat) (p x : AV) : Prop :=
  match p with
  | .ptr k b o => match own.find k b with
    | some (.cells cs) => x.stor = true ∧ x.cells.length = sz ∧ o + sz ≤ cs.length ∧ runA X Q K r s (own.put k (.cells (cs.take o ++ x.cells ++ cs.drop (o + sz))))
    | _ => False
  | _ => False
def stoO (X : Cx) (Q : Post) (K : Slots → Own → Prop) (r : List AO) (s : Slots) (own : Own) (sz k o : Nat) (v : Option Ob) (x : AV) : Prop :=
  match v with
  | some (.cells cs) => x.stor = true ∧ x.cells.length = sz ∧ o + sz ≤ cs.length ∧ runA X Q K r s (own.put k (.cells (cs.take o ++ x.cells ++ cs.drop (o + sz))))
  | _ => False
theorem runA_store {sz : Nat} {p x : Od} : runA X Q K (⟨none, none, .store sz p x⟩ :: r) s own = stoA X Q K r s own sz (p.ev s) (x.ev s) := by rfl
theorem stoA_ptr {sz k b o : Nat} {x : AV} : stoA X Q K r s own sz (.ptr k b o) x = stoO X Q K r s own sz k o (own.find k b) x := by
  rfl
theorem stoO_some {sz k o : Nat} {cs : List AV} {x : AV} : stoO X Q K r s own sz k o (some (.cells cs)) x = (x.stor = true ∧ x.cells.length = sz ∧ o + sz ≤ cs.length ∧ runA X Q K r s (own.put k (.cells (cs.take o ++ x.cells ++ cs.drop (o + sz))))) := by rfl

theorem runA_app {t sz bytes : Nat} {x y : Od} : runA X Q K (⟨some t, none, .app sz bytes x y⟩ :: r) s own = (0 < sz ∧ appA own (some t) sz bytes (x.ev s) (y.ev s) s (runA X Q K r)) := by rfl
theorem appA_nil {t sz bytes : Nat} {y : AV} {G : Slots → Own → Prop} : appA own (some t) sz bytes .nil y s G = elemsOf own sz y fun m cells => m * bytes ≤ 140737488355328 ∧ m ≤ 140737488355328 ∧ (m = 0 → G ((t, .nil) :: s) own) ∧ (0 < m → ∀ b, G ((t, .row t b 0 m sz) :: s) ((t, b, .cells cells) :: own)) := by rfl
def appO (own : Own) (t sz bytes : Nat) (k n : Nat) (v : Option Ob) (y : AV) (s : Slots) (G : Slots → Own → Prop) : Prop :=
  match v with
  | some (.cells cs) => elemsOf own sz y fun m cells => n * sz ≤ cs.length ∧ (n + m) * bytes ≤ 140737488355328 ∧ n + m ≤ 140737488355328 ∧
        ∀ b', G ((t, .row t b' 0 (n + m) sz) :: s) ((t, b', .cells (cs.take (n * sz) ++ cells)) :: own.drop k)
  | _ => False
theorem appA_row {t sz bytes k b o n z : Nat} {y : AV} {G : Slots → Own → Prop} : appA own (some t) sz bytes (.row k b o n z) y s G = (o = 0 ∧ z = sz ∧ appO own t sz bytes k n (own.find k b) y s G) := by
  rfl
theorem appO_some {t sz bytes k n : Nat} {cs : List AV} {y : AV} {G : Slots → Own → Prop} : appO own t sz bytes k n (some (.cells cs)) y s G = elemsOf own sz y fun m cells => n * sz ≤ cs.length ∧ (n + m) * bytes ≤ 140737488355328 ∧ n + m ≤ 140737488355328 ∧
        ∀ b', G ((t, .row t b' 0 (n + m) sz) :: s) ((t, b', .cells (cs.take (n * sz) ++ cells)) :: own.drop k) := by rfl
theorem elems_nil {sz : Nat} {G : Nat → List AV → Prop} : elemsOf own sz .nil G = G 0 [] := by rfl
theorem elems_sl {sz : Nat} {ys : List AV} {G : Nat → List AV → Prop} : elemsOf own sz (.sl ys) G = ((∀ x, x ∈ ys → x.cells.length = sz) ∧ G ys.length (ys.flatMap AV.cells)) := by rfl
def elemsO (sz o m : Nat) (v : Option Ob) (G : Nat → List AV → Prop) : Prop :=
  match v with
  | some (.cells cs) => o + m * sz ≤ cs.length ∧ G m ((cs.drop o).take (m * sz))
  | _ => False
theorem elems_row {sz k b o m z : Nat} {G : Nat → List AV → Prop} : elemsOf own sz (.row k b o m z) G = (z = sz ∧ elemsO sz o m (own.find k b) G) := by
  rfl
theorem elemsO_some {sz o m : Nat} {cs : List AV} {G : Nat → List AV → Prop} : elemsO sz o m (some (.cells cs)) G = (o + m * sz ≤ cs.length ∧ G m ((cs.drop o).take (m * sz))) := by rfl

/-! #### calls: they stand -/
def CallS (X : Cx) (Q : Post) (K : Slots → Own → Prop) (d : Option Nat) (r : List AO) (s : Slots) (own : Own) (f : FuncId) (args : List AV) : Prop := CallA X.P X.fr f args own (callK (runA X Q K r) Q d s)
theorem runA_callF {f : FuncId} {l : List Od} : runA X Q K (⟨d, none, .callF f l⟩ :: r) s own = CallS X Q K d r s own f (evL s l) := by
  rw [evL_eq]
  rfl
def CalV (X : Cx) (Q : Post) (K : Slots → Own → Prop) (d : Option Nat) (r : List AO) (s : Slots) (own : Own) (v : AV) (args : List AV) : Prop := ValA X.P X.fr v args own (callK (runA X Q K r) Q d s)
theorem runA_callV {v : Od} {l : List Od} : runA X Q K (⟨d, none, .callV v l⟩ :: r) s own = CalV X Q K d r s own (v.ev s) (evL s l) := by
  rw [evL_eq]
  rfl
theorem calV_fn {f : FuncId} {first cap args : List AV} : CalV X Q K d r s own (.fn (.func f) first cap) args = (okF X.P f = true ∧ CallS X Q K d r s own f (first ++ args ++ cap)) := by rfl
theorem val_at {P : Program} {v : AV} {args : List AV} {hand rest : Own} {R : Res → Own → Prop} (hP : X.P = P) (h : ValC P v args hand R) (hp : own.Perm (hand ++ rest))
    (hk : ∀ res own', R res own' → callK (runA X Q K r) Q d s res (own' ++ rest)) : CalV X Q K d r s own v args := by
  subst hP
  exact val_of h hp hk

theorem call_at {P : Program} {f : FuncId} {args : List AV} {hand rest : Own} {R : Res → Own → Prop} (hP : X.P = P) (h : FnC P f args hand R) (hp : own.Perm (hand ++ rest))
    (hk : ∀ res own', R res own' → callK (runA X Q K r) Q d s res (own' ++ rest)) : CallS X Q K d r s own f args := by
  subst hP
  exact call_of h hp hk
theorem call_pure {P : Program} {f : FuncId} {args : List AV} {x : AV} (hP : X.P = P) (h : PureC P f args x) (hk : goA X Q K d r s own x) : CallS X Q K d r s own f args :=
  call_at (hand := []) (rest := own) hP h (List.Perm.refl _) (by rintro _ _ ⟨rfl, rfl⟩; exact hk)

/-! #### slots, what is owned -/
theorem get_cons {t k : Nat} {x : AV} : Slots.get ((k, x) :: s) t = if k = t then x else s.get t := by rfl
theorem get_nil {t : Nat} : Slots.get [] t = .any := by rfl
theorem ev_t {t : Nat} : (Od.t t).ev s = s.get t := by rfl
theorem ev_c {x : AV} : (Od.c x).ev s = x := by rfl
theorem find_cons {k b k' b' : Nat} {ob : Ob} : Own.find ((k', b', ob) :: own) k b = if k' = k then (if b' = b then some ob else none) else own.find k b := by rfl
theorem put_cons {k k' b' : Nat} {ob ob' : Ob} : Own.put ((k', b', ob') :: own) k ob = if k' = k then (k', b', ob) :: own else (k', b', ob') :: own.put k ob := by rfl
theorem drop_cons {k k' b' : Nat} {ob' : Ob} : Own.drop ((k', b', ob') :: own) k = if k' = k then own else (k', b', ob') :: own.drop k := by rfl
theorem sub_nil : Slots.sub [] s = True := by rfl
theorem sub_cons {t : Nat} {x : AV} {s' : Slots} : Slots.sub ((t, x) :: s') s = (s.get t = x ∧ s'.sub s) := by rfl
def catO (v : Option Ob) (sz o : Nat) (G : List AV → Prop) : Prop :=
  match v with
  | some (.cells cs) => o + sz ≤ cs.length ∧ G ((cs.drop o).take sz)
  | _ => False
theorem cat_ptr {sz k b o : Nat} {G : List AV → Prop} : cellsAt own (.ptr k b o) sz G = catO (own.find k b) sz o G := by rfl
theorem cat_ref {sz : Nat} {cs : List AV} {G : List AV → Prop} : cellsAt own (.ref cs) sz G = (sz ≤ cs.length ∧ G (cs.take sz)) := by rfl
theorem catO_some {sz o : Nat} {cs : List AV} {G : List AV → Prop} : catO (some (.cells cs)) sz o G = (o + sz ≤ cs.length ∧ G ((cs.drop o).take sz)) := by rfl
theorem nn {n : Nat} : (0 ≤ (n : Int)) = True := eq_true (Int.natCast_nonneg n)
theorem callK_val {x : AV} {Kc : Slots → Own → Prop} : callK Kc Q d s (.val x) own = Kc (putS d x s) own := by rfl
theorem callK_pan {c : List PanicEntry} {Kc : Slots → Own → Prop} : callK Kc Q d s (.pan c) own = Q (.panic c) s own := by rfl
theorem putS_some {t : Nat} {x : AV} : putS (some t) x s = (t, x) :: s := by rfl
theorem putS_none {x : AV} : putS none x s = s := by rfl
theorem cells_agg {cs : List AV} : (AV.agg cs).cells = cs := by rfl
theorem cells_int {k : IntKind} {n : Int} : (AV.int k n).cells = [.int k n] := by rfl
theorem cells_bool {b : Bool} : (AV.bool b).cells = [.bool b] := by rfl
theorem cells_str {l : List UInt8} : (AV.str l).cells = [.str l] := by rfl
theorem cells_nil : AV.nil.cells = [.nil] := by rfl
theorem cells_sl {l : List AV} : (AV.sl l).cells = [.sl l] := by rfl
theorem cells_row {k b o n z : Nat} : (AV.row k b o n z).cells = [.row k b o n z] := by rfl
theorem cells_ptr {k b o : Nat} : (AV.ptr k b o).cells = [.ptr k b o] := by rfl
theorem cells_fn {f : Go.Fn} {p q : List AV} : (AV.fn f p q).cells = [.fn f p q] := by rfl
theorem cells_lit {v : Value} : (AV.lit v).cells = [.lit v] := by rfl
theorem stor_agg {cs : List AV} : (AV.agg cs).stor = true := by rfl
theorem stor_int {k : IntKind} {n : Int} : (AV.int k n).stor = true := by rfl
theorem stor_bool {b : Bool} : (AV.bool b).stor = true := by rfl
theorem stor_str {l : List UInt8} : (AV.str l).stor = true := by rfl
theorem stor_nil : AV.nil.stor = true := by rfl
theorem stor_sl {l : List AV} : (AV.sl l).stor = true := by rfl
theorem stor_row {k b o n z : Nat} : (AV.row k b o n z).stor = true := by rfl
theorem stor_ptr {k b o : Nat} : (AV.ptr k b o).stor = true := by rfl
theorem stor_fn {f : Go.Fn} {p q : List AV} : (AV.fn f p q).stor = true := by rfl
theorem stor_lit {v : Value} : (AV.lit v).stor = v.oneCell' := by rfl
theorem if_bool {c : Bool} {x y : Bool} : (if c = true then AV.bool x else AV.bool y) = AV.bool (if c = true then x else y) := by cases c <;> rfl
theorem if_int {c : Bool} {k : IntKind} {x y : Int} : (if c = true then AV.int k x else AV.int k y) = AV.int k (if c = true then x else y) := by cases c <;> rfl

theorem w64 {n : Int} (h0 : -9223372036854775808 ≤ n) (h1 : n ≤ 9223372036854775807) : IntKind.wrap .i64 n = n := by
  unfold IntKind.wrap
  simp only [IntKind.bits, IntKind.signed, Bool.true_and]
  split
  · rename_i h; simp at h; omega
  · rename_i h; simp at h; omega
theorem tdiv_pos {x y : Int} (h : 0 ≤ x) : x.tdiv y = x / y := Int.tdiv_eq_ediv_of_nonneg h
theorem tmod_pos {x y : Int} (h : 0 ≤ x) : x.tmod y = x % y := Int.tmod_eq_emod_of_nonneg h
end

section
variable {X : Cx} {K : Slots → Own → Prop} {r : List (Bool × AO)} {s : Slots} {A B : Own} {d : Option Nat} {op : AOp} {al : Bool}
theorem opA_pure {Q : Post} {own : Own} {K : Slots → Own → Prop} (h : op.isPure = true) : opA X Q d op s own K = op.step s own fun x => K (putS d x s) own := by
  cases op <;> first | rfl | cases h
theorem runD_nil : runD X K A [] s B = K s (A ++ B) := by rfl
theorem runD_pure (h : op.isPure = true) : runD X K A ((al, ⟨d, none, op⟩) :: r) s B = runA X (fun _ _ _ => False) (fun s' _ => runD X K A r s' B) [⟨d, none, op⟩] s (if al = true then A ++ B else A) := by
  simp only [runD, runA, guardP, h, if_true, opA_pure h]
theorem runD_eff (h : op.isPure = false) : runD X K A ((al, ⟨d, none, op⟩) :: r) s B = runA (X.hide A) (fun _ _ _ => False) (fun s' B' => runD X K A r s' B') [⟨d, none, op⟩] s B := by
  simp only [runD, runA, guardP, h, Bool.false_eq_true, if_false]
def goP (X : Cx) (K : Slots → Own → Prop) (A : Own) (p al : Bool) (d : Option Nat) (op : AOp) (r : List (Bool × AO)) (s : Slots) (B : Own) : Prop :=
  match p with
  | true => runA X (fun _ _ _ => False) (fun s' _ => runD X K A r s' B) [⟨d, none, op⟩] s (if al = true then A ++ B else A)
  | false => runA (X.hide A) (fun _ _ _ => False) (fun s' B' => runD X K A r s' B') [⟨d, none, op⟩] s B
theorem runD_go : runD X K A ((al, ⟨d, none, op⟩) :: r) s B = goP X K A op.isPure al d op r s B := by
  cases h : op.isPure with
  | true => exact runD_pure h
  | false => exact runD_eff h
theorem goP_true : goP X K A true al d op r s B = runA X (fun _ _ _ => False) (fun s' _ => runD X K A r s' B) [⟨d, none, op⟩] s (if al = true then A ++ B else A) := by rfl
theorem goP_false : goP X K A false al d op r s B = runA (X.hide A) (fun _ _ _ => False) (fun s' B' => runD X K A r s' B') [⟨d, none, op⟩] s B := by rfl
def grdD (X : Cx) (K : Slots → Own → Prop) (A : Own) (al b : Bool) (d : Option Nat) (op : AOp) (r : List (Bool × AO)) (s : Slots) (B : Own) (g : AV) : Prop :=
  match g with
  | .bool b' => if b' = b then runD X K A ((al, ⟨d, none, op⟩) :: r) s B else runD X K A r (putS d (.tup []) s) B
  | .tup [] => runD X K A r (putS d (.tup []) s) B
  | _ => False
theorem runD_guard {t : Nat} {b : Bool} : runD X K A ((al, ⟨d, some (t, b), op⟩) :: r) s B = grdD X K A al b d op r s B (s.get t) := by
  rfl
theorem grdD_bool {b b' : Bool} : grdD X K A al b d op r s B (.bool b') = if b' = b then runD X K A ((al, ⟨d, none, op⟩) :: r) s B else runD X K A r (putS d (.tup []) s) B := by rfl
theorem grdD_undef {b : Bool} : grdD X K A al b d op r s B (.tup []) = runD X K A r (putS d (.tup []) s) B := by rfl
theorem pu_mov {x : Od} : AOp.isPure (.mov x) = true := by rfl
theorem pu_pick {x y z : Od} : AOp.isPure (.pick x y z) = true := by rfl
theorem pu_load {a : Bool} {z : Nat} {x : Od} : AOp.isPure (.load a z x) = true := by rfl
theorem pu_fadr {z : Nat} {x : Od} : AOp.isPure (.fadr z x) = true := by rfl
theorem pu_iadr {z : Nat} {x y : Od} : AOp.isPure (.iadr z x y) = true := by rfl
theorem pu_iadA {z m : Nat} {x y : Od} : AOp.isPure (.iadA z m x y) = true := by rfl
theorem pu_fld {a : Bool} {z m : Nat} {x : Od} : AOp.isPure (.fld a z m x) = true := by rfl
theorem pu_bld {z : List AV} {ps : List (Nat × Nat × Od)} : AOp.isPure (.bld z ps) = true := by rfl
theorem pu_bin {o : BinOp} {x y : Od} : AOp.isPure (.bin o x y) = true := by rfl
theorem pu_binB {o : BinOp} {x y : Od} : AOp.isPure (.binB o x y) = true := by rfl
theorem pu_un {o : UnOp} {x : Od} : AOp.isPure (.un o x) = true := by rfl
theorem pu_conv {k : IntKind} {x : Od} : AOp.isPure (.conv k x) = true := by rfl
theorem pu_ext {z : Nat} {x : Od} : AOp.isPure (.ext z x) = true := by rfl
theorem pu_len {x : Od} : AOp.isPure (.len x) = true := by rfl
theorem pu_lenS {x : Od} : AOp.isPure (.lenS x) = true := by rfl
theorem pu_idxS {x y : Od} : AOp.isPure (.idxS x y) = true := by rfl
theorem pu_mkfn {f : Go.Fn} {x y : List Od} : AOp.isPure (.mkfn f x y) = true := by rfl
theorem pu_slc {z : Nat} {x : Od} {l h : Option Od} : AOp.isPure (.slc z x l h) = true := by rfl
theorem pu_slcS {x : Od} {l h : Option Od} : AOp.isPure (.slcS x l h) = true := by rfl
theorem pu_alloc {z : List AV} : AOp.isPure (.alloc z) = false := by rfl
theorem pu_box {x : Od} : AOp.isPure (.box x) = false := by rfl
theorem pu_mkrow {z n : Nat} {zs : List AV} {ps : List (Nat × Nat × Od)} : AOp.isPure (.mkrow z n zs ps) = false := by rfl
theorem pu_store {z : Nat} {x y : Od} : AOp.isPure (.store z x y) = false := by rfl
theorem pu_app {z n : Nat} {x y : Od} : AOp.isPure (.app z n x y) = false := by rfl
theorem pu_callF {f : FuncId} {x : List Od} : AOp.isPure (.callF f x) = false := by rfl
theorem pu_callV {f : Od} {x : List Od} : AOp.isPure (.callV f x) = false := by rfl
end

attribute [go_sem] runD_nil runD_go goP_true goP_false runD_guard grdD_bool grdD_undef pu_mov pu_pick pu_load pu_fadr pu_iadr pu_iadA pu_fld pu_bld pu_bin pu_binB pu_un pu_conv pu_ext pu_len pu_lenS pu_idxS pu_mkfn pu_slc pu_slcS pu_alloc pu_box pu_mkrow pu_store pu_app pu_callF pu_callV
attribute [go_sem] goA_some goA_none runA_nil runA_guard grdA_bool grdA_undef runA_mov runA_pick pickA_bool runA_load ldA_ptr ldA_ref ldO_some mk_true mk_false
  runA_fadr fadA_ptr fadA_ref runA_iadr iadA_sl iadA_row runA_iadA iaaA_ptr iaaA_ref runA_fld fldA_agg evP_nil evP_cons evL_nil evL_cons fillA_nil fillA_cons runA_bld bldA_some
  runA_bin binA_int binA_str binI_add binI_sub binI_mul binI_quo binI_rem binI_eql binI_neq binI_lss binI_leq binI_gtr binI_geq binS_add binS_eql binS_neq binS_lss runA_binB bibA_eql bibA_neq
  runA_un unV_not unV_neg runA_conv cnvA_int runA_ext extA_0 extA_1 extA_2 extA_3 runA_len lenA_sl lenA_row lenA_nil runA_lenS lnsA_str runA_idxS ixsA_str runA_mkfn evO_none evO_some
  runA_slc slcA_to slcA_from slcA_both slcA_row runA_slcS slsA_to slsA_from slsA_both runA_alloc runA_box boxA_agg boxA_one runA_mkrow mkrA_some runA_store stoA_ptr stoO_some
  runA_app appA_nil appA_row appO_some elems_nil elems_sl elems_row elemsO_some runA_callF runA_callV calV_fn get_cons get_nil ev_t ev_c find_cons put_cons drop_cons
  cells_agg cells_int cells_bool cells_str cells_nil cells_sl cells_row cells_ptr cells_fn cells_lit stor_agg stor_int stor_bool stor_str stor_nil stor_sl stor_row stor_ptr stor_fn stor_lit
  sub_nil sub_cons resK_nil resK_tmp resK_cell resV_one resV_two resV_three resV_nil cat_ptr cat_ref catO_some nn callK_val callK_pan putS_some putS_none if_bool if_int w64 tdiv_pos tmod_pos
attribute [go_sem] List.length_cons List.length_nil List.drop_zero List.drop_succ_cons List.drop_nil List.take_zero List.take_succ_cons List.take_nil List.nil_append List.cons_append List.append_nil List.replicate_succ List.replicate_zero List.flatten_cons List.flatten_nil
  Nat.zero_add Nat.add_zero Int.toNat_natCast Nat.mul_one Nat.one_mul List.getD_cons_zero List.getD_cons_succ
  if_true if_false decide_true decide_false Bool.not_true Bool.not_false true_and and_true false_and and_false eq_self ne_eq not_true_eq_false not_false_eq_true Bool.false_eq_true Bool.true_eq_false reduceCtorEq

end Go.Aw
