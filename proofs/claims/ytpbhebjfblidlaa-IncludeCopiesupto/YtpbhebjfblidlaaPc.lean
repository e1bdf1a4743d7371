/- For every argument of bulk at most 1048576, estoppellaw09.IncludeCopies returns true and leaves its arguments as they were. (Part 3 of what its proof rests on.) -/
import Derived.Shelf.Strings.Search2
import Derived.KernelRfl
import Derived.Test.YtpbhebjfblidlaaProg
import Derived.Test.YtpbhebjfblidlaaPb
set_option linter.unusedSimpArgs false
set_option linter.unusedVariables false
set_option linter.deprecated false
namespace Go.Proofs
def Try.lays219_ren : Go.Shelf.Ren where
  f := fun x => match x with
    | 219 => 48
    | 217 => 49
    | 225 => 50
    | 224 => 51
    | 267 => 52
    | 266 => 53
    | 314 => 54
    | n => n
  t := fun x => match x with
    | 9 => 9
    | 3 => 3
    | 4 => 4
    | 5 => 5
    | 46 => 102
    | 146 => 104
    | 51 => 103
    | n => n
  g := fun x => match x with
    | 1 => 0
    | n => n
theorem Try.lays219 : Go.Proofs.Lays.n219 Go.Proofs.Try.prog Go.Proofs.Try.lays219_ren :=
  { mixed := Eq.refl true,
    f217 := Eq.trans Go.Proofs.Try.func49 (congrArg some (Eq.refl (Go.Proofs.Body.n217 Go.Proofs.Try.lays219_ren))),
    f219 := Eq.trans Go.Proofs.Try.func48 (congrArg some (Eq.refl (Go.Proofs.Body.n219 Go.Proofs.Try.lays219_ren))),
    f224 := Eq.trans Go.Proofs.Try.func51 (congrArg some (Eq.refl (Go.Proofs.Body.n224 Go.Proofs.Try.lays219_ren))),
    f225 := Eq.trans Go.Proofs.Try.func50 (congrArg some (Eq.refl (Go.Proofs.Body.n225 Go.Proofs.Try.lays219_ren))),
    f266 := Eq.trans Go.Proofs.Try.func53 (congrArg some (Eq.refl (Go.Proofs.Body.n266 Go.Proofs.Try.lays219_ren))),
    f267 := Eq.trans Go.Proofs.Try.func52 (congrArg some (Eq.refl (Go.Proofs.Body.n267 Go.Proofs.Try.lays219_ren))),
    f314 := Eq.trans Go.Proofs.Try.func54 (congrArg some (Eq.refl (Go.Proofs.Body.n314 Go.Proofs.Try.lays219_ren))),
    t3 := Go.Proofs.Try.underlying3, a3 := Go.Proofs.Try.isAgg3, z3 := Go.Proofs.Try.sizeOf3,
    v3 := Go.Proofs.Try.zeroValue3, t4 := Go.Proofs.Try.underlying4, a4 := Go.Proofs.Try.isAgg4,
    z4 := Go.Proofs.Try.sizeOf4, v4 := Go.Proofs.Try.zeroValue4, t5 := Go.Proofs.Try.underlying5,
    a5 := Go.Proofs.Try.isAgg5, z5 := Go.Proofs.Try.sizeOf5, v5 := Go.Proofs.Try.zeroValue5,
    t9 := Go.Proofs.Try.underlying9, a9 := Go.Proofs.Try.isAgg9, z9 := Go.Proofs.Try.sizeOf9,
    v9 := Go.Proofs.Try.zeroValue9, t46 := Go.Proofs.Try.underlying102, a46 := Go.Proofs.Try.isAgg102,
    z46 := Go.Proofs.Try.sizeOf102, v46 := Go.Proofs.Try.zeroValue102, t51 := Go.Proofs.Try.underlying103,
    a51 := Go.Proofs.Try.isAgg103, z51 := Go.Proofs.Try.sizeOf103, v51 := Go.Proofs.Try.zeroValue103,
    t146 := Go.Proofs.Try.underlying104, a146 := Go.Proofs.Try.isAgg104, z146 := Go.Proofs.Try.sizeOf104,
    v146 := Go.Proofs.Try.zeroValue104, g1 := by kernel_rfl }
end Go.Proofs
namespace Go.Aw
theorem pure_ss {P : Program} {f : FuncId} {l m : List UInt8} {v : Value} {x : AV} (h : ∀ w, Calls P f #[.string ⟨l.toArray⟩, .string ⟨m.toArray⟩] w fun e w' => e = .returned v ∧ w' = w) (hx : ∀ F w, Rel F w v x) : PureC P f [.str l, .str m] x := by
  intro fr vs w hs hr hok
  have hv : vs = #[.string ⟨l.toArray⟩, .string ⟨m.toArray⟩] := by
    have hs : vs.size = 2 := hs
    have h0 := hr 0 vs[0] _ (Array.getElem?_eq_getElem (by omega)) rfl
    have h1 := hr 1 vs[1] _ (Array.getElem?_eq_getElem (by omega)) rfl
    apply Array.ext
    · simpa using hs
    · intro i hi hi'
      have : i = 0 ∨ i = 1 := by simp at hi'; omega
      rcases this with rfl | rfl
      · generalize vs[0] = a at h0
        cases h0; rfl
      · generalize vs[1] = a at h1
        cases h1; rfl
  subst hv
  refine (h w).mono ?_
  rintro e w' ⟨rfl, rfl⟩
  exact ⟨.val x, [], ⟨rfl, rfl⟩, ⟨v, rfl, hx _ _⟩, hok, Grow.refl _ _, fun b hb => .inl hb⟩
end Go.Aw
namespace Go.Proofs
open Go.Aw Go.Shelf
theorem c48 (l : List UInt8) (c : UInt8) : PureC Try.prog 48 [.str l, .str [c]] (.int .i64 (Lib.indexByte l c)) :=
  pure_ss (fun w => Any.stringslite_Index_one Try.lays219 ⟨l.toArray⟩ c w) (fun _ _ => .int _ _)
end Go.Proofs
namespace Go.Proofs.Inc
theorem c48o (l : List UInt8) (c : UInt8) (r : Int) (h : some (Lib.indexByte l c) = some r) : Go.Aw.PureC Try.prog 48 [.str l, .str [c]] (.int .i64 r) := by cases h; exact c48 l c
end Go.Proofs.Inc
namespace Go.Proofs.Inc
open Go.Aw
set_option maxRecDepth 100000
attribute [-go_sem] nisA_sl appA_nil
theorem mixed : Try.prog.follows .mixedOrders = true := by kernel_rfl
end Go.Proofs.Inc
namespace Go.Proofs.Inc
open Go.Aw
set_option maxRecDepth 100000
attribute [-go_sem] nisA_sl appA_nil
structure Span where
  Days : Int
  Business : Bool
  Name : List UInt8
  deriving Inhabited, DecidableEq
def Span.cs (x : Span) : List AV := [.int .i64 x.Days, .bool x.Business, .str x.Name]
def Span.av (x : Span) : AV := .agg x.cs
theorem Span.cs_eq (x : Span) : Span.cs x = [.int .i64 x.Days, .bool x.Business, .str x.Name] := rfl
theorem Span.len {x : Span} : (Span.cs x).length = 3 := by rw [Span.cs_eq]; rfl
theorem Span.all {x : Span} : List.take 3 (Span.cs x) = Span.cs x := by rw [Span.cs_eq]; rfl
theorem Span.dropn {x : Span} : List.drop 3 (Span.cs x) = [] := by rw [Span.cs_eq]; rfl
theorem Span.av_eq {x : Span} : Span.av x = .agg (Span.cs x) := by rfl
theorem Span.g0_1 {x : Span} : List.take 1 (Span.cs x) = [.int .i64 x.Days] := by rw [Span.cs_eq]; rfl
theorem Span.s0_1 {x : Span} {v : Int} : .int .i64 v :: List.drop 1 (Span.cs x) = Span.cs { x with Days := v } := by first | (rw [Span.cs_eq, Span.cs_eq]; rfl) | (rw [Span.cs_eq]; rfl) | rw [Span.cs_eq]
theorem Span.g1_1 {x : Span} : List.take 1 (List.drop 1 (Span.cs x)) = [.bool x.Business] := by rw [Span.cs_eq]; rfl
theorem Span.s1_1 {x : Span} {v : Bool} : .int .i64 x.Days :: .bool v :: List.drop 2 (Span.cs x) = Span.cs { x with Business := v } := by first | (rw [Span.cs_eq, Span.cs_eq]; rfl) | (rw [Span.cs_eq]; rfl) | rw [Span.cs_eq]
theorem Span.g2_1 {x : Span} : List.take 1 (List.drop 2 (Span.cs x)) = [.str x.Name] := by rw [Span.cs_eq]; rfl
theorem Span.s2_1 {x : Span} {v : List UInt8} : List.take 2 (Span.cs x) ++ [.str v] = Span.cs { x with Name := v } := by first | (rw [Span.cs_eq, Span.cs_eq]; rfl) | (rw [Span.cs_eq]; rfl) | rw [Span.cs_eq]
theorem Span.avl {x : Span} : (Span.av x).cells.length = 3 := by exact Span.len
theorem Span.flen {l : List Span} : (flt Span.av l).length = l.length * 3 := by exact flt_len (fun _ => Span.avl) l
theorem Span.ftake {l : List Span} : List.take (l.length * 3) (flt Span.av l) = flt Span.av l := by exact flt_take (fun _ => Span.avl) l
theorem Span.snoc {l : List Span} {x : Span} : flt Span.av l ++ Span.cs x = flt Span.av (l ++ [x]) := by rw [flt_app, flt_one]; rfl
theorem Span.snocx {l : List Span} {v0 : Int} {v1 : Bool} {v2 : List UInt8} : flt Span.av l ++ [.int .i64 v0, .bool v1, .str v2] = flt Span.av (l ++ [({ Days := v0, Business := v1, Name := v2 } : Span)]) := by rw [flt_app, flt_one]; show _ = _ ++ Span.cs _; rw [Span.cs_eq]
theorem Span.app {l m : List Span} : flt Span.av l ++ flt Span.av m = flt Span.av (l ++ m) := by exact flt_app.symm
theorem Span.setl0 {l : List Span} {X : List AV} {v : Span} (hX : X.length = 3) : List.take (l.length * 3) (flt Span.av l ++ X) ++ Span.cs v ++ List.drop (l.length * 3 + 3) (flt Span.av l ++ X) = flt Span.av (l ++ [v]) := by rw [← Span.flen, List.take_left, List.drop_append, flt_app, flt_one, List.drop_of_length_le (by omega), show (flt Span.av l).length + 3 - (flt Span.av l).length = 3 by omega, List.drop_of_length_le (by omega)]; simp; rfl
theorem Span.setl {l : List Span} {v : Span} {y0 y1 y2 : AV} : List.take (l.length * 3) (flt Span.av l ++ [y0, y1, y2]) ++ Span.cs v ++ List.drop (l.length * 3 + 3) (flt Span.av l ++ [y0, y1, y2]) = flt Span.av (l ++ [v]) := by exact Span.setl0 rfl
theorem Span.allm {l : List Span} : (∀ x, x ∈ List.map Span.av l → x.cells.length = 3) = True := by exact eq_true (fun x hx => by obtain ⟨a, _, rfl⟩ := List.mem_map.1 hx; exact Span.avl)
theorem Span.fget0 {l : List Span} {i c : Nat} (h : i < l.length) (hc : c ≤ 3) : List.take c (List.drop (i * 3) (flt Span.av l)) = List.take c (Span.cs l[i]!) := by exact flt_get (fun _ => Span.avl) l i 0 c h (by omega)
theorem Span.fget {l : List Span} {i o c : Nat} (h : i < l.length) (hc : o + c ≤ 3) : List.take c (List.drop (i * 3 + o) (flt Span.av l)) = List.take c (List.drop o (Span.cs l[i]!)) := by exact flt_get (fun _ => Span.avl) l i o c h hc
theorem Span.fset {l : List Span} {i : Nat} {v : Span} (h : i < l.length) : List.take (i * 3) (flt Span.av l) ++ Span.cs v ++ List.drop (i * 3 + 3) (flt Span.av l) = flt Span.av (l.set i v) := by have := flt_set (f := Span.av) (fun _ => Span.avl) l i 0 3 (Span.cs v) v h (by show List.take 0 (Span.cs _) ++ Span.cs v ++ List.drop (0 + 3) (Span.cs _) = Span.cs v; rw [Nat.zero_add, Span.dropn]; simp) (by omega); exact this
theorem Span.fs0_1 {l : List Span} {i : Nat} {v : Int} (h : i < l.length) : List.take (i * 3) (flt Span.av l) ++ [.int .i64 v] ++ List.drop (i * 3 + 1) (flt Span.av l) = flt Span.av (l.set i { (l[i]!) with Days := v }) := by exact flt_set (f := Span.av) (fun _ => Span.avl) l i 0 1 _ { (l[i]!) with Days := v } h (by show List.take 0 (Span.cs l[i]!) ++ _ ++ List.drop (0 + 1) (Span.cs l[i]!) = Span.cs _; rw [Span.cs_eq, Span.cs_eq]; rfl) (by omega)
theorem Span.fs1_1 {l : List Span} {i : Nat} {v : Bool} (h : i < l.length) : List.take (i * 3 + 1) (flt Span.av l) ++ [.bool v] ++ List.drop (i * 3 + 1 + 1) (flt Span.av l) = flt Span.av (l.set i { (l[i]!) with Business := v }) := by exact flt_set (f := Span.av) (fun _ => Span.avl) l i 1 1 _ { (l[i]!) with Business := v } h (by show List.take 1 (Span.cs l[i]!) ++ _ ++ List.drop (1 + 1) (Span.cs l[i]!) = Span.cs _; rw [Span.cs_eq, Span.cs_eq]; rfl) (by omega)
theorem Span.fs2_1 {l : List Span} {i : Nat} {v : List UInt8} (h : i < l.length) : List.take (i * 3 + 2) (flt Span.av l) ++ [.str v] ++ List.drop (i * 3 + 2 + 1) (flt Span.av l) = flt Span.av (l.set i { (l[i]!) with Name := v }) := by exact flt_set (f := Span.av) (fun _ => Span.avl) l i 2 1 _ { (l[i]!) with Name := v } h (by show List.take 2 (Span.cs l[i]!) ++ _ ++ List.drop (2 + 1) (Span.cs l[i]!) = Span.cs _; rw [Span.cs_eq, Span.cs_eq]; rfl) (by omega)
theorem Span.eqc {a b : Span} : eqCells [.i, .b, .s] (Span.cs a) (Span.cs b) = some (decide (a = b)) := by cases a; cases b; simp only [eqC_nil, eqC_cons, bndO_some, same_i, same_s, same_b, Span.cs_eq]; rw [Option.some.injEq, Bool.eq_iff_iff]; simp
attribute [go_sem] Span.len Span.all Span.dropn Span.av_eq Span.g0_1 Span.s0_1 Span.g1_1 Span.s1_1 Span.g2_1 Span.s2_1 Span.flen Span.ftake Span.snoc Span.snocx Span.app Span.allm Span.fget0 Span.fget Span.fset Span.fs0_1 Span.fs1_1 Span.fs2_1 Span.eqc
structure Named where
  Name : List UInt8
  Is : Int
  deriving Inhabited, DecidableEq
def Named.cs (x : Named) : List AV := [.str x.Name, .int .i64 x.Is]
def Named.av (x : Named) : AV := .agg x.cs
theorem Named.cs_eq (x : Named) : Named.cs x = [.str x.Name, .int .i64 x.Is] := rfl
theorem Named.len {x : Named} : (Named.cs x).length = 2 := by rw [Named.cs_eq]; rfl
theorem Named.all {x : Named} : List.take 2 (Named.cs x) = Named.cs x := by rw [Named.cs_eq]; rfl
theorem Named.dropn {x : Named} : List.drop 2 (Named.cs x) = [] := by rw [Named.cs_eq]; rfl
theorem Named.av_eq {x : Named} : Named.av x = .agg (Named.cs x) := by rfl
theorem Named.g0_1 {x : Named} : List.take 1 (Named.cs x) = [.str x.Name] := by rw [Named.cs_eq]; rfl
theorem Named.s0_1 {x : Named} {v : List UInt8} : .str v :: List.drop 1 (Named.cs x) = Named.cs { x with Name := v } := by first | (rw [Named.cs_eq, Named.cs_eq]; rfl) | (rw [Named.cs_eq]; rfl) | rw [Named.cs_eq]
theorem Named.g1_1 {x : Named} : List.take 1 (List.drop 1 (Named.cs x)) = [.int .i64 x.Is] := by rw [Named.cs_eq]; rfl
theorem Named.s1_1 {x : Named} {v : Int} : [.str x.Name, .int .i64 v] = Named.cs { x with Is := v } := by first | (rw [Named.cs_eq, Named.cs_eq]; rfl) | (rw [Named.cs_eq]; rfl) | rw [Named.cs_eq]
theorem Named.avl {x : Named} : (Named.av x).cells.length = 2 := by exact Named.len
theorem Named.flen {l : List Named} : (flt Named.av l).length = l.length * 2 := by exact flt_len (fun _ => Named.avl) l
theorem Named.ftake {l : List Named} : List.take (l.length * 2) (flt Named.av l) = flt Named.av l := by exact flt_take (fun _ => Named.avl) l
theorem Named.snoc {l : List Named} {x : Named} : flt Named.av l ++ Named.cs x = flt Named.av (l ++ [x]) := by rw [flt_app, flt_one]; rfl
theorem Named.snocx {l : List Named} {v0 : List UInt8} {v1 : Int} : flt Named.av l ++ [.str v0, .int .i64 v1] = flt Named.av (l ++ [({ Name := v0, Is := v1 } : Named)]) := by rw [flt_app, flt_one]; show _ = _ ++ Named.cs _; rw [Named.cs_eq]
theorem Named.app {l m : List Named} : flt Named.av l ++ flt Named.av m = flt Named.av (l ++ m) := by exact flt_app.symm
theorem Named.setl0 {l : List Named} {X : List AV} {v : Named} (hX : X.length = 2) : List.take (l.length * 2) (flt Named.av l ++ X) ++ Named.cs v ++ List.drop (l.length * 2 + 2) (flt Named.av l ++ X) = flt Named.av (l ++ [v]) := by rw [← Named.flen, List.take_left, List.drop_append, flt_app, flt_one, List.drop_of_length_le (by omega), show (flt Named.av l).length + 2 - (flt Named.av l).length = 2 by omega, List.drop_of_length_le (by omega)]; simp; rfl
theorem Named.setl {l : List Named} {v : Named} {y0 y1 : AV} : List.take (l.length * 2) (flt Named.av l ++ [y0, y1]) ++ Named.cs v ++ List.drop (l.length * 2 + 2) (flt Named.av l ++ [y0, y1]) = flt Named.av (l ++ [v]) := by exact Named.setl0 rfl
theorem Named.allm {l : List Named} : (∀ x, x ∈ List.map Named.av l → x.cells.length = 2) = True := by exact eq_true (fun x hx => by obtain ⟨a, _, rfl⟩ := List.mem_map.1 hx; exact Named.avl)
theorem Named.fget0 {l : List Named} {i c : Nat} (h : i < l.length) (hc : c ≤ 2) : List.take c (List.drop (i * 2) (flt Named.av l)) = List.take c (Named.cs l[i]!) := by exact flt_get (fun _ => Named.avl) l i 0 c h (by omega)
theorem Named.fget {l : List Named} {i o c : Nat} (h : i < l.length) (hc : o + c ≤ 2) : List.take c (List.drop (i * 2 + o) (flt Named.av l)) = List.take c (List.drop o (Named.cs l[i]!)) := by exact flt_get (fun _ => Named.avl) l i o c h hc
theorem Named.fset {l : List Named} {i : Nat} {v : Named} (h : i < l.length) : List.take (i * 2) (flt Named.av l) ++ Named.cs v ++ List.drop (i * 2 + 2) (flt Named.av l) = flt Named.av (l.set i v) := by have := flt_set (f := Named.av) (fun _ => Named.avl) l i 0 2 (Named.cs v) v h (by show List.take 0 (Named.cs _) ++ Named.cs v ++ List.drop (0 + 2) (Named.cs _) = Named.cs v; rw [Nat.zero_add, Named.dropn]; simp) (by omega); exact this
theorem Named.fs0_1 {l : List Named} {i : Nat} {v : List UInt8} (h : i < l.length) : List.take (i * 2) (flt Named.av l) ++ [.str v] ++ List.drop (i * 2 + 1) (flt Named.av l) = flt Named.av (l.set i { (l[i]!) with Name := v }) := by exact flt_set (f := Named.av) (fun _ => Named.avl) l i 0 1 _ { (l[i]!) with Name := v } h (by show List.take 0 (Named.cs l[i]!) ++ _ ++ List.drop (0 + 1) (Named.cs l[i]!) = Named.cs _; rw [Named.cs_eq, Named.cs_eq]; rfl) (by omega)
theorem Named.fs1_1 {l : List Named} {i : Nat} {v : Int} (h : i < l.length) : List.take (i * 2 + 1) (flt Named.av l) ++ [.int .i64 v] ++ List.drop (i * 2 + 1 + 1) (flt Named.av l) = flt Named.av (l.set i { (l[i]!) with Is := v }) := by exact flt_set (f := Named.av) (fun _ => Named.avl) l i 1 1 _ { (l[i]!) with Is := v } h (by show List.take 1 (Named.cs l[i]!) ++ _ ++ List.drop (1 + 1) (Named.cs l[i]!) = Named.cs _; rw [Named.cs_eq, Named.cs_eq]; rfl) (by omega)
theorem Named.eqc {a b : Named} : eqCells [.s, .i] (Named.cs a) (Named.cs b) = some (decide (a = b)) := by cases a; cases b; simp only [eqC_nil, eqC_cons, bndO_some, same_i, same_s, same_b, Named.cs_eq]; rw [Option.some.injEq, Bool.eq_iff_iff]; simp
attribute [go_sem] Named.len Named.all Named.dropn Named.av_eq Named.g0_1 Named.s0_1 Named.g1_1 Named.flen Named.ftake Named.snoc Named.snocx Named.app Named.allm Named.fget0 Named.fget Named.fset Named.fs0_1 Named.fs1_1 Named.eqc
structure Ratio where
  Num : Int
  Den : Int
  deriving Inhabited, DecidableEq
def Ratio.cs (x : Ratio) : List AV := [.int .i64 x.Num, .int .i64 x.Den]
def Ratio.av (x : Ratio) : AV := .agg x.cs
theorem Ratio.cs_eq (x : Ratio) : Ratio.cs x = [.int .i64 x.Num, .int .i64 x.Den] := rfl
theorem Ratio.len {x : Ratio} : (Ratio.cs x).length = 2 := by rw [Ratio.cs_eq]; rfl
theorem Ratio.all {x : Ratio} : List.take 2 (Ratio.cs x) = Ratio.cs x := by rw [Ratio.cs_eq]; rfl
theorem Ratio.dropn {x : Ratio} : List.drop 2 (Ratio.cs x) = [] := by rw [Ratio.cs_eq]; rfl
theorem Ratio.av_eq {x : Ratio} : Ratio.av x = .agg (Ratio.cs x) := by rfl
theorem Ratio.g0_1 {x : Ratio} : List.take 1 (Ratio.cs x) = [.int .i64 x.Num] := by rw [Ratio.cs_eq]; rfl
theorem Ratio.s0_1 {x : Ratio} {v : Int} : .int .i64 v :: List.drop 1 (Ratio.cs x) = Ratio.cs { x with Num := v } := by first | (rw [Ratio.cs_eq, Ratio.cs_eq]; rfl) | (rw [Ratio.cs_eq]; rfl) | rw [Ratio.cs_eq]
theorem Ratio.g1_1 {x : Ratio} : List.take 1 (List.drop 1 (Ratio.cs x)) = [.int .i64 x.Den] := by rw [Ratio.cs_eq]; rfl
theorem Ratio.s1_1 {x : Ratio} {v : Int} : [.int .i64 x.Num, .int .i64 v] = Ratio.cs { x with Den := v } := by first | (rw [Ratio.cs_eq, Ratio.cs_eq]; rfl) | (rw [Ratio.cs_eq]; rfl) | rw [Ratio.cs_eq]
theorem Ratio.avl {x : Ratio} : (Ratio.av x).cells.length = 2 := by exact Ratio.len
theorem Ratio.flen {l : List Ratio} : (flt Ratio.av l).length = l.length * 2 := by exact flt_len (fun _ => Ratio.avl) l
theorem Ratio.ftake {l : List Ratio} : List.take (l.length * 2) (flt Ratio.av l) = flt Ratio.av l := by exact flt_take (fun _ => Ratio.avl) l
theorem Ratio.snoc {l : List Ratio} {x : Ratio} : flt Ratio.av l ++ Ratio.cs x = flt Ratio.av (l ++ [x]) := by rw [flt_app, flt_one]; rfl
theorem Ratio.snocx {l : List Ratio} {v0 : Int} {v1 : Int} : flt Ratio.av l ++ [.int .i64 v0, .int .i64 v1] = flt Ratio.av (l ++ [({ Num := v0, Den := v1 } : Ratio)]) := by rw [flt_app, flt_one]; show _ = _ ++ Ratio.cs _; rw [Ratio.cs_eq]
theorem Ratio.app {l m : List Ratio} : flt Ratio.av l ++ flt Ratio.av m = flt Ratio.av (l ++ m) := by exact flt_app.symm
theorem Ratio.setl0 {l : List Ratio} {X : List AV} {v : Ratio} (hX : X.length = 2) : List.take (l.length * 2) (flt Ratio.av l ++ X) ++ Ratio.cs v ++ List.drop (l.length * 2 + 2) (flt Ratio.av l ++ X) = flt Ratio.av (l ++ [v]) := by rw [← Ratio.flen, List.take_left, List.drop_append, flt_app, flt_one, List.drop_of_length_le (by omega), show (flt Ratio.av l).length + 2 - (flt Ratio.av l).length = 2 by omega, List.drop_of_length_le (by omega)]; simp; rfl
theorem Ratio.setl {l : List Ratio} {v : Ratio} {y0 y1 : AV} : List.take (l.length * 2) (flt Ratio.av l ++ [y0, y1]) ++ Ratio.cs v ++ List.drop (l.length * 2 + 2) (flt Ratio.av l ++ [y0, y1]) = flt Ratio.av (l ++ [v]) := by exact Ratio.setl0 rfl
theorem Ratio.allm {l : List Ratio} : (∀ x, x ∈ List.map Ratio.av l → x.cells.length = 2) = True := by exact eq_true (fun x hx => by obtain ⟨a, _, rfl⟩ := List.mem_map.1 hx; exact Ratio.avl)
theorem Ratio.fget0 {l : List Ratio} {i c : Nat} (h : i < l.length) (hc : c ≤ 2) : List.take c (List.drop (i * 2) (flt Ratio.av l)) = List.take c (Ratio.cs l[i]!) := by exact flt_get (fun _ => Ratio.avl) l i 0 c h (by omega)
theorem Ratio.fget {l : List Ratio} {i o c : Nat} (h : i < l.length) (hc : o + c ≤ 2) : List.take c (List.drop (i * 2 + o) (flt Ratio.av l)) = List.take c (List.drop o (Ratio.cs l[i]!)) := by exact flt_get (fun _ => Ratio.avl) l i o c h hc
theorem Ratio.fset {l : List Ratio} {i : Nat} {v : Ratio} (h : i < l.length) : List.take (i * 2) (flt Ratio.av l) ++ Ratio.cs v ++ List.drop (i * 2 + 2) (flt Ratio.av l) = flt Ratio.av (l.set i v) := by have := flt_set (f := Ratio.av) (fun _ => Ratio.avl) l i 0 2 (Ratio.cs v) v h (by show List.take 0 (Ratio.cs _) ++ Ratio.cs v ++ List.drop (0 + 2) (Ratio.cs _) = Ratio.cs v; rw [Nat.zero_add, Ratio.dropn]; simp) (by omega); exact this
theorem Ratio.fs0_1 {l : List Ratio} {i : Nat} {v : Int} (h : i < l.length) : List.take (i * 2) (flt Ratio.av l) ++ [.int .i64 v] ++ List.drop (i * 2 + 1) (flt Ratio.av l) = flt Ratio.av (l.set i { (l[i]!) with Num := v }) := by exact flt_set (f := Ratio.av) (fun _ => Ratio.avl) l i 0 1 _ { (l[i]!) with Num := v } h (by show List.take 0 (Ratio.cs l[i]!) ++ _ ++ List.drop (0 + 1) (Ratio.cs l[i]!) = Ratio.cs _; rw [Ratio.cs_eq, Ratio.cs_eq]; rfl) (by omega)
theorem Ratio.fs1_1 {l : List Ratio} {i : Nat} {v : Int} (h : i < l.length) : List.take (i * 2 + 1) (flt Ratio.av l) ++ [.int .i64 v] ++ List.drop (i * 2 + 1 + 1) (flt Ratio.av l) = flt Ratio.av (l.set i { (l[i]!) with Den := v }) := by exact flt_set (f := Ratio.av) (fun _ => Ratio.avl) l i 1 1 _ { (l[i]!) with Den := v } h (by show List.take 1 (Ratio.cs l[i]!) ++ _ ++ List.drop (1 + 1) (Ratio.cs l[i]!) = Ratio.cs _; rw [Ratio.cs_eq, Ratio.cs_eq]; rfl) (by omega)
theorem Ratio.eqc {a b : Ratio} : eqCells [.i, .i] (Ratio.cs a) (Ratio.cs b) = some (decide (a = b)) := by cases a; cases b; simp only [eqC_nil, eqC_cons, bndO_some, same_i, same_s, same_b, Ratio.cs_eq]; rw [Option.some.injEq, Bool.eq_iff_iff]; simp
attribute [go_sem] Ratio.len Ratio.all Ratio.dropn Ratio.av_eq Ratio.g0_1 Ratio.s0_1 Ratio.g1_1 Ratio.flen Ratio.ftake Ratio.snoc Ratio.snocx Ratio.app Ratio.allm Ratio.fget0 Ratio.fget Ratio.fset Ratio.fs0_1 Ratio.fs1_1 Ratio.eqc
structure Arr7B where
  e0 : Bool
  e1 : Bool
  e2 : Bool
  e3 : Bool
  e4 : Bool
  e5 : Bool
  e6 : Bool
  deriving Inhabited, DecidableEq
def Arr7B.cs (x : Arr7B) : List AV := [.bool x.e0, .bool x.e1, .bool x.e2, .bool x.e3, .bool x.e4, .bool x.e5, .bool x.e6]
def Arr7B.av (x : Arr7B) : AV := .agg x.cs
theorem Arr7B.cs_eq (x : Arr7B) : Arr7B.cs x = [.bool x.e0, .bool x.e1, .bool x.e2, .bool x.e3, .bool x.e4, .bool x.e5, .bool x.e6] := rfl
theorem Arr7B.len {x : Arr7B} : (Arr7B.cs x).length = 7 := by rw [Arr7B.cs_eq]; rfl
theorem Arr7B.all {x : Arr7B} : List.take 7 (Arr7B.cs x) = Arr7B.cs x := by rw [Arr7B.cs_eq]; rfl
theorem Arr7B.dropn {x : Arr7B} : List.drop 7 (Arr7B.cs x) = [] := by rw [Arr7B.cs_eq]; rfl
theorem Arr7B.av_eq {x : Arr7B} : Arr7B.av x = .agg (Arr7B.cs x) := by rfl
theorem Arr7B.g0_1 {x : Arr7B} : List.take 1 (Arr7B.cs x) = [.bool x.e0] := by rw [Arr7B.cs_eq]; rfl
theorem Arr7B.s0_1 {x : Arr7B} {v : Bool} : .bool v :: List.drop 1 (Arr7B.cs x) = Arr7B.cs { x with e0 := v } := by first | (rw [Arr7B.cs_eq, Arr7B.cs_eq]; rfl) | (rw [Arr7B.cs_eq]; rfl) | rw [Arr7B.cs_eq]
theorem Arr7B.g1_1 {x : Arr7B} : List.take 1 (List.drop 1 (Arr7B.cs x)) = [.bool x.e1] := by rw [Arr7B.cs_eq]; rfl
theorem Arr7B.s1_1 {x : Arr7B} {v : Bool} : .bool x.e0 :: .bool v :: List.drop 2 (Arr7B.cs x) = Arr7B.cs { x with e1 := v } := by first | (rw [Arr7B.cs_eq, Arr7B.cs_eq]; rfl) | (rw [Arr7B.cs_eq]; rfl) | rw [Arr7B.cs_eq]
theorem Arr7B.g2_1 {x : Arr7B} : List.take 1 (List.drop 2 (Arr7B.cs x)) = [.bool x.e2] := by rw [Arr7B.cs_eq]; rfl
theorem Arr7B.s2_1 {x : Arr7B} {v : Bool} : List.take 2 (Arr7B.cs x) ++ [.bool v] ++ List.drop 3 (Arr7B.cs x) = Arr7B.cs { x with e2 := v } := by first | (rw [Arr7B.cs_eq, Arr7B.cs_eq]; rfl) | (rw [Arr7B.cs_eq]; rfl) | rw [Arr7B.cs_eq]
theorem Arr7B.g3_1 {x : Arr7B} : List.take 1 (List.drop 3 (Arr7B.cs x)) = [.bool x.e3] := by rw [Arr7B.cs_eq]; rfl
theorem Arr7B.s3_1 {x : Arr7B} {v : Bool} : List.take 3 (Arr7B.cs x) ++ [.bool v] ++ List.drop 4 (Arr7B.cs x) = Arr7B.cs { x with e3 := v } := by first | (rw [Arr7B.cs_eq, Arr7B.cs_eq]; rfl) | (rw [Arr7B.cs_eq]; rfl) | rw [Arr7B.cs_eq]
theorem Arr7B.g4_1 {x : Arr7B} : List.take 1 (List.drop 4 (Arr7B.cs x)) = [.bool x.e4] := by rw [Arr7B.cs_eq]; rfl
theorem Arr7B.s4_1 {x : Arr7B} {v : Bool} : List.take 4 (Arr7B.cs x) ++ [.bool v] ++ List.drop 5 (Arr7B.cs x) = Arr7B.cs { x with e4 := v } := by first | (rw [Arr7B.cs_eq, Arr7B.cs_eq]; rfl) | (rw [Arr7B.cs_eq]; rfl) | rw [Arr7B.cs_eq]
theorem Arr7B.g5_1 {x : Arr7B} : List.take 1 (List.drop 5 (Arr7B.cs x)) = [.bool x.e5] := by rw [Arr7B.cs_eq]; rfl
theorem Arr7B.s5_1 {x : Arr7B} {v : Bool} : List.take 5 (Arr7B.cs x) ++ [.bool v] ++ List.drop 6 (Arr7B.cs x) = Arr7B.cs { x with e5 := v } := by first | (rw [Arr7B.cs_eq, Arr7B.cs_eq]; rfl) | (rw [Arr7B.cs_eq]; rfl) | rw [Arr7B.cs_eq]
theorem Arr7B.g6_1 {x : Arr7B} : List.take 1 (List.drop 6 (Arr7B.cs x)) = [.bool x.e6] := by rw [Arr7B.cs_eq]; rfl
theorem Arr7B.s6_1 {x : Arr7B} {v : Bool} : List.take 6 (Arr7B.cs x) ++ [.bool v] = Arr7B.cs { x with e6 := v } := by first | (rw [Arr7B.cs_eq, Arr7B.cs_eq]; rfl) | (rw [Arr7B.cs_eq]; rfl) | rw [Arr7B.cs_eq]
theorem Arr7B.avl {x : Arr7B} : (Arr7B.av x).cells.length = 7 := by exact Arr7B.len
theorem Arr7B.flen {l : List Arr7B} : (flt Arr7B.av l).length = l.length * 7 := by exact flt_len (fun _ => Arr7B.avl) l
theorem Arr7B.ftake {l : List Arr7B} : List.take (l.length * 7) (flt Arr7B.av l) = flt Arr7B.av l := by exact flt_take (fun _ => Arr7B.avl) l
theorem Arr7B.snoc {l : List Arr7B} {x : Arr7B} : flt Arr7B.av l ++ Arr7B.cs x = flt Arr7B.av (l ++ [x]) := by rw [flt_app, flt_one]; rfl
theorem Arr7B.snocx {l : List Arr7B} {v0 : Bool} {v1 : Bool} {v2 : Bool} {v3 : Bool} {v4 : Bool} {v5 : Bool} {v6 : Bool} : flt Arr7B.av l ++ [.bool v0, .bool v1, .bool v2, .bool v3, .bool v4, .bool v5, .bool v6] = flt Arr7B.av (l ++ [({ e0 := v0, e1 := v1, e2 := v2, e3 := v3, e4 := v4, e5 := v5, e6 := v6 } : Arr7B)]) := by rw [flt_app, flt_one]; show _ = _ ++ Arr7B.cs _; rw [Arr7B.cs_eq]
theorem Arr7B.app {l m : List Arr7B} : flt Arr7B.av l ++ flt Arr7B.av m = flt Arr7B.av (l ++ m) := by exact flt_app.symm
theorem Arr7B.setl0 {l : List Arr7B} {X : List AV} {v : Arr7B} (hX : X.length = 7) : List.take (l.length * 7) (flt Arr7B.av l ++ X) ++ Arr7B.cs v ++ List.drop (l.length * 7 + 7) (flt Arr7B.av l ++ X) = flt Arr7B.av (l ++ [v]) := by rw [← Arr7B.flen, List.take_left, List.drop_append, flt_app, flt_one, List.drop_of_length_le (by omega), show (flt Arr7B.av l).length + 7 - (flt Arr7B.av l).length = 7 by omega, List.drop_of_length_le (by omega)]; simp; rfl
theorem Arr7B.setl {l : List Arr7B} {v : Arr7B} {y0 y1 y2 y3 y4 y5 y6 : AV} : List.take (l.length * 7) (flt Arr7B.av l ++ [y0, y1, y2, y3, y4, y5, y6]) ++ Arr7B.cs v ++ List.drop (l.length * 7 + 7) (flt Arr7B.av l ++ [y0, y1, y2, y3, y4, y5, y6]) = flt Arr7B.av (l ++ [v]) := by exact Arr7B.setl0 rfl
theorem Arr7B.allm {l : List Arr7B} : (∀ x, x ∈ List.map Arr7B.av l → x.cells.length = 7) = True := by exact eq_true (fun x hx => by obtain ⟨a, _, rfl⟩ := List.mem_map.1 hx; exact Arr7B.avl)
theorem Arr7B.fget0 {l : List Arr7B} {i c : Nat} (h : i < l.length) (hc : c ≤ 7) : List.take c (List.drop (i * 7) (flt Arr7B.av l)) = List.take c (Arr7B.cs l[i]!) := by exact flt_get (fun _ => Arr7B.avl) l i 0 c h (by omega)
theorem Arr7B.fget {l : List Arr7B} {i o c : Nat} (h : i < l.length) (hc : o + c ≤ 7) : List.take c (List.drop (i * 7 + o) (flt Arr7B.av l)) = List.take c (List.drop o (Arr7B.cs l[i]!)) := by exact flt_get (fun _ => Arr7B.avl) l i o c h hc
theorem Arr7B.fset {l : List Arr7B} {i : Nat} {v : Arr7B} (h : i < l.length) : List.take (i * 7) (flt Arr7B.av l) ++ Arr7B.cs v ++ List.drop (i * 7 + 7) (flt Arr7B.av l) = flt Arr7B.av (l.set i v) := by have := flt_set (f := Arr7B.av) (fun _ => Arr7B.avl) l i 0 7 (Arr7B.cs v) v h (by show List.take 0 (Arr7B.cs _) ++ Arr7B.cs v ++ List.drop (0 + 7) (Arr7B.cs _) = Arr7B.cs v; rw [Nat.zero_add, Arr7B.dropn]; simp) (by omega); exact this
theorem Arr7B.fs0_1 {l : List Arr7B} {i : Nat} {v : Bool} (h : i < l.length) : List.take (i * 7) (flt Arr7B.av l) ++ [.bool v] ++ List.drop (i * 7 + 1) (flt Arr7B.av l) = flt Arr7B.av (l.set i { (l[i]!) with e0 := v }) := by exact flt_set (f := Arr7B.av) (fun _ => Arr7B.avl) l i 0 1 _ { (l[i]!) with e0 := v } h (by show List.take 0 (Arr7B.cs l[i]!) ++ _ ++ List.drop (0 + 1) (Arr7B.cs l[i]!) = Arr7B.cs _; rw [Arr7B.cs_eq, Arr7B.cs_eq]; rfl) (by omega)
theorem Arr7B.fs1_1 {l : List Arr7B} {i : Nat} {v : Bool} (h : i < l.length) : List.take (i * 7 + 1) (flt Arr7B.av l) ++ [.bool v] ++ List.drop (i * 7 + 1 + 1) (flt Arr7B.av l) = flt Arr7B.av (l.set i { (l[i]!) with e1 := v }) := by exact flt_set (f := Arr7B.av) (fun _ => Arr7B.avl) l i 1 1 _ { (l[i]!) with e1 := v } h (by show List.take 1 (Arr7B.cs l[i]!) ++ _ ++ List.drop (1 + 1) (Arr7B.cs l[i]!) = Arr7B.cs _; rw [Arr7B.cs_eq, Arr7B.cs_eq]; rfl) (by omega)
theorem Arr7B.fs2_1 {l : List Arr7B} {i : Nat} {v : Bool} (h : i < l.length) : List.take (i * 7 + 2) (flt Arr7B.av l) ++ [.bool v] ++ List.drop (i * 7 + 2 + 1) (flt Arr7B.av l) = flt Arr7B.av (l.set i { (l[i]!) with e2 := v }) := by exact flt_set (f := Arr7B.av) (fun _ => Arr7B.avl) l i 2 1 _ { (l[i]!) with e2 := v } h (by show List.take 2 (Arr7B.cs l[i]!) ++ _ ++ List.drop (2 + 1) (Arr7B.cs l[i]!) = Arr7B.cs _; rw [Arr7B.cs_eq, Arr7B.cs_eq]; rfl) (by omega)
theorem Arr7B.fs3_1 {l : List Arr7B} {i : Nat} {v : Bool} (h : i < l.length) : List.take (i * 7 + 3) (flt Arr7B.av l) ++ [.bool v] ++ List.drop (i * 7 + 3 + 1) (flt Arr7B.av l) = flt Arr7B.av (l.set i { (l[i]!) with e3 := v }) := by exact flt_set (f := Arr7B.av) (fun _ => Arr7B.avl) l i 3 1 _ { (l[i]!) with e3 := v } h (by show List.take 3 (Arr7B.cs l[i]!) ++ _ ++ List.drop (3 + 1) (Arr7B.cs l[i]!) = Arr7B.cs _; rw [Arr7B.cs_eq, Arr7B.cs_eq]; rfl) (by omega)
theorem Arr7B.fs4_1 {l : List Arr7B} {i : Nat} {v : Bool} (h : i < l.length) : List.take (i * 7 + 4) (flt Arr7B.av l) ++ [.bool v] ++ List.drop (i * 7 + 4 + 1) (flt Arr7B.av l) = flt Arr7B.av (l.set i { (l[i]!) with e4 := v }) := by exact flt_set (f := Arr7B.av) (fun _ => Arr7B.avl) l i 4 1 _ { (l[i]!) with e4 := v } h (by show List.take 4 (Arr7B.cs l[i]!) ++ _ ++ List.drop (4 + 1) (Arr7B.cs l[i]!) = Arr7B.cs _; rw [Arr7B.cs_eq, Arr7B.cs_eq]; rfl) (by omega)
theorem Arr7B.fs5_1 {l : List Arr7B} {i : Nat} {v : Bool} (h : i < l.length) : List.take (i * 7 + 5) (flt Arr7B.av l) ++ [.bool v] ++ List.drop (i * 7 + 5 + 1) (flt Arr7B.av l) = flt Arr7B.av (l.set i { (l[i]!) with e5 := v }) := by exact flt_set (f := Arr7B.av) (fun _ => Arr7B.avl) l i 5 1 _ { (l[i]!) with e5 := v } h (by show List.take 5 (Arr7B.cs l[i]!) ++ _ ++ List.drop (5 + 1) (Arr7B.cs l[i]!) = Arr7B.cs _; rw [Arr7B.cs_eq, Arr7B.cs_eq]; rfl) (by omega)
theorem Arr7B.fs6_1 {l : List Arr7B} {i : Nat} {v : Bool} (h : i < l.length) : List.take (i * 7 + 6) (flt Arr7B.av l) ++ [.bool v] ++ List.drop (i * 7 + 6 + 1) (flt Arr7B.av l) = flt Arr7B.av (l.set i { (l[i]!) with e6 := v }) := by exact flt_set (f := Arr7B.av) (fun _ => Arr7B.avl) l i 6 1 _ { (l[i]!) with e6 := v } h (by show List.take 6 (Arr7B.cs l[i]!) ++ _ ++ List.drop (6 + 1) (Arr7B.cs l[i]!) = Arr7B.cs _; rw [Arr7B.cs_eq, Arr7B.cs_eq]; rfl) (by omega)
theorem Arr7B.eqc {a b : Arr7B} : eqCells [.b, .b, .b, .b, .b, .b, .b] (Arr7B.cs a) (Arr7B.cs b) = some (decide (a = b)) := by cases a; cases b; simp only [eqC_nil, eqC_cons, bndO_some, same_i, same_s, same_b, Arr7B.cs_eq]; rw [Option.some.injEq, Bool.eq_iff_iff]; simp
attribute [go_sem] Arr7B.len Arr7B.all Arr7B.dropn Arr7B.av_eq Arr7B.g0_1 Arr7B.s0_1 Arr7B.g1_1 Arr7B.s1_1 Arr7B.g2_1 Arr7B.s2_1 Arr7B.g3_1 Arr7B.s3_1 Arr7B.g4_1 Arr7B.s4_1 Arr7B.g5_1 Arr7B.s5_1 Arr7B.g6_1 Arr7B.s6_1 Arr7B.flen Arr7B.ftake Arr7B.snoc Arr7B.snocx Arr7B.app Arr7B.allm Arr7B.fget0 Arr7B.fget Arr7B.fset Arr7B.fs0_1 Arr7B.fs1_1 Arr7B.fs2_1 Arr7B.fs3_1 Arr7B.fs4_1 Arr7B.fs5_1 Arr7B.fs6_1 Arr7B.eqc
structure Civil where
  Year : Int
  Month : Int
  Day : Int
  deriving Inhabited, DecidableEq
def Civil.cs (x : Civil) : List AV := [.int .i64 x.Year, .int .i64 x.Month, .int .i64 x.Day]
def Civil.av (x : Civil) : AV := .agg x.cs
theorem Civil.cs_eq (x : Civil) : Civil.cs x = [.int .i64 x.Year, .int .i64 x.Month, .int .i64 x.Day] := rfl
theorem Civil.len {x : Civil} : (Civil.cs x).length = 3 := by rw [Civil.cs_eq]; rfl
theorem Civil.all {x : Civil} : List.take 3 (Civil.cs x) = Civil.cs x := by rw [Civil.cs_eq]; rfl
theorem Civil.dropn {x : Civil} : List.drop 3 (Civil.cs x) = [] := by rw [Civil.cs_eq]; rfl
theorem Civil.av_eq {x : Civil} : Civil.av x = .agg (Civil.cs x) := by rfl
theorem Civil.g0_1 {x : Civil} : List.take 1 (Civil.cs x) = [.int .i64 x.Year] := by rw [Civil.cs_eq]; rfl
theorem Civil.s0_1 {x : Civil} {v : Int} : .int .i64 v :: List.drop 1 (Civil.cs x) = Civil.cs { x with Year := v } := by first | (rw [Civil.cs_eq, Civil.cs_eq]; rfl) | (rw [Civil.cs_eq]; rfl) | rw [Civil.cs_eq]
theorem Civil.g1_1 {x : Civil} : List.take 1 (List.drop 1 (Civil.cs x)) = [.int .i64 x.Month] := by rw [Civil.cs_eq]; rfl
theorem Civil.s1_1 {x : Civil} {v : Int} : .int .i64 x.Year :: .int .i64 v :: List.drop 2 (Civil.cs x) = Civil.cs { x with Month := v } := by first | (rw [Civil.cs_eq, Civil.cs_eq]; rfl) | (rw [Civil.cs_eq]; rfl) | rw [Civil.cs_eq]
theorem Civil.g2_1 {x : Civil} : List.take 1 (List.drop 2 (Civil.cs x)) = [.int .i64 x.Day] := by rw [Civil.cs_eq]; rfl
theorem Civil.s2_1 {x : Civil} {v : Int} : List.take 2 (Civil.cs x) ++ [.int .i64 v] = Civil.cs { x with Day := v } := by first | (rw [Civil.cs_eq, Civil.cs_eq]; rfl) | (rw [Civil.cs_eq]; rfl) | rw [Civil.cs_eq]
theorem Civil.avl {x : Civil} : (Civil.av x).cells.length = 3 := by exact Civil.len
theorem Civil.flen {l : List Civil} : (flt Civil.av l).length = l.length * 3 := by exact flt_len (fun _ => Civil.avl) l
theorem Civil.ftake {l : List Civil} : List.take (l.length * 3) (flt Civil.av l) = flt Civil.av l := by exact flt_take (fun _ => Civil.avl) l
theorem Civil.snoc {l : List Civil} {x : Civil} : flt Civil.av l ++ Civil.cs x = flt Civil.av (l ++ [x]) := by rw [flt_app, flt_one]; rfl
theorem Civil.snocx {l : List Civil} {v0 : Int} {v1 : Int} {v2 : Int} : flt Civil.av l ++ [.int .i64 v0, .int .i64 v1, .int .i64 v2] = flt Civil.av (l ++ [({ Year := v0, Month := v1, Day := v2 } : Civil)]) := by rw [flt_app, flt_one]; show _ = _ ++ Civil.cs _; rw [Civil.cs_eq]
theorem Civil.app {l m : List Civil} : flt Civil.av l ++ flt Civil.av m = flt Civil.av (l ++ m) := by exact flt_app.symm
theorem Civil.setl0 {l : List Civil} {X : List AV} {v : Civil} (hX : X.length = 3) : List.take (l.length * 3) (flt Civil.av l ++ X) ++ Civil.cs v ++ List.drop (l.length * 3 + 3) (flt Civil.av l ++ X) = flt Civil.av (l ++ [v]) := by rw [← Civil.flen, List.take_left, List.drop_append, flt_app, flt_one, List.drop_of_length_le (by omega), show (flt Civil.av l).length + 3 - (flt Civil.av l).length = 3 by omega, List.drop_of_length_le (by omega)]; simp; rfl
theorem Civil.setl {l : List Civil} {v : Civil} {y0 y1 y2 : AV} : List.take (l.length * 3) (flt Civil.av l ++ [y0, y1, y2]) ++ Civil.cs v ++ List.drop (l.length * 3 + 3) (flt Civil.av l ++ [y0, y1, y2]) = flt Civil.av (l ++ [v]) := by exact Civil.setl0 rfl
theorem Civil.allm {l : List Civil} : (∀ x, x ∈ List.map Civil.av l → x.cells.length = 3) = True := by exact eq_true (fun x hx => by obtain ⟨a, _, rfl⟩ := List.mem_map.1 hx; exact Civil.avl)
theorem Civil.fget0 {l : List Civil} {i c : Nat} (h : i < l.length) (hc : c ≤ 3) : List.take c (List.drop (i * 3) (flt Civil.av l)) = List.take c (Civil.cs l[i]!) := by exact flt_get (fun _ => Civil.avl) l i 0 c h (by omega)
theorem Civil.fget {l : List Civil} {i o c : Nat} (h : i < l.length) (hc : o + c ≤ 3) : List.take c (List.drop (i * 3 + o) (flt Civil.av l)) = List.take c (List.drop o (Civil.cs l[i]!)) := by exact flt_get (fun _ => Civil.avl) l i o c h hc
theorem Civil.fset {l : List Civil} {i : Nat} {v : Civil} (h : i < l.length) : List.take (i * 3) (flt Civil.av l) ++ Civil.cs v ++ List.drop (i * 3 + 3) (flt Civil.av l) = flt Civil.av (l.set i v) := by have := flt_set (f := Civil.av) (fun _ => Civil.avl) l i 0 3 (Civil.cs v) v h (by show List.take 0 (Civil.cs _) ++ Civil.cs v ++ List.drop (0 + 3) (Civil.cs _) = Civil.cs v; rw [Nat.zero_add, Civil.dropn]; simp) (by omega); exact this
theorem Civil.fs0_1 {l : List Civil} {i : Nat} {v : Int} (h : i < l.length) : List.take (i * 3) (flt Civil.av l) ++ [.int .i64 v] ++ List.drop (i * 3 + 1) (flt Civil.av l) = flt Civil.av (l.set i { (l[i]!) with Year := v }) := by exact flt_set (f := Civil.av) (fun _ => Civil.avl) l i 0 1 _ { (l[i]!) with Year := v } h (by show List.take 0 (Civil.cs l[i]!) ++ _ ++ List.drop (0 + 1) (Civil.cs l[i]!) = Civil.cs _; rw [Civil.cs_eq, Civil.cs_eq]; rfl) (by omega)
theorem Civil.fs1_1 {l : List Civil} {i : Nat} {v : Int} (h : i < l.length) : List.take (i * 3 + 1) (flt Civil.av l) ++ [.int .i64 v] ++ List.drop (i * 3 + 1 + 1) (flt Civil.av l) = flt Civil.av (l.set i { (l[i]!) with Month := v }) := by exact flt_set (f := Civil.av) (fun _ => Civil.avl) l i 1 1 _ { (l[i]!) with Month := v } h (by show List.take 1 (Civil.cs l[i]!) ++ _ ++ List.drop (1 + 1) (Civil.cs l[i]!) = Civil.cs _; rw [Civil.cs_eq, Civil.cs_eq]; rfl) (by omega)
theorem Civil.fs2_1 {l : List Civil} {i : Nat} {v : Int} (h : i < l.length) : List.take (i * 3 + 2) (flt Civil.av l) ++ [.int .i64 v] ++ List.drop (i * 3 + 2 + 1) (flt Civil.av l) = flt Civil.av (l.set i { (l[i]!) with Day := v }) := by exact flt_set (f := Civil.av) (fun _ => Civil.avl) l i 2 1 _ { (l[i]!) with Day := v } h (by show List.take 2 (Civil.cs l[i]!) ++ _ ++ List.drop (2 + 1) (Civil.cs l[i]!) = Civil.cs _; rw [Civil.cs_eq, Civil.cs_eq]; rfl) (by omega)
theorem Civil.eqc {a b : Civil} : eqCells [.i, .i, .i] (Civil.cs a) (Civil.cs b) = some (decide (a = b)) := by cases a; cases b; simp only [eqC_nil, eqC_cons, bndO_some, same_i, same_s, same_b, Civil.cs_eq]; rw [Option.some.injEq, Bool.eq_iff_iff]; simp
attribute [go_sem] Civil.len Civil.all Civil.dropn Civil.av_eq Civil.g0_1 Civil.s0_1 Civil.g1_1 Civil.s1_1 Civil.g2_1 Civil.s2_1 Civil.flen Civil.ftake Civil.snoc Civil.snocx Civil.app Civil.allm Civil.fget0 Civil.fget Civil.fset Civil.fs0_1 Civil.fs1_1 Civil.fs2_1 Civil.eqc
structure Item where
  Kind : Int
  Name : List UInt8
  At : Int
  Of : List UInt8
  Act : List UInt8
  Word : Int
  Times : Int
  Within : Span
  Grace : Span
  Conds : List Named
  By : List UInt8
  Until : List UInt8
  Num : Ratio
  Unit : List UInt8
  Sum : List UInt8
  Final : Bool
  Give : List UInt8
  To : List UInt8
  Days : Arr7B
  Dates : List Civil
  Names : List (List UInt8)
  Items : List Item
  deriving Inhabited
mutual
def Item.cs : Item → List AV
  | ⟨a0, a1, a2, a3, a4, a5, a6, a7, a8, a9, a10, a11, a12, a13, a14, a15, a16, a17, a18, a19, a20, a21⟩ => [.int .i64 a0, .str a1, .int .i64 a2, .str a3, .str a4, .int .i64 a5, .int .i64 a6, .int .i64 a7.Days, .bool a7.Business, .str a7.Name, .int .i64 a8.Days, .bool a8.Business, .str a8.Name, .sl (List.map Named.av a9), .str a10, .str a11, .int .i64 a12.Num, .int .i64 a12.Den, .str a13, .str a14, .bool a15, .str a16, .str a17, .bool a18.e0, .bool a18.e1, .bool a18.e2, .bool a18.e3, .bool a18.e4, .bool a18.e5, .bool a18.e6, .sl (List.map Civil.av a19), .sl (List.map AV.str a20), .sl (Item.csl a21)]
def Item.csl : List Item → List AV
  | [] => []
  | x :: l => .agg (Item.cs x) :: Item.csl l
end
def Item.av (x : Item) : AV := .agg x.cs
theorem Item.csl_eq (l : List Item) : Item.csl l = List.map Item.av l := by
  induction l with
  | nil => rfl
  | cons x l ih => simp [Item.csl, ih, Item.av]
theorem Item.cs_eq (x : Item) : Item.cs x = [.int .i64 x.Kind, .str x.Name, .int .i64 x.At, .str x.Of, .str x.Act, .int .i64 x.Word, .int .i64 x.Times, .int .i64 x.Within.Days, .bool x.Within.Business, .str x.Within.Name, .int .i64 x.Grace.Days, .bool x.Grace.Business, .str x.Grace.Name, .sl (List.map Named.av x.Conds), .str x.By, .str x.Until, .int .i64 x.Num.Num, .int .i64 x.Num.Den, .str x.Unit, .str x.Sum, .bool x.Final, .str x.Give, .str x.To, .bool x.Days.e0, .bool x.Days.e1, .bool x.Days.e2, .bool x.Days.e3, .bool x.Days.e4, .bool x.Days.e5, .bool x.Days.e6, .sl (List.map Civil.av x.Dates), .sl (List.map AV.str x.Names), .sl (List.map Item.av x.Items)] := by
  cases x
  simp only [Item.cs, Item.csl_eq]
theorem Item.len {x : Item} : (Item.cs x).length = 33 := by rw [Item.cs_eq]; rfl
theorem Item.all {x : Item} : List.take 33 (Item.cs x) = Item.cs x := by rw [Item.cs_eq]; rfl
theorem Item.dropn {x : Item} : List.drop 33 (Item.cs x) = [] := by rw [Item.cs_eq]; rfl
theorem Item.av_eq {x : Item} : Item.av x = .agg (Item.cs x) := by rfl
theorem Item.g0_1 {x : Item} : List.take 1 (Item.cs x) = [.int .i64 x.Kind] := by rw [Item.cs_eq]; rfl
theorem Item.s0_1 {x : Item} {v : Int} : .int .i64 v :: List.drop 1 (Item.cs x) = Item.cs { x with Kind := v } := by first | (rw [Item.cs_eq, Item.cs_eq]; rfl) | (rw [Item.cs_eq]; rfl) | rw [Item.cs_eq]
theorem Item.g1_1 {x : Item} : List.take 1 (List.drop 1 (Item.cs x)) = [.str x.Name] := by rw [Item.cs_eq]; rfl
theorem Item.s1_1 {x : Item} {v : List UInt8} : .int .i64 x.Kind :: .str v :: List.drop 2 (Item.cs x) = Item.cs { x with Name := v } := by first | (rw [Item.cs_eq, Item.cs_eq]; rfl) | (rw [Item.cs_eq]; rfl) | rw [Item.cs_eq]
theorem Item.g2_1 {x : Item} : List.take 1 (List.drop 2 (Item.cs x)) = [.int .i64 x.At] := by rw [Item.cs_eq]; rfl
theorem Item.s2_1 {x : Item} {v : Int} : List.take 2 (Item.cs x) ++ [.int .i64 v] ++ List.drop 3 (Item.cs x) = Item.cs { x with At := v } := by first | (rw [Item.cs_eq, Item.cs_eq]; rfl) | (rw [Item.cs_eq]; rfl) | rw [Item.cs_eq]
theorem Item.g3_1 {x : Item} : List.take 1 (List.drop 3 (Item.cs x)) = [.str x.Of] := by rw [Item.cs_eq]; rfl
theorem Item.s3_1 {x : Item} {v : List UInt8} : List.take 3 (Item.cs x) ++ [.str v] ++ List.drop 4 (Item.cs x) = Item.cs { x with Of := v } := by first | (rw [Item.cs_eq, Item.cs_eq]; rfl) | (rw [Item.cs_eq]; rfl) | rw [Item.cs_eq]
theorem Item.g4_1 {x : Item} : List.take 1 (List.drop 4 (Item.cs x)) = [.str x.Act] := by rw [Item.cs_eq]; rfl
theorem Item.s4_1 {x : Item} {v : List UInt8} : List.take 4 (Item.cs x) ++ [.str v] ++ List.drop 5 (Item.cs x) = Item.cs { x with Act := v } := by first | (rw [Item.cs_eq, Item.cs_eq]; rfl) | (rw [Item.cs_eq]; rfl) | rw [Item.cs_eq]
theorem Item.g5_1 {x : Item} : List.take 1 (List.drop 5 (Item.cs x)) = [.int .i64 x.Word] := by rw [Item.cs_eq]; rfl
theorem Item.s5_1 {x : Item} {v : Int} : List.take 5 (Item.cs x) ++ [.int .i64 v] ++ List.drop 6 (Item.cs x) = Item.cs { x with Word := v } := by first | (rw [Item.cs_eq, Item.cs_eq]; rfl) | (rw [Item.cs_eq]; rfl) | rw [Item.cs_eq]
theorem Item.g6_1 {x : Item} : List.take 1 (List.drop 6 (Item.cs x)) = [.int .i64 x.Times] := by rw [Item.cs_eq]; rfl
theorem Item.s6_1 {x : Item} {v : Int} : List.take 6 (Item.cs x) ++ [.int .i64 v] ++ List.drop 7 (Item.cs x) = Item.cs { x with Times := v } := by first | (rw [Item.cs_eq, Item.cs_eq]; rfl) | (rw [Item.cs_eq]; rfl) | rw [Item.cs_eq]
theorem Item.g7_3 {x : Item} : List.take 3 (List.drop 7 (Item.cs x)) = Span.cs x.Within := by rw [Item.cs_eq]; rfl
theorem Item.s7_3 {x : Item} {v : Span} : List.take 7 (Item.cs x) ++ Span.cs v ++ List.drop 10 (Item.cs x) = Item.cs { x with Within := v } := by first | (rw [Item.cs_eq, Item.cs_eq]; rfl) | (rw [Item.cs_eq]; rfl) | rw [Item.cs_eq]
theorem Item.g7_1 {x : Item} : List.take 1 (List.drop 7 (Item.cs x)) = [.int .i64 x.Within.Days] := by rw [Item.cs_eq]; rfl
theorem Item.s7_1 {x : Item} {v : Int} : List.take 7 (Item.cs x) ++ [.int .i64 v] ++ List.drop 8 (Item.cs x) = Item.cs { x with Within := { x.Within with Days := v } } := by first | (rw [Item.cs_eq, Item.cs_eq]; rfl) | (rw [Item.cs_eq]; rfl) | rw [Item.cs_eq]
theorem Item.g8_1 {x : Item} : List.take 1 (List.drop 8 (Item.cs x)) = [.bool x.Within.Business] := by rw [Item.cs_eq]; rfl
theorem Item.s8_1 {x : Item} {v : Bool} : List.take 8 (Item.cs x) ++ [.bool v] ++ List.drop 9 (Item.cs x) = Item.cs { x with Within := { x.Within with Business := v } } := by first | (rw [Item.cs_eq, Item.cs_eq]; rfl) | (rw [Item.cs_eq]; rfl) | rw [Item.cs_eq]
theorem Item.g9_1 {x : Item} : List.take 1 (List.drop 9 (Item.cs x)) = [.str x.Within.Name] := by rw [Item.cs_eq]; rfl
theorem Item.s9_1 {x : Item} {v : List UInt8} : List.take 9 (Item.cs x) ++ [.str v] ++ List.drop 10 (Item.cs x) = Item.cs { x with Within := { x.Within with Name := v } } := by first | (rw [Item.cs_eq, Item.cs_eq]; rfl) | (rw [Item.cs_eq]; rfl) | rw [Item.cs_eq]
theorem Item.g10_3 {x : Item} : List.take 3 (List.drop 10 (Item.cs x)) = Span.cs x.Grace := by rw [Item.cs_eq]; rfl
theorem Item.s10_3 {x : Item} {v : Span} : List.take 10 (Item.cs x) ++ Span.cs v ++ List.drop 13 (Item.cs x) = Item.cs { x with Grace := v } := by first | (rw [Item.cs_eq, Item.cs_eq]; rfl) | (rw [Item.cs_eq]; rfl) | rw [Item.cs_eq]
theorem Item.g10_1 {x : Item} : List.take 1 (List.drop 10 (Item.cs x)) = [.int .i64 x.Grace.Days] := by rw [Item.cs_eq]; rfl
theorem Item.s10_1 {x : Item} {v : Int} : List.take 10 (Item.cs x) ++ [.int .i64 v] ++ List.drop 11 (Item.cs x) = Item.cs { x with Grace := { x.Grace with Days := v } } := by first | (rw [Item.cs_eq, Item.cs_eq]; rfl) | (rw [Item.cs_eq]; rfl) | rw [Item.cs_eq]
theorem Item.g11_1 {x : Item} : List.take 1 (List.drop 11 (Item.cs x)) = [.bool x.Grace.Business] := by rw [Item.cs_eq]; rfl
theorem Item.s11_1 {x : Item} {v : Bool} : List.take 11 (Item.cs x) ++ [.bool v] ++ List.drop 12 (Item.cs x) = Item.cs { x with Grace := { x.Grace with Business := v } } := by first | (rw [Item.cs_eq, Item.cs_eq]; rfl) | (rw [Item.cs_eq]; rfl) | rw [Item.cs_eq]
theorem Item.g12_1 {x : Item} : List.take 1 (List.drop 12 (Item.cs x)) = [.str x.Grace.Name] := by rw [Item.cs_eq]; rfl
theorem Item.s12_1 {x : Item} {v : List UInt8} : List.take 12 (Item.cs x) ++ [.str v] ++ List.drop 13 (Item.cs x) = Item.cs { x with Grace := { x.Grace with Name := v } } := by first | (rw [Item.cs_eq, Item.cs_eq]; rfl) | (rw [Item.cs_eq]; rfl) | rw [Item.cs_eq]
theorem Item.g13_1 {x : Item} : List.take 1 (List.drop 13 (Item.cs x)) = [.sl (List.map Named.av x.Conds)] := by rw [Item.cs_eq]; rfl
theorem Item.s13_1 {x : Item} {v : List Named} : List.take 13 (Item.cs x) ++ [.sl (List.map Named.av v)] ++ List.drop 14 (Item.cs x) = Item.cs { x with Conds := v } := by first | (rw [Item.cs_eq, Item.cs_eq]; rfl) | (rw [Item.cs_eq]; rfl) | rw [Item.cs_eq]
theorem Item.g14_1 {x : Item} : List.take 1 (List.drop 14 (Item.cs x)) = [.str x.By] := by rw [Item.cs_eq]; rfl
theorem Item.s14_1 {x : Item} {v : List UInt8} : List.take 14 (Item.cs x) ++ [.str v] ++ List.drop 15 (Item.cs x) = Item.cs { x with By := v } := by first | (rw [Item.cs_eq, Item.cs_eq]; rfl) | (rw [Item.cs_eq]; rfl) | rw [Item.cs_eq]
theorem Item.g15_1 {x : Item} : List.take 1 (List.drop 15 (Item.cs x)) = [.str x.Until] := by rw [Item.cs_eq]; rfl
theorem Item.s15_1 {x : Item} {v : List UInt8} : List.take 15 (Item.cs x) ++ [.str v] ++ List.drop 16 (Item.cs x) = Item.cs { x with Until := v } := by first | (rw [Item.cs_eq, Item.cs_eq]; rfl) | (rw [Item.cs_eq]; rfl) | rw [Item.cs_eq]
theorem Item.g16_2 {x : Item} : List.take 2 (List.drop 16 (Item.cs x)) = Ratio.cs x.Num := by rw [Item.cs_eq]; rfl
theorem Item.s16_2 {x : Item} {v : Ratio} : List.take 16 (Item.cs x) ++ Ratio.cs v ++ List.drop 18 (Item.cs x) = Item.cs { x with Num := v } := by first | (rw [Item.cs_eq, Item.cs_eq]; rfl) | (rw [Item.cs_eq]; rfl) | rw [Item.cs_eq]
theorem Item.g16_1 {x : Item} : List.take 1 (List.drop 16 (Item.cs x)) = [.int .i64 x.Num.Num] := by rw [Item.cs_eq]; rfl
theorem Item.s16_1 {x : Item} {v : Int} : List.take 16 (Item.cs x) ++ [.int .i64 v] ++ List.drop 17 (Item.cs x) = Item.cs { x with Num := { x.Num with Num := v } } := by first | (rw [Item.cs_eq, Item.cs_eq]; rfl) | (rw [Item.cs_eq]; rfl) | rw [Item.cs_eq]
theorem Item.g17_1 {x : Item} : List.take 1 (List.drop 17 (Item.cs x)) = [.int .i64 x.Num.Den] := by rw [Item.cs_eq]; rfl
theorem Item.s17_1 {x : Item} {v : Int} : List.take 17 (Item.cs x) ++ [.int .i64 v] ++ List.drop 18 (Item.cs x) = Item.cs { x with Num := { x.Num with Den := v } } := by first | (rw [Item.cs_eq, Item.cs_eq]; rfl) | (rw [Item.cs_eq]; rfl) | rw [Item.cs_eq]
theorem Item.g18_1 {x : Item} : List.take 1 (List.drop 18 (Item.cs x)) = [.str x.Unit] := by rw [Item.cs_eq]; rfl
theorem Item.s18_1 {x : Item} {v : List UInt8} : List.take 18 (Item.cs x) ++ [.str v] ++ List.drop 19 (Item.cs x) = Item.cs { x with Unit := v } := by first | (rw [Item.cs_eq, Item.cs_eq]; rfl) | (rw [Item.cs_eq]; rfl) | rw [Item.cs_eq]
theorem Item.g19_1 {x : Item} : List.take 1 (List.drop 19 (Item.cs x)) = [.str x.Sum] := by rw [Item.cs_eq]; rfl
theorem Item.s19_1 {x : Item} {v : List UInt8} : List.take 19 (Item.cs x) ++ [.str v] ++ List.drop 20 (Item.cs x) = Item.cs { x with Sum := v } := by first | (rw [Item.cs_eq, Item.cs_eq]; rfl) | (rw [Item.cs_eq]; rfl) | rw [Item.cs_eq]
theorem Item.g20_1 {x : Item} : List.take 1 (List.drop 20 (Item.cs x)) = [.bool x.Final] := by rw [Item.cs_eq]; rfl
theorem Item.s20_1 {x : Item} {v : Bool} : List.take 20 (Item.cs x) ++ [.bool v] ++ List.drop 21 (Item.cs x) = Item.cs { x with Final := v } := by first | (rw [Item.cs_eq, Item.cs_eq]; rfl) | (rw [Item.cs_eq]; rfl) | rw [Item.cs_eq]
theorem Item.g21_1 {x : Item} : List.take 1 (List.drop 21 (Item.cs x)) = [.str x.Give] := by rw [Item.cs_eq]; rfl
theorem Item.s21_1 {x : Item} {v : List UInt8} : List.take 21 (Item.cs x) ++ [.str v] ++ List.drop 22 (Item.cs x) = Item.cs { x with Give := v } := by first | (rw [Item.cs_eq, Item.cs_eq]; rfl) | (rw [Item.cs_eq]; rfl) | rw [Item.cs_eq]
theorem Item.g22_1 {x : Item} : List.take 1 (List.drop 22 (Item.cs x)) = [.str x.To] := by rw [Item.cs_eq]; rfl
theorem Item.s22_1 {x : Item} {v : List UInt8} : List.take 22 (Item.cs x) ++ [.str v] ++ List.drop 23 (Item.cs x) = Item.cs { x with To := v } := by first | (rw [Item.cs_eq, Item.cs_eq]; rfl) | (rw [Item.cs_eq]; rfl) | rw [Item.cs_eq]
theorem Item.g23_7 {x : Item} : List.take 7 (List.drop 23 (Item.cs x)) = Arr7B.cs x.Days := by rw [Item.cs_eq]; rfl
theorem Item.s23_7 {x : Item} {v : Arr7B} : List.take 23 (Item.cs x) ++ Arr7B.cs v ++ List.drop 30 (Item.cs x) = Item.cs { x with Days := v } := by first | (rw [Item.cs_eq, Item.cs_eq]; rfl) | (rw [Item.cs_eq]; rfl) | rw [Item.cs_eq]
theorem Item.g23_1 {x : Item} : List.take 1 (List.drop 23 (Item.cs x)) = [.bool x.Days.e0] := by rw [Item.cs_eq]; rfl
theorem Item.s23_1 {x : Item} {v : Bool} : List.take 23 (Item.cs x) ++ [.bool v] ++ List.drop 24 (Item.cs x) = Item.cs { x with Days := { x.Days with e0 := v } } := by first | (rw [Item.cs_eq, Item.cs_eq]; rfl) | (rw [Item.cs_eq]; rfl) | rw [Item.cs_eq]
theorem Item.g24_1 {x : Item} : List.take 1 (List.drop 24 (Item.cs x)) = [.bool x.Days.e1] := by rw [Item.cs_eq]; rfl
theorem Item.s24_1 {x : Item} {v : Bool} : List.take 24 (Item.cs x) ++ [.bool v] ++ List.drop 25 (Item.cs x) = Item.cs { x with Days := { x.Days with e1 := v } } := by first | (rw [Item.cs_eq, Item.cs_eq]; rfl) | (rw [Item.cs_eq]; rfl) | rw [Item.cs_eq]
theorem Item.g25_1 {x : Item} : List.take 1 (List.drop 25 (Item.cs x)) = [.bool x.Days.e2] := by rw [Item.cs_eq]; rfl
theorem Item.s25_1 {x : Item} {v : Bool} : List.take 25 (Item.cs x) ++ [.bool v] ++ List.drop 26 (Item.cs x) = Item.cs { x with Days := { x.Days with e2 := v } } := by first | (rw [Item.cs_eq, Item.cs_eq]; rfl) | (rw [Item.cs_eq]; rfl) | rw [Item.cs_eq]
theorem Item.g26_1 {x : Item} : List.take 1 (List.drop 26 (Item.cs x)) = [.bool x.Days.e3] := by rw [Item.cs_eq]; rfl
theorem Item.s26_1 {x : Item} {v : Bool} : List.take 26 (Item.cs x) ++ [.bool v] ++ List.drop 27 (Item.cs x) = Item.cs { x with Days := { x.Days with e3 := v } } := by first | (rw [Item.cs_eq, Item.cs_eq]; rfl) | (rw [Item.cs_eq]; rfl) | rw [Item.cs_eq]
theorem Item.g27_1 {x : Item} : List.take 1 (List.drop 27 (Item.cs x)) = [.bool x.Days.e4] := by rw [Item.cs_eq]; rfl
theorem Item.s27_1 {x : Item} {v : Bool} : List.take 27 (Item.cs x) ++ [.bool v] ++ List.drop 28 (Item.cs x) = Item.cs { x with Days := { x.Days with e4 := v } } := by first | (rw [Item.cs_eq, Item.cs_eq]; rfl) | (rw [Item.cs_eq]; rfl) | rw [Item.cs_eq]
theorem Item.g28_1 {x : Item} : List.take 1 (List.drop 28 (Item.cs x)) = [.bool x.Days.e5] := by rw [Item.cs_eq]; rfl
theorem Item.s28_1 {x : Item} {v : Bool} : List.take 28 (Item.cs x) ++ [.bool v] ++ List.drop 29 (Item.cs x) = Item.cs { x with Days := { x.Days with e5 := v } } := by first | (rw [Item.cs_eq, Item.cs_eq]; rfl) | (rw [Item.cs_eq]; rfl) | rw [Item.cs_eq]
theorem Item.g29_1 {x : Item} : List.take 1 (List.drop 29 (Item.cs x)) = [.bool x.Days.e6] := by rw [Item.cs_eq]; rfl
theorem Item.s29_1 {x : Item} {v : Bool} : List.take 29 (Item.cs x) ++ [.bool v] ++ List.drop 30 (Item.cs x) = Item.cs { x with Days := { x.Days with e6 := v } } := by first | (rw [Item.cs_eq, Item.cs_eq]; rfl) | (rw [Item.cs_eq]; rfl) | rw [Item.cs_eq]
theorem Item.g30_1 {x : Item} : List.take 1 (List.drop 30 (Item.cs x)) = [.sl (List.map Civil.av x.Dates)] := by rw [Item.cs_eq]; rfl
theorem Item.s30_1 {x : Item} {v : List Civil} : List.take 30 (Item.cs x) ++ [.sl (List.map Civil.av v)] ++ List.drop 31 (Item.cs x) = Item.cs { x with Dates := v } := by first | (rw [Item.cs_eq, Item.cs_eq]; rfl) | (rw [Item.cs_eq]; rfl) | rw [Item.cs_eq]
theorem Item.g31_1 {x : Item} : List.take 1 (List.drop 31 (Item.cs x)) = [.sl (List.map AV.str x.Names)] := by rw [Item.cs_eq]; rfl
theorem Item.s31_1 {x : Item} {v : List (List UInt8)} : List.take 31 (Item.cs x) ++ [.sl (List.map AV.str v)] ++ List.drop 32 (Item.cs x) = Item.cs { x with Names := v } := by first | (rw [Item.cs_eq, Item.cs_eq]; rfl) | (rw [Item.cs_eq]; rfl) | rw [Item.cs_eq]
theorem Item.g32_1 {x : Item} : List.take 1 (List.drop 32 (Item.cs x)) = [.sl (List.map Item.av x.Items)] := by rw [Item.cs_eq]; rfl
theorem Item.s32_1 {x : Item} {v : List Item} : List.take 32 (Item.cs x) ++ [.sl (List.map Item.av v)] = Item.cs { x with Items := v } := by first | (rw [Item.cs_eq, Item.cs_eq]; rfl) | (rw [Item.cs_eq]; rfl) | rw [Item.cs_eq]
theorem Item.avl {x : Item} : (Item.av x).cells.length = 33 := by exact Item.len
theorem Item.flen {l : List Item} : (flt Item.av l).length = l.length * 33 := by exact flt_len (fun _ => Item.avl) l
theorem Item.ftake {l : List Item} : List.take (l.length * 33) (flt Item.av l) = flt Item.av l := by exact flt_take (fun _ => Item.avl) l
theorem Item.snoc {l : List Item} {x : Item} : flt Item.av l ++ Item.cs x = flt Item.av (l ++ [x]) := by rw [flt_app, flt_one]; rfl
theorem Item.snocx {l : List Item} {v0 : Int} {v1 : List UInt8} {v2 : Int} {v3 : List UInt8} {v4 : List UInt8} {v5 : Int} {v6 : Int} {v7 : Int} {v8 : Bool} {v9 : List UInt8} {v10 : Int} {v11 : Bool} {v12 : List UInt8} {v13 : List Named} {v14 : List UInt8} {v15 : List UInt8} {v16 : Int} {v17 : Int} {v18 : List UInt8} {v19 : List UInt8} {v20 : Bool} {v21 : List UInt8} {v22 : List UInt8} {v23 : Bool} {v24 : Bool} {v25 : Bool} {v26 : Bool} {v27 : Bool} {v28 : Bool} {v29 : Bool} {v30 : List Civil} {v31 : List (List UInt8)} {v32 : List Item} : flt Item.av l ++ [.int .i64 v0, .str v1, .int .i64 v2, .str v3, .str v4, .int .i64 v5, .int .i64 v6, .int .i64 v7, .bool v8, .str v9, .int .i64 v10, .bool v11, .str v12, .sl (List.map Named.av v13), .str v14, .str v15, .int .i64 v16, .int .i64 v17, .str v18, .str v19, .bool v20, .str v21, .str v22, .bool v23, .bool v24, .bool v25, .bool v26, .bool v27, .bool v28, .bool v29, .sl (List.map Civil.av v30), .sl (List.map AV.str v31), .sl (List.map Item.av v32)] = flt Item.av (l ++ [({ Kind := v0, Name := v1, At := v2, Of := v3, Act := v4, Word := v5, Times := v6, Within := { Days := v7, Business := v8, Name := v9 }, Grace := { Days := v10, Business := v11, Name := v12 }, Conds := v13, By := v14, Until := v15, Num := { Num := v16, Den := v17 }, Unit := v18, Sum := v19, Final := v20, Give := v21, To := v22, Days := { e0 := v23, e1 := v24, e2 := v25, e3 := v26, e4 := v27, e5 := v28, e6 := v29 }, Dates := v30, Names := v31, Items := v32 } : Item)]) := by rw [flt_app, flt_one]; show _ = _ ++ Item.cs _; rw [Item.cs_eq]
theorem Item.app {l m : List Item} : flt Item.av l ++ flt Item.av m = flt Item.av (l ++ m) := by exact flt_app.symm
theorem Item.setl0 {l : List Item} {X : List AV} {v : Item} (hX : X.length = 33) : List.take (l.length * 33) (flt Item.av l ++ X) ++ Item.cs v ++ List.drop (l.length * 33 + 33) (flt Item.av l ++ X) = flt Item.av (l ++ [v]) := by rw [← Item.flen, List.take_left, List.drop_append, flt_app, flt_one, List.drop_of_length_le (by omega), show (flt Item.av l).length + 33 - (flt Item.av l).length = 33 by omega, List.drop_of_length_le (by omega)]; simp; rfl
theorem Item.setl {l : List Item} {v : Item} {y0 y1 y2 y3 y4 y5 y6 y7 y8 y9 y10 y11 y12 y13 y14 y15 y16 y17 y18 y19 y20 y21 y22 y23 y24 y25 y26 y27 y28 y29 y30 y31 y32 : AV} : List.take (l.length * 33) (flt Item.av l ++ [y0, y1, y2, y3, y4, y5, y6, y7, y8, y9, y10, y11, y12, y13, y14, y15, y16, y17, y18, y19, y20, y21, y22, y23, y24, y25, y26, y27, y28, y29, y30, y31, y32]) ++ Item.cs v ++ List.drop (l.length * 33 + 33) (flt Item.av l ++ [y0, y1, y2, y3, y4, y5, y6, y7, y8, y9, y10, y11, y12, y13, y14, y15, y16, y17, y18, y19, y20, y21, y22, y23, y24, y25, y26, y27, y28, y29, y30, y31, y32]) = flt Item.av (l ++ [v]) := by exact Item.setl0 rfl
theorem Item.allm {l : List Item} : (∀ x, x ∈ List.map Item.av l → x.cells.length = 33) = True := by exact eq_true (fun x hx => by obtain ⟨a, _, rfl⟩ := List.mem_map.1 hx; exact Item.avl)
theorem Item.fget0 {l : List Item} {i c : Nat} (h : i < l.length) (hc : c ≤ 33) : List.take c (List.drop (i * 33) (flt Item.av l)) = List.take c (Item.cs l[i]!) := by exact flt_get (fun _ => Item.avl) l i 0 c h (by omega)
theorem Item.fget {l : List Item} {i o c : Nat} (h : i < l.length) (hc : o + c ≤ 33) : List.take c (List.drop (i * 33 + o) (flt Item.av l)) = List.take c (List.drop o (Item.cs l[i]!)) := by exact flt_get (fun _ => Item.avl) l i o c h hc
theorem Item.fset {l : List Item} {i : Nat} {v : Item} (h : i < l.length) : List.take (i * 33) (flt Item.av l) ++ Item.cs v ++ List.drop (i * 33 + 33) (flt Item.av l) = flt Item.av (l.set i v) := by have := flt_set (f := Item.av) (fun _ => Item.avl) l i 0 33 (Item.cs v) v h (by show List.take 0 (Item.cs _) ++ Item.cs v ++ List.drop (0 + 33) (Item.cs _) = Item.cs v; rw [Nat.zero_add, Item.dropn]; simp) (by omega); exact this
theorem Item.fs0_1 {l : List Item} {i : Nat} {v : Int} (h : i < l.length) : List.take (i * 33) (flt Item.av l) ++ [.int .i64 v] ++ List.drop (i * 33 + 1) (flt Item.av l) = flt Item.av (l.set i { (l[i]!) with Kind := v }) := by exact flt_set (f := Item.av) (fun _ => Item.avl) l i 0 1 _ { (l[i]!) with Kind := v } h (by show List.take 0 (Item.cs l[i]!) ++ _ ++ List.drop (0 + 1) (Item.cs l[i]!) = Item.cs _; rw [Item.cs_eq, Item.cs_eq]; rfl) (by omega)
theorem Item.fs1_1 {l : List Item} {i : Nat} {v : List UInt8} (h : i < l.length) : List.take (i * 33 + 1) (flt Item.av l) ++ [.str v] ++ List.drop (i * 33 + 1 + 1) (flt Item.av l) = flt Item.av (l.set i { (l[i]!) with Name := v }) := by exact flt_set (f := Item.av) (fun _ => Item.avl) l i 1 1 _ { (l[i]!) with Name := v } h (by show List.take 1 (Item.cs l[i]!) ++ _ ++ List.drop (1 + 1) (Item.cs l[i]!) = Item.cs _; rw [Item.cs_eq, Item.cs_eq]; rfl) (by omega)
theorem Item.fs2_1 {l : List Item} {i : Nat} {v : Int} (h : i < l.length) : List.take (i * 33 + 2) (flt Item.av l) ++ [.int .i64 v] ++ List.drop (i * 33 + 2 + 1) (flt Item.av l) = flt Item.av (l.set i { (l[i]!) with At := v }) := by exact flt_set (f := Item.av) (fun _ => Item.avl) l i 2 1 _ { (l[i]!) with At := v } h (by show List.take 2 (Item.cs l[i]!) ++ _ ++ List.drop (2 + 1) (Item.cs l[i]!) = Item.cs _; rw [Item.cs_eq, Item.cs_eq]; rfl) (by omega)
theorem Item.fs3_1 {l : List Item} {i : Nat} {v : List UInt8} (h : i < l.length) : List.take (i * 33 + 3) (flt Item.av l) ++ [.str v] ++ List.drop (i * 33 + 3 + 1) (flt Item.av l) = flt Item.av (l.set i { (l[i]!) with Of := v }) := by exact flt_set (f := Item.av) (fun _ => Item.avl) l i 3 1 _ { (l[i]!) with Of := v } h (by show List.take 3 (Item.cs l[i]!) ++ _ ++ List.drop (3 + 1) (Item.cs l[i]!) = Item.cs _; rw [Item.cs_eq, Item.cs_eq]; rfl) (by omega)
theorem Item.fs4_1 {l : List Item} {i : Nat} {v : List UInt8} (h : i < l.length) : List.take (i * 33 + 4) (flt Item.av l) ++ [.str v] ++ List.drop (i * 33 + 4 + 1) (flt Item.av l) = flt Item.av (l.set i { (l[i]!) with Act := v }) := by exact flt_set (f := Item.av) (fun _ => Item.avl) l i 4 1 _ { (l[i]!) with Act := v } h (by show List.take 4 (Item.cs l[i]!) ++ _ ++ List.drop (4 + 1) (Item.cs l[i]!) = Item.cs _; rw [Item.cs_eq, Item.cs_eq]; rfl) (by omega)
theorem Item.fs5_1 {l : List Item} {i : Nat} {v : Int} (h : i < l.length) : List.take (i * 33 + 5) (flt Item.av l) ++ [.int .i64 v] ++ List.drop (i * 33 + 5 + 1) (flt Item.av l) = flt Item.av (l.set i { (l[i]!) with Word := v }) := by exact flt_set (f := Item.av) (fun _ => Item.avl) l i 5 1 _ { (l[i]!) with Word := v } h (by show List.take 5 (Item.cs l[i]!) ++ _ ++ List.drop (5 + 1) (Item.cs l[i]!) = Item.cs _; rw [Item.cs_eq, Item.cs_eq]; rfl) (by omega)
theorem Item.fs6_1 {l : List Item} {i : Nat} {v : Int} (h : i < l.length) : List.take (i * 33 + 6) (flt Item.av l) ++ [.int .i64 v] ++ List.drop (i * 33 + 6 + 1) (flt Item.av l) = flt Item.av (l.set i { (l[i]!) with Times := v }) := by exact flt_set (f := Item.av) (fun _ => Item.avl) l i 6 1 _ { (l[i]!) with Times := v } h (by show List.take 6 (Item.cs l[i]!) ++ _ ++ List.drop (6 + 1) (Item.cs l[i]!) = Item.cs _; rw [Item.cs_eq, Item.cs_eq]; rfl) (by omega)
theorem Item.fs7_3 {l : List Item} {i : Nat} {v : Span} (h : i < l.length) : List.take (i * 33 + 7) (flt Item.av l) ++ Span.cs v ++ List.drop (i * 33 + 7 + 3) (flt Item.av l) = flt Item.av (l.set i { (l[i]!) with Within := v }) := by exact flt_set (f := Item.av) (fun _ => Item.avl) l i 7 3 _ { (l[i]!) with Within := v } h (by show List.take 7 (Item.cs l[i]!) ++ _ ++ List.drop (7 + 3) (Item.cs l[i]!) = Item.cs _; rw [Item.cs_eq, Item.cs_eq]; rfl) (by omega)
theorem Item.fs7_1 {l : List Item} {i : Nat} {v : Int} (h : i < l.length) : List.take (i * 33 + 7) (flt Item.av l) ++ [.int .i64 v] ++ List.drop (i * 33 + 7 + 1) (flt Item.av l) = flt Item.av (l.set i { (l[i]!) with Within := { ((l[i]!)).Within with Days := v } }) := by exact flt_set (f := Item.av) (fun _ => Item.avl) l i 7 1 _ { (l[i]!) with Within := { ((l[i]!)).Within with Days := v } } h (by show List.take 7 (Item.cs l[i]!) ++ _ ++ List.drop (7 + 1) (Item.cs l[i]!) = Item.cs _; rw [Item.cs_eq, Item.cs_eq]; rfl) (by omega)
theorem Item.fs8_1 {l : List Item} {i : Nat} {v : Bool} (h : i < l.length) : List.take (i * 33 + 8) (flt Item.av l) ++ [.bool v] ++ List.drop (i * 33 + 8 + 1) (flt Item.av l) = flt Item.av (l.set i { (l[i]!) with Within := { ((l[i]!)).Within with Business := v } }) := by exact flt_set (f := Item.av) (fun _ => Item.avl) l i 8 1 _ { (l[i]!) with Within := { ((l[i]!)).Within with Business := v } } h (by show List.take 8 (Item.cs l[i]!) ++ _ ++ List.drop (8 + 1) (Item.cs l[i]!) = Item.cs _; rw [Item.cs_eq, Item.cs_eq]; rfl) (by omega)
theorem Item.fs9_1 {l : List Item} {i : Nat} {v : List UInt8} (h : i < l.length) : List.take (i * 33 + 9) (flt Item.av l) ++ [.str v] ++ List.drop (i * 33 + 9 + 1) (flt Item.av l) = flt Item.av (l.set i { (l[i]!) with Within := { ((l[i]!)).Within with Name := v } }) := by exact flt_set (f := Item.av) (fun _ => Item.avl) l i 9 1 _ { (l[i]!) with Within := { ((l[i]!)).Within with Name := v } } h (by show List.take 9 (Item.cs l[i]!) ++ _ ++ List.drop (9 + 1) (Item.cs l[i]!) = Item.cs _; rw [Item.cs_eq, Item.cs_eq]; rfl) (by omega)
theorem Item.fs10_3 {l : List Item} {i : Nat} {v : Span} (h : i < l.length) : List.take (i * 33 + 10) (flt Item.av l) ++ Span.cs v ++ List.drop (i * 33 + 10 + 3) (flt Item.av l) = flt Item.av (l.set i { (l[i]!) with Grace := v }) := by exact flt_set (f := Item.av) (fun _ => Item.avl) l i 10 3 _ { (l[i]!) with Grace := v } h (by show List.take 10 (Item.cs l[i]!) ++ _ ++ List.drop (10 + 3) (Item.cs l[i]!) = Item.cs _; rw [Item.cs_eq, Item.cs_eq]; rfl) (by omega)
theorem Item.fs10_1 {l : List Item} {i : Nat} {v : Int} (h : i < l.length) : List.take (i * 33 + 10) (flt Item.av l) ++ [.int .i64 v] ++ List.drop (i * 33 + 10 + 1) (flt Item.av l) = flt Item.av (l.set i { (l[i]!) with Grace := { ((l[i]!)).Grace with Days := v } }) := by exact flt_set (f := Item.av) (fun _ => Item.avl) l i 10 1 _ { (l[i]!) with Grace := { ((l[i]!)).Grace with Days := v } } h (by show List.take 10 (Item.cs l[i]!) ++ _ ++ List.drop (10 + 1) (Item.cs l[i]!) = Item.cs _; rw [Item.cs_eq, Item.cs_eq]; rfl) (by omega)
theorem Item.fs11_1 {l : List Item} {i : Nat} {v : Bool} (h : i < l.length) : List.take (i * 33 + 11) (flt Item.av l) ++ [.bool v] ++ List.drop (i * 33 + 11 + 1) (flt Item.av l) = flt Item.av (l.set i { (l[i]!) with Grace := { ((l[i]!)).Grace with Business := v } }) := by exact flt_set (f := Item.av) (fun _ => Item.avl) l i 11 1 _ { (l[i]!) with Grace := { ((l[i]!)).Grace with Business := v } } h (by show List.take 11 (Item.cs l[i]!) ++ _ ++ List.drop (11 + 1) (Item.cs l[i]!) = Item.cs _; rw [Item.cs_eq, Item.cs_eq]; rfl) (by omega)
theorem Item.fs12_1 {l : List Item} {i : Nat} {v : List UInt8} (h : i < l.length) : List.take (i * 33 + 12) (flt Item.av l) ++ [.str v] ++ List.drop (i * 33 + 12 + 1) (flt Item.av l) = flt Item.av (l.set i { (l[i]!) with Grace := { ((l[i]!)).Grace with Name := v } }) := by exact flt_set (f := Item.av) (fun _ => Item.avl) l i 12 1 _ { (l[i]!) with Grace := { ((l[i]!)).Grace with Name := v } } h (by show List.take 12 (Item.cs l[i]!) ++ _ ++ List.drop (12 + 1) (Item.cs l[i]!) = Item.cs _; rw [Item.cs_eq, Item.cs_eq]; rfl) (by omega)
theorem Item.fs13_1 {l : List Item} {i : Nat} {v : List Named} (h : i < l.length) : List.take (i * 33 + 13) (flt Item.av l) ++ [.sl (List.map Named.av v)] ++ List.drop (i * 33 + 13 + 1) (flt Item.av l) = flt Item.av (l.set i { (l[i]!) with Conds := v }) := by exact flt_set (f := Item.av) (fun _ => Item.avl) l i 13 1 _ { (l[i]!) with Conds := v } h (by show List.take 13 (Item.cs l[i]!) ++ _ ++ List.drop (13 + 1) (Item.cs l[i]!) = Item.cs _; rw [Item.cs_eq, Item.cs_eq]; rfl) (by omega)
theorem Item.fs14_1 {l : List Item} {i : Nat} {v : List UInt8} (h : i < l.length) : List.take (i * 33 + 14) (flt Item.av l) ++ [.str v] ++ List.drop (i * 33 + 14 + 1) (flt Item.av l) = flt Item.av (l.set i { (l[i]!) with By := v }) := by exact flt_set (f := Item.av) (fun _ => Item.avl) l i 14 1 _ { (l[i]!) with By := v } h (by show List.take 14 (Item.cs l[i]!) ++ _ ++ List.drop (14 + 1) (Item.cs l[i]!) = Item.cs _; rw [Item.cs_eq, Item.cs_eq]; rfl) (by omega)
theorem Item.fs15_1 {l : List Item} {i : Nat} {v : List UInt8} (h : i < l.length) : List.take (i * 33 + 15) (flt Item.av l) ++ [.str v] ++ List.drop (i * 33 + 15 + 1) (flt Item.av l) = flt Item.av (l.set i { (l[i]!) with Until := v }) := by exact flt_set (f := Item.av) (fun _ => Item.avl) l i 15 1 _ { (l[i]!) with Until := v } h (by show List.take 15 (Item.cs l[i]!) ++ _ ++ List.drop (15 + 1) (Item.cs l[i]!) = Item.cs _; rw [Item.cs_eq, Item.cs_eq]; rfl) (by omega)
theorem Item.fs16_2 {l : List Item} {i : Nat} {v : Ratio} (h : i < l.length) : List.take (i * 33 + 16) (flt Item.av l) ++ Ratio.cs v ++ List.drop (i * 33 + 16 + 2) (flt Item.av l) = flt Item.av (l.set i { (l[i]!) with Num := v }) := by exact flt_set (f := Item.av) (fun _ => Item.avl) l i 16 2 _ { (l[i]!) with Num := v } h (by show List.take 16 (Item.cs l[i]!) ++ _ ++ List.drop (16 + 2) (Item.cs l[i]!) = Item.cs _; rw [Item.cs_eq, Item.cs_eq]; rfl) (by omega)
theorem Item.fs16_1 {l : List Item} {i : Nat} {v : Int} (h : i < l.length) : List.take (i * 33 + 16) (flt Item.av l) ++ [.int .i64 v] ++ List.drop (i * 33 + 16 + 1) (flt Item.av l) = flt Item.av (l.set i { (l[i]!) with Num := { ((l[i]!)).Num with Num := v } }) := by exact flt_set (f := Item.av) (fun _ => Item.avl) l i 16 1 _ { (l[i]!) with Num := { ((l[i]!)).Num with Num := v } } h (by show List.take 16 (Item.cs l[i]!) ++ _ ++ List.drop (16 + 1) (Item.cs l[i]!) = Item.cs _; rw [Item.cs_eq, Item.cs_eq]; rfl) (by omega)
theorem Item.fs17_1 {l : List Item} {i : Nat} {v : Int} (h : i < l.length) : List.take (i * 33 + 17) (flt Item.av l) ++ [.int .i64 v] ++ List.drop (i * 33 + 17 + 1) (flt Item.av l) = flt Item.av (l.set i { (l[i]!) with Num := { ((l[i]!)).Num with Den := v } }) := by exact flt_set (f := Item.av) (fun _ => Item.avl) l i 17 1 _ { (l[i]!) with Num := { ((l[i]!)).Num with Den := v } } h (by show List.take 17 (Item.cs l[i]!) ++ _ ++ List.drop (17 + 1) (Item.cs l[i]!) = Item.cs _; rw [Item.cs_eq, Item.cs_eq]; rfl) (by omega)
theorem Item.fs18_1 {l : List Item} {i : Nat} {v : List UInt8} (h : i < l.length) : List.take (i * 33 + 18) (flt Item.av l) ++ [.str v] ++ List.drop (i * 33 + 18 + 1) (flt Item.av l) = flt Item.av (l.set i { (l[i]!) with Unit := v }) := by exact flt_set (f := Item.av) (fun _ => Item.avl) l i 18 1 _ { (l[i]!) with Unit := v } h (by show List.take 18 (Item.cs l[i]!) ++ _ ++ List.drop (18 + 1) (Item.cs l[i]!) = Item.cs _; rw [Item.cs_eq, Item.cs_eq]; rfl) (by omega)
theorem Item.fs19_1 {l : List Item} {i : Nat} {v : List UInt8} (h : i < l.length) : List.take (i * 33 + 19) (flt Item.av l) ++ [.str v] ++ List.drop (i * 33 + 19 + 1) (flt Item.av l) = flt Item.av (l.set i { (l[i]!) with Sum := v }) := by exact flt_set (f := Item.av) (fun _ => Item.avl) l i 19 1 _ { (l[i]!) with Sum := v } h (by show List.take 19 (Item.cs l[i]!) ++ _ ++ List.drop (19 + 1) (Item.cs l[i]!) = Item.cs _; rw [Item.cs_eq, Item.cs_eq]; rfl) (by omega)
theorem Item.fs20_1 {l : List Item} {i : Nat} {v : Bool} (h : i < l.length) : List.take (i * 33 + 20) (flt Item.av l) ++ [.bool v] ++ List.drop (i * 33 + 20 + 1) (flt Item.av l) = flt Item.av (l.set i { (l[i]!) with Final := v }) := by exact flt_set (f := Item.av) (fun _ => Item.avl) l i 20 1 _ { (l[i]!) with Final := v } h (by show List.take 20 (Item.cs l[i]!) ++ _ ++ List.drop (20 + 1) (Item.cs l[i]!) = Item.cs _; rw [Item.cs_eq, Item.cs_eq]; rfl) (by omega)
theorem Item.fs21_1 {l : List Item} {i : Nat} {v : List UInt8} (h : i < l.length) : List.take (i * 33 + 21) (flt Item.av l) ++ [.str v] ++ List.drop (i * 33 + 21 + 1) (flt Item.av l) = flt Item.av (l.set i { (l[i]!) with Give := v }) := by exact flt_set (f := Item.av) (fun _ => Item.avl) l i 21 1 _ { (l[i]!) with Give := v } h (by show List.take 21 (Item.cs l[i]!) ++ _ ++ List.drop (21 + 1) (Item.cs l[i]!) = Item.cs _; rw [Item.cs_eq, Item.cs_eq]; rfl) (by omega)
theorem Item.fs22_1 {l : List Item} {i : Nat} {v : List UInt8} (h : i < l.length) : List.take (i * 33 + 22) (flt Item.av l) ++ [.str v] ++ List.drop (i * 33 + 22 + 1) (flt Item.av l) = flt Item.av (l.set i { (l[i]!) with To := v }) := by exact flt_set (f := Item.av) (fun _ => Item.avl) l i 22 1 _ { (l[i]!) with To := v } h (by show List.take 22 (Item.cs l[i]!) ++ _ ++ List.drop (22 + 1) (Item.cs l[i]!) = Item.cs _; rw [Item.cs_eq, Item.cs_eq]; rfl) (by omega)
theorem Item.fs23_7 {l : List Item} {i : Nat} {v : Arr7B} (h : i < l.length) : List.take (i * 33 + 23) (flt Item.av l) ++ Arr7B.cs v ++ List.drop (i * 33 + 23 + 7) (flt Item.av l) = flt Item.av (l.set i { (l[i]!) with Days := v }) := by exact flt_set (f := Item.av) (fun _ => Item.avl) l i 23 7 _ { (l[i]!) with Days := v } h (by show List.take 23 (Item.cs l[i]!) ++ _ ++ List.drop (23 + 7) (Item.cs l[i]!) = Item.cs _; rw [Item.cs_eq, Item.cs_eq]; rfl) (by omega)
theorem Item.fs23_1 {l : List Item} {i : Nat} {v : Bool} (h : i < l.length) : List.take (i * 33 + 23) (flt Item.av l) ++ [.bool v] ++ List.drop (i * 33 + 23 + 1) (flt Item.av l) = flt Item.av (l.set i { (l[i]!) with Days := { ((l[i]!)).Days with e0 := v } }) := by exact flt_set (f := Item.av) (fun _ => Item.avl) l i 23 1 _ { (l[i]!) with Days := { ((l[i]!)).Days with e0 := v } } h (by show List.take 23 (Item.cs l[i]!) ++ _ ++ List.drop (23 + 1) (Item.cs l[i]!) = Item.cs _; rw [Item.cs_eq, Item.cs_eq]; rfl) (by omega)
theorem Item.fs24_1 {l : List Item} {i : Nat} {v : Bool} (h : i < l.length) : List.take (i * 33 + 24) (flt Item.av l) ++ [.bool v] ++ List.drop (i * 33 + 24 + 1) (flt Item.av l) = flt Item.av (l.set i { (l[i]!) with Days := { ((l[i]!)).Days with e1 := v } }) := by exact flt_set (f := Item.av) (fun _ => Item.avl) l i 24 1 _ { (l[i]!) with Days := { ((l[i]!)).Days with e1 := v } } h (by show List.take 24 (Item.cs l[i]!) ++ _ ++ List.drop (24 + 1) (Item.cs l[i]!) = Item.cs _; rw [Item.cs_eq, Item.cs_eq]; rfl) (by omega)
theorem Item.fs25_1 {l : List Item} {i : Nat} {v : Bool} (h : i < l.length) : List.take (i * 33 + 25) (flt Item.av l) ++ [.bool v] ++ List.drop (i * 33 + 25 + 1) (flt Item.av l) = flt Item.av (l.set i { (l[i]!) with Days := { ((l[i]!)).Days with e2 := v } }) := by exact flt_set (f := Item.av) (fun _ => Item.avl) l i 25 1 _ { (l[i]!) with Days := { ((l[i]!)).Days with e2 := v } } h (by show List.take 25 (Item.cs l[i]!) ++ _ ++ List.drop (25 + 1) (Item.cs l[i]!) = Item.cs _; rw [Item.cs_eq, Item.cs_eq]; rfl) (by omega)
theorem Item.fs26_1 {l : List Item} {i : Nat} {v : Bool} (h : i < l.length) : List.take (i * 33 + 26) (flt Item.av l) ++ [.bool v] ++ List.drop (i * 33 + 26 + 1) (flt Item.av l) = flt Item.av (l.set i { (l[i]!) with Days := { ((l[i]!)).Days with e3 := v } }) := by exact flt_set (f := Item.av) (fun _ => Item.avl) l i 26 1 _ { (l[i]!) with Days := { ((l[i]!)).Days with e3 := v } } h (by show List.take 26 (Item.cs l[i]!) ++ _ ++ List.drop (26 + 1) (Item.cs l[i]!) = Item.cs _; rw [Item.cs_eq, Item.cs_eq]; rfl) (by omega)
theorem Item.fs27_1 {l : List Item} {i : Nat} {v : Bool} (h : i < l.length) : List.take (i * 33 + 27) (flt Item.av l) ++ [.bool v] ++ List.drop (i * 33 + 27 + 1) (flt Item.av l) = flt Item.av (l.set i { (l[i]!) with Days := { ((l[i]!)).Days with e4 := v } }) := by exact flt_set (f := Item.av) (fun _ => Item.avl) l i 27 1 _ { (l[i]!) with Days := { ((l[i]!)).Days with e4 := v } } h (by show List.take 27 (Item.cs l[i]!) ++ _ ++ List.drop (27 + 1) (Item.cs l[i]!) = Item.cs _; rw [Item.cs_eq, Item.cs_eq]; rfl) (by omega)
theorem Item.fs28_1 {l : List Item} {i : Nat} {v : Bool} (h : i < l.length) : List.take (i * 33 + 28) (flt Item.av l) ++ [.bool v] ++ List.drop (i * 33 + 28 + 1) (flt Item.av l) = flt Item.av (l.set i { (l[i]!) with Days := { ((l[i]!)).Days with e5 := v } }) := by exact flt_set (f := Item.av) (fun _ => Item.avl) l i 28 1 _ { (l[i]!) with Days := { ((l[i]!)).Days with e5 := v } } h (by show List.take 28 (Item.cs l[i]!) ++ _ ++ List.drop (28 + 1) (Item.cs l[i]!) = Item.cs _; rw [Item.cs_eq, Item.cs_eq]; rfl) (by omega)
theorem Item.fs29_1 {l : List Item} {i : Nat} {v : Bool} (h : i < l.length) : List.take (i * 33 + 29) (flt Item.av l) ++ [.bool v] ++ List.drop (i * 33 + 29 + 1) (flt Item.av l) = flt Item.av (l.set i { (l[i]!) with Days := { ((l[i]!)).Days with e6 := v } }) := by exact flt_set (f := Item.av) (fun _ => Item.avl) l i 29 1 _ { (l[i]!) with Days := { ((l[i]!)).Days with e6 := v } } h (by show List.take 29 (Item.cs l[i]!) ++ _ ++ List.drop (29 + 1) (Item.cs l[i]!) = Item.cs _; rw [Item.cs_eq, Item.cs_eq]; rfl) (by omega)
theorem Item.fs30_1 {l : List Item} {i : Nat} {v : List Civil} (h : i < l.length) : List.take (i * 33 + 30) (flt Item.av l) ++ [.sl (List.map Civil.av v)] ++ List.drop (i * 33 + 30 + 1) (flt Item.av l) = flt Item.av (l.set i { (l[i]!) with Dates := v }) := by exact flt_set (f := Item.av) (fun _ => Item.avl) l i 30 1 _ { (l[i]!) with Dates := v } h (by show List.take 30 (Item.cs l[i]!) ++ _ ++ List.drop (30 + 1) (Item.cs l[i]!) = Item.cs _; rw [Item.cs_eq, Item.cs_eq]; rfl) (by omega)
theorem Item.fs31_1 {l : List Item} {i : Nat} {v : List (List UInt8)} (h : i < l.length) : List.take (i * 33 + 31) (flt Item.av l) ++ [.sl (List.map AV.str v)] ++ List.drop (i * 33 + 31 + 1) (flt Item.av l) = flt Item.av (l.set i { (l[i]!) with Names := v }) := by exact flt_set (f := Item.av) (fun _ => Item.avl) l i 31 1 _ { (l[i]!) with Names := v } h (by show List.take 31 (Item.cs l[i]!) ++ _ ++ List.drop (31 + 1) (Item.cs l[i]!) = Item.cs _; rw [Item.cs_eq, Item.cs_eq]; rfl) (by omega)
theorem Item.fs32_1 {l : List Item} {i : Nat} {v : List Item} (h : i < l.length) : List.take (i * 33 + 32) (flt Item.av l) ++ [.sl (List.map Item.av v)] ++ List.drop (i * 33 + 32 + 1) (flt Item.av l) = flt Item.av (l.set i { (l[i]!) with Items := v }) := by exact flt_set (f := Item.av) (fun _ => Item.avl) l i 32 1 _ { (l[i]!) with Items := v } h (by show List.take 32 (Item.cs l[i]!) ++ _ ++ List.drop (32 + 1) (Item.cs l[i]!) = Item.cs _; rw [Item.cs_eq, Item.cs_eq]; rfl) (by omega)
attribute [go_sem] Item.len Item.all Item.dropn Item.av_eq Item.g0_1 Item.s0_1 Item.g1_1 Item.s1_1 Item.g2_1 Item.s2_1 Item.g3_1 Item.s3_1 Item.g4_1 Item.s4_1 Item.g5_1 Item.s5_1 Item.g6_1 Item.s6_1 Item.g7_3 Item.s7_3 Item.g7_1 Item.s7_1 Item.g8_1 Item.s8_1 Item.g9_1 Item.s9_1 Item.g10_3 Item.s10_3 Item.g10_1 Item.s10_1 Item.g11_1 Item.s11_1 Item.g12_1 Item.s12_1 Item.g13_1 Item.s13_1 Item.g14_1 Item.s14_1 Item.g15_1 Item.s15_1 Item.g16_2 Item.s16_2 Item.g16_1 Item.s16_1 Item.g17_1 Item.s17_1 Item.g18_1 Item.s18_1 Item.g19_1 Item.s19_1 Item.g20_1 Item.s20_1 Item.g21_1 Item.s21_1 Item.g22_1 Item.s22_1 Item.g23_7 Item.s23_7 Item.g23_1 Item.s23_1 Item.g24_1 Item.s24_1 Item.g25_1 Item.s25_1 Item.g26_1 Item.s26_1 Item.g27_1 Item.s27_1 Item.g28_1 Item.s28_1 Item.g29_1 Item.s29_1 Item.g30_1 Item.s30_1 Item.g31_1 Item.s31_1 Item.g32_1 Item.s32_1 Item.flen Item.ftake Item.snoc Item.snocx Item.app Item.allm Item.fget0 Item.fget Item.fset Item.fs0_1 Item.fs1_1 Item.fs2_1 Item.fs3_1 Item.fs4_1 Item.fs5_1 Item.fs6_1 Item.fs7_3 Item.fs7_1 Item.fs8_1 Item.fs9_1 Item.fs10_3 Item.fs10_1 Item.fs11_1 Item.fs12_1 Item.fs13_1 Item.fs14_1 Item.fs15_1 Item.fs16_2 Item.fs16_1 Item.fs17_1 Item.fs18_1 Item.fs19_1 Item.fs20_1 Item.fs21_1 Item.fs22_1 Item.fs23_7 Item.fs23_1 Item.fs24_1 Item.fs25_1 Item.fs26_1 Item.fs27_1 Item.fs28_1 Item.fs29_1 Item.fs30_1 Item.fs31_1 Item.fs32_1
def zr21_0 : List AO := [⟨some 0, none, .alloc [.int .i64 0, .str [], .int .i64 0, .str [], .str [], .int .i64 0, .int .i64 0, .int .i64 0, .bool false, .str [], .int .i64 0, .bool false, .str [], .nil, .str [], .str [], .int .i64 0, .int .i64 0, .str [], .str [], .bool false, .str [], .str [], .bool false, .bool false, .bool false, .bool false, .bool false, .bool false, .bool false, .nil, .nil, .nil]⟩]
def zr21_1 : List AO := [⟨some 3, none, .bld [.int .i64 0, .bool false, .str []] [(2, 1, (.c (.str [116, 101, 114, 109])))]⟩,
  ⟨some 4, none, .bld [.str [], .int .i64 0] [(0, 1, (.c (.str [103, 105, 118, 101]))), (1, 1, (.c (.int .i64 2)))]⟩,
  ⟨some 5, none, .mkrow 2 1 [.str [], .int .i64 0] [(0, 2, (.t 4))]⟩,
  ⟨some 6, none, .bld [.int .i64 0, .str [], .int .i64 0, .str [], .str [], .int .i64 0, .int .i64 0, .int .i64 0, .bool false, .str [], .int .i64 0, .bool false, .str [], .nil, .str [], .str [], .int .i64 0, .int .i64 0, .str [], .str [], .bool false, .str [], .str [], .bool false, .bool false, .bool false, .bool false, .bool false, .bool false, .bool false, .nil, .nil, .nil] [(0, 1, (.c (.int .i64 9))), (1, 1, (.c (.str [112, 97, 121]))), (3, 1, (.c (.str [120]))), (4, 1, (.c (.str [112, 97, 121, 109, 101, 110, 116]))), (6, 1, (.c (.int .i64 1))), (7, 3, (.t 3)), (13, 1, (.t 5))]⟩,
  ⟨some 1, none, .alloc [.int .i64 0, .str [], .int .i64 0, .str [], .str [], .int .i64 0, .int .i64 0, .int .i64 0, .bool false, .str [], .int .i64 0, .bool false, .str [], .nil, .str [], .str [], .int .i64 0, .int .i64 0, .str [], .str [], .bool false, .str [], .str [], .bool false, .bool false, .bool false, .bool false, .bool false, .bool false, .bool false, .nil, .nil, .nil]⟩,
  ⟨none, none, .store 33 (.t 1) (.t 6)⟩]
def zr21_2 : List AO := [⟨some 7, none, .bld [.int .i64 0, .bool false, .str []] [(0, 1, (.c (.int .i64 3)))]⟩,
  ⟨some 8, none, .bld [.int .i64 0, .str [], .int .i64 0, .str [], .str [], .int .i64 0, .int .i64 0, .int .i64 0, .bool false, .str [], .int .i64 0, .bool false, .str [], .nil, .str [], .str [], .int .i64 0, .int .i64 0, .str [], .str [], .bool false, .str [], .str [], .bool false, .bool false, .bool false, .bool false, .bool false, .bool false, .bool false, .nil, .nil, .nil] [(0, 1, (.c (.int .i64 9))), (1, 1, (.c (.str [103, 105, 118, 101]))), (3, 1, (.c (.str [115, 101, 108, 108, 101, 114]))), (4, 1, (.c (.str [100, 101, 108, 105, 118, 101, 114, 121]))), (6, 1, (.c (.int .i64 1))), (7, 3, (.t 7))]⟩,
  ⟨some 2, none, .alloc [.int .i64 0, .str [], .int .i64 0, .str [], .str [], .int .i64 0, .int .i64 0, .int .i64 0, .bool false, .str [], .int .i64 0, .bool false, .str [], .nil, .str [], .str [], .int .i64 0, .int .i64 0, .str [], .str [], .bool false, .str [], .str [], .bool false, .bool false, .bool false, .bool false, .bool false, .bool false, .bool false, .nil, .nil, .nil]⟩,
  ⟨none, none, .store 33 (.t 2) (.t 8)⟩]
def zr21_3 : List AO := [⟨some 9, none, .mkrow 1 1 [.str []] [(0, 1, (.c (.str [120])))]⟩,
  ⟨some 10, none, .load true 33 (.t 1)⟩,
  ⟨some 11, none, .load true 33 (.t 2)⟩,
  ⟨some 12, none, .mkrow 33 2 [.int .i64 0, .str [], .int .i64 0, .str [], .str [], .int .i64 0, .int .i64 0, .int .i64 0, .bool false, .str [], .int .i64 0, .bool false, .str [], .nil, .str [], .str [], .int .i64 0, .int .i64 0, .str [], .str [], .bool false, .str [], .str [], .bool false, .bool false, .bool false, .bool false, .bool false, .bool false, .bool false, .nil, .nil, .nil] [(0, 33, (.t 10)), (33, 33, (.t 11))]⟩,
  ⟨some 13, none, .bld [.int .i64 0, .str [], .int .i64 0, .str [], .str [], .int .i64 0, .int .i64 0, .int .i64 0, .bool false, .str [], .int .i64 0, .bool false, .str [], .nil, .str [], .str [], .int .i64 0, .int .i64 0, .str [], .str [], .bool false, .str [], .str [], .bool false, .bool false, .bool false, .bool false, .bool false, .bool false, .bool false, .nil, .nil, .nil] [(0, 1, (.c (.int .i64 13))), (1, 1, (.c (.str [115, 97, 108, 101]))), (31, 1, (.t 9)), (32, 1, (.t 12))]⟩,
  ⟨none, none, .store 33 (.t 0) (.t 13)⟩]
def zc21_0 : AC := .seq (.reg zr21_3) .ret
def zc21_1 : AC := .seq (.reg zr21_2) zc21_0
def zc21_2 : AC := .seq (.reg zr21_1) zc21_1
def zc21_3 : AC := .seq (.reg zr21_0) zc21_2
def zc21 : AC := zc21_3
theorem ok21 : Try.f21.body.bind (compCode Try.prog 14) = some zc21 := by kernel_rfl
theorem nt21 : Try.f21.ntmps = 14 := by kernel_rfl
theorem res21 : compRes Try.prog Try.f21.results.toList = some [.cell true 33 0] := by kernel_rfl
def s21 (N : Nat) : Option Item :=
  some (({ Kind := 13, Name := [115, 97, 108, 101], At := 0, Of := [], Act := [], Word := 0, Times := 0, Within := ({ Days := 0, Business := false, Name := [] } : Span), Grace := ({ Days := 0, Business := false, Name := [] } : Span), Conds := [], By := [], Until := [], Num := ({ Num := 0, Den := 0 } : Ratio), Unit := [], Sum := [], Final := false, Give := [], To := [], Days := ({ e0 := false, e1 := false, e2 := false, e3 := false, e4 := false, e5 := false, e6 := false } : Arr7B), Dates := [], Names := [[120]], Items := [({ Kind := 9, Name := [112, 97, 121], At := 0, Of := [120], Act := [112, 97, 121, 109, 101, 110, 116], Word := 0, Times := 1, Within := ({ Days := 0, Business := false, Name := [116, 101, 114, 109] } : Span), Grace := ({ Days := 0, Business := false, Name := [] } : Span), Conds := [({ Name := [103, 105, 118, 101], Is := 2 } : Named)], By := [], Until := [], Num := ({ Num := 0, Den := 0 } : Ratio), Unit := [], Sum := [], Final := false, Give := [], To := [], Days := ({ e0 := false, e1 := false, e2 := false, e3 := false, e4 := false, e5 := false, e6 := false } : Arr7B), Dates := [], Names := [], Items := [] } : Item), ({ Kind := 9, Name := [103, 105, 118, 101], At := 0, Of := [115, 101, 108, 108, 101, 114], Act := [100, 101, 108, 105, 118, 101, 114, 121], Word := 0, Times := 1, Within := ({ Days := 3, Business := false, Name := [] } : Span), Grace := ({ Days := 0, Business := false, Name := [] } : Span), Conds := [], By := [], Until := [], Num := ({ Num := 0, Den := 0 } : Ratio), Unit := [], Sum := [], Final := false, Give := [], To := [], Days := ({ e0 := false, e1 := false, e2 := false, e3 := false, e4 := false, e5 := false, e6 := false } : Arr7B), Dates := [], Names := [], Items := [] } : Item)] } : Item))
set_option maxHeartbeats 4000000 in
theorem c21 (N : Nat) (r : Item) (h : s21 N  = some r) : PureC Try.prog 21 [] (.agg (Item.cs r)) := by
 refine fn_intro' 14 Try.func21 nt21 ok21 res21 (by simp) fun X hP hn hd hr => ?_
 unfold s21 at h
 repeat refine awp_seq ?_
 refine awp_reg fun K Q hK hQ => ?_
 simp -implicitDefEqProofs (disch := first | omega | rfl) only [go_sem, simprocAttr, zr21_0, argS]
 intro b1
 refine hK _ _ ?_; clear hK hQ K Q
 repeat refine awp_seq ?_
 refine awp_reg fun K Q hK hQ => ?_
 simp -implicitDefEqProofs (disch := first | omega | rfl) only [go_sem, simprocAttr, zr21_1]
 intro b2 b3
 refine hK _ _ ?_; clear hK hQ K Q
 repeat refine awp_seq ?_
 refine awp_reg fun K Q hK hQ => ?_
 simp -implicitDefEqProofs (disch := first | omega | rfl) only [go_sem, simprocAttr, zr21_2]
 intro b4
 refine hK _ _ ?_; clear hK hQ K Q
 repeat refine awp_seq ?_
 refine awp_reg fun K Q hK hQ => ?_
 simp -implicitDefEqProofs (disch := first | omega | rfl) only [go_sem, simprocAttr, zr21_3]
 intro b5 b6
 refine hK _ _ ?_; clear hK hQ K Q
 obtain rfl := som_inj h
 repeat refine awp_seq ?_
 refine awp_le' (s' := [(0, .ptr 0 b1 0)]) (own' := (0, b1, .cells (Item.cs (({ Kind := 13, Name := [115, 97, 108, 101], At := 0, Of := [], Act := [], Word := 0, Times := 0, Within := ({ Days := 0, Business := false, Name := [] } : Span), Grace := ({ Days := 0, Business := false, Name := [] } : Span), Conds := [], By := [], Until := [], Num := ({ Num := 0, Den := 0 } : Ratio), Unit := [], Sum := [], Final := false, Give := [], To := [], Days := ({ e0 := false, e1 := false, e2 := false, e3 := false, e4 := false, e5 := false, e6 := false } : Arr7B), Dates := [], Names := [[120]], Items := [({ Kind := 9, Name := [112, 97, 121], At := 0, Of := [120], Act := [112, 97, 121, 109, 101, 110, 116], Word := 0, Times := 1, Within := ({ Days := 0, Business := false, Name := [116, 101, 114, 109] } : Span), Grace := ({ Days := 0, Business := false, Name := [] } : Span), Conds := [({ Name := [103, 105, 118, 101], Is := 2 } : Named)], By := [], Until := [], Num := ({ Num := 0, Den := 0 } : Ratio), Unit := [], Sum := [], Final := false, Give := [], To := [], Days := ({ e0 := false, e1 := false, e2 := false, e3 := false, e4 := false, e5 := false, e6 := false } : Arr7B), Dates := [], Names := [], Items := [] } : Item), ({ Kind := 9, Name := [103, 105, 118, 101], At := 0, Of := [115, 101, 108, 108, 101, 114], Act := [100, 101, 108, 105, 118, 101, 114, 121], Word := 0, Times := 1, Within := ({ Days := 3, Business := false, Name := [] } : Span), Grace := ({ Days := 0, Business := false, Name := [] } : Span), Conds := [], By := [], Until := [], Num := ({ Num := 0, Den := 0 } : Ratio), Unit := [], Sum := [], Final := false, Give := [], To := [], Days := ({ e0 := false, e1 := false, e2 := false, e3 := false, e4 := false, e5 := false, e6 := false } : Arr7B), Dates := [], Names := [], Items := [] } : Item)] } : Item)))) :: []) (_ :: _ :: _ :: []) (_ :: _ :: _ :: []) (_ :: _ :: _ :: _ :: _ :: _ :: []) rfl (List.Perm.trans perm_cc ((List.Perm.cons _ ((List.Perm.cons _ (List.Perm.trans (List.Perm.cons _ perm_cc) (List.Perm.trans perm_cc ((List.Perm.cons _ (List.Perm.trans (List.Perm.cons _ perm_cc) (List.Perm.trans perm_cc (List.Perm.refl _)))))))))))) ?_ ?_ ?_
 · simp -implicitDefEqProofs (disch := first | omega | rfl) only [go_sem, simprocAttr, subF_cons, subF_nil]
   exact (.lptr ..)
 · exact (.cells (by rw [Item.cs_eq]; exact (.cons (.keep _) (.cons (.keep _) (.cons (.keep _) (.cons (.keep _) (.cons (.keep _) (.cons (.keep _) (.cons (.keep _) (.cons (.keep _) (.cons (.keep _) (.cons (.keep _) (.cons (.keep _) (.cons (.keep _) (.cons (.keep _) (.cons .nil (.cons (.keep _) (.cons (.keep _) (.cons (.keep _) (.cons (.keep _) (.cons (.keep _) (.cons (.keep _) (.cons (.keep _) (.cons (.keep _) (.cons (.keep _) (.cons (.keep _) (.cons (.keep _) (.cons (.keep _) (.cons (.keep _) (.cons (.keep _) (.cons (.keep _) (.cons (.keep _) (.cons .nil (.cons (frz_rowP (f := AV.str) (fun _ => rfl) (by simp -implicitDefEqProofs (disch := first | omega | rfl) only [go_sem, simprocAttr]; first | done | rfl) (show FrzP _ _ [.str [120]] from (.cons (.keep _) (.nil _))) (by first | rfl | simp)) (.cons (frz_rowP (f := Item.av) (fun _ => Item.avl) (by simp -implicitDefEqProofs (disch := first | omega | rfl) only [go_sem, simprocAttr]; first | done | rfl) (by rw [show flt Item.av _ = [.int .i64 9, .str [112, 97, 121], .int .i64 0, .str [120], .str [112, 97, 121, 109, 101, 110, 116], .int .i64 0, .int .i64 1, .int .i64 0, .bool false, .str [116, 101, 114, 109], .int .i64 0, .bool false, .str [], .sl (List.map Named.av ([({ Name := [103, 105, 118, 101], Is := 2 } : Named)])), .str [], .str [], .int .i64 0, .int .i64 0, .str [], .str [], .bool false, .str [], .str [], .bool false, .bool false, .bool false, .bool false, .bool false, .bool false, .bool false, .sl (List.map Civil.av []), .sl (List.map AV.str []), .sl (List.map Item.av []), .int .i64 9, .str [103, 105, 118, 101], .int .i64 0, .str [115, 101, 108, 108, 101, 114], .str [100, 101, 108, 105, 118, 101, 114, 121], .int .i64 0, .int .i64 1, .int .i64 3, .bool false, .str [], .int .i64 0, .bool false, .str [], .sl (List.map Named.av []), .str [], .str [], .int .i64 0, .int .i64 0, .str [], .str [], .bool false, .str [], .str [], .bool false, .bool false, .bool false, .bool false, .bool false, .bool false, .bool false, .sl (List.map Civil.av []), .sl (List.map AV.str []), .sl (List.map Item.av [])] from by simp only [flt, List.flatMap_cons, List.flatMap_nil, Item.av_eq, AV.cells, Item.cs_eq, List.cons_append, List.nil_append, List.append_nil]]; exact (.cons (.keep _) (.cons (.keep _) (.cons (.keep _) (.cons (.keep _) (.cons (.keep _) (.cons (.keep _) (.cons (.keep _) (.cons (.keep _) (.cons (.keep _) (.cons (.keep _) (.cons (.keep _) (.cons (.keep _) (.cons (.keep _) (.cons (frz_rowP (f := Named.av) (fun _ => Named.avl) (by simp -implicitDefEqProofs (disch := first | omega | rfl) only [go_sem, simprocAttr]; first | done | rfl) (by rw [show flt Named.av _ = [.str [103, 105, 118, 101], .int .i64 2] from by simp only [flt, List.flatMap_cons, List.flatMap_nil, Named.av_eq, AV.cells, Named.cs_eq, List.cons_append, List.nil_append, List.append_nil]]; exact (.cons (.keep _) (.cons (.keep _) (.nil _)))) (by first | rfl | simp)) (.cons (.keep _) (.cons (.keep _) (.cons (.keep _) (.cons (.keep _) (.cons (.keep _) (.cons (.keep _) (.cons (.keep _) (.cons (.keep _) (.cons (.keep _) (.cons (.keep _) (.cons (.keep _) (.cons (.keep _) (.cons (.keep _) (.cons (.keep _) (.cons (.keep _) (.cons (.keep _) (.cons .nil (.cons .nil (.cons .nil (.cons (.keep _) (.cons (.keep _) (.cons (.keep _) (.cons (.keep _) (.cons (.keep _) (.cons (.keep _) (.cons (.keep _) (.cons (.keep _) (.cons (.keep _) (.cons (.keep _) (.cons (.keep _) (.cons (.keep _) (.cons (.keep _) (.cons .nil (.cons (.keep _) (.cons (.keep _) (.cons (.keep _) (.cons (.keep _) (.cons (.keep _) (.cons (.keep _) (.cons (.keep _) (.cons (.keep _) (.cons (.keep _) (.cons (.keep _) (.cons (.keep _) (.cons (.keep _) (.cons (.keep _) (.cons (.keep _) (.cons (.keep _) (.cons (.keep _) (.cons .nil (.cons .nil (.cons .nil (.nil _)))))))))))))))))))))))))))))))))))))))))))))))))))))))))))))))))))) (by first | rfl | simp)) (.nil _))))))))))))))))))))))))))))))))))) (.drop (.drop .nil)))
 refine awp_ret ?_
 repeat first | refine then_ret ?_ | refine blk_ret ?_
 exact rtp
structure Source where
  Name : List UInt8
  From : Civil
  Days : Int
  Items : List Item
  deriving Inhabited
def Source.cs (x : Source) : List AV := [.str x.Name, .int .i64 x.From.Year, .int .i64 x.From.Month, .int .i64 x.From.Day, .int .i64 x.Days, .sl (List.map Item.av x.Items)]
def Source.av (x : Source) : AV := .agg x.cs
theorem Source.cs_eq (x : Source) : Source.cs x = [.str x.Name, .int .i64 x.From.Year, .int .i64 x.From.Month, .int .i64 x.From.Day, .int .i64 x.Days, .sl (List.map Item.av x.Items)] := rfl
theorem Source.len {x : Source} : (Source.cs x).length = 6 := by rw [Source.cs_eq]; rfl
theorem Source.all {x : Source} : List.take 6 (Source.cs x) = Source.cs x := by rw [Source.cs_eq]; rfl
theorem Source.dropn {x : Source} : List.drop 6 (Source.cs x) = [] := by rw [Source.cs_eq]; rfl
theorem Source.av_eq {x : Source} : Source.av x = .agg (Source.cs x) := by rfl
theorem Source.g0_1 {x : Source} : List.take 1 (Source.cs x) = [.str x.Name] := by rw [Source.cs_eq]; rfl
theorem Source.s0_1 {x : Source} {v : List UInt8} : .str v :: List.drop 1 (Source.cs x) = Source.cs { x with Name := v } := by first | (rw [Source.cs_eq, Source.cs_eq]; rfl) | (rw [Source.cs_eq]; rfl) | rw [Source.cs_eq]
theorem Source.g1_3 {x : Source} : List.take 3 (List.drop 1 (Source.cs x)) = Civil.cs x.From := by rw [Source.cs_eq]; rfl
theorem Source.s1_3 {x : Source} {v : Civil} : .str x.Name :: (Civil.cs v ++ List.drop 4 (Source.cs x)) = Source.cs { x with From := v } := by first | (rw [Source.cs_eq, Source.cs_eq]; rfl) | (rw [Source.cs_eq]; rfl) | rw [Source.cs_eq]
theorem Source.g1_1 {x : Source} : List.take 1 (List.drop 1 (Source.cs x)) = [.int .i64 x.From.Year] := by rw [Source.cs_eq]; rfl
theorem Source.s1_1 {x : Source} {v : Int} : .str x.Name :: .int .i64 v :: List.drop 2 (Source.cs x) = Source.cs { x with From := { x.From with Year := v } } := by first | (rw [Source.cs_eq, Source.cs_eq]; rfl) | (rw [Source.cs_eq]; rfl) | rw [Source.cs_eq]
theorem Source.g2_1 {x : Source} : List.take 1 (List.drop 2 (Source.cs x)) = [.int .i64 x.From.Month] := by rw [Source.cs_eq]; rfl
theorem Source.s2_1 {x : Source} {v : Int} : List.take 2 (Source.cs x) ++ [.int .i64 v] ++ List.drop 3 (Source.cs x) = Source.cs { x with From := { x.From with Month := v } } := by first | (rw [Source.cs_eq, Source.cs_eq]; rfl) | (rw [Source.cs_eq]; rfl) | rw [Source.cs_eq]
theorem Source.g3_1 {x : Source} : List.take 1 (List.drop 3 (Source.cs x)) = [.int .i64 x.From.Day] := by rw [Source.cs_eq]; rfl
theorem Source.s3_1 {x : Source} {v : Int} : List.take 3 (Source.cs x) ++ [.int .i64 v] ++ List.drop 4 (Source.cs x) = Source.cs { x with From := { x.From with Day := v } } := by first | (rw [Source.cs_eq, Source.cs_eq]; rfl) | (rw [Source.cs_eq]; rfl) | rw [Source.cs_eq]
theorem Source.g4_1 {x : Source} : List.take 1 (List.drop 4 (Source.cs x)) = [.int .i64 x.Days] := by rw [Source.cs_eq]; rfl
theorem Source.s4_1 {x : Source} {v : Int} : List.take 4 (Source.cs x) ++ [.int .i64 v] ++ List.drop 5 (Source.cs x) = Source.cs { x with Days := v } := by first | (rw [Source.cs_eq, Source.cs_eq]; rfl) | (rw [Source.cs_eq]; rfl) | rw [Source.cs_eq]
theorem Source.g5_1 {x : Source} : List.take 1 (List.drop 5 (Source.cs x)) = [.sl (List.map Item.av x.Items)] := by rw [Source.cs_eq]; rfl
theorem Source.s5_1 {x : Source} {v : List Item} : List.take 5 (Source.cs x) ++ [.sl (List.map Item.av v)] = Source.cs { x with Items := v } := by first | (rw [Source.cs_eq, Source.cs_eq]; rfl) | (rw [Source.cs_eq]; rfl) | rw [Source.cs_eq]
theorem Source.avl {x : Source} : (Source.av x).cells.length = 6 := by exact Source.len
theorem Source.flen {l : List Source} : (flt Source.av l).length = l.length * 6 := by exact flt_len (fun _ => Source.avl) l
theorem Source.ftake {l : List Source} : List.take (l.length * 6) (flt Source.av l) = flt Source.av l := by exact flt_take (fun _ => Source.avl) l
theorem Source.snoc {l : List Source} {x : Source} : flt Source.av l ++ Source.cs x = flt Source.av (l ++ [x]) := by rw [flt_app, flt_one]; rfl
theorem Source.snocx {l : List Source} {v0 : List UInt8} {v1 : Int} {v2 : Int} {v3 : Int} {v4 : Int} {v5 : List Item} : flt Source.av l ++ [.str v0, .int .i64 v1, .int .i64 v2, .int .i64 v3, .int .i64 v4, .sl (List.map Item.av v5)] = flt Source.av (l ++ [({ Name := v0, From := { Year := v1, Month := v2, Day := v3 }, Days := v4, Items := v5 } : Source)]) := by rw [flt_app, flt_one]; show _ = _ ++ Source.cs _; rw [Source.cs_eq]
theorem Source.app {l m : List Source} : flt Source.av l ++ flt Source.av m = flt Source.av (l ++ m) := by exact flt_app.symm
theorem Source.setl0 {l : List Source} {X : List AV} {v : Source} (hX : X.length = 6) : List.take (l.length * 6) (flt Source.av l ++ X) ++ Source.cs v ++ List.drop (l.length * 6 + 6) (flt Source.av l ++ X) = flt Source.av (l ++ [v]) := by rw [← Source.flen, List.take_left, List.drop_append, flt_app, flt_one, List.drop_of_length_le (by omega), show (flt Source.av l).length + 6 - (flt Source.av l).length = 6 by omega, List.drop_of_length_le (by omega)]; simp; rfl
theorem Source.setl {l : List Source} {v : Source} {y0 y1 y2 y3 y4 y5 : AV} : List.take (l.length * 6) (flt Source.av l ++ [y0, y1, y2, y3, y4, y5]) ++ Source.cs v ++ List.drop (l.length * 6 + 6) (flt Source.av l ++ [y0, y1, y2, y3, y4, y5]) = flt Source.av (l ++ [v]) := by exact Source.setl0 rfl
theorem Source.allm {l : List Source} : (∀ x, x ∈ List.map Source.av l → x.cells.length = 6) = True := by exact eq_true (fun x hx => by obtain ⟨a, _, rfl⟩ := List.mem_map.1 hx; exact Source.avl)
theorem Source.fget0 {l : List Source} {i c : Nat} (h : i < l.length) (hc : c ≤ 6) : List.take c (List.drop (i * 6) (flt Source.av l)) = List.take c (Source.cs l[i]!) := by exact flt_get (fun _ => Source.avl) l i 0 c h (by omega)
theorem Source.fget {l : List Source} {i o c : Nat} (h : i < l.length) (hc : o + c ≤ 6) : List.take c (List.drop (i * 6 + o) (flt Source.av l)) = List.take c (List.drop o (Source.cs l[i]!)) := by exact flt_get (fun _ => Source.avl) l i o c h hc
theorem Source.fset {l : List Source} {i : Nat} {v : Source} (h : i < l.length) : List.take (i * 6) (flt Source.av l) ++ Source.cs v ++ List.drop (i * 6 + 6) (flt Source.av l) = flt Source.av (l.set i v) := by have := flt_set (f := Source.av) (fun _ => Source.avl) l i 0 6 (Source.cs v) v h (by show List.take 0 (Source.cs _) ++ Source.cs v ++ List.drop (0 + 6) (Source.cs _) = Source.cs v; rw [Nat.zero_add, Source.dropn]; simp) (by omega); exact this
theorem Source.fs0_1 {l : List Source} {i : Nat} {v : List UInt8} (h : i < l.length) : List.take (i * 6) (flt Source.av l) ++ [.str v] ++ List.drop (i * 6 + 1) (flt Source.av l) = flt Source.av (l.set i { (l[i]!) with Name := v }) := by exact flt_set (f := Source.av) (fun _ => Source.avl) l i 0 1 _ { (l[i]!) with Name := v } h (by show List.take 0 (Source.cs l[i]!) ++ _ ++ List.drop (0 + 1) (Source.cs l[i]!) = Source.cs _; rw [Source.cs_eq, Source.cs_eq]; rfl) (by omega)
theorem Source.fs1_3 {l : List Source} {i : Nat} {v : Civil} (h : i < l.length) : List.take (i * 6 + 1) (flt Source.av l) ++ Civil.cs v ++ List.drop (i * 6 + 1 + 3) (flt Source.av l) = flt Source.av (l.set i { (l[i]!) with From := v }) := by exact flt_set (f := Source.av) (fun _ => Source.avl) l i 1 3 _ { (l[i]!) with From := v } h (by show List.take 1 (Source.cs l[i]!) ++ _ ++ List.drop (1 + 3) (Source.cs l[i]!) = Source.cs _; rw [Source.cs_eq, Source.cs_eq]; rfl) (by omega)
theorem Source.fs1_1 {l : List Source} {i : Nat} {v : Int} (h : i < l.length) : List.take (i * 6 + 1) (flt Source.av l) ++ [.int .i64 v] ++ List.drop (i * 6 + 1 + 1) (flt Source.av l) = flt Source.av (l.set i { (l[i]!) with From := { ((l[i]!)).From with Year := v } }) := by exact flt_set (f := Source.av) (fun _ => Source.avl) l i 1 1 _ { (l[i]!) with From := { ((l[i]!)).From with Year := v } } h (by show List.take 1 (Source.cs l[i]!) ++ _ ++ List.drop (1 + 1) (Source.cs l[i]!) = Source.cs _; rw [Source.cs_eq, Source.cs_eq]; rfl) (by omega)
theorem Source.fs2_1 {l : List Source} {i : Nat} {v : Int} (h : i < l.length) : List.take (i * 6 + 2) (flt Source.av l) ++ [.int .i64 v] ++ List.drop (i * 6 + 2 + 1) (flt Source.av l) = flt Source.av (l.set i { (l[i]!) with From := { ((l[i]!)).From with Month := v } }) := by exact flt_set (f := Source.av) (fun _ => Source.avl) l i 2 1 _ { (l[i]!) with From := { ((l[i]!)).From with Month := v } } h (by show List.take 2 (Source.cs l[i]!) ++ _ ++ List.drop (2 + 1) (Source.cs l[i]!) = Source.cs _; rw [Source.cs_eq, Source.cs_eq]; rfl) (by omega)
theorem Source.fs3_1 {l : List Source} {i : Nat} {v : Int} (h : i < l.length) : List.take (i * 6 + 3) (flt Source.av l) ++ [.int .i64 v] ++ List.drop (i * 6 + 3 + 1) (flt Source.av l) = flt Source.av (l.set i { (l[i]!) with From := { ((l[i]!)).From with Day := v } }) := by exact flt_set (f := Source.av) (fun _ => Source.avl) l i 3 1 _ { (l[i]!) with From := { ((l[i]!)).From with Day := v } } h (by show List.take 3 (Source.cs l[i]!) ++ _ ++ List.drop (3 + 1) (Source.cs l[i]!) = Source.cs _; rw [Source.cs_eq, Source.cs_eq]; rfl) (by omega)
theorem Source.fs4_1 {l : List Source} {i : Nat} {v : Int} (h : i < l.length) : List.take (i * 6 + 4) (flt Source.av l) ++ [.int .i64 v] ++ List.drop (i * 6 + 4 + 1) (flt Source.av l) = flt Source.av (l.set i { (l[i]!) with Days := v }) := by exact flt_set (f := Source.av) (fun _ => Source.avl) l i 4 1 _ { (l[i]!) with Days := v } h (by show List.take 4 (Source.cs l[i]!) ++ _ ++ List.drop (4 + 1) (Source.cs l[i]!) = Source.cs _; rw [Source.cs_eq, Source.cs_eq]; rfl) (by omega)
theorem Source.fs5_1 {l : List Source} {i : Nat} {v : List Item} (h : i < l.length) : List.take (i * 6 + 5) (flt Source.av l) ++ [.sl (List.map Item.av v)] ++ List.drop (i * 6 + 5 + 1) (flt Source.av l) = flt Source.av (l.set i { (l[i]!) with Items := v }) := by exact flt_set (f := Source.av) (fun _ => Source.avl) l i 5 1 _ { (l[i]!) with Items := v } h (by show List.take 5 (Source.cs l[i]!) ++ _ ++ List.drop (5 + 1) (Source.cs l[i]!) = Source.cs _; rw [Source.cs_eq, Source.cs_eq]; rfl) (by omega)
attribute [go_sem] Source.len Source.all Source.dropn Source.av_eq Source.g0_1 Source.s0_1 Source.g1_3 Source.s1_3 Source.g1_1 Source.s1_1 Source.g2_1 Source.s2_1 Source.g3_1 Source.s3_1 Source.g4_1 Source.s4_1 Source.g5_1 Source.s5_1 Source.flen Source.ftake Source.snoc Source.snocx Source.app Source.allm Source.fget0 Source.fget Source.fset Source.fs0_1 Source.fs1_3 Source.fs1_1 Source.fs2_1 Source.fs3_1 Source.fs4_1 Source.fs5_1
structure Fault where
  Err : Int
  At : Int
  deriving Inhabited, DecidableEq
def Fault.cs (x : Fault) : List AV := [.int .i64 x.Err, .int .i64 x.At]
def Fault.av (x : Fault) : AV := .agg x.cs
theorem Fault.cs_eq (x : Fault) : Fault.cs x = [.int .i64 x.Err, .int .i64 x.At] := rfl
theorem Fault.len {x : Fault} : (Fault.cs x).length = 2 := by rw [Fault.cs_eq]; rfl
theorem Fault.all {x : Fault} : List.take 2 (Fault.cs x) = Fault.cs x := by rw [Fault.cs_eq]; rfl
theorem Fault.dropn {x : Fault} : List.drop 2 (Fault.cs x) = [] := by rw [Fault.cs_eq]; rfl
theorem Fault.av_eq {x : Fault} : Fault.av x = .agg (Fault.cs x) := by rfl
theorem Fault.g0_1 {x : Fault} : List.take 1 (Fault.cs x) = [.int .i64 x.Err] := by rw [Fault.cs_eq]; rfl
theorem Fault.s0_1 {x : Fault} {v : Int} : .int .i64 v :: List.drop 1 (Fault.cs x) = Fault.cs { x with Err := v } := by first | (rw [Fault.cs_eq, Fault.cs_eq]; rfl) | (rw [Fault.cs_eq]; rfl) | rw [Fault.cs_eq]
theorem Fault.g1_1 {x : Fault} : List.take 1 (List.drop 1 (Fault.cs x)) = [.int .i64 x.At] := by rw [Fault.cs_eq]; rfl
theorem Fault.s1_1 {x : Fault} {v : Int} : [.int .i64 x.Err, .int .i64 v] = Fault.cs { x with At := v } := by first | (rw [Fault.cs_eq, Fault.cs_eq]; rfl) | (rw [Fault.cs_eq]; rfl) | rw [Fault.cs_eq]
theorem Fault.avl {x : Fault} : (Fault.av x).cells.length = 2 := by exact Fault.len
theorem Fault.flen {l : List Fault} : (flt Fault.av l).length = l.length * 2 := by exact flt_len (fun _ => Fault.avl) l
theorem Fault.ftake {l : List Fault} : List.take (l.length * 2) (flt Fault.av l) = flt Fault.av l := by exact flt_take (fun _ => Fault.avl) l
theorem Fault.snoc {l : List Fault} {x : Fault} : flt Fault.av l ++ Fault.cs x = flt Fault.av (l ++ [x]) := by rw [flt_app, flt_one]; rfl
theorem Fault.snocx {l : List Fault} {v0 : Int} {v1 : Int} : flt Fault.av l ++ [.int .i64 v0, .int .i64 v1] = flt Fault.av (l ++ [({ Err := v0, At := v1 } : Fault)]) := by rw [flt_app, flt_one]; show _ = _ ++ Fault.cs _; rw [Fault.cs_eq]
theorem Fault.app {l m : List Fault} : flt Fault.av l ++ flt Fault.av m = flt Fault.av (l ++ m) := by exact flt_app.symm
theorem Fault.setl0 {l : List Fault} {X : List AV} {v : Fault} (hX : X.length = 2) : List.take (l.length * 2) (flt Fault.av l ++ X) ++ Fault.cs v ++ List.drop (l.length * 2 + 2) (flt Fault.av l ++ X) = flt Fault.av (l ++ [v]) := by rw [← Fault.flen, List.take_left, List.drop_append, flt_app, flt_one, List.drop_of_length_le (by omega), show (flt Fault.av l).length + 2 - (flt Fault.av l).length = 2 by omega, List.drop_of_length_le (by omega)]; simp; rfl
theorem Fault.setl {l : List Fault} {v : Fault} {y0 y1 : AV} : List.take (l.length * 2) (flt Fault.av l ++ [y0, y1]) ++ Fault.cs v ++ List.drop (l.length * 2 + 2) (flt Fault.av l ++ [y0, y1]) = flt Fault.av (l ++ [v]) := by exact Fault.setl0 rfl
theorem Fault.allm {l : List Fault} : (∀ x, x ∈ List.map Fault.av l → x.cells.length = 2) = True := by exact eq_true (fun x hx => by obtain ⟨a, _, rfl⟩ := List.mem_map.1 hx; exact Fault.avl)
theorem Fault.fget0 {l : List Fault} {i c : Nat} (h : i < l.length) (hc : c ≤ 2) : List.take c (List.drop (i * 2) (flt Fault.av l)) = List.take c (Fault.cs l[i]!) := by exact flt_get (fun _ => Fault.avl) l i 0 c h (by omega)
theorem Fault.fget {l : List Fault} {i o c : Nat} (h : i < l.length) (hc : o + c ≤ 2) : List.take c (List.drop (i * 2 + o) (flt Fault.av l)) = List.take c (List.drop o (Fault.cs l[i]!)) := by exact flt_get (fun _ => Fault.avl) l i o c h hc
theorem Fault.fset {l : List Fault} {i : Nat} {v : Fault} (h : i < l.length) : List.take (i * 2) (flt Fault.av l) ++ Fault.cs v ++ List.drop (i * 2 + 2) (flt Fault.av l) = flt Fault.av (l.set i v) := by have := flt_set (f := Fault.av) (fun _ => Fault.avl) l i 0 2 (Fault.cs v) v h (by show List.take 0 (Fault.cs _) ++ Fault.cs v ++ List.drop (0 + 2) (Fault.cs _) = Fault.cs v; rw [Nat.zero_add, Fault.dropn]; simp) (by omega); exact this
theorem Fault.fs0_1 {l : List Fault} {i : Nat} {v : Int} (h : i < l.length) : List.take (i * 2) (flt Fault.av l) ++ [.int .i64 v] ++ List.drop (i * 2 + 1) (flt Fault.av l) = flt Fault.av (l.set i { (l[i]!) with Err := v }) := by exact flt_set (f := Fault.av) (fun _ => Fault.avl) l i 0 1 _ { (l[i]!) with Err := v } h (by show List.take 0 (Fault.cs l[i]!) ++ _ ++ List.drop (0 + 1) (Fault.cs l[i]!) = Fault.cs _; rw [Fault.cs_eq, Fault.cs_eq]; rfl) (by omega)
theorem Fault.fs1_1 {l : List Fault} {i : Nat} {v : Int} (h : i < l.length) : List.take (i * 2 + 1) (flt Fault.av l) ++ [.int .i64 v] ++ List.drop (i * 2 + 1 + 1) (flt Fault.av l) = flt Fault.av (l.set i { (l[i]!) with At := v }) := by exact flt_set (f := Fault.av) (fun _ => Fault.avl) l i 1 1 _ { (l[i]!) with At := v } h (by show List.take 1 (Fault.cs l[i]!) ++ _ ++ List.drop (1 + 1) (Fault.cs l[i]!) = Fault.cs _; rw [Fault.cs_eq, Fault.cs_eq]; rfl) (by omega)
theorem Fault.eqc {a b : Fault} : eqCells [.i, .i] (Fault.cs a) (Fault.cs b) = some (decide (a = b)) := by cases a; cases b; simp only [eqC_nil, eqC_cons, bndO_some, same_i, same_s, same_b, Fault.cs_eq]; rw [Option.some.injEq, Bool.eq_iff_iff]; simp
attribute [go_sem] Fault.len Fault.all Fault.dropn Fault.av_eq Fault.g0_1 Fault.s0_1 Fault.g1_1 Fault.flen Fault.ftake Fault.snoc Fault.snocx Fault.app Fault.allm Fault.fget0 Fault.fget Fault.fset Fault.fs0_1 Fault.fs1_1 Fault.eqc
def zr24_0 : List AO := [⟨some 4, none, .mov (.c (.int .i64 0))⟩]
def zr24_1 : List AO := [⟨some 5, none, .mov (.c (.int .i64 0))⟩]
def zr24_2 : List AO := [⟨some 8, none, .mov (.t 0)⟩,
  ⟨some 9, none, .len (.t 8)⟩,
  ⟨some 10, none, .mov (.c (.int .i64 0))⟩]
def zr24_3 : List AO := [⟨some 11, none, .bin .lss (.t 10) (.t 9)⟩]
def zr24_4 : List AO := [⟨some 12, none, .iadr 33 (.t 8) (.t 10)⟩,
  ⟨some 13, none, .load true 33 (.t 12)⟩,
  ⟨some 7, none, .alloc [.int .i64 0, .str [], .int .i64 0, .str [], .str [], .int .i64 0, .int .i64 0, .int .i64 0, .bool false, .str [], .int .i64 0, .bool false, .str [], .nil, .str [], .str [], .int .i64 0, .int .i64 0, .str [], .str [], .bool false, .str [], .str [], .bool false, .bool false, .bool false, .bool false, .bool false, .bool false, .bool false, .nil, .nil, .nil]⟩,
  ⟨none, none, .store 33 (.t 7) (.t 13)⟩]
def zr24_5 : List AO := [⟨some 14, none, .mov (.t 5)⟩,
  ⟨some 15, none, .fadr 32 (.t 7)⟩,
  ⟨some 16, none, .load false 1 (.t 15)⟩,
  ⟨some 17, none, .mov (.t 1)⟩,
  ⟨some 18, none, .mov (.t 5)⟩,
  ⟨some 19, none, .bin .sub (.t 17) (.t 18)⟩,
  ⟨some 20, none, .callF 24 [(.t 16), (.t 19)]⟩,
  ⟨some 21, none, .bin .add (.c (.int .i64 1)) (.t 20)⟩,
  ⟨some 22, none, .bin .add (.t 14) (.t 21)⟩,
  ⟨some 5, none, .mov (.t 22)⟩]
def zr24_6 : List AO := [⟨some 23, none, .mov (.t 5)⟩,
  ⟨some 24, none, .mov (.t 1)⟩,
  ⟨some 25, none, .bin .gtr (.t 23) (.t 24)⟩]
def zc24_0 : AC := .cond (.t 25) (.exit 0) .skip
def zc24_1 : AC := .seq (.reg zr24_6) zc24_0
def zc24_2 : AC := .seq (.reg zr24_5) zc24_1
def zc24_3 : AC := .seq (.reg zr24_4) zc24_2
def zr24_7 : List AO := [⟨some 26, none, .bin .add (.t 10) (.c (.int .i64 1))⟩,
  ⟨some 10, none, .mov (.t 26)⟩]
def zc24_4 : AC := .reg zr24_7
def zc24_5 : AC := .seq (.block 1 zc24_3) zc24_4
def zc24_6 : AC := .seq (.cond (.t 11) .skip (.exit 0)) zc24_5
def zc24_7 : AC := .seq (.reg zr24_3) zc24_6
def zc24_8 : AC := .loop zc24_7
def zc24_9 : AC := .block 0 zc24_8
def zr24_8 : List AO := [⟨some 27, none, .mov (.t 5)⟩,
  ⟨some 4, none, .mov (.t 27)⟩]
def zc24_10 : AC := .seq (.reg zr24_8) .ret
def zc24_11 : AC := .seq (.seq (.reg zr24_2) zc24_9) zc24_10
def zc24_12 : AC := .seq (.reg zr24_1) zc24_11
def zc24_13 : AC := .seq (.reg zr24_0) zc24_12
def zc24 : AC := zc24_13
theorem ok24 : Try.f24.body.bind (compCode Try.prog 28) = some zc24 := by kernel_rfl
theorem nt24 : Try.f24.ntmps = 28 := by kernel_rfl
theorem res24 : compRes Try.prog Try.f24.results.toList = some [.tmp 4] := by kernel_rfl
attribute [go_sem] zr24_0 zr24_1 zr24_2 zr24_3 zr24_6 zr24_7 zr24_8
def s24_b1 (N : Nat) (p1 : List Item) (p2 : Int) (rec24 : (List Item) → Int → Option Int) (x1 : Int) (x2 : Int) : Option (((Int × Int) ⊕ (Int))) :=
  if x2 < (List.length p1 : Int) then
    grd (0 ≤ x2) <|
    (rec24 ((p1[x2.toNat]!).Items) (IntKind.wrap .i64 (p2 - x1))).bind fun x9 =>
    if p2 < IntKind.wrap .i64 (x1 + (IntKind.wrap .i64 (1 + x9))) then
      some (.inr (IntKind.wrap .i64 (x1 + (IntKind.wrap .i64 (1 + x9)))))
    else
      some (.inl (IntKind.wrap .i64 (x1 + (IntKind.wrap .i64 (1 + x9))), IntKind.wrap .i64 (x2 + 1)))
  else
    some (.inr x1)
def s24_body (rec24 : (List Item) → Int → Option Int) (N : Nat) (p1 : List Item) (p2 : Int) : Option Int :=
  (iter (fun p => s24_b1 N p1 p2 rec24 p.1 p.2) N (0, 0)).bind fun a3 =>
  some a3
def s24 : Nat → (List Item) → Int → Option Int
  | 0, _, _ => none
  | N + 1, p1, p2 => s24_body (s24 N) N p1 p2
set_option maxHeartbeats 4000000 in
theorem c24_body (rec24 : (List Item) → Int → Option Int) (hrec24 : ∀ (p1 : List Item) (p2 : Int) (r : Int), rec24 p1 p2 = some r → PureC Try.prog 24 [.sl (List.map Item.av p1), .int .i64 p2] (.int .i64 r)) (N : Nat) (p1 : List Item) (p2 : Int) (r : Int) (h : s24_body rec24 N p1 p2 = some r) : PureC Try.prog 24 [.sl (List.map Item.av p1), .int .i64 p2] (.int .i64 r) := by
 refine fn_intro' 28 Try.func24 nt24 ok24 res24 (by simp) fun X hP hn hd hr => ?_
 unfold s24_body at h
 repeat refine awp_seq ?_
 refine rg (h := ?_)
 repeat refine awp_seq ?_
 refine rg (h := ?_)
 repeat refine awp_seq ?_
 refine rg (h := ?_)
 repeat refine awp_seq ?_
 refine awp_block ?_
 obtain ⟨o3, ho3, hO3⟩ := bnd_some h
 repeat refine awp_seq ?_
 refine awp_loop (ι := {p : Nat × Int × Int // iter (fun p => s24_b1 N p1 p2 rec24 p.1 p.2) p.1 (p.2.1, p.2.2) = some o3}) (fun p => [(1, .int .i64 p2), (5, .int .i64 p.1.2.1), (8, .sl (List.map Item.av p1)), (9, .int .i64 (List.length p1 : Int)), (10, .int .i64 p.1.2.2)]) (fun p => []) (fun p => p.1.1) ⟨⟨N, 0, 0⟩, ho3⟩ ?_ ?_
 · refine ent_le' ([]) ([]) ([]) rfl (List.Perm.refl _) ?_ ?_
   · simp -implicitDefEqProofs (disch := first | omega | rfl) only [go_sem, simprocAttr, subF_cons, subF_nil]
     exact ⟨(.keep _), (.keep _), (.keep _), (.keep _), (.keep _)⟩
   · exact .nil
 rintro ⟨⟨n3, x1, x2⟩, hi3⟩
 obtain ⟨m3, q3, rfl, h, hm3⟩ := iter_some hi3
 try dsimp only at h
 try dsimp only
 unfold s24_b1 at h
 repeat refine awp_seq ?_
 refine rg (h := ?_)
 rcases ite_some h with ⟨hc6, h⟩ | ⟨hc6, h⟩
 · repeat refine awp_seq ?_
   refine awp_then (by simp -implicitDefEqProofs (disch := first | omega | rfl) only [go_sem, simprocAttr, eq_true hc6]) ?_
   repeat refine awp_seq ?_
   refine awp_skip ?_
   repeat refine awp_seq ?_
   refine awp_block ?_
   repeat refine awp_seq ?_
   refine awp_reg fun K Q hK hQ => ?_
   obtain ⟨hg7, h⟩ := grd_some h
   simp -implicitDefEqProofs (disch := first | omega | rfl) only [go_sem, simprocAttr, zr24_4, eq_true hc6, eq_true hg7]
   intro b8
   refine hK _ _ ?_; clear hK hQ K Q
   repeat refine awp_seq ?_
   refine awp_reg fun K Q hK hQ => ?_
   simp -implicitDefEqProofs (disch := first | omega | rfl) only [go_sem, simprocAttr, zr24_5]
   have hh := bnd_some h; clear h; obtain ⟨x9, hx10, h⟩ := hh
   refine call_pure hP (hrec24 ((p1[x2.toNat]!).Items) (IntKind.wrap .i64 (p2 - x1)) x9 hx10) ?_
   simp -implicitDefEqProofs (disch := first | omega | rfl) only [go_sem, simprocAttr]
   refine hK _ _ ?_; clear hK hQ K Q
   repeat refine awp_seq ?_
   refine rg (h := ?_)
   rcases ite_some h with ⟨hc11, h⟩ | ⟨hc11, h⟩
   · repeat refine awp_seq ?_
     refine awp_then (by simp -implicitDefEqProofs (disch := first | omega | rfl) only [go_sem, simprocAttr, eq_true hc11]) ?_
     repeat refine awp_seq ?_
     refine awp_exit ?_
     repeat' (first | refine then_exit ?_ | refine exit_here ?_ | refine exit_on rfl ?_)
     obtain rfl := som_inj h
     try dsimp only at hm3
     subst hm3
     try dsimp only at hO3
     repeat refine awp_seq ?_
     refine rg (h := ?_)
     obtain rfl := som_inj hO3
     repeat refine awp_seq ?_
     refine awp_ret ?_
     repeat first | refine then_ret ?_ | refine blk_ret ?_
     exact rtp
   repeat refine awp_seq ?_
   refine awp_else (by simp -implicitDefEqProofs (disch := first | omega | rfl) only [go_sem, simprocAttr, eq_false hc11]) ?_
   repeat refine awp_seq ?_
   refine awp_skip ?_
   repeat refine awp_seq ?_
   refine rg (h := ?_)
   obtain rfl := som_inj h
   try dsimp only at hm3
   refine ⟨⟨⟨m3, IntKind.wrap .i64 (x1 + (IntKind.wrap .i64 (1 + x9))), IntKind.wrap .i64 (x2 + 1)⟩, hm3⟩, Nat.lt_succ_self _, ?_⟩
   refine ent_le' ([]) (_ :: []) (_ :: []) rfl (List.Perm.refl _) ?_ ?_
   · simp -implicitDefEqProofs (disch := first | omega | rfl) only [go_sem, simprocAttr, subF_cons, subF_nil]
     exact ⟨(.keep _), (.keep _), (.keep _), (.keep _), (.keep _)⟩
   · exact (.drop .nil)
 repeat refine awp_seq ?_
 refine awp_else (by simp -implicitDefEqProofs (disch := first | omega | rfl) only [go_sem, simprocAttr, eq_false hc6]) ?_
 repeat refine awp_seq ?_
 refine awp_exit ?_
 repeat' (first | refine then_exit ?_ | refine exit_here ?_ | refine exit_on rfl ?_)
 obtain rfl := som_inj h
 try dsimp only at hm3
 subst hm3
 try dsimp only at hO3
 repeat refine awp_seq ?_
 refine rg (h := ?_)
 obtain rfl := som_inj hO3
 repeat refine awp_seq ?_
 refine awp_ret ?_
 repeat first | refine then_ret ?_ | refine blk_ret ?_
 exact rtp
theorem cs_24 : ∀ N : Nat, (∀ (p1 : List Item) (p2 : Int) (r : Int), s24 N p1 p2 = some r → PureC Try.prog 24 [.sl (List.map Item.av p1), .int .i64 p2] (.int .i64 r)) := by
  intro N
  induction N with
  | zero => exact fun _ _ r h => by cases h
  | succ N ih => exact fun p1 p2 r h => c24_body (s24 N) ih N p1 p2 r h
theorem c24 (N : Nat) (p1 : List Item) (p2 : Int) (r : Int) (h : s24 N p1 p2 = some r) : PureC Try.prog 24 [.sl (List.map Item.av p1), .int .i64 p2] (.int .i64 r) := (cs_24 N) p1 p2 r h
end Go.Proofs.Inc
namespace Go.Proofs.Inc
open Go.Aw
set_option maxRecDepth 100000
attribute [-go_sem] nisA_sl appA_nil
def zr25_0 : List AO := [⟨some 3, none, .box (.t 1)⟩,
  ⟨some 4, none, .mov (.c (.int .i64 0))⟩]
def zr25_1 : List AO := [⟨some 5, none, .mov (.c (.bool false))⟩]
def zr25_2 : List AO := [⟨some 9, none, .fadr 0 (.t 3)⟩,
  ⟨some 10, none, .load false 1 (.t 9)⟩]
def zr25_3 : List AO := [⟨some 12, none, .bin .eql (.t 10) (.c (.int .i64 13))⟩,
  ⟨some 11, none, .mov (.t 12)⟩]
def zr25_4 : DT := (.pur ⟨some 14, none, .mov (.t 0)⟩ (.pur ⟨some 15, none, .nilc (.t 14)⟩ (.pur ⟨some 16, none, .fadr 0 (.t 15)⟩ (.pur ⟨some 17, none, .load false 1 (.t 16)⟩ (.alt false ⟨some 18, none, .fadr 1 (.t 3)⟩ (.alt false ⟨some 19, none, .load false 1 (.t 18)⟩ (.alt false ⟨some 20, none, .mlook true .s (.agg [.int .i64 0, .str [], .int .i64 0, .str [], .str [], .int .i64 0, .int .i64 0, .int .i64 0, .bool false, .str [], .int .i64 0, .bool false, .str [], .nil, .str [], .str [], .int .i64 0, .int .i64 0, .str [], .str [], .bool false, .str [], .str [], .bool false, .bool false, .bool false, .bool false, .bool false, .bool false, .bool false, .nil, .nil, .nil]) (.t 17) (.t 19)⟩ (.alt false ⟨some 13, none, .mov (.t 20)⟩ (.pur ⟨some 21, none, .ext 0 (.t 13)⟩ (.alt false ⟨some 22, none, .ext 1 (.t 13)⟩ (.alt true ⟨some 5, none, .mov (.t 22)⟩ .done .stop) .stop)) .stop) .stop) .stop) .stop)))))
def zr25_5 : List AO := [⟨some 23, none, .mov (.t 5)⟩,
  ⟨some 24, none, .un .not (.t 23)⟩]
def zr25_6 : DT := (.pur ⟨some 25, none, .mov (.t 0)⟩ (.pur ⟨some 26, none, .nilc (.t 25)⟩ (.pur ⟨some 27, none, .fadr 0 (.t 26)⟩ (.pur ⟨some 28, none, .load false 1 (.t 27)⟩ (.pur ⟨some 29, none, .fadr 1 (.t 3)⟩ (.pur ⟨some 30, none, .load false 1 (.t 29)⟩ (.alt false ⟨some 31, none, .load true 33 (.t 3)⟩ (.alt true ⟨none, none, .mput .s (.t 28) (.t 30) (.t 31)⟩ .done .stop) .stop)))))))
def zc25_0 : AC := .regD zr25_6
def zc25_1 : AC := .cond (.t 24) zc25_0 .skip
def zc25_2 : AC := .seq (.reg zr25_5) zc25_1
def zr25_7 : List AO := [⟨some 32, none, .mkmap⟩,
  ⟨some 6, none, .mov (.t 32)⟩]
def zr25_8 : List AO := [⟨some 33, none, .fadr 31 (.t 3)⟩,
  ⟨some 34, none, .load false 1 (.t 33)⟩,
  ⟨some 35, none, .len (.t 34)⟩,
  ⟨some 36, none, .mov (.c (.int .i64 0))⟩]
def zr25_9 : List AO := [⟨some 37, none, .bin .lss (.t 36) (.t 35)⟩]
def zr25_10 : List AO := [⟨some 38, none, .iadr 1 (.t 34) (.t 36)⟩,
  ⟨some 39, none, .load false 1 (.t 38)⟩,
  ⟨some 8, none, .mov (.t 39)⟩]
def zr25_11 : List AO := [⟨some 40, none, .mov (.t 5)⟩,
  ⟨some 41, none, .mov (.t 40)⟩,
  ⟨some 42, some (41, false), .mov (.t 6)⟩,
  ⟨some 43, some (41, false), .mov (.t 8)⟩,
  ⟨some 44, some (41, false), .mlook false .s (.bool false) (.t 42) (.t 43)⟩,
  ⟨some 45, none, .pick (.t 41) (.c (.bool true)) (.t 44)⟩,
  ⟨some 5, none, .mov (.t 45)⟩]
def zr25_12 : List AO := [⟨some 46, none, .mov (.t 6)⟩,
  ⟨some 47, none, .mov (.t 8)⟩,
  ⟨none, none, .mput .s (.t 46) (.t 47) (.c (.bool true))⟩]
def zc25_3 : AC := .reg zr25_12
def zc25_4 : AC := .seq (.reg zr25_11) zc25_3
def zc25_5 : AC := .seq (.reg zr25_10) zc25_4
def zr25_13 : List AO := [⟨some 48, none, .bin .add (.t 36) (.c (.int .i64 1))⟩,
  ⟨some 36, none, .mov (.t 48)⟩]
def zc25_6 : AC := .reg zr25_13
def zc25_7 : AC := .seq (.block 2 zc25_5) zc25_6
def zc25_8 : AC := .seq (.cond (.t 37) .skip (.exit 1)) zc25_7
def zc25_9 : AC := .seq (.reg zr25_9) zc25_8
def zc25_10 : AC := .loop zc25_9
def zc25_11 : AC := .block 1 zc25_10
def zc25_12 : AC := .seq (.reg zr25_8) zc25_11
def zc25_13 : AC := .seq (.reg zr25_7) zc25_12
def zc25_14 : AC := .seq (.seq (.regD zr25_4) zc25_2) zc25_13
def zr25_14 : List AO := [⟨some 50, none, .bin .eql (.t 10) (.c (.int .i64 6))⟩,
  ⟨some 49, none, .mov (.t 50)⟩]
def zr25_15 : DT := (.pur ⟨some 52, none, .mov (.t 0)⟩ (.pur ⟨some 53, none, .nilc (.t 52)⟩ (.pur ⟨some 54, none, .fadr 1 (.t 53)⟩ (.pur ⟨some 55, none, .load false 1 (.t 54)⟩ (.alt false ⟨some 56, none, .fadr 1 (.t 3)⟩ (.alt false ⟨some 57, none, .load false 1 (.t 56)⟩ (.alt false ⟨some 58, none, .mlook true .s (.agg [.int .i64 0, .bool false, .str []]) (.t 55) (.t 57)⟩ (.alt false ⟨some 51, none, .mov (.t 58)⟩ (.pur ⟨some 59, none, .ext 0 (.t 51)⟩ (.alt false ⟨some 60, none, .ext 1 (.t 51)⟩ (.alt true ⟨some 5, none, .mov (.t 60)⟩ .done .stop) .stop)) .stop) .stop) .stop) .stop)))))
def zr25_16 : List AO := [⟨some 61, none, .mov (.t 5)⟩,
  ⟨some 62, none, .un .not (.t 61)⟩]
def zr25_17 : DT := (.pur ⟨some 63, none, .mov (.t 0)⟩ (.pur ⟨some 64, none, .nilc (.t 63)⟩ (.pur ⟨some 65, none, .fadr 1 (.t 64)⟩ (.pur ⟨some 66, none, .load false 1 (.t 65)⟩ (.pur ⟨some 67, none, .fadr 1 (.t 3)⟩ (.pur ⟨some 68, none, .load false 1 (.t 67)⟩ (.pur ⟨some 69, none, .fadr 7 (.t 3)⟩ (.pur ⟨some 70, none, .fadr 0 (.t 69)⟩ (.pur ⟨some 71, none, .load false 1 (.t 70)⟩ (.alt false ⟨some 72, none, .fadr 7 (.t 3)⟩ (.alt false ⟨some 73, none, .fadr 1 (.t 72)⟩ (.alt false ⟨some 74, none, .load false 1 (.t 73)⟩ (.alt false ⟨some 75, none, .bld [.int .i64 0, .bool false, .str []] [(0, 1, (.t 71)), (1, 1, (.t 74))]⟩ (.alt true ⟨none, none, .mput .s (.t 66) (.t 68) (.t 75)⟩ .done .stop) .stop) .stop) .stop) .stop))))))))))
def zc25_15 : AC := .regD zr25_17
def zc25_16 : AC := .cond (.t 62) zc25_15 .skip
def zc25_17 : AC := .seq (.reg zr25_16) zc25_16
def zc25_18 : AC := .seq (.regD zr25_15) zc25_17
def zr25_18 : List AO := [⟨some 77, none, .bin .eql (.t 10) (.c (.int .i64 7))⟩,
  ⟨some 76, none, .mov (.t 77)⟩]
def zr25_19 : DT := (.pur ⟨some 79, none, .mov (.t 0)⟩ (.pur ⟨some 80, none, .nilc (.t 79)⟩ (.pur ⟨some 81, none, .fadr 2 (.t 80)⟩ (.pur ⟨some 82, none, .load false 1 (.t 81)⟩ (.alt false ⟨some 83, none, .fadr 1 (.t 3)⟩ (.alt false ⟨some 84, none, .load false 1 (.t 83)⟩ (.alt false ⟨some 85, none, .mlook true .s (.agg [.int .i64 0, .str [], .int .i64 0, .str [], .str [], .int .i64 0, .int .i64 0, .int .i64 0, .bool false, .str [], .int .i64 0, .bool false, .str [], .nil, .str [], .str [], .int .i64 0, .int .i64 0, .str [], .str [], .bool false, .str [], .str [], .bool false, .bool false, .bool false, .bool false, .bool false, .bool false, .bool false, .nil, .nil, .nil]) (.t 82) (.t 84)⟩ (.alt false ⟨some 78, none, .mov (.t 85)⟩ (.pur ⟨some 86, none, .ext 0 (.t 78)⟩ (.alt false ⟨some 87, none, .ext 1 (.t 78)⟩ (.alt true ⟨some 5, none, .mov (.t 87)⟩ .done .stop) .stop)) .stop) .stop) .stop) .stop)))))
def zr25_20 : List AO := [⟨some 88, none, .mov (.t 5)⟩,
  ⟨some 89, none, .un .not (.t 88)⟩]
def zr25_21 : DT := (.pur ⟨some 90, none, .mov (.t 0)⟩ (.pur ⟨some 91, none, .nilc (.t 90)⟩ (.pur ⟨some 92, none, .fadr 2 (.t 91)⟩ (.pur ⟨some 93, none, .load false 1 (.t 92)⟩ (.pur ⟨some 94, none, .fadr 1 (.t 3)⟩ (.pur ⟨some 95, none, .load false 1 (.t 94)⟩ (.alt false ⟨some 96, none, .load true 33 (.t 3)⟩ (.alt true ⟨none, none, .mput .s (.t 93) (.t 95) (.t 96)⟩ .done .stop) .stop)))))))
def zc25_19 : AC := .regD zr25_21
def zc25_20 : AC := .cond (.t 89) zc25_19 .skip
def zc25_21 : AC := .seq (.reg zr25_20) zc25_20
def zc25_22 : AC := .seq (.regD zr25_19) zc25_21
def zc25_23 : AC := .cond (.t 76) zc25_22 .skip
def zc25_24 : AC := .seq (.reg zr25_18) zc25_23
def zc25_25 : AC := .cond (.t 49) zc25_18 zc25_24
def zc25_26 : AC := .seq (.reg zr25_14) zc25_25
def zc25_27 : AC := .cond (.t 11) zc25_14 zc25_26
def zc25_28 : AC := .seq (.reg zr25_3) zc25_27
def zc25_29 : AC := .block 0 zc25_28
def zr25_22 : List AO := [⟨some 97, none, .mov (.t 5)⟩]
def zr25_23 : List AO := [⟨some 4, none, .mov (.c (.int .i64 9))⟩]
def zc25_30 : AC := .seq (.reg zr25_23) .ret
def zc25_31 : AC := .cond (.t 97) zc25_30 .skip
def zr25_24 : List AO := [⟨some 4, none, .mov (.c (.int .i64 0))⟩]
def zc25_32 : AC := .seq (.reg zr25_24) .ret
def zc25_33 : AC := .seq (.seq (.reg zr25_22) zc25_31) zc25_32
def zc25_34 : AC := .seq (.seq (.reg zr25_2) zc25_29) zc25_33
def zc25_35 : AC := .seq (.reg zr25_1) zc25_34
def zc25_36 : AC := .seq (.reg zr25_0) zc25_35
def zc25 : AC := zc25_36
theorem ok25 : Try.f25.body.bind (compCode Try.prog 98) = some zc25 := by kernel_rfl
theorem nt25 : Try.f25.ntmps = 98 := by kernel_rfl
theorem res25 : compRes Try.prog Try.f25.results.toList = some [.tmp 4] := by kernel_rfl
attribute [go_sem] zr25_1 zr25_10 zr25_13 zr25_14 zr25_16 zr25_18 zr25_2 zr25_20 zr25_22 zr25_23 zr25_24 zr25_3 zr25_5 zr25_8 zr25_9
def s25_b1 (N : Nat) (p7 : Item) (x6 : Bool) (m7 : List (List UInt8 × Bool)) (x8 : Int) : Option (((Bool × (List (List UInt8 × Bool)) × Int) ⊕ (Bool))) :=
  if x8 < (List.length p7.Names : Int) then
    grd (0 ≤ x8) <|
    bif x6 then
      some (.inl (true, mset (p7.Names[x8.toNat]!) true m7, IntKind.wrap .i64 (x8 + 1)))
    else
      (mlook (p7.Names[x8.toNat]!) m7).elim (
        some (.inl (false, mset (p7.Names[x8.toNat]!) true m7, IntKind.wrap .i64 (x8 + 1)))) fun v15 =>
      some (.inl (v15, mset (p7.Names[x8.toNat]!) true m7, IntKind.wrap .i64 (x8 + 1)))
  else
    some (.inr x6)
def s25_b2 (N : Nat) (p7 : Item) (m19 : List (List UInt8 × Bool)) (x20 : Int) : Option ((((List (List UInt8 × Bool)) × Int) ⊕ (Unit))) :=
  if x20 < (List.length p7.Names : Int) then
    grd (0 ≤ x20) <|
    some (.inl (mset (p7.Names[x20.toNat]!) true m19, IntKind.wrap .i64 (x20 + 1)))
  else
    some (.inr ())
def o25 (p1 : List (List UInt8 × Item)) (p2 : List (List UInt8 × Span)) (p3 : List (List UInt8 × Item)) (p4 : Int) (p5 : List Item) (p6 : List (List UInt8)) (p7 : Item) (b900 : Nat) (b901 : Nat) (b902 : Nat) (b903 : Nat) (o904 : Option Nat) (o905 : Option Nat) (r : Int × (List (List UInt8 × Item)) × (List (List UInt8 × Span)) × (List (List UInt8 × Item))) : Res → Own → Prop := fun q o => q = .val (.int .i64 r.1) ∧ o = (900, b900, .cells ([.mapv 901 b901, .mapv 902 b902, .mapv 903 b903, .int .i64 p4, accV 904 o904 (List.length p5) 33, accV 905 o905 (List.length p6) 1])) :: (901, b901, .map (List.map (fun p => (AV.str p.1, .agg (Item.cs p.2))) r.2.1)) :: (902, b902, .map (List.map (fun p => (AV.str p.1, .agg (Span.cs p.2))) r.2.2.1)) :: (903, b903, .map (List.map (fun p => (AV.str p.1, .agg (Item.cs p.2))) r.2.2.2)) :: accO 904 o904 (flt Item.av p5) (accO 905 o905 (flt AV.str p6) [])
def s25 (N : Nat) (p1 : List (List UInt8 × Item)) (p2 : List (List UInt8 × Span)) (p3 : List (List UInt8 × Item)) (p4 : Int) (p5 : List Item) (p6 : List (List UInt8)) (p7 : Item) : Option (Int × (List (List UInt8 × Item)) × (List (List UInt8 × Span)) × (List (List UInt8 × Item))) :=
  if p7.Kind = 13 then
    (mlook p7.Name p1).elim (
      (iter (fun p => s25_b1 N p7 p.1 p.2.1 p.2.2) N (false, [], 0)).bind fun a9 =>
      bif a9 then
        some (9, mset p7.Name p7 p1, p2, p3)
      else
        some (0, mset p7.Name p7 p1, p2, p3)) fun v4 =>
    (iter (fun p => s25_b2 N p7 p.1 p.2) N ([], 0)).bind fun a21 =>
    some (9, p1, p2, p3)
  else
    if p7.Kind = 6 then
      (mlook p7.Name p2).elim (
        some (0, p1, mset p7.Name ({ p7.Within with Name := [] }) p2, p3)) fun v26 =>
      some (9, p1, p2, p3)
    else
      if p7.Kind = 7 then
        (mlook p7.Name p3).elim (
          some (0, p1, p2, mset p7.Name p7 p3)) fun v29 =>
        some (9, p1, p2, p3)
      else
        some (0, p1, p2, p3)
set_option maxHeartbeats 4000000 in
theorem c25 (N : Nat) (p1 : List (List UInt8 × Item)) (p2 : List (List UInt8 × Span)) (p3 : List (List UInt8 × Item)) (p4 : Int) (p5 : List Item) (p6 : List (List UInt8)) (p7 : Item) (b900 : Nat) (b901 : Nat) (b902 : Nat) (b903 : Nat) (o904 : Option Nat) (h904 : o904 = none → p5 = []) (o905 : Option Nat) (h905 : o905 = none → p6 = []) (r : Int × (List (List UInt8 × Item)) × (List (List UInt8 × Span)) × (List (List UInt8 × Item))) (h : s25 N p1 p2 p3 p4 p5 p6 p7 = some r) : FnC Try.prog 25 [.ptr 900 b900 0, .agg (Item.cs p7)] ((900, b900, .cells ([.mapv 901 b901, .mapv 902 b902, .mapv 903 b903, .int .i64 p4, accV 904 o904 (List.length p5) 33, accV 905 o905 (List.length p6) 1])) :: (901, b901, .map (List.map (fun p => (AV.str p.1, .agg (Item.cs p.2))) p1)) :: (902, b902, .map (List.map (fun p => (AV.str p.1, .agg (Span.cs p.2))) p2)) :: (903, b903, .map (List.map (fun p => (AV.str p.1, .agg (Item.cs p.2))) p3)) :: accO 904 o904 (flt Item.av p5) (accO 905 o905 (flt AV.str p6) [])) (o25 p1 p2 p3 p4 p5 p6 p7 b900 b901 b902 b903 o904 o905 r) := by
 refine fn_intro' 98 Try.func25 nt25 ok25 res25 (by simp) fun X hP hn hd hr => ?_
 unfold s25 at h
 repeat refine awp_seq ?_
 refine awp_reg fun K Q hK hQ => ?_
 simp -implicitDefEqProofs (disch := first | omega | rfl) only [go_sem, simprocAttr, zr25_0, argS]
 intro b1
 refine hK _ _ ?_; clear hK hQ K Q
 repeat refine awp_seq ?_
 refine rg (h := ?_)
 repeat refine awp_seq ?_
 refine rg (h := ?_)
 repeat refine awp_seq ?_
 refine awp_block ?_
 repeat refine awp_seq ?_
 refine rg (h := ?_)
 rcases ite_some h with ⟨hc2, h⟩ | ⟨hc2, h⟩
 · repeat refine awp_seq ?_
   refine awp_then (by simp -implicitDefEqProofs (disch := first | omega | rfl) only [go_sem, simprocAttr, eq_true hc2]) ?_
   repeat refine awp_seq ?_
   refine awp_regD' (_ :: _ :: _ :: _ :: _ :: accO _ _ _ (accO _ _ _ [])) ([]) (_ :: _ :: _ :: _ :: _ :: accO _ _ _ (accO _ _ _ [])) (by rw [hP]; exact mixed) (by first | rfl | (simp only [accO_app, List.cons_append, List.nil_append]; rfl) | simp only [accO_app, List.cons_append, List.nil_append]) (List.Perm.refl _) fun K hK => ?_
   have hh := elm_some h; clear h; rcases hh with ⟨hl3, h⟩ | ⟨v4, hl3, h⟩
   · simp -implicitDefEqProofs (disch := first | omega | rfl) only [go_sem, simprocAttr, zr25_4, mlk_str_none (f := (fun x => AV.agg (Item.cs x))) hl3]
     refine hK _ _ ?_; clear hK K
     repeat refine awp_seq ?_
     refine rg (h := ?_)
     repeat refine awp_seq ?_
     refine awp_then (by rfl) ?_
     repeat refine awp_seq ?_
     refine awp_regD' (_ :: _ :: _ :: _ :: _ :: accO _ _ _ (accO _ _ _ [])) ([]) (_ :: _ :: _ :: _ :: _ :: accO _ _ _ (accO _ _ _ [])) (by rw [hP]; exact mixed) (by first | rfl | (simp only [accO_app, List.cons_append, List.nil_append]; rfl) | simp only [accO_app, List.cons_append, List.nil_append]) (List.Perm.refl _) fun K hK => ?_
     simp -implicitDefEqProofs (disch := first | omega | rfl) only [go_sem, simprocAttr, zr25_6, mpt_strE (f := (fun x => AV.agg (Item.cs x))) p7 (show (.agg (Item.cs p7) : AV) = .agg (Item.cs p7) by rfl)]
     refine hK _ _ ?_; clear hK K
     repeat refine awp_seq ?_
     refine awp_reg fun K Q hK hQ => ?_
     simp -implicitDefEqProofs (disch := first | omega | rfl) only [go_sem, simprocAttr, zr25_7, mapnil]
     intro b5
     refine hK _ _ ?_; clear hK hQ K Q
     repeat refine awp_seq ?_
     refine rg (h := ?_)
     repeat refine awp_seq ?_
     refine awp_block ?_
     obtain ⟨o9, ho9, hO9⟩ := bnd_some h
     repeat refine awp_seq ?_
     refine awp_loop (ι := {p : Nat × Bool × (List (List UInt8 × Bool)) × Int // iter (fun p => s25_b1 N p7 p.1 p.2.1 p.2.2) p.1 (p.2.1, p.2.2.1, p.2.2.2) = some o9}) (fun p => [(5, .bool p.1.2.1), (6, .mapv 32 b5), (34, .sl (List.map AV.str p7.Names)), (35, .int .i64 (List.length p7.Names : Int)), (36, .int .i64 p.1.2.2.2)]) (fun p => (900, b900, .cells ([.mapv 901 b901, .mapv 902 b902, .mapv 903 b903, .int .i64 p4, accV 904 o904 (List.length p5) 33, accV 905 o905 (List.length p6) 1])) :: (901, b901, .map (List.map (fun p => (AV.str p.1, .agg (Item.cs p.2))) (mset p7.Name p7 p1))) :: (902, b902, .map (List.map (fun p => (AV.str p.1, .agg (Span.cs p.2))) p2)) :: (903, b903, .map (List.map (fun p => (AV.str p.1, .agg (Item.cs p.2))) p3)) :: accO 904 o904 (flt Item.av p5) (accO 905 o905 (flt AV.str p6) ((32, b5, .map (List.map (fun p => (AV.str p.1, AV.bool p.2)) p.1.2.2.1)) :: []))) (fun p => p.1.1) ⟨⟨N, false, [], 0⟩, ho9⟩ ?_ ?_
     · refine ent_le' ([]) (_ :: _ :: _ :: _ :: accO _ _ _ (accO _ _ _ (_ :: _ :: []))) (_ :: _ :: _ :: _ :: accO _ _ _ (accO _ _ _ (_ :: _ :: []))) rfl (List.Perm.trans (List.Perm.cons _ perm_cc) (List.Perm.trans perm_cc ((List.Perm.cons _ (List.Perm.trans (List.Perm.cons _ perm_cc) (List.Perm.trans perm_cc ((List.Perm.cons _ (List.Perm.trans (List.Perm.cons _ perm_cc) (List.Perm.trans perm_cc ((List.Perm.cons _ (List.Perm.trans (List.Perm.cons _ perm_cc) (List.Perm.trans perm_cc ((List.Perm.cons _ (List.Perm.trans (List.Perm.cons _ perm_ca) (List.Perm.trans perm_ca ((perm_ha (List.Perm.trans (List.Perm.cons _ perm_ca) (List.Perm.trans perm_ca (List.Perm.refl _))))))))))))))))))))))) ?_ ?_
       · simp -implicitDefEqProofs (disch := first | omega | rfl) only [go_sem, simprocAttr, subF_cons, subF_nil]
         exact ⟨(.keep _), (.lmap ..), (.keep _), (.keep _), (.keep _)⟩
       · exact (.cell (.map' (by first | rfl | simp) (.map' (by first | rfl | simp) (.map' (by first | rfl | simp) (.acc (FrzP.refl _ _) (.acc (FrzP.refl _ _) (.map' (by first | rfl | simp) (.drop .nil))))))))
     rintro ⟨⟨n9, x6, m7, x8⟩, hi9⟩
     obtain ⟨m9, q9, rfl, h, hm9⟩ := iter_some hi9
     try dsimp only at h
     try dsimp only
     unfold s25_b1 at h
     repeat refine awp_seq ?_
     refine rg (h := ?_)
     rcases ite_some h with ⟨hc11, h⟩ | ⟨hc11, h⟩
     · repeat refine awp_seq ?_
       refine awp_then (by simp -implicitDefEqProofs (disch := first | omega | rfl) only [go_sem, simprocAttr, eq_true hc11]) ?_
       repeat refine awp_seq ?_
       refine awp_skip ?_
       repeat refine awp_seq ?_
       refine awp_block ?_
       repeat refine awp_seq ?_
       obtain ⟨hg12, h⟩ := grd_some h
       refine rgf (And.intro (eq_true hc11) (eq_true hg12)) ?_
       repeat refine awp_seq ?_
       refine awp_reg fun K Q hK hQ => ?_
       rcases cnd_some h with ⟨hc13, h⟩ | ⟨hc13, h⟩
       · simp -implicitDefEqProofs (disch := first | omega | rfl) only [go_sem, simprocAttr, zr25_11, hc13]
         refine hK _ _ ?_; clear hK hQ K Q
         repeat refine awp_seq ?_
         refine awp_reg fun K Q hK hQ => ?_
         simp -implicitDefEqProofs (disch := first | omega | rfl) only [go_sem, simprocAttr, zr25_12, mpt_strE (f := AV.bool) true (show (.bool true : AV) = AV.bool true by rfl)]
         refine hK _ _ ?_; clear hK hQ K Q
         repeat refine awp_seq ?_
         refine rg (h := ?_)
         obtain rfl := som_inj h
         try dsimp only at hm9
         refine ⟨⟨⟨m9, true, mset (p7.Names[x8.toNat]!) true m7, IntKind.wrap .i64 (x8 + 1)⟩, hm9⟩, Nat.lt_succ_self _, ?_⟩
         refine ent_le' ([]) (_ :: _ :: _ :: _ :: accO _ _ _ (accO _ _ _ (_ :: []))) (_ :: _ :: _ :: _ :: accO _ _ _ (accO _ _ _ (_ :: []))) rfl (List.Perm.refl _) ?_ ?_
         · simp -implicitDefEqProofs (disch := first | omega | rfl) only [go_sem, simprocAttr, subF_cons, subF_nil]
           exact ⟨(.keep _), (.lmap ..), (.keep _), (.keep _), (.keep _)⟩
         · exact (.cell (.map' (by first | rfl | simp) (.map' (by first | rfl | simp) (.map' (by first | rfl | simp) (.acc (FrzP.refl _ _) (.acc (FrzP.refl _ _) (.map' (by first | rfl | simp) .nil)))))))
       have hh := elm_some h; clear h; rcases hh with ⟨hl14, h⟩ | ⟨v15, hl14, h⟩
       · simp -implicitDefEqProofs (disch := first | omega | rfl) only [go_sem, simprocAttr, zr25_11, mlk_str_none (f := AV.bool) hl14, hc13]
         refine hK _ _ ?_; clear hK hQ K Q
         repeat refine awp_seq ?_
         refine awp_reg fun K Q hK hQ => ?_
         simp -implicitDefEqProofs (disch := first | omega | rfl) only [go_sem, simprocAttr, zr25_12, mpt_strE (f := AV.bool) true (show (.bool true : AV) = AV.bool true by rfl)]
         refine hK _ _ ?_; clear hK hQ K Q
         repeat refine awp_seq ?_
         refine rg (h := ?_)
         obtain rfl := som_inj h
         try dsimp only at hm9
         refine ⟨⟨⟨m9, false, mset (p7.Names[x8.toNat]!) true m7, IntKind.wrap .i64 (x8 + 1)⟩, hm9⟩, Nat.lt_succ_self _, ?_⟩
         refine ent_le' ([]) (_ :: _ :: _ :: _ :: accO _ _ _ (accO _ _ _ (_ :: []))) (_ :: _ :: _ :: _ :: accO _ _ _ (accO _ _ _ (_ :: []))) rfl (List.Perm.refl _) ?_ ?_
         · simp -implicitDefEqProofs (disch := first | omega | rfl) only [go_sem, simprocAttr, subF_cons, subF_nil]
           exact ⟨(.keep _), (.lmap ..), (.keep _), (.keep _), (.keep _)⟩
         · exact (.cell (.map' (by first | rfl | simp) (.map' (by first | rfl | simp) (.map' (by first | rfl | simp) (.acc (FrzP.refl _ _) (.acc (FrzP.refl _ _) (.map' (by first | rfl | simp) .nil)))))))
       simp -implicitDefEqProofs (disch := first | omega | rfl) only [go_sem, simprocAttr, zr25_11, mlk_str_some (f := AV.bool) hl14, hc13]
       refine hK _ _ ?_; clear hK hQ K Q
       repeat refine awp_seq ?_
       refine awp_reg fun K Q hK hQ => ?_
       simp -implicitDefEqProofs (disch := first | omega | rfl) only [go_sem, simprocAttr, zr25_12, mpt_strE (f := AV.bool) true (show (.bool true : AV) = AV.bool true by rfl)]
       refine hK _ _ ?_; clear hK hQ K Q
       repeat refine awp_seq ?_
       refine rg (h := ?_)
       obtain rfl := som_inj h
       try dsimp only at hm9
       refine ⟨⟨⟨m9, v15, mset (p7.Names[x8.toNat]!) true m7, IntKind.wrap .i64 (x8 + 1)⟩, hm9⟩, Nat.lt_succ_self _, ?_⟩
       refine ent_le' ([]) (_ :: _ :: _ :: _ :: accO _ _ _ (accO _ _ _ (_ :: []))) (_ :: _ :: _ :: _ :: accO _ _ _ (accO _ _ _ (_ :: []))) rfl (List.Perm.refl _) ?_ ?_
       · simp -implicitDefEqProofs (disch := first | omega | rfl) only [go_sem, simprocAttr, subF_cons, subF_nil]
         exact ⟨(.keep _), (.lmap ..), (.keep _), (.keep _), (.keep _)⟩
       · exact (.cell (.map' (by first | rfl | simp) (.map' (by first | rfl | simp) (.map' (by first | rfl | simp) (.acc (FrzP.refl _ _) (.acc (FrzP.refl _ _) (.map' (by first | rfl | simp) .nil)))))))
     repeat refine awp_seq ?_
     refine awp_else (by simp -implicitDefEqProofs (disch := first | omega | rfl) only [go_sem, simprocAttr, eq_false hc11]) ?_
     repeat refine awp_seq ?_
     refine awp_exit ?_
     repeat' (first | refine then_exit ?_ | refine exit_here ?_ | refine exit_on rfl ?_)
     obtain rfl := som_inj h
     try dsimp only at hm9
     subst hm9
     try dsimp only at hO9
     repeat refine awp_seq ?_
     refine rg (h := ?_)
     rcases cnd_some hO9 with ⟨hc16, hO9⟩ | ⟨hc16, hO9⟩
     · repeat refine awp_seq ?_
       refine awp_then (by simp -implicitDefEqProofs (disch := first | omega | rfl) only [go_sem, simprocAttr, hc16]) ?_
       repeat refine awp_seq ?_
       refine rg (h := ?_)
       obtain rfl := som_inj hO9
       repeat refine awp_seq ?_
       refine awp_le' (s' := [(4, .int .i64 9)]) (own' := (900, b900, .cells ([.mapv 901 b901, .mapv 902 b902, .mapv 903 b903, .int .i64 p4, accV 904 o904 (List.length p5) 33, accV 905 o905 (List.length p6) 1])) :: (901, b901, .map (List.map (fun p => (AV.str p.1, .agg (Item.cs p.2))) (mset p7.Name p7 p1))) :: (902, b902, .map (List.map (fun p => (AV.str p.1, .agg (Span.cs p.2))) p2)) :: (903, b903, .map (List.map (fun p => (AV.str p.1, .agg (Item.cs p.2))) p3)) :: accO 904 o904 (flt Item.av p5) (accO 905 o905 (flt AV.str p6) [])) ([]) (_ :: _ :: _ :: _ :: accO _ _ _ (accO _ _ _ (_ :: []))) (_ :: _ :: _ :: _ :: accO _ _ _ (accO _ _ _ (_ :: []))) rfl (List.Perm.refl _) ?_ ?_ ?_
       · simp -implicitDefEqProofs (disch := first | omega | rfl) only [go_sem, simprocAttr, subF_cons, subF_nil]
         exact (.keep _)
       · exact (.cell (.map' (by first | rfl | simp) (.map' (by first | rfl | simp) (.map' (by first | rfl | simp) (.acc (FrzP.refl _ _) (.acc (FrzP.refl _ _) (.drop .nil)))))))
       refine awp_ret ?_
       repeat' (first | refine then_ret ?_ | refine blk_ret ?_)
       refine ret_q ?_
       simp -implicitDefEqProofs (disch := first | omega | rfl) only [go_sem, simprocAttr]
       exact leaves_own (G := o25 p1 p2 p3 p4 p5 p6 p7 b900 b901 b902 b903 o904 o905 (9, mset p7.Name p7 p1, p2, p3)) ⟨rfl, rfl⟩
     repeat refine awp_seq ?_
     refine awp_else (by simp -implicitDefEqProofs (disch := first | omega | rfl) only [go_sem, simprocAttr, hc16]) ?_
     repeat refine awp_seq ?_
     refine awp_skip ?_
     repeat refine awp_seq ?_
     refine rg (h := ?_)
     obtain rfl := som_inj hO9
     repeat refine awp_seq ?_
     refine awp_le' (s' := [(4, .int .i64 0)]) (own' := (900, b900, .cells ([.mapv 901 b901, .mapv 902 b902, .mapv 903 b903, .int .i64 p4, accV 904 o904 (List.length p5) 33, accV 905 o905 (List.length p6) 1])) :: (901, b901, .map (List.map (fun p => (AV.str p.1, .agg (Item.cs p.2))) (mset p7.Name p7 p1))) :: (902, b902, .map (List.map (fun p => (AV.str p.1, .agg (Span.cs p.2))) p2)) :: (903, b903, .map (List.map (fun p => (AV.str p.1, .agg (Item.cs p.2))) p3)) :: accO 904 o904 (flt Item.av p5) (accO 905 o905 (flt AV.str p6) [])) ([]) (_ :: _ :: _ :: _ :: accO _ _ _ (accO _ _ _ (_ :: []))) (_ :: _ :: _ :: _ :: accO _ _ _ (accO _ _ _ (_ :: []))) rfl (List.Perm.refl _) ?_ ?_ ?_
     · simp -implicitDefEqProofs (disch := first | omega | rfl) only [go_sem, simprocAttr, subF_cons, subF_nil]
       exact (.keep _)
     · exact (.cell (.map' (by first | rfl | simp) (.map' (by first | rfl | simp) (.map' (by first | rfl | simp) (.acc (FrzP.refl _ _) (.acc (FrzP.refl _ _) (.drop .nil)))))))
     refine awp_ret ?_
     repeat' (first | refine then_ret ?_ | refine blk_ret ?_)
     refine ret_q ?_
     simp -implicitDefEqProofs (disch := first | omega | rfl) only [go_sem, simprocAttr]
     exact leaves_own (G := o25 p1 p2 p3 p4 p5 p6 p7 b900 b901 b902 b903 o904 o905 (0, mset p7.Name p7 p1, p2, p3)) ⟨rfl, rfl⟩
   simp -implicitDefEqProofs (disch := first | omega | rfl) only [go_sem, simprocAttr, zr25_4, mlk_str_some (f := (fun x => AV.agg (Item.cs x))) hl3]
   refine hK _ _ ?_; clear hK K
   repeat refine awp_seq ?_
   refine rg (h := ?_)
   repeat refine awp_seq ?_
   refine awp_else (by rfl) ?_
   repeat refine awp_seq ?_
   refine awp_skip ?_
   repeat refine awp_seq ?_
   refine awp_reg fun K Q hK hQ => ?_
   simp -implicitDefEqProofs (disch := first | omega | rfl) only [go_sem, simprocAttr, zr25_7, mapnil]
   intro b18
   refine hK _ _ ?_; clear hK hQ K Q
   repeat refine awp_seq ?_
   refine rg (h := ?_)
   repeat refine awp_seq ?_
   refine awp_block ?_
   obtain ⟨o21, ho21, hO21⟩ := bnd_some h
   repeat refine awp_seq ?_
   refine awp_loop (ι := {p : Nat × (List (List UInt8 × Bool)) × Int // iter (fun p => s25_b2 N p7 p.1 p.2) p.1 (p.2.1, p.2.2) = some o21}) (fun p => [(5, .bool true), (6, .mapv 32 b18), (34, .sl (List.map AV.str p7.Names)), (35, .int .i64 (List.length p7.Names : Int)), (36, .int .i64 p.1.2.2)]) (fun p => (900, b900, .cells ([.mapv 901 b901, .mapv 902 b902, .mapv 903 b903, .int .i64 p4, accV 904 o904 (List.length p5) 33, accV 905 o905 (List.length p6) 1])) :: (901, b901, .map (List.map (fun p => (AV.str p.1, .agg (Item.cs p.2))) p1)) :: (902, b902, .map (List.map (fun p => (AV.str p.1, .agg (Span.cs p.2))) p2)) :: (903, b903, .map (List.map (fun p => (AV.str p.1, .agg (Item.cs p.2))) p3)) :: accO 904 o904 (flt Item.av p5) (accO 905 o905 (flt AV.str p6) ((32, b18, .map (List.map (fun p => (AV.str p.1, AV.bool p.2)) p.1.2.1)) :: []))) (fun p => p.1.1) ⟨⟨N, [], 0⟩, ho21⟩ ?_ ?_
   · refine ent_le' ([]) (_ :: _ :: _ :: _ :: accO _ _ _ (accO _ _ _ (_ :: _ :: []))) (_ :: _ :: _ :: _ :: accO _ _ _ (accO _ _ _ (_ :: _ :: []))) rfl (List.Perm.trans (List.Perm.cons _ perm_cc) (List.Perm.trans perm_cc ((List.Perm.cons _ (List.Perm.trans (List.Perm.cons _ perm_cc) (List.Perm.trans perm_cc ((List.Perm.cons _ (List.Perm.trans (List.Perm.cons _ perm_cc) (List.Perm.trans perm_cc ((List.Perm.cons _ (List.Perm.trans (List.Perm.cons _ perm_cc) (List.Perm.trans perm_cc ((List.Perm.cons _ (List.Perm.trans (List.Perm.cons _ perm_ca) (List.Perm.trans perm_ca ((perm_ha (List.Perm.trans (List.Perm.cons _ perm_ca) (List.Perm.trans perm_ca (List.Perm.refl _))))))))))))))))))))))) ?_ ?_
     · simp -implicitDefEqProofs (disch := first | omega | rfl) only [go_sem, simprocAttr, subF_cons, subF_nil]
       exact ⟨(.keep _), (.lmap ..), (.keep _), (.keep _), (.keep _)⟩
     · exact (.cell (.map' (by first | rfl | simp) (.map' (by first | rfl | simp) (.map' (by first | rfl | simp) (.acc (FrzP.refl _ _) (.acc (FrzP.refl _ _) (.map' (by first | rfl | simp) (.drop .nil))))))))
   rintro ⟨⟨n21, m19, x20⟩, hi21⟩
   obtain ⟨m21, q21, rfl, h, hm21⟩ := iter_some hi21
   try dsimp only at h
   try dsimp only
   unfold s25_b2 at h
   repeat refine awp_seq ?_
   refine rg (h := ?_)
   rcases ite_some h with ⟨hc22, h⟩ | ⟨hc22, h⟩
   · repeat refine awp_seq ?_
     refine awp_then (by simp -implicitDefEqProofs (disch := first | omega | rfl) only [go_sem, simprocAttr, eq_true hc22]) ?_
     repeat refine awp_seq ?_
     refine awp_skip ?_
     repeat refine awp_seq ?_
     refine awp_block ?_
     repeat refine awp_seq ?_
     obtain ⟨hg23, h⟩ := grd_some h
     refine rgf (And.intro (eq_true hc22) (eq_true hg23)) ?_
     repeat refine awp_seq ?_
     refine awp_reg fun K Q hK hQ => ?_
     simp -implicitDefEqProofs (disch := first | omega | rfl) only [go_sem, simprocAttr, zr25_11]
     refine hK _ _ ?_; clear hK hQ K Q
     repeat refine awp_seq ?_
     refine awp_reg fun K Q hK hQ => ?_
     simp -implicitDefEqProofs (disch := first | omega | rfl) only [go_sem, simprocAttr, zr25_12, mpt_strE (f := AV.bool) true (show (.bool true : AV) = AV.bool true by rfl)]
     refine hK _ _ ?_; clear hK hQ K Q
     repeat refine awp_seq ?_
     refine rg (h := ?_)
     obtain rfl := som_inj h
     try dsimp only at hm21
     refine ⟨⟨⟨m21, mset (p7.Names[x20.toNat]!) true m19, IntKind.wrap .i64 (x20 + 1)⟩, hm21⟩, Nat.lt_succ_self _, ?_⟩
     refine ent_le' ([]) (_ :: _ :: _ :: _ :: accO _ _ _ (accO _ _ _ (_ :: []))) (_ :: _ :: _ :: _ :: accO _ _ _ (accO _ _ _ (_ :: []))) rfl (List.Perm.refl _) ?_ ?_
     · simp -implicitDefEqProofs (disch := first | omega | rfl) only [go_sem, simprocAttr, subF_cons, subF_nil]
       exact ⟨(.keep _), (.lmap ..), (.keep _), (.keep _), (.keep _)⟩
     · exact (.cell (.map' (by first | rfl | simp) (.map' (by first | rfl | simp) (.map' (by first | rfl | simp) (.acc (FrzP.refl _ _) (.acc (FrzP.refl _ _) (.map' (by first | rfl | simp) .nil)))))))
   repeat refine awp_seq ?_
   refine awp_else (by simp -implicitDefEqProofs (disch := first | omega | rfl) only [go_sem, simprocAttr, eq_false hc22]) ?_
   repeat refine awp_seq ?_
   refine awp_exit ?_
   repeat' (first | refine then_exit ?_ | refine exit_here ?_ | refine exit_on rfl ?_)
   obtain rfl := som_inj h
   try dsimp only at hm21
   subst hm21
   try dsimp only at hO21
   repeat refine awp_seq ?_
   refine rg (h := ?_)
   repeat refine awp_seq ?_
   refine awp_then (by rfl) ?_
   repeat refine awp_seq ?_
   refine rg (h := ?_)
   obtain rfl := som_inj hO21
   repeat refine awp_seq ?_
   refine awp_le' (s' := [(4, .int .i64 9)]) (own' := (900, b900, .cells ([.mapv 901 b901, .mapv 902 b902, .mapv 903 b903, .int .i64 p4, accV 904 o904 (List.length p5) 33, accV 905 o905 (List.length p6) 1])) :: (901, b901, .map (List.map (fun p => (AV.str p.1, .agg (Item.cs p.2))) p1)) :: (902, b902, .map (List.map (fun p => (AV.str p.1, .agg (Span.cs p.2))) p2)) :: (903, b903, .map (List.map (fun p => (AV.str p.1, .agg (Item.cs p.2))) p3)) :: accO 904 o904 (flt Item.av p5) (accO 905 o905 (flt AV.str p6) [])) ([]) (_ :: _ :: _ :: _ :: accO _ _ _ (accO _ _ _ (_ :: []))) (_ :: _ :: _ :: _ :: accO _ _ _ (accO _ _ _ (_ :: []))) rfl (List.Perm.refl _) ?_ ?_ ?_
   · simp -implicitDefEqProofs (disch := first | omega | rfl) only [go_sem, simprocAttr, subF_cons, subF_nil]
     exact (.keep _)
   · exact (.cell (.map' (by first | rfl | simp) (.map' (by first | rfl | simp) (.map' (by first | rfl | simp) (.acc (FrzP.refl _ _) (.acc (FrzP.refl _ _) (.drop .nil)))))))
   refine awp_ret ?_
   repeat' (first | refine then_ret ?_ | refine blk_ret ?_)
   refine ret_q ?_
   simp -implicitDefEqProofs (disch := first | omega | rfl) only [go_sem, simprocAttr]
   exact leaves_own (G := o25 p1 p2 p3 p4 p5 p6 p7 b900 b901 b902 b903 o904 o905 (9, p1, p2, p3)) ⟨rfl, rfl⟩
 repeat refine awp_seq ?_
 refine awp_else (by simp -implicitDefEqProofs (disch := first | omega | rfl) only [go_sem, simprocAttr, eq_false hc2]) ?_
 repeat refine awp_seq ?_
 refine rg (h := ?_)
 rcases ite_some h with ⟨hc24, h⟩ | ⟨hc24, h⟩
 · repeat refine awp_seq ?_
   refine awp_then (by simp -implicitDefEqProofs (disch := first | omega | rfl) only [go_sem, simprocAttr, eq_true hc24]) ?_
   repeat refine awp_seq ?_
   refine awp_regD' (_ :: _ :: _ :: _ :: _ :: accO _ _ _ (accO _ _ _ [])) ([]) (_ :: _ :: _ :: _ :: _ :: accO _ _ _ (accO _ _ _ [])) (by rw [hP]; exact mixed) (by first | rfl | (simp only [accO_app, List.cons_append, List.nil_append]; rfl) | simp only [accO_app, List.cons_append, List.nil_append]) (List.Perm.refl _) fun K hK => ?_
   have hh := elm_some h; clear h; rcases hh with ⟨hl25, h⟩ | ⟨v26, hl25, h⟩
   · simp -implicitDefEqProofs (disch := first | omega | rfl) only [go_sem, simprocAttr, zr25_15, mlk_str_none (f := (fun x => AV.agg (Span.cs x))) hl25]
     refine hK _ _ ?_; clear hK K
     repeat refine awp_seq ?_
     refine rg (h := ?_)
     repeat refine awp_seq ?_
     refine awp_then (by rfl) ?_
     repeat refine awp_seq ?_
     refine awp_regD' (_ :: _ :: _ :: _ :: _ :: accO _ _ _ (accO _ _ _ [])) ([]) (_ :: _ :: _ :: _ :: _ :: accO _ _ _ (accO _ _ _ [])) (by rw [hP]; exact mixed) (by first | rfl | (simp only [accO_app, List.cons_append, List.nil_append]; rfl) | simp only [accO_app, List.cons_append, List.nil_append]) (List.Perm.refl _) fun K hK => ?_
     simp -implicitDefEqProofs (disch := first | omega | rfl) only [go_sem, simprocAttr, zr25_17, mpt_strE (f := (fun x => AV.agg (Span.cs x))) ({ p7.Within with Name := [] }) (show (.agg [.int .i64 p7.Within.Days, .bool p7.Within.Business, .str []] : AV) = .agg (Span.cs ({ p7.Within with Name := [] })) by rw [Span.cs_eq])]
     refine hK _ _ ?_; clear hK K
     repeat refine awp_seq ?_
     refine rg (h := ?_)
     repeat refine awp_seq ?_
     refine awp_else (by rfl) ?_
     repeat refine awp_seq ?_
     refine awp_skip ?_
     repeat refine awp_seq ?_
     refine rg (h := ?_)
     obtain rfl := som_inj h
     repeat refine awp_seq ?_
     refine awp_le' (s' := [(4, .int .i64 0)]) (own' := (900, b900, .cells ([.mapv 901 b901, .mapv 902 b902, .mapv 903 b903, .int .i64 p4, accV 904 o904 (List.length p5) 33, accV 905 o905 (List.length p6) 1])) :: (901, b901, .map (List.map (fun p => (AV.str p.1, .agg (Item.cs p.2))) p1)) :: (902, b902, .map (List.map (fun p => (AV.str p.1, .agg (Span.cs p.2))) (mset p7.Name ({ p7.Within with Name := [] }) p2))) :: (903, b903, .map (List.map (fun p => (AV.str p.1, .agg (Item.cs p.2))) p3)) :: accO 904 o904 (flt Item.av p5) (accO 905 o905 (flt AV.str p6) [])) ([]) (_ :: _ :: _ :: _ :: accO _ _ _ (accO _ _ _ (_ :: []))) (_ :: _ :: _ :: _ :: accO _ _ _ (accO _ _ _ (_ :: []))) rfl (List.Perm.trans perm_cc ((List.Perm.cons _ (List.Perm.trans perm_cc ((List.Perm.cons _ (List.Perm.trans perm_cc ((List.Perm.cons _ (List.Perm.trans perm_cc ((List.Perm.cons _ (List.Perm.trans perm_ca ((perm_ha (List.Perm.trans perm_ca (List.Perm.refl _))))))))))))))))) ?_ ?_ ?_
     · simp -implicitDefEqProofs (disch := first | omega | rfl) only [go_sem, simprocAttr, subF_cons, subF_nil]
       exact (.keep _)
     · exact (.cell (.map' (by first | rfl | simp) (.map' (by first | rfl | simp) (.map' (by first | rfl | simp) (.acc (FrzP.refl _ _) (.acc (FrzP.refl _ _) (.drop .nil)))))))
     refine awp_ret ?_
     repeat' (first | refine then_ret ?_ | refine blk_ret ?_)
     refine ret_q ?_
     simp -implicitDefEqProofs (disch := first | omega | rfl) only [go_sem, simprocAttr]
     exact leaves_own (G := o25 p1 p2 p3 p4 p5 p6 p7 b900 b901 b902 b903 o904 o905 (0, p1, mset p7.Name ({ p7.Within with Name := [] }) p2, p3)) ⟨rfl, rfl⟩
   simp -implicitDefEqProofs (disch := first | omega | rfl) only [go_sem, simprocAttr, zr25_15, mlk_str_some (f := (fun x => AV.agg (Span.cs x))) hl25]
   refine hK _ _ ?_; clear hK K
   repeat refine awp_seq ?_
   refine rg (h := ?_)
   repeat refine awp_seq ?_
   refine awp_else (by rfl) ?_
   repeat refine awp_seq ?_
   refine awp_skip ?_
   repeat refine awp_seq ?_
   refine rg (h := ?_)
   repeat refine awp_seq ?_
   refine awp_then (by rfl) ?_
   repeat refine awp_seq ?_
   refine rg (h := ?_)
   obtain rfl := som_inj h
   repeat refine awp_seq ?_
   refine awp_le' (s' := [(4, .int .i64 9)]) (own' := (900, b900, .cells ([.mapv 901 b901, .mapv 902 b902, .mapv 903 b903, .int .i64 p4, accV 904 o904 (List.length p5) 33, accV 905 o905 (List.length p6) 1])) :: (901, b901, .map (List.map (fun p => (AV.str p.1, .agg (Item.cs p.2))) p1)) :: (902, b902, .map (List.map (fun p => (AV.str p.1, .agg (Span.cs p.2))) p2)) :: (903, b903, .map (List.map (fun p => (AV.str p.1, .agg (Item.cs p.2))) p3)) :: accO 904 o904 (flt Item.av p5) (accO 905 o905 (flt AV.str p6) [])) ([]) (_ :: _ :: _ :: _ :: accO _ _ _ (accO _ _ _ (_ :: []))) (_ :: _ :: _ :: _ :: accO _ _ _ (accO _ _ _ (_ :: []))) rfl (List.Perm.trans perm_cc ((List.Perm.cons _ (List.Perm.trans perm_cc ((List.Perm.cons _ (List.Perm.trans perm_cc ((List.Perm.cons _ (List.Perm.trans perm_cc ((List.Perm.cons _ (List.Perm.trans perm_ca ((perm_ha (List.Perm.trans perm_ca (List.Perm.refl _))))))))))))))))) ?_ ?_ ?_
   · simp -implicitDefEqProofs (disch := first | omega | rfl) only [go_sem, simprocAttr, subF_cons, subF_nil]
     exact (.keep _)
   · exact (.cell (.map' (by first | rfl | simp) (.map' (by first | rfl | simp) (.map' (by first | rfl | simp) (.acc (FrzP.refl _ _) (.acc (FrzP.refl _ _) (.drop .nil)))))))
   refine awp_ret ?_
   repeat' (first | refine then_ret ?_ | refine blk_ret ?_)
   refine ret_q ?_
   simp -implicitDefEqProofs (disch := first | omega | rfl) only [go_sem, simprocAttr]
   exact leaves_own (G := o25 p1 p2 p3 p4 p5 p6 p7 b900 b901 b902 b903 o904 o905 (9, p1, p2, p3)) ⟨rfl, rfl⟩
 repeat refine awp_seq ?_
 refine awp_else (by simp -implicitDefEqProofs (disch := first | omega | rfl) only [go_sem, simprocAttr, eq_false hc24]) ?_
 repeat refine awp_seq ?_
 refine rg (h := ?_)
 rcases ite_some h with ⟨hc27, h⟩ | ⟨hc27, h⟩
 · repeat refine awp_seq ?_
   refine awp_then (by simp -implicitDefEqProofs (disch := first | omega | rfl) only [go_sem, simprocAttr, eq_true hc27]) ?_
   repeat refine awp_seq ?_
   refine awp_regD' (_ :: _ :: _ :: _ :: _ :: accO _ _ _ (accO _ _ _ [])) ([]) (_ :: _ :: _ :: _ :: _ :: accO _ _ _ (accO _ _ _ [])) (by rw [hP]; exact mixed) (by first | rfl | (simp only [accO_app, List.cons_append, List.nil_append]; rfl) | simp only [accO_app, List.cons_append, List.nil_append]) (List.Perm.refl _) fun K hK => ?_
   have hh := elm_some h; clear h; rcases hh with ⟨hl28, h⟩ | ⟨v29, hl28, h⟩
   · simp -implicitDefEqProofs (disch := first | omega | rfl) only [go_sem, simprocAttr, zr25_19, mlk_str_none (f := (fun x => AV.agg (Item.cs x))) hl28]
     refine hK _ _ ?_; clear hK K
     repeat refine awp_seq ?_
     refine rg (h := ?_)
     repeat refine awp_seq ?_
     refine awp_then (by rfl) ?_
     repeat refine awp_seq ?_
     refine awp_regD' (_ :: _ :: _ :: _ :: _ :: accO _ _ _ (accO _ _ _ [])) ([]) (_ :: _ :: _ :: _ :: _ :: accO _ _ _ (accO _ _ _ [])) (by rw [hP]; exact mixed) (by first | rfl | (simp only [accO_app, List.cons_append, List.nil_append]; rfl) | simp only [accO_app, List.cons_append, List.nil_append]) (List.Perm.refl _) fun K hK => ?_
     simp -implicitDefEqProofs (disch := first | omega | rfl) only [go_sem, simprocAttr, zr25_21, mpt_strE (f := (fun x => AV.agg (Item.cs x))) p7 (show (.agg (Item.cs p7) : AV) = .agg (Item.cs p7) by rfl)]
     refine hK _ _ ?_; clear hK K
     repeat refine awp_seq ?_
     refine rg (h := ?_)
     repeat refine awp_seq ?_
     refine awp_else (by rfl) ?_
     repeat refine awp_seq ?_
     refine awp_skip ?_
     repeat refine awp_seq ?_
     refine rg (h := ?_)
     obtain rfl := som_inj h
     repeat refine awp_seq ?_
     refine awp_le' (s' := [(4, .int .i64 0)]) (own' := (900, b900, .cells ([.mapv 901 b901, .mapv 902 b902, .mapv 903 b903, .int .i64 p4, accV 904 o904 (List.length p5) 33, accV 905 o905 (List.length p6) 1])) :: (901, b901, .map (List.map (fun p => (AV.str p.1, .agg (Item.cs p.2))) p1)) :: (902, b902, .map (List.map (fun p => (AV.str p.1, .agg (Span.cs p.2))) p2)) :: (903, b903, .map (List.map (fun p => (AV.str p.1, .agg (Item.cs p.2))) (mset p7.Name p7 p3))) :: accO 904 o904 (flt Item.av p5) (accO 905 o905 (flt AV.str p6) [])) ([]) (_ :: _ :: _ :: _ :: accO _ _ _ (accO _ _ _ (_ :: []))) (_ :: _ :: _ :: _ :: accO _ _ _ (accO _ _ _ (_ :: []))) rfl (List.Perm.trans perm_cc ((List.Perm.cons _ (List.Perm.trans perm_cc ((List.Perm.cons _ (List.Perm.trans perm_cc ((List.Perm.cons _ (List.Perm.trans perm_cc ((List.Perm.cons _ (List.Perm.trans perm_ca ((perm_ha (List.Perm.trans perm_ca (List.Perm.refl _))))))))))))))))) ?_ ?_ ?_
     · simp -implicitDefEqProofs (disch := first | omega | rfl) only [go_sem, simprocAttr, subF_cons, subF_nil]
       exact (.keep _)
     · exact (.cell (.map' (by first | rfl | simp) (.map' (by first | rfl | simp) (.map' (by first | rfl | simp) (.acc (FrzP.refl _ _) (.acc (FrzP.refl _ _) (.drop .nil)))))))
     refine awp_ret ?_
     repeat' (first | refine then_ret ?_ | refine blk_ret ?_)
     refine ret_q ?_
     simp -implicitDefEqProofs (disch := first | omega | rfl) only [go_sem, simprocAttr]
     exact leaves_own (G := o25 p1 p2 p3 p4 p5 p6 p7 b900 b901 b902 b903 o904 o905 (0, p1, p2, mset p7.Name p7 p3)) ⟨rfl, rfl⟩
   simp -implicitDefEqProofs (disch := first | omega | rfl) only [go_sem, simprocAttr, zr25_19, mlk_str_some (f := (fun x => AV.agg (Item.cs x))) hl28]
   refine hK _ _ ?_; clear hK K
   repeat refine awp_seq ?_
   refine rg (h := ?_)
   repeat refine awp_seq ?_
   refine awp_else (by rfl) ?_
   repeat refine awp_seq ?_
   refine awp_skip ?_
   repeat refine awp_seq ?_
   refine rg (h := ?_)
   repeat refine awp_seq ?_
   refine awp_then (by rfl) ?_
   repeat refine awp_seq ?_
   refine rg (h := ?_)
   obtain rfl := som_inj h
   repeat refine awp_seq ?_
   refine awp_le' (s' := [(4, .int .i64 9)]) (own' := (900, b900, .cells ([.mapv 901 b901, .mapv 902 b902, .mapv 903 b903, .int .i64 p4, accV 904 o904 (List.length p5) 33, accV 905 o905 (List.length p6) 1])) :: (901, b901, .map (List.map (fun p => (AV.str p.1, .agg (Item.cs p.2))) p1)) :: (902, b902, .map (List.map (fun p => (AV.str p.1, .agg (Span.cs p.2))) p2)) :: (903, b903, .map (List.map (fun p => (AV.str p.1, .agg (Item.cs p.2))) p3)) :: accO 904 o904 (flt Item.av p5) (accO 905 o905 (flt AV.str p6) [])) ([]) (_ :: _ :: _ :: _ :: accO _ _ _ (accO _ _ _ (_ :: []))) (_ :: _ :: _ :: _ :: accO _ _ _ (accO _ _ _ (_ :: []))) rfl (List.Perm.trans perm_cc ((List.Perm.cons _ (List.Perm.trans perm_cc ((List.Perm.cons _ (List.Perm.trans perm_cc ((List.Perm.cons _ (List.Perm.trans perm_cc ((List.Perm.cons _ (List.Perm.trans perm_ca ((perm_ha (List.Perm.trans perm_ca (List.Perm.refl _))))))))))))))))) ?_ ?_ ?_
   · simp -implicitDefEqProofs (disch := first | omega | rfl) only [go_sem, simprocAttr, subF_cons, subF_nil]
     exact (.keep _)
   · exact (.cell (.map' (by first | rfl | simp) (.map' (by first | rfl | simp) (.map' (by first | rfl | simp) (.acc (FrzP.refl _ _) (.acc (FrzP.refl _ _) (.drop .nil)))))))
   refine awp_ret ?_
   repeat' (first | refine then_ret ?_ | refine blk_ret ?_)
   refine ret_q ?_
   simp -implicitDefEqProofs (disch := first | omega | rfl) only [go_sem, simprocAttr]
   exact leaves_own (G := o25 p1 p2 p3 p4 p5 p6 p7 b900 b901 b902 b903 o904 o905 (9, p1, p2, p3)) ⟨rfl, rfl⟩
 repeat refine awp_seq ?_
 refine awp_else (by simp -implicitDefEqProofs (disch := first | omega | rfl) only [go_sem, simprocAttr, eq_false hc27]) ?_
 repeat refine awp_seq ?_
 refine awp_skip ?_
 repeat refine awp_seq ?_
 refine rg (h := ?_)
 repeat refine awp_seq ?_
 refine awp_else (by rfl) ?_
 repeat refine awp_seq ?_
 refine awp_skip ?_
 repeat refine awp_seq ?_
 refine rg (h := ?_)
 obtain rfl := som_inj h
 repeat refine awp_seq ?_
 refine awp_le' (s' := [(4, .int .i64 0)]) (own' := (900, b900, .cells ([.mapv 901 b901, .mapv 902 b902, .mapv 903 b903, .int .i64 p4, accV 904 o904 (List.length p5) 33, accV 905 o905 (List.length p6) 1])) :: (901, b901, .map (List.map (fun p => (AV.str p.1, .agg (Item.cs p.2))) p1)) :: (902, b902, .map (List.map (fun p => (AV.str p.1, .agg (Span.cs p.2))) p2)) :: (903, b903, .map (List.map (fun p => (AV.str p.1, .agg (Item.cs p.2))) p3)) :: accO 904 o904 (flt Item.av p5) (accO 905 o905 (flt AV.str p6) [])) ([]) (_ :: _ :: _ :: _ :: accO _ _ _ (accO _ _ _ (_ :: []))) (_ :: _ :: _ :: _ :: accO _ _ _ (accO _ _ _ (_ :: []))) rfl (List.Perm.trans perm_cc ((List.Perm.cons _ (List.Perm.trans perm_cc ((List.Perm.cons _ (List.Perm.trans perm_cc ((List.Perm.cons _ (List.Perm.trans perm_cc ((List.Perm.cons _ (List.Perm.trans perm_ca ((perm_ha (List.Perm.trans perm_ca (List.Perm.refl _))))))))))))))))) ?_ ?_ ?_
 · simp -implicitDefEqProofs (disch := first | omega | rfl) only [go_sem, simprocAttr, subF_cons, subF_nil]
   exact (.keep _)
 · exact (.cell (.map' (by first | rfl | simp) (.map' (by first | rfl | simp) (.map' (by first | rfl | simp) (.acc (FrzP.refl _ _) (.acc (FrzP.refl _ _) (.drop .nil)))))))
 refine awp_ret ?_
 repeat' (first | refine then_ret ?_ | refine blk_ret ?_)
 refine ret_q ?_
 simp -implicitDefEqProofs (disch := first | omega | rfl) only [go_sem, simprocAttr]
 exact leaves_own (G := o25 p1 p2 p3 p4 p5 p6 p7 b900 b901 b902 b903 o904 o905 (0, p1, p2, p3)) ⟨rfl, rfl⟩
def zr32_0 : List AO := [⟨some 2, none, .mov (.c (.bool false))⟩]
def zr32_1 : List AO := [⟨some 3, none, .mov (.t 0)⟩,
  ⟨some 4, none, .nilc (.t 3)⟩,
  ⟨some 5, none, .fadr 3 (.t 4)⟩,
  ⟨some 6, none, .load false 1 (.t 5)⟩,
  ⟨some 7, none, .bin .add (.t 6) (.c (.int .i64 1))⟩,
  ⟨some 8, none, .nilc (.t 3)⟩,
  ⟨some 9, none, .fadr 3 (.t 8)⟩,
  ⟨none, none, .store 1 (.t 9) (.t 7)⟩]
def zr32_2 : List AO := [⟨some 10, none, .mov (.t 0)⟩,
  ⟨some 11, none, .nilc (.t 10)⟩,
  ⟨some 12, none, .fadr 3 (.t 11)⟩,
  ⟨some 13, none, .load false 1 (.t 12)⟩,
  ⟨some 14, none, .bin .gtr (.t 13) (.c (.int .i64 600))⟩,
  ⟨some 2, none, .mov (.t 14)⟩]
def zc32_0 : AC := .seq (.reg zr32_2) .ret
def zc32_1 : AC := .seq (.reg zr32_1) zc32_0
def zc32_2 : AC := .seq (.reg zr32_0) zc32_1
def zc32 : AC := zc32_2
theorem ok32 : Try.f32.body.bind (compCode Try.prog 15) = some zc32 := by kernel_rfl
theorem nt32 : Try.f32.ntmps = 15 := by kernel_rfl
theorem res32 : compRes Try.prog Try.f32.results.toList = some [.tmp 2] := by kernel_rfl
attribute [go_sem] zr32_0 zr32_1 zr32_2
def o32 (p1 : List (List UInt8 × Item)) (p2 : List (List UInt8 × Span)) (p3 : List (List UInt8 × Item)) (p4 : Int) (p5 : List Item) (p6 : List (List UInt8)) (b900 : Nat) (b901 : Nat) (b902 : Nat) (b903 : Nat) (o904 : Option Nat) (o905 : Option Nat) (r : Bool × Int) : Res → Own → Prop := fun q o => q = .val (.bool r.1) ∧ o = (900, b900, .cells ([.mapv 901 b901, .mapv 902 b902, .mapv 903 b903, .int .i64 r.2, accV 904 o904 (List.length p5) 33, accV 905 o905 (List.length p6) 1])) :: (901, b901, .map (List.map (fun p => (AV.str p.1, .agg (Item.cs p.2))) p1)) :: (902, b902, .map (List.map (fun p => (AV.str p.1, .agg (Span.cs p.2))) p2)) :: (903, b903, .map (List.map (fun p => (AV.str p.1, .agg (Item.cs p.2))) p3)) :: accO 904 o904 (flt Item.av p5) (accO 905 o905 (flt AV.str p6) [])
def s32 (N : Nat) (p1 : List (List UInt8 × Item)) (p2 : List (List UInt8 × Span)) (p3 : List (List UInt8 × Item)) (p4 : Int) (p5 : List Item) (p6 : List (List UInt8)) : Option (Bool × Int) :=
  some (decide (600 < IntKind.wrap .i64 (p4 + 1)), IntKind.wrap .i64 (p4 + 1))
set_option maxHeartbeats 4000000 in
theorem c32 (N : Nat) (p1 : List (List UInt8 × Item)) (p2 : List (List UInt8 × Span)) (p3 : List (List UInt8 × Item)) (p4 : Int) (p5 : List Item) (p6 : List (List UInt8)) (b900 : Nat) (b901 : Nat) (b902 : Nat) (b903 : Nat) (o904 : Option Nat) (h904 : o904 = none → p5 = []) (o905 : Option Nat) (h905 : o905 = none → p6 = []) (r : Bool × Int) (h : s32 N p1 p2 p3 p4 p5 p6 = some r) : FnC Try.prog 32 [.ptr 900 b900 0] ((900, b900, .cells ([.mapv 901 b901, .mapv 902 b902, .mapv 903 b903, .int .i64 p4, accV 904 o904 (List.length p5) 33, accV 905 o905 (List.length p6) 1])) :: (901, b901, .map (List.map (fun p => (AV.str p.1, .agg (Item.cs p.2))) p1)) :: (902, b902, .map (List.map (fun p => (AV.str p.1, .agg (Span.cs p.2))) p2)) :: (903, b903, .map (List.map (fun p => (AV.str p.1, .agg (Item.cs p.2))) p3)) :: accO 904 o904 (flt Item.av p5) (accO 905 o905 (flt AV.str p6) [])) (o32 p1 p2 p3 p4 p5 p6 b900 b901 b902 b903 o904 o905 r) := by
 refine fn_intro' 15 Try.func32 nt32 ok32 res32 (by simp) fun X hP hn hd hr => ?_
 unfold s32 at h
 repeat refine awp_seq ?_
 refine rg (h := ?_)
 repeat refine awp_seq ?_
 refine rg (h := ?_)
 repeat refine awp_seq ?_
 refine rg (h := ?_)
 obtain rfl := som_inj h
 repeat refine awp_seq ?_
 refine awp_le' (s' := [(2, .bool (decide (600 < IntKind.wrap .i64 (p4 + 1))))]) (own' := (900, b900, .cells ([.mapv 901 b901, .mapv 902 b902, .mapv 903 b903, .int .i64 (IntKind.wrap .i64 (p4 + 1)), accV 904 o904 (List.length p5) 33, accV 905 o905 (List.length p6) 1])) :: (901, b901, .map (List.map (fun p => (AV.str p.1, .agg (Item.cs p.2))) p1)) :: (902, b902, .map (List.map (fun p => (AV.str p.1, .agg (Span.cs p.2))) p2)) :: (903, b903, .map (List.map (fun p => (AV.str p.1, .agg (Item.cs p.2))) p3)) :: accO 904 o904 (flt Item.av p5) (accO 905 o905 (flt AV.str p6) [])) ([]) (_ :: _ :: _ :: _ :: accO _ _ _ (accO _ _ _ [])) (_ :: _ :: _ :: _ :: accO _ _ _ (accO _ _ _ [])) rfl (List.Perm.refl _) ?_ ?_ ?_
 · simp -implicitDefEqProofs (disch := first | omega | rfl) only [go_sem, simprocAttr, subF_cons, subF_nil]
   exact (.keep _)
 · exact (.cell (.map' (by first | rfl | simp) (.map' (by first | rfl | simp) (.map' (by first | rfl | simp) (.acc (FrzP.refl _ _) (.acc (FrzP.refl _ _) .nil))))))
 refine awp_ret ?_
 repeat' (first | refine then_ret ?_ | refine blk_ret ?_)
 refine ret_q ?_
 simp -implicitDefEqProofs (disch := first | omega | rfl) only [go_sem, simprocAttr]
 exact leaves_own (G := o32 p1 p2 p3 p4 p5 p6 b900 b901 b902 b903 o904 o905 ((decide (600 < IntKind.wrap .i64 (p4 + 1)), IntKind.wrap .i64 (p4 + 1)))) ⟨rfl, rfl⟩
def zr38_0 : List AO := [⟨some 4, none, .mov (.c (.int .i64 0))⟩]
def zr38_1 : List AO := [⟨some 6, none, .mov (.t 0)⟩,
  ⟨some 7, none, .len (.t 6)⟩,
  ⟨some 8, none, .mov (.c (.int .i64 0))⟩]
def zr38_2 : List AO := [⟨some 9, none, .bin .lss (.t 8) (.t 7)⟩]
def zr38_3 : List AO := [⟨some 10, none, .mov (.t 8)⟩,
  ⟨some 5, none, .mov (.t 10)⟩]
def zr38_4 : List AO := [⟨some 11, none, .mov (.t 1)⟩,
  ⟨some 12, none, .mov (.t 0)⟩,
  ⟨some 13, none, .mov (.t 5)⟩,
  ⟨some 14, none, .iadr 1 (.t 12) (.t 13)⟩,
  ⟨some 15, none, .load false 1 (.t 14)⟩,
  ⟨some 16, none, .bin .eql (.t 11) (.t 15)⟩]
def zr38_5 : List AO := [⟨some 17, none, .mov (.t 5)⟩,
  ⟨some 4, none, .mov (.t 17)⟩]
def zc38_0 : AC := .seq (.reg zr38_5) .ret
def zc38_1 : AC := .cond (.t 16) zc38_0 .skip
def zc38_2 : AC := .seq (.reg zr38_4) zc38_1
def zc38_3 : AC := .seq (.reg zr38_3) zc38_2
def zr38_6 : List AO := [⟨some 18, none, .bin .add (.t 8) (.c (.int .i64 1))⟩,
  ⟨some 8, none, .mov (.t 18)⟩]
def zc38_4 : AC := .reg zr38_6
def zc38_5 : AC := .seq (.block 1 zc38_3) zc38_4
def zc38_6 : AC := .seq (.cond (.t 9) .skip (.exit 0)) zc38_5
def zc38_7 : AC := .seq (.reg zr38_2) zc38_6
def zc38_8 : AC := .loop zc38_7
def zc38_9 : AC := .block 0 zc38_8
def zr38_7 : List AO := [⟨some 4, none, .mov (.c (.int .i64 (-1)))⟩]
def zc38_10 : AC := .seq (.reg zr38_7) .ret
def zc38_11 : AC := .seq (.seq (.reg zr38_1) zc38_9) zc38_10
def zc38_12 : AC := .seq (.reg zr38_0) zc38_11
def zc38 : AC := zc38_12
theorem ok38 : Try.f38.body.bind (compCode Try.prog 19) = some zc38 := by kernel_rfl
theorem nt38 : Try.f38.ntmps = 19 := by kernel_rfl
theorem res38 : compRes Try.prog Try.f38.results.toList = some [.tmp 4] := by kernel_rfl
attribute [go_sem] zr38_0 zr38_1 zr38_2 zr38_3 zr38_4 zr38_5 zr38_6 zr38_7
def s38_b1 (N : Nat) (p1 : List (List UInt8)) (p2 : List UInt8) (x1 : Int) : Option (((Int) ⊕ (Ou (Unit) (Int)))) :=
  if x1 < (List.length p1 : Int) then
    grd (0 ≤ x1) <|
    if p2 = p1[x1.toNat]! then
      some (.inr (.ret x1))
    else
      some (.inl (IntKind.wrap .i64 (x1 + 1)))
  else
    some (.inr (.brk ()))
def s38 (N : Nat) (p1 : List (List UInt8)) (p2 : List UInt8) : Option Int :=
  (iter (fun p => s38_b1 N p1 p2 p) N 0).bind fun o2 => o2.on (fun a2 =>
    some (-1))
    (fun a2r => some a2r)
set_option maxHeartbeats 4000000 in
theorem c38 (N : Nat) (p1 : List (List UInt8)) (p2 : List UInt8) (r : Int) (h : s38 N p1 p2 = some r) : PureC Try.prog 38 [.sl (List.map AV.str p1), .str p2] (.int .i64 r) := by
 refine fn_intro' 19 Try.func38 nt38 ok38 res38 (by simp) fun X hP hn hd hr => ?_
 unfold s38 at h
 repeat refine awp_seq ?_
 refine rg (h := ?_)
 repeat refine awp_seq ?_
 refine rg (h := ?_)
 repeat refine awp_seq ?_
 refine awp_block ?_
 obtain ⟨o2, ho2, hO2⟩ := bnd_some h
 repeat refine awp_seq ?_
 refine awp_loop (ι := {p : Nat × Int // iter (fun p => s38_b1 N p1 p2 p) p.1 p.2 = some o2}) (fun p => [(0, .sl (List.map AV.str p1)), (1, .str p2), (7, .int .i64 (List.length p1 : Int)), (8, .int .i64 p.1.2)]) (fun p => []) (fun p => p.1.1) ⟨⟨N, 0⟩, ho2⟩ ?_ ?_
 · refine ent_le' ([]) ([]) ([]) rfl (List.Perm.refl _) ?_ ?_
   · simp -implicitDefEqProofs (disch := first | omega | rfl) only [go_sem, simprocAttr, subF_cons, subF_nil]
     exact ⟨(.keep _), (.keep _), (.keep _), (.keep _)⟩
   · exact .nil
 rintro ⟨⟨n2, x1⟩, hi2⟩
 obtain ⟨m2, q2, rfl, h, hm2⟩ := iter_some hi2
 try dsimp only at h
 try dsimp only
 unfold s38_b1 at h
 repeat refine awp_seq ?_
 refine rg (h := ?_)
 rcases ite_some h with ⟨hc3, h⟩ | ⟨hc3, h⟩
 · repeat refine awp_seq ?_
   refine awp_then (by simp -implicitDefEqProofs (disch := first | omega | rfl) only [go_sem, simprocAttr, eq_true hc3]) ?_
   repeat refine awp_seq ?_
   refine awp_skip ?_
   repeat refine awp_seq ?_
   refine awp_block ?_
   repeat refine awp_seq ?_
   refine rg (h := ?_)
   repeat refine awp_seq ?_
   obtain ⟨hg4, h⟩ := grd_some h
   refine rgf (And.intro (eq_true hc3) (eq_true hg4)) ?_
   rcases ite_some h with ⟨hc5, h⟩ | ⟨hc5, h⟩
   · repeat refine awp_seq ?_
     refine awp_then (by simp -implicitDefEqProofs (disch := first | omega | rfl) only [go_sem, simprocAttr, eq_true hc5]) ?_
     repeat refine awp_seq ?_
     refine rg (h := ?_)
     obtain rfl := som_inj h
     try dsimp only at hm2
     subst hm2
     simp only [Ou.on_ret] at hO2
     obtain rfl := som_inj hO2
     repeat refine awp_seq ?_
     refine awp_ret ?_
     repeat first | refine then_ret ?_ | refine blk_ret ?_
     exact rtp
   repeat refine awp_seq ?_
   refine awp_else (by simp -implicitDefEqProofs (disch := first | omega | rfl) only [go_sem, simprocAttr, eq_false hc5]) ?_
   repeat refine awp_seq ?_
   refine awp_skip ?_
   repeat refine awp_seq ?_
   refine rg (h := ?_)
   obtain rfl := som_inj h
   try dsimp only at hm2
   refine ⟨⟨⟨m2, IntKind.wrap .i64 (x1 + 1)⟩, hm2⟩, Nat.lt_succ_self _, ?_⟩
   refine ent_le' ([]) ([]) ([]) rfl (List.Perm.refl _) ?_ ?_
   · simp -implicitDefEqProofs (disch := first | omega | rfl) only [go_sem, simprocAttr, subF_cons, subF_nil]
     exact ⟨(.keep _), (.keep _), (.keep _), (.keep _)⟩
   · exact .nil
 repeat refine awp_seq ?_
 refine awp_else (by simp -implicitDefEqProofs (disch := first | omega | rfl) only [go_sem, simprocAttr, eq_false hc3]) ?_
 repeat refine awp_seq ?_
 refine awp_exit ?_
 repeat' (first | refine then_exit ?_ | refine exit_here ?_ | refine exit_on rfl ?_)
 obtain rfl := som_inj h
 try dsimp only at hm2
 subst hm2
 simp only [Ou.on_brk] at hO2
 repeat refine awp_seq ?_
 refine rg (h := ?_)
 obtain rfl := som_inj hO2
 repeat refine awp_seq ?_
 refine awp_ret ?_
 repeat first | refine then_ret ?_ | refine blk_ret ?_
 exact rtp
def zr33_0 : List AO := [⟨some 4, none, .mov (.c (.bool false))⟩]
def zr33_1 : List AO := [⟨some 5, none, .mov (.t 0)⟩,
  ⟨some 6, none, .mov (.t 1)⟩,
  ⟨some 7, none, .callF 38 [(.t 5), (.t 6)]⟩,
  ⟨some 8, none, .bin .geq (.t 7) (.c (.int .i64 0))⟩,
  ⟨some 4, none, .mov (.t 8)⟩]
def zc33_0 : AC := .seq (.reg zr33_1) .ret
def zc33_1 : AC := .seq (.reg zr33_0) zc33_0
def zc33 : AC := zc33_1
theorem ok33 : Try.f33.body.bind (compCode Try.prog 9) = some zc33 := by kernel_rfl
theorem nt33 : Try.f33.ntmps = 9 := by kernel_rfl
theorem res33 : compRes Try.prog Try.f33.results.toList = some [.tmp 4] := by kernel_rfl
attribute [go_sem] zr33_0
def s33 (N : Nat) (p1 : List (List UInt8)) (p2 : List UInt8) : Option Bool :=
  (s38 N p1 p2).bind fun x1 =>
  some (decide (0 ≤ x1))
set_option maxHeartbeats 4000000 in
theorem c33 (N : Nat) (p1 : List (List UInt8)) (p2 : List UInt8) (r : Bool) (h : s33 N p1 p2 = some r) : PureC Try.prog 33 [.sl (List.map AV.str p1), .str p2] (.bool r) := by
 refine fn_intro' 9 Try.func33 nt33 ok33 res33 (by simp) fun X hP hn hd hr => ?_
 unfold s33 at h
 repeat refine awp_seq ?_
 refine rg (h := ?_)
 repeat refine awp_seq ?_
 refine awp_reg fun K Q hK hQ => ?_
 simp -implicitDefEqProofs (disch := first | omega | rfl) only [go_sem, simprocAttr, zr33_1]
 have hh := bnd_some h; clear h; obtain ⟨x1, hx2, h⟩ := hh
 refine call_pure hP (c38 N p1 p2 x1 hx2) ?_
 simp -implicitDefEqProofs (disch := first | omega | rfl) only [go_sem, simprocAttr]
 refine hK _ _ ?_; clear hK hQ K Q
 obtain rfl := som_inj h
 repeat refine awp_seq ?_
 refine awp_ret ?_
 repeat first | refine then_ret ?_ | refine blk_ret ?_
 exact rtp
def zr35_0 : List AO := [⟨some 2, none, .mov (.c (.bool false))⟩]
def zr35_1 : List AO := [⟨some 3, none, .mov (.t 0)⟩,
  ⟨some 4, none, .bin .geq (.t 3) (.c (.int .i64 9))⟩,
  ⟨some 5, none, .mov (.t 4)⟩,
  ⟨some 6, some (5, true), .mov (.t 0)⟩,
  ⟨some 7, some (5, true), .bin .leq (.t 6) (.c (.int .i64 12))⟩,
  ⟨some 8, none, .pick (.t 5) (.t 7) (.c (.bool false))⟩,
  ⟨some 2, none, .mov (.t 8)⟩]
def zc35_0 : AC := .seq (.reg zr35_1) .ret
def zc35_1 : AC := .seq (.reg zr35_0) zc35_0
def zc35 : AC := zc35_1
theorem ok35 : Try.f35.body.bind (compCode Try.prog 9) = some zc35 := by kernel_rfl
theorem nt35 : Try.f35.ntmps = 9 := by kernel_rfl
theorem res35 : compRes Try.prog Try.f35.results.toList = some [.tmp 2] := by kernel_rfl
attribute [go_sem] zr35_0 zr35_1
def s35 (N : Nat) (p1 : Int) : Option Bool :=
  if 9 ≤ p1 then
    some (decide (p1 ≤ 12))
  else
    some false
set_option maxHeartbeats 4000000 in
theorem c35 (N : Nat) (p1 : Int) (r : Bool) (h : s35 N p1 = some r) : PureC Try.prog 35 [.int .i64 p1] (.bool r) := by
 refine fn_intro' 9 Try.func35 nt35 ok35 res35 (by simp) fun X hP hn hd hr => ?_
 unfold s35 at h
 repeat refine awp_seq ?_
 refine rg (h := ?_)
 repeat refine awp_seq ?_
 rcases ite_some h with ⟨hc1, h⟩ | ⟨hc1, h⟩
 · refine rgf (eq_true hc1) ?_
   obtain rfl := som_inj h
   repeat refine awp_seq ?_
   refine awp_ret ?_
   repeat first | refine then_ret ?_ | refine blk_ret ?_
   exact rtp
 refine rgf (eq_false hc1) ?_
 obtain rfl := som_inj h
 repeat refine awp_seq ?_
 refine awp_ret ?_
 repeat first | refine then_ret ?_ | refine blk_ret ?_
 exact rtp
def zr39_0 : List AO := [⟨some 4, none, .mov (.c (.bool false))⟩]
def zr39_1 : DT := (.pur ⟨some 6, none, .fadr 31 (.t 1)⟩ (.pur ⟨some 7, none, .load false 1 (.t 6)⟩ (.alt false ⟨some 8, none, .mov (.t 0)⟩ (.alt false ⟨some 9, none, .nilc (.t 8)⟩ (.alt false ⟨some 10, none, .load false 1 (.t 9)⟩ (.alt false ⟨some 11, none, .callF 38 [(.t 7), (.t 10)]⟩ (.alt true ⟨some 5, none, .mov (.t 11)⟩ .done .stop) .stop) .stop) .stop) .stop)))
def zr39_2 : List AO := [⟨some 12, none, .mov (.t 0)⟩,
  ⟨some 13, none, .nilc (.t 12)⟩,
  ⟨some 14, none, .load false 1 (.t 13)⟩,
  ⟨some 15, none, .bin .eql (.t 14) (.c (.str []))⟩,
  ⟨some 16, none, .mov (.t 15)⟩,
  ⟨some 17, some (16, false), .mov (.t 5)⟩,
  ⟨some 18, some (16, false), .bin .lss (.t 17) (.c (.int .i64 0))⟩,
  ⟨some 19, none, .pick (.t 16) (.c (.bool true)) (.t 18)⟩]
def zr39_3 : List AO := [⟨some 4, none, .mov (.c (.bool false))⟩]
def zc39_0 : AC := .seq (.reg zr39_3) .ret
def zc39_1 : AC := .cond (.t 19) zc39_0 .skip
def zr39_4 : List AO := [⟨some 20, none, .mov (.t 0)⟩,
  ⟨some 21, none, .fadr 31 (.t 2)⟩,
  ⟨some 22, none, .load false 1 (.t 21)⟩,
  ⟨some 23, none, .mov (.t 5)⟩,
  ⟨some 24, none, .iadr 1 (.t 22) (.t 23)⟩,
  ⟨some 25, none, .load false 1 (.t 24)⟩,
  ⟨some 26, none, .nilc (.t 20)⟩,
  ⟨none, none, .store 1 (.t 26) (.t 25)⟩]
def zr39_5 : List AO := [⟨some 4, none, .mov (.c (.bool true))⟩]
def zc39_2 : AC := .seq (.reg zr39_5) .ret
def zc39_3 : AC := .seq (.reg zr39_4) zc39_2
def zc39_4 : AC := .seq (.seq (.reg zr39_2) zc39_1) zc39_3
def zc39_5 : AC := .seq (.regD zr39_1) zc39_4
def zc39_6 : AC := .seq (.reg zr39_0) zc39_5
def zc39 : AC := zc39_6
theorem ok39 : Try.f39.body.bind (compCode Try.prog 27) = some zc39 := by kernel_rfl
theorem nt39 : Try.f39.ntmps = 27 := by kernel_rfl
theorem res39 : compRes Try.prog Try.f39.results.toList = some [.tmp 4] := by kernel_rfl
attribute [go_sem] zr39_0 zr39_2 zr39_3 zr39_4 zr39_5
def o39 (p1 : Item) (p2 : Item) (p3 : Item) (b900 : Nat) (r : Bool × Item) : Res → Own → Prop := fun q o => q = .val (.bool r.1) ∧ o = (900, b900, .cells (Item.cs r.2)) :: []
def s39 (N : Nat) (p1 : Item) (p2 : Item) (p3 : Item) : Option (Bool × Item) :=
  (s38 N p2.Names p1.Of).bind fun x1 =>
  if p1.Of = [] then
    some (false, p1)
  else
    if x1 < 0 then
      some (false, p1)
    else
      grd (0 ≤ x1 ∧ x1 < (List.length p3.Names : Int)) <|
      some (true, { p1 with Of := p3.Names[x1.toNat]! })
set_option maxHeartbeats 4000000 in
theorem c39 (N : Nat) (p1 : Item) (p2 : Item) (p3 : Item) (b900 : Nat) (r : Bool × Item) (h : s39 N p1 p2 p3 = some r) : FnC Try.prog 39 [.ptr 900 b900 3, .ref (Item.cs p2), .ref (Item.cs p3)] ((900, b900, .cells (Item.cs p1)) :: []) (o39 p1 p2 p3 b900 r) := by
 refine fn_intro' 27 Try.func39 nt39 ok39 res39 (by simp) fun X hP hn hd hr => ?_
 unfold s39 at h
 repeat refine awp_seq ?_
 refine rg (h := ?_)
 repeat refine awp_seq ?_
 refine awp_regD' (_ :: []) ([]) (_ :: []) (by rw [hP]; exact mixed) rfl (List.Perm.refl _) fun K hK => ?_
 simp -implicitDefEqProofs (disch := first | omega | rfl) only [go_sem, simprocAttr, zr39_1]
 have hh := bnd_some h; clear h; obtain ⟨x1, hx2, h⟩ := hh
 refine call_pure hP (c38 N p2.Names p1.Of x1 hx2) ?_
 simp -implicitDefEqProofs (disch := first | omega | rfl) only [go_sem, simprocAttr]
 refine hK _ _ ?_; clear hK K
 repeat refine awp_seq ?_
 rcases ite_some h with ⟨hc3, h⟩ | ⟨hc3, h⟩
 · refine rgf (eq_true hc3) ?_
   repeat refine awp_seq ?_
   refine awp_then (by rfl) ?_
   repeat refine awp_seq ?_
   refine rg (h := ?_)
   obtain rfl := som_inj h
   repeat refine awp_seq ?_
   refine awp_le' (s' := [(4, .bool false)]) (own' := (900, b900, .cells (Item.cs p1)) :: []) ([]) (_ :: []) (_ :: []) rfl (List.Perm.refl _) ?_ ?_ ?_
   · simp -implicitDefEqProofs (disch := first | omega | rfl) only [go_sem, simprocAttr, subF_cons, subF_nil]
     exact (.keep _)
   · exact (.cell .nil)
   refine awp_ret ?_
   repeat' (first | refine then_ret ?_ | refine blk_ret ?_)
   refine ret_q ?_
   simp -implicitDefEqProofs (disch := first | omega | rfl) only [go_sem, simprocAttr]
   exact leaves_own (G := o39 p1 p2 p3 b900 (false, p1)) ⟨rfl, rfl⟩
 refine rgf (eq_false hc3) ?_
 rcases ite_some h with ⟨hc4, h⟩ | ⟨hc4, h⟩
 · repeat refine awp_seq ?_
   refine awp_then (by simp -implicitDefEqProofs (disch := first | omega | rfl) only [go_sem, simprocAttr, eq_true hc4]) ?_
   repeat refine awp_seq ?_
   refine rg (h := ?_)
   obtain rfl := som_inj h
   repeat refine awp_seq ?_
   refine awp_le' (s' := [(4, .bool false)]) (own' := (900, b900, .cells (Item.cs p1)) :: []) ([]) (_ :: []) (_ :: []) rfl (List.Perm.refl _) ?_ ?_ ?_
   · simp -implicitDefEqProofs (disch := first | omega | rfl) only [go_sem, simprocAttr, subF_cons, subF_nil]
     exact (.keep _)
   · exact (.cell .nil)
   refine awp_ret ?_
   repeat' (first | refine then_ret ?_ | refine blk_ret ?_)
   refine ret_q ?_
   simp -implicitDefEqProofs (disch := first | omega | rfl) only [go_sem, simprocAttr]
   exact leaves_own (G := o39 p1 p2 p3 b900 (false, p1)) ⟨rfl, rfl⟩
 repeat refine awp_seq ?_
 refine awp_else (by simp -implicitDefEqProofs (disch := first | omega | rfl) only [go_sem, simprocAttr, eq_false hc4]) ?_
 repeat refine awp_seq ?_
 refine awp_skip ?_
 repeat refine awp_seq ?_
 obtain ⟨⟨hg5, hg6⟩, h⟩ := grd_some h
 refine rgf (And.intro (eq_true hg5) (eq_true hg6)) ?_
 repeat refine awp_seq ?_
 refine rg (h := ?_)
 obtain rfl := som_inj h
 repeat refine awp_seq ?_
 refine awp_le' (s' := [(4, .bool true)]) (own' := (900, b900, .cells (Item.cs ({ p1 with Of := p3.Names[x1.toNat]! }))) :: []) ([]) (_ :: []) (_ :: []) rfl (List.Perm.refl _) ?_ ?_ ?_
 · simp -implicitDefEqProofs (disch := first | omega | rfl) only [go_sem, simprocAttr, subF_cons, subF_nil]
   exact (.keep _)
 · exact (.cell .nil)
 refine awp_ret ?_
 repeat' (first | refine then_ret ?_ | refine blk_ret ?_)
 refine ret_q ?_
 simp -implicitDefEqProofs (disch := first | omega | rfl) only [go_sem, simprocAttr]
 exact leaves_own (G := o39 p1 p2 p3 b900 (true, { p1 with Of := p3.Names[x1.toNat]! })) ⟨rfl, rfl⟩
def o39_2 (p1 : Item) (p2 : Item) (p3 : Item) (b900 : Nat) (r : Bool × Item) : Res → Own → Prop := fun q o => q = .val (.bool r.1) ∧ o = (900, b900, .cells (Item.cs r.2)) :: []
def s39_2 (N : Nat) (p1 : Item) (p2 : Item) (p3 : Item) : Option (Bool × Item) :=
  (s38 N p2.Names p1.Act).bind fun x1 =>
  if p1.Act = [] then
    some (false, p1)
  else
    if x1 < 0 then
      some (false, p1)
    else
      grd (0 ≤ x1 ∧ x1 < (List.length p3.Names : Int)) <|
      some (true, { p1 with Act := p3.Names[x1.toNat]! })
set_option maxHeartbeats 4000000 in
theorem c39_2 (N : Nat) (p1 : Item) (p2 : Item) (p3 : Item) (b900 : Nat) (r : Bool × Item) (h : s39_2 N p1 p2 p3 = some r) : FnC Try.prog 39 [.ptr 900 b900 4, .ref (Item.cs p2), .ref (Item.cs p3)] ((900, b900, .cells (Item.cs p1)) :: []) (o39_2 p1 p2 p3 b900 r) := by
 refine fn_intro' 27 Try.func39 nt39 ok39 res39 (by simp) fun X hP hn hd hr => ?_
 unfold s39_2 at h
 repeat refine awp_seq ?_
 refine rg (h := ?_)
 repeat refine awp_seq ?_
 refine awp_regD' (_ :: []) ([]) (_ :: []) (by rw [hP]; exact mixed) rfl (List.Perm.refl _) fun K hK => ?_
 simp -implicitDefEqProofs (disch := first | omega | rfl) only [go_sem, simprocAttr, zr39_1]
 have hh := bnd_some h; clear h; obtain ⟨x1, hx2, h⟩ := hh
 refine call_pure hP (c38 N p2.Names p1.Act x1 hx2) ?_
 simp -implicitDefEqProofs (disch := first | omega | rfl) only [go_sem, simprocAttr]
 refine hK _ _ ?_; clear hK K
 repeat refine awp_seq ?_
 rcases ite_some h with ⟨hc3, h⟩ | ⟨hc3, h⟩
 · refine rgf (eq_true hc3) ?_
   repeat refine awp_seq ?_
   refine awp_then (by rfl) ?_
   repeat refine awp_seq ?_
   refine rg (h := ?_)
   obtain rfl := som_inj h
   repeat refine awp_seq ?_
   refine awp_le' (s' := [(4, .bool false)]) (own' := (900, b900, .cells (Item.cs p1)) :: []) ([]) (_ :: []) (_ :: []) rfl (List.Perm.refl _) ?_ ?_ ?_
   · simp -implicitDefEqProofs (disch := first | omega | rfl) only [go_sem, simprocAttr, subF_cons, subF_nil]
     exact (.keep _)
   · exact (.cell .nil)
   refine awp_ret ?_
   repeat' (first | refine then_ret ?_ | refine blk_ret ?_)
   refine ret_q ?_
   simp -implicitDefEqProofs (disch := first | omega | rfl) only [go_sem, simprocAttr]
   exact leaves_own (G := o39_2 p1 p2 p3 b900 (false, p1)) ⟨rfl, rfl⟩
 refine rgf (eq_false hc3) ?_
 rcases ite_some h with ⟨hc4, h⟩ | ⟨hc4, h⟩
 · repeat refine awp_seq ?_
   refine awp_then (by simp -implicitDefEqProofs (disch := first | omega | rfl) only [go_sem, simprocAttr, eq_true hc4]) ?_
   repeat refine awp_seq ?_
   refine rg (h := ?_)
   obtain rfl := som_inj h
   repeat refine awp_seq ?_
   refine awp_le' (s' := [(4, .bool false)]) (own' := (900, b900, .cells (Item.cs p1)) :: []) ([]) (_ :: []) (_ :: []) rfl (List.Perm.refl _) ?_ ?_ ?_
   · simp -implicitDefEqProofs (disch := first | omega | rfl) only [go_sem, simprocAttr, subF_cons, subF_nil]
     exact (.keep _)
   · exact (.cell .nil)
   refine awp_ret ?_
   repeat' (first | refine then_ret ?_ | refine blk_ret ?_)
   refine ret_q ?_
   simp -implicitDefEqProofs (disch := first | omega | rfl) only [go_sem, simprocAttr]
   exact leaves_own (G := o39_2 p1 p2 p3 b900 (false, p1)) ⟨rfl, rfl⟩
 repeat refine awp_seq ?_
 refine awp_else (by simp -implicitDefEqProofs (disch := first | omega | rfl) only [go_sem, simprocAttr, eq_false hc4]) ?_
 repeat refine awp_seq ?_
 refine awp_skip ?_
 repeat refine awp_seq ?_
 obtain ⟨⟨hg5, hg6⟩, h⟩ := grd_some h
 refine rgf (And.intro (eq_true hg5) (eq_true hg6)) ?_
 repeat refine awp_seq ?_
 refine rg (h := ?_)
 obtain rfl := som_inj h
 repeat refine awp_seq ?_
 refine awp_le' (s' := [(4, .bool true)]) (own' := (900, b900, .cells (Item.cs ({ p1 with Act := p3.Names[x1.toNat]! }))) :: []) ([]) (_ :: []) (_ :: []) rfl (List.Perm.refl _) ?_ ?_ ?_
 · simp -implicitDefEqProofs (disch := first | omega | rfl) only [go_sem, simprocAttr, subF_cons, subF_nil]
   exact (.keep _)
 · exact (.cell .nil)
 refine awp_ret ?_
 repeat' (first | refine then_ret ?_ | refine blk_ret ?_)
 refine ret_q ?_
 simp -implicitDefEqProofs (disch := first | omega | rfl) only [go_sem, simprocAttr]
 exact leaves_own (G := o39_2 p1 p2 p3 b900 (true, { p1 with Act := p3.Names[x1.toNat]! })) ⟨rfl, rfl⟩
def o39_3 (p1 : Item) (p2 : Item) (p3 : Item) (b900 : Nat) (r : Bool × Item) : Res → Own → Prop := fun q o => q = .val (.bool r.1) ∧ o = (900, b900, .cells (Item.cs r.2)) :: []
def s39_3 (N : Nat) (p1 : Item) (p2 : Item) (p3 : Item) : Option (Bool × Item) :=
  (s38 N p2.Names p1.By).bind fun x1 =>
  if p1.By = [] then
    some (false, p1)
  else
    if x1 < 0 then
      some (false, p1)
    else
      grd (0 ≤ x1 ∧ x1 < (List.length p3.Names : Int)) <|
      some (true, { p1 with By := p3.Names[x1.toNat]! })
set_option maxHeartbeats 4000000 in
theorem c39_3 (N : Nat) (p1 : Item) (p2 : Item) (p3 : Item) (b900 : Nat) (r : Bool × Item) (h : s39_3 N p1 p2 p3 = some r) : FnC Try.prog 39 [.ptr 900 b900 14, .ref (Item.cs p2), .ref (Item.cs p3)] ((900, b900, .cells (Item.cs p1)) :: []) (o39_3 p1 p2 p3 b900 r) := by
 refine fn_intro' 27 Try.func39 nt39 ok39 res39 (by simp) fun X hP hn hd hr => ?_
 unfold s39_3 at h
 repeat refine awp_seq ?_
 refine rg (h := ?_)
 repeat refine awp_seq ?_
 refine awp_regD' (_ :: []) ([]) (_ :: []) (by rw [hP]; exact mixed) rfl (List.Perm.refl _) fun K hK => ?_
 simp -implicitDefEqProofs (disch := first | omega | rfl) only [go_sem, simprocAttr, zr39_1]
 have hh := bnd_some h; clear h; obtain ⟨x1, hx2, h⟩ := hh
 refine call_pure hP (c38 N p2.Names p1.By x1 hx2) ?_
 simp -implicitDefEqProofs (disch := first | omega | rfl) only [go_sem, simprocAttr]
 refine hK _ _ ?_; clear hK K
 repeat refine awp_seq ?_
 rcases ite_some h with ⟨hc3, h⟩ | ⟨hc3, h⟩
 · refine rgf (eq_true hc3) ?_
   repeat refine awp_seq ?_
   refine awp_then (by rfl) ?_
   repeat refine awp_seq ?_
   refine rg (h := ?_)
   obtain rfl := som_inj h
   repeat refine awp_seq ?_
   refine awp_le' (s' := [(4, .bool false)]) (own' := (900, b900, .cells (Item.cs p1)) :: []) ([]) (_ :: []) (_ :: []) rfl (List.Perm.refl _) ?_ ?_ ?_
   · simp -implicitDefEqProofs (disch := first | omega | rfl) only [go_sem, simprocAttr, subF_cons, subF_nil]
     exact (.keep _)
   · exact (.cell .nil)
   refine awp_ret ?_
   repeat' (first | refine then_ret ?_ | refine blk_ret ?_)
   refine ret_q ?_
   simp -implicitDefEqProofs (disch := first | omega | rfl) only [go_sem, simprocAttr]
   exact leaves_own (G := o39_3 p1 p2 p3 b900 (false, p1)) ⟨rfl, rfl⟩
 refine rgf (eq_false hc3) ?_
 rcases ite_some h with ⟨hc4, h⟩ | ⟨hc4, h⟩
 · repeat refine awp_seq ?_
   refine awp_then (by simp -implicitDefEqProofs (disch := first | omega | rfl) only [go_sem, simprocAttr, eq_true hc4]) ?_
   repeat refine awp_seq ?_
   refine rg (h := ?_)
   obtain rfl := som_inj h
   repeat refine awp_seq ?_
   refine awp_le' (s' := [(4, .bool false)]) (own' := (900, b900, .cells (Item.cs p1)) :: []) ([]) (_ :: []) (_ :: []) rfl (List.Perm.refl _) ?_ ?_ ?_
   · simp -implicitDefEqProofs (disch := first | omega | rfl) only [go_sem, simprocAttr, subF_cons, subF_nil]
     exact (.keep _)
   · exact (.cell .nil)
   refine awp_ret ?_
   repeat' (first | refine then_ret ?_ | refine blk_ret ?_)
   refine ret_q ?_
   simp -implicitDefEqProofs (disch := first | omega | rfl) only [go_sem, simprocAttr]
   exact leaves_own (G := o39_3 p1 p2 p3 b900 (false, p1)) ⟨rfl, rfl⟩
 repeat refine awp_seq ?_
 refine awp_else (by simp -implicitDefEqProofs (disch := first | omega | rfl) only [go_sem, simprocAttr, eq_false hc4]) ?_
 repeat refine awp_seq ?_
 refine awp_skip ?_
 repeat refine awp_seq ?_
 obtain ⟨⟨hg5, hg6⟩, h⟩ := grd_some h
 refine rgf (And.intro (eq_true hg5) (eq_true hg6)) ?_
 repeat refine awp_seq ?_
 refine rg (h := ?_)
 obtain rfl := som_inj h
 repeat refine awp_seq ?_
 refine awp_le' (s' := [(4, .bool true)]) (own' := (900, b900, .cells (Item.cs ({ p1 with By := p3.Names[x1.toNat]! }))) :: []) ([]) (_ :: []) (_ :: []) rfl (List.Perm.refl _) ?_ ?_ ?_
 · simp -implicitDefEqProofs (disch := first | omega | rfl) only [go_sem, simprocAttr, subF_cons, subF_nil]
   exact (.keep _)
 · exact (.cell .nil)
 refine awp_ret ?_
 repeat' (first | refine then_ret ?_ | refine blk_ret ?_)
 refine ret_q ?_
 simp -implicitDefEqProofs (disch := first | omega | rfl) only [go_sem, simprocAttr]
 exact leaves_own (G := o39_3 p1 p2 p3 b900 (true, { p1 with By := p3.Names[x1.toNat]! })) ⟨rfl, rfl⟩
def o39_4 (p1 : Item) (p2 : Item) (p3 : Item) (b900 : Nat) (r : Bool × Item) : Res → Own → Prop := fun q o => q = .val (.bool r.1) ∧ o = (900, b900, .cells (Item.cs r.2)) :: []
def s39_4 (N : Nat) (p1 : Item) (p2 : Item) (p3 : Item) : Option (Bool × Item) :=
  (s38 N p2.Names p1.Until).bind fun x1 =>
  if p1.Until = [] then
    some (false, p1)
  else
    if x1 < 0 then
      some (false, p1)
    else
      grd (0 ≤ x1 ∧ x1 < (List.length p3.Names : Int)) <|
      some (true, { p1 with Until := p3.Names[x1.toNat]! })
set_option maxHeartbeats 4000000 in
theorem c39_4 (N : Nat) (p1 : Item) (p2 : Item) (p3 : Item) (b900 : Nat) (r : Bool × Item) (h : s39_4 N p1 p2 p3 = some r) : FnC Try.prog 39 [.ptr 900 b900 15, .ref (Item.cs p2), .ref (Item.cs p3)] ((900, b900, .cells (Item.cs p1)) :: []) (o39_4 p1 p2 p3 b900 r) := by
 refine fn_intro' 27 Try.func39 nt39 ok39 res39 (by simp) fun X hP hn hd hr => ?_
 unfold s39_4 at h
 repeat refine awp_seq ?_
 refine rg (h := ?_)
 repeat refine awp_seq ?_
 refine awp_regD' (_ :: []) ([]) (_ :: []) (by rw [hP]; exact mixed) rfl (List.Perm.refl _) fun K hK => ?_
 simp -implicitDefEqProofs (disch := first | omega | rfl) only [go_sem, simprocAttr, zr39_1]
 have hh := bnd_some h; clear h; obtain ⟨x1, hx2, h⟩ := hh
 refine call_pure hP (c38 N p2.Names p1.Until x1 hx2) ?_
 simp -implicitDefEqProofs (disch := first | omega | rfl) only [go_sem, simprocAttr]
 refine hK _ _ ?_; clear hK K
 repeat refine awp_seq ?_
 rcases ite_some h with ⟨hc3, h⟩ | ⟨hc3, h⟩
 · refine rgf (eq_true hc3) ?_
   repeat refine awp_seq ?_
   refine awp_then (by rfl) ?_
   repeat refine awp_seq ?_
   refine rg (h := ?_)
   obtain rfl := som_inj h
   repeat refine awp_seq ?_
   refine awp_le' (s' := [(4, .bool false)]) (own' := (900, b900, .cells (Item.cs p1)) :: []) ([]) (_ :: []) (_ :: []) rfl (List.Perm.refl _) ?_ ?_ ?_
   · simp -implicitDefEqProofs (disch := first | omega | rfl) only [go_sem, simprocAttr, subF_cons, subF_nil]
     exact (.keep _)
   · exact (.cell .nil)
   refine awp_ret ?_
   repeat' (first | refine then_ret ?_ | refine blk_ret ?_)
   refine ret_q ?_
   simp -implicitDefEqProofs (disch := first | omega | rfl) only [go_sem, simprocAttr]
   exact leaves_own (G := o39_4 p1 p2 p3 b900 (false, p1)) ⟨rfl, rfl⟩
 refine rgf (eq_false hc3) ?_
 rcases ite_some h with ⟨hc4, h⟩ | ⟨hc4, h⟩
 · repeat refine awp_seq ?_
   refine awp_then (by simp -implicitDefEqProofs (disch := first | omega | rfl) only [go_sem, simprocAttr, eq_true hc4]) ?_
   repeat refine awp_seq ?_
   refine rg (h := ?_)
   obtain rfl := som_inj h
   repeat refine awp_seq ?_
   refine awp_le' (s' := [(4, .bool false)]) (own' := (900, b900, .cells (Item.cs p1)) :: []) ([]) (_ :: []) (_ :: []) rfl (List.Perm.refl _) ?_ ?_ ?_
   · simp -implicitDefEqProofs (disch := first | omega | rfl) only [go_sem, simprocAttr, subF_cons, subF_nil]
     exact (.keep _)
   · exact (.cell .nil)
   refine awp_ret ?_
   repeat' (first | refine then_ret ?_ | refine blk_ret ?_)
   refine ret_q ?_
   simp -implicitDefEqProofs (disch := first | omega | rfl) only [go_sem, simprocAttr]
   exact leaves_own (G := o39_4 p1 p2 p3 b900 (false, p1)) ⟨rfl, rfl⟩
 repeat refine awp_seq ?_
 refine awp_else (by simp -implicitDefEqProofs (disch := first | omega | rfl) only [go_sem, simprocAttr, eq_false hc4]) ?_
 repeat refine awp_seq ?_
 refine awp_skip ?_
 repeat refine awp_seq ?_
 obtain ⟨⟨hg5, hg6⟩, h⟩ := grd_some h
 refine rgf (And.intro (eq_true hg5) (eq_true hg6)) ?_
 repeat refine awp_seq ?_
 refine rg (h := ?_)
 obtain rfl := som_inj h
 repeat refine awp_seq ?_
 refine awp_le' (s' := [(4, .bool true)]) (own' := (900, b900, .cells (Item.cs ({ p1 with Until := p3.Names[x1.toNat]! }))) :: []) ([]) (_ :: []) (_ :: []) rfl (List.Perm.refl _) ?_ ?_ ?_
 · simp -implicitDefEqProofs (disch := first | omega | rfl) only [go_sem, simprocAttr, subF_cons, subF_nil]
   exact (.keep _)
 · exact (.cell .nil)
 refine awp_ret ?_
 repeat' (first | refine then_ret ?_ | refine blk_ret ?_)
 refine ret_q ?_
 simp -implicitDefEqProofs (disch := first | omega | rfl) only [go_sem, simprocAttr]
 exact leaves_own (G := o39_4 p1 p2 p3 b900 (true, { p1 with Until := p3.Names[x1.toNat]! })) ⟨rfl, rfl⟩
def o39_5 (p1 : Item) (p2 : Item) (p3 : Item) (b900 : Nat) (r : Bool × Item) : Res → Own → Prop := fun q o => q = .val (.bool r.1) ∧ o = (900, b900, .cells (Item.cs r.2)) :: []
def s39_5 (N : Nat) (p1 : Item) (p2 : Item) (p3 : Item) : Option (Bool × Item) :=
  (s38 N p2.Names p1.Unit).bind fun x1 =>
  if p1.Unit = [] then
    some (false, p1)
  else
    if x1 < 0 then
      some (false, p1)
    else
      grd (0 ≤ x1 ∧ x1 < (List.length p3.Names : Int)) <|
      some (true, { p1 with Unit := p3.Names[x1.toNat]! })
set_option maxHeartbeats 4000000 in
theorem c39_5 (N : Nat) (p1 : Item) (p2 : Item) (p3 : Item) (b900 : Nat) (r : Bool × Item) (h : s39_5 N p1 p2 p3 = some r) : FnC Try.prog 39 [.ptr 900 b900 18, .ref (Item.cs p2), .ref (Item.cs p3)] ((900, b900, .cells (Item.cs p1)) :: []) (o39_5 p1 p2 p3 b900 r) := by
 refine fn_intro' 27 Try.func39 nt39 ok39 res39 (by simp) fun X hP hn hd hr => ?_
 unfold s39_5 at h
 repeat refine awp_seq ?_
 refine rg (h := ?_)
 repeat refine awp_seq ?_
 refine awp_regD' (_ :: []) ([]) (_ :: []) (by rw [hP]; exact mixed) rfl (List.Perm.refl _) fun K hK => ?_
 simp -implicitDefEqProofs (disch := first | omega | rfl) only [go_sem, simprocAttr, zr39_1]
 have hh := bnd_some h; clear h; obtain ⟨x1, hx2, h⟩ := hh
 refine call_pure hP (c38 N p2.Names p1.Unit x1 hx2) ?_
 simp -implicitDefEqProofs (disch := first | omega | rfl) only [go_sem, simprocAttr]
 refine hK _ _ ?_; clear hK K
 repeat refine awp_seq ?_
 rcases ite_some h with ⟨hc3, h⟩ | ⟨hc3, h⟩
 · refine rgf (eq_true hc3) ?_
   repeat refine awp_seq ?_
   refine awp_then (by rfl) ?_
   repeat refine awp_seq ?_
   refine rg (h := ?_)
   obtain rfl := som_inj h
   repeat refine awp_seq ?_
   refine awp_le' (s' := [(4, .bool false)]) (own' := (900, b900, .cells (Item.cs p1)) :: []) ([]) (_ :: []) (_ :: []) rfl (List.Perm.refl _) ?_ ?_ ?_
   · simp -implicitDefEqProofs (disch := first | omega | rfl) only [go_sem, simprocAttr, subF_cons, subF_nil]
     exact (.keep _)
   · exact (.cell .nil)
   refine awp_ret ?_
   repeat' (first | refine then_ret ?_ | refine blk_ret ?_)
   refine ret_q ?_
   simp -implicitDefEqProofs (disch := first | omega | rfl) only [go_sem, simprocAttr]
   exact leaves_own (G := o39_5 p1 p2 p3 b900 (false, p1)) ⟨rfl, rfl⟩
 refine rgf (eq_false hc3) ?_
 rcases ite_some h with ⟨hc4, h⟩ | ⟨hc4, h⟩
 · repeat refine awp_seq ?_
   refine awp_then (by simp -implicitDefEqProofs (disch := first | omega | rfl) only [go_sem, simprocAttr, eq_true hc4]) ?_
   repeat refine awp_seq ?_
   refine rg (h := ?_)
   obtain rfl := som_inj h
   repeat refine awp_seq ?_
   refine awp_le' (s' := [(4, .bool false)]) (own' := (900, b900, .cells (Item.cs p1)) :: []) ([]) (_ :: []) (_ :: []) rfl (List.Perm.refl _) ?_ ?_ ?_
   · simp -implicitDefEqProofs (disch := first | omega | rfl) only [go_sem, simprocAttr, subF_cons, subF_nil]
     exact (.keep _)
   · exact (.cell .nil)
   refine awp_ret ?_
   repeat' (first | refine then_ret ?_ | refine blk_ret ?_)
   refine ret_q ?_
   simp -implicitDefEqProofs (disch := first | omega | rfl) only [go_sem, simprocAttr]
   exact leaves_own (G := o39_5 p1 p2 p3 b900 (false, p1)) ⟨rfl, rfl⟩
 repeat refine awp_seq ?_
 refine awp_else (by simp -implicitDefEqProofs (disch := first | omega | rfl) only [go_sem, simprocAttr, eq_false hc4]) ?_
 repeat refine awp_seq ?_
 refine awp_skip ?_
 repeat refine awp_seq ?_
 obtain ⟨⟨hg5, hg6⟩, h⟩ := grd_some h
 refine rgf (And.intro (eq_true hg5) (eq_true hg6)) ?_
 repeat refine awp_seq ?_
 refine rg (h := ?_)
 obtain rfl := som_inj h
 repeat refine awp_seq ?_
 refine awp_le' (s' := [(4, .bool true)]) (own' := (900, b900, .cells (Item.cs ({ p1 with Unit := p3.Names[x1.toNat]! }))) :: []) ([]) (_ :: []) (_ :: []) rfl (List.Perm.refl _) ?_ ?_ ?_
 · simp -implicitDefEqProofs (disch := first | omega | rfl) only [go_sem, simprocAttr, subF_cons, subF_nil]
   exact (.keep _)
 · exact (.cell .nil)
 refine awp_ret ?_
 repeat' (first | refine then_ret ?_ | refine blk_ret ?_)
 refine ret_q ?_
 simp -implicitDefEqProofs (disch := first | omega | rfl) only [go_sem, simprocAttr]
 exact leaves_own (G := o39_5 p1 p2 p3 b900 (true, { p1 with Unit := p3.Names[x1.toNat]! })) ⟨rfl, rfl⟩
def o39_6 (p1 : Item) (p2 : Item) (p3 : Item) (b900 : Nat) (r : Bool × Item) : Res → Own → Prop := fun q o => q = .val (.bool r.1) ∧ o = (900, b900, .cells (Item.cs r.2)) :: []
def s39_6 (N : Nat) (p1 : Item) (p2 : Item) (p3 : Item) : Option (Bool × Item) :=
  (s38 N p2.Names p1.Sum).bind fun x1 =>
  if p1.Sum = [] then
    some (false, p1)
  else
    if x1 < 0 then
      some (false, p1)
    else
      grd (0 ≤ x1 ∧ x1 < (List.length p3.Names : Int)) <|
      some (true, { p1 with Sum := p3.Names[x1.toNat]! })
set_option maxHeartbeats 4000000 in
theorem c39_6 (N : Nat) (p1 : Item) (p2 : Item) (p3 : Item) (b900 : Nat) (r : Bool × Item) (h : s39_6 N p1 p2 p3 = some r) : FnC Try.prog 39 [.ptr 900 b900 19, .ref (Item.cs p2), .ref (Item.cs p3)] ((900, b900, .cells (Item.cs p1)) :: []) (o39_6 p1 p2 p3 b900 r) := by
 refine fn_intro' 27 Try.func39 nt39 ok39 res39 (by simp) fun X hP hn hd hr => ?_
 unfold s39_6 at h
 repeat refine awp_seq ?_
 refine rg (h := ?_)
 repeat refine awp_seq ?_
 refine awp_regD' (_ :: []) ([]) (_ :: []) (by rw [hP]; exact mixed) rfl (List.Perm.refl _) fun K hK => ?_
 simp -implicitDefEqProofs (disch := first | omega | rfl) only [go_sem, simprocAttr, zr39_1]
 have hh := bnd_some h; clear h; obtain ⟨x1, hx2, h⟩ := hh
 refine call_pure hP (c38 N p2.Names p1.Sum x1 hx2) ?_
 simp -implicitDefEqProofs (disch := first | omega | rfl) only [go_sem, simprocAttr]
 refine hK _ _ ?_; clear hK K
 repeat refine awp_seq ?_
 rcases ite_some h with ⟨hc3, h⟩ | ⟨hc3, h⟩
 · refine rgf (eq_true hc3) ?_
   repeat refine awp_seq ?_
   refine awp_then (by rfl) ?_
   repeat refine awp_seq ?_
   refine rg (h := ?_)
   obtain rfl := som_inj h
   repeat refine awp_seq ?_
   refine awp_le' (s' := [(4, .bool false)]) (own' := (900, b900, .cells (Item.cs p1)) :: []) ([]) (_ :: []) (_ :: []) rfl (List.Perm.refl _) ?_ ?_ ?_
   · simp -implicitDefEqProofs (disch := first | omega | rfl) only [go_sem, simprocAttr, subF_cons, subF_nil]
     exact (.keep _)
   · exact (.cell .nil)
   refine awp_ret ?_
   repeat' (first | refine then_ret ?_ | refine blk_ret ?_)
   refine ret_q ?_
   simp -implicitDefEqProofs (disch := first | omega | rfl) only [go_sem, simprocAttr]
   exact leaves_own (G := o39_6 p1 p2 p3 b900 (false, p1)) ⟨rfl, rfl⟩
 refine rgf (eq_false hc3) ?_
 rcases ite_some h with ⟨hc4, h⟩ | ⟨hc4, h⟩
 · repeat refine awp_seq ?_
   refine awp_then (by simp -implicitDefEqProofs (disch := first | omega | rfl) only [go_sem, simprocAttr, eq_true hc4]) ?_
   repeat refine awp_seq ?_
   refine rg (h := ?_)
   obtain rfl := som_inj h
   repeat refine awp_seq ?_
   refine awp_le' (s' := [(4, .bool false)]) (own' := (900, b900, .cells (Item.cs p1)) :: []) ([]) (_ :: []) (_ :: []) rfl (List.Perm.refl _) ?_ ?_ ?_
   · simp -implicitDefEqProofs (disch := first | omega | rfl) only [go_sem, simprocAttr, subF_cons, subF_nil]
     exact (.keep _)
   · exact (.cell .nil)
   refine awp_ret ?_
   repeat' (first | refine then_ret ?_ | refine blk_ret ?_)
   refine ret_q ?_
   simp -implicitDefEqProofs (disch := first | omega | rfl) only [go_sem, simprocAttr]
   exact leaves_own (G := o39_6 p1 p2 p3 b900 (false, p1)) ⟨rfl, rfl⟩
 repeat refine awp_seq ?_
 refine awp_else (by simp -implicitDefEqProofs (disch := first | omega | rfl) only [go_sem, simprocAttr, eq_false hc4]) ?_
 repeat refine awp_seq ?_
 refine awp_skip ?_
 repeat refine awp_seq ?_
 obtain ⟨⟨hg5, hg6⟩, h⟩ := grd_some h
 refine rgf (And.intro (eq_true hg5) (eq_true hg6)) ?_
 repeat refine awp_seq ?_
 refine rg (h := ?_)
 obtain rfl := som_inj h
 repeat refine awp_seq ?_
 refine awp_le' (s' := [(4, .bool true)]) (own' := (900, b900, .cells (Item.cs ({ p1 with Sum := p3.Names[x1.toNat]! }))) :: []) ([]) (_ :: []) (_ :: []) rfl (List.Perm.refl _) ?_ ?_ ?_
 · simp -implicitDefEqProofs (disch := first | omega | rfl) only [go_sem, simprocAttr, subF_cons, subF_nil]
   exact (.keep _)
 · exact (.cell .nil)
 refine awp_ret ?_
 repeat' (first | refine then_ret ?_ | refine blk_ret ?_)
 refine ret_q ?_
 simp -implicitDefEqProofs (disch := first | omega | rfl) only [go_sem, simprocAttr]
 exact leaves_own (G := o39_6 p1 p2 p3 b900 (true, { p1 with Sum := p3.Names[x1.toNat]! })) ⟨rfl, rfl⟩
def o39_7 (p1 : Item) (p2 : Item) (p3 : Item) (b900 : Nat) (r : Bool × Item) : Res → Own → Prop := fun q o => q = .val (.bool r.1) ∧ o = (900, b900, .cells (Item.cs r.2)) :: []
def s39_7 (N : Nat) (p1 : Item) (p2 : Item) (p3 : Item) : Option (Bool × Item) :=
  (s38 N p2.Names p1.To).bind fun x1 =>
  if p1.To = [] then
    some (false, p1)
  else
    if x1 < 0 then
      some (false, p1)
    else
      grd (0 ≤ x1 ∧ x1 < (List.length p3.Names : Int)) <|
      some (true, { p1 with To := p3.Names[x1.toNat]! })
set_option maxHeartbeats 4000000 in
theorem c39_7 (N : Nat) (p1 : Item) (p2 : Item) (p3 : Item) (b900 : Nat) (r : Bool × Item) (h : s39_7 N p1 p2 p3 = some r) : FnC Try.prog 39 [.ptr 900 b900 22, .ref (Item.cs p2), .ref (Item.cs p3)] ((900, b900, .cells (Item.cs p1)) :: []) (o39_7 p1 p2 p3 b900 r) := by
 refine fn_intro' 27 Try.func39 nt39 ok39 res39 (by simp) fun X hP hn hd hr => ?_
 unfold s39_7 at h
 repeat refine awp_seq ?_
 refine rg (h := ?_)
 repeat refine awp_seq ?_
 refine awp_regD' (_ :: []) ([]) (_ :: []) (by rw [hP]; exact mixed) rfl (List.Perm.refl _) fun K hK => ?_
 simp -implicitDefEqProofs (disch := first | omega | rfl) only [go_sem, simprocAttr, zr39_1]
 have hh := bnd_some h; clear h; obtain ⟨x1, hx2, h⟩ := hh
 refine call_pure hP (c38 N p2.Names p1.To x1 hx2) ?_
 simp -implicitDefEqProofs (disch := first | omega | rfl) only [go_sem, simprocAttr]
 refine hK _ _ ?_; clear hK K
 repeat refine awp_seq ?_
 rcases ite_some h with ⟨hc3, h⟩ | ⟨hc3, h⟩
 · refine rgf (eq_true hc3) ?_
   repeat refine awp_seq ?_
   refine awp_then (by rfl) ?_
   repeat refine awp_seq ?_
   refine rg (h := ?_)
   obtain rfl := som_inj h
   repeat refine awp_seq ?_
   refine awp_le' (s' := [(4, .bool false)]) (own' := (900, b900, .cells (Item.cs p1)) :: []) ([]) (_ :: []) (_ :: []) rfl (List.Perm.refl _) ?_ ?_ ?_
   · simp -implicitDefEqProofs (disch := first | omega | rfl) only [go_sem, simprocAttr, subF_cons, subF_nil]
     exact (.keep _)
   · exact (.cell .nil)
   refine awp_ret ?_
   repeat' (first | refine then_ret ?_ | refine blk_ret ?_)
   refine ret_q ?_
   simp -implicitDefEqProofs (disch := first | omega | rfl) only [go_sem, simprocAttr]
   exact leaves_own (G := o39_7 p1 p2 p3 b900 (false, p1)) ⟨rfl, rfl⟩
 refine rgf (eq_false hc3) ?_
 rcases ite_some h with ⟨hc4, h⟩ | ⟨hc4, h⟩
 · repeat refine awp_seq ?_
   refine awp_then (by simp -implicitDefEqProofs (disch := first | omega | rfl) only [go_sem, simprocAttr, eq_true hc4]) ?_
   repeat refine awp_seq ?_
   refine rg (h := ?_)
   obtain rfl := som_inj h
   repeat refine awp_seq ?_
   refine awp_le' (s' := [(4, .bool false)]) (own' := (900, b900, .cells (Item.cs p1)) :: []) ([]) (_ :: []) (_ :: []) rfl (List.Perm.refl _) ?_ ?_ ?_
   · simp -implicitDefEqProofs (disch := first | omega | rfl) only [go_sem, simprocAttr, subF_cons, subF_nil]
     exact (.keep _)
   · exact (.cell .nil)
   refine awp_ret ?_
   repeat' (first | refine then_ret ?_ | refine blk_ret ?_)
   refine ret_q ?_
   simp -implicitDefEqProofs (disch := first | omega | rfl) only [go_sem, simprocAttr]
   exact leaves_own (G := o39_7 p1 p2 p3 b900 (false, p1)) ⟨rfl, rfl⟩
 repeat refine awp_seq ?_
 refine awp_else (by simp -implicitDefEqProofs (disch := first | omega | rfl) only [go_sem, simprocAttr, eq_false hc4]) ?_
 repeat refine awp_seq ?_
 refine awp_skip ?_
 repeat refine awp_seq ?_
 obtain ⟨⟨hg5, hg6⟩, h⟩ := grd_some h
 refine rgf (And.intro (eq_true hg5) (eq_true hg6)) ?_
 repeat refine awp_seq ?_
 refine rg (h := ?_)
 obtain rfl := som_inj h
 repeat refine awp_seq ?_
 refine awp_le' (s' := [(4, .bool true)]) (own' := (900, b900, .cells (Item.cs ({ p1 with To := p3.Names[x1.toNat]! }))) :: []) ([]) (_ :: []) (_ :: []) rfl (List.Perm.refl _) ?_ ?_ ?_
 · simp -implicitDefEqProofs (disch := first | omega | rfl) only [go_sem, simprocAttr, subF_cons, subF_nil]
   exact (.keep _)
 · exact (.cell .nil)
 refine awp_ret ?_
 repeat' (first | refine then_ret ?_ | refine blk_ret ?_)
 refine ret_q ?_
 simp -implicitDefEqProofs (disch := first | omega | rfl) only [go_sem, simprocAttr]
 exact leaves_own (G := o39_7 p1 p2 p3 b900 (true, { p1 with To := p3.Names[x1.toNat]! })) ⟨rfl, rfl⟩
def o39_8 (p1 : Item) (p2 : Item) (p3 : Item) (b900 : Nat) (r : Bool × Item) : Res → Own → Prop := fun q o => q = .val (.bool r.1) ∧ o = (900, b900, .cells (Item.cs r.2)) :: []
def s39_8 (N : Nat) (p1 : Item) (p2 : Item) (p3 : Item) : Option (Bool × Item) :=
  (s38 N p2.Names p1.Within.Name).bind fun x1 =>
  if p1.Within.Name = [] then
    some (false, p1)
  else
    if x1 < 0 then
      some (false, p1)
    else
      grd (0 ≤ x1 ∧ x1 < (List.length p3.Names : Int)) <|
      some (true, { p1 with Within := { p1.Within with Name := p3.Names[x1.toNat]! } })
set_option maxHeartbeats 4000000 in
theorem c39_8 (N : Nat) (p1 : Item) (p2 : Item) (p3 : Item) (b900 : Nat) (r : Bool × Item) (h : s39_8 N p1 p2 p3 = some r) : FnC Try.prog 39 [.ptr 900 b900 9, .ref (Item.cs p2), .ref (Item.cs p3)] ((900, b900, .cells (Item.cs p1)) :: []) (o39_8 p1 p2 p3 b900 r) := by
 refine fn_intro' 27 Try.func39 nt39 ok39 res39 (by simp) fun X hP hn hd hr => ?_
 unfold s39_8 at h
 repeat refine awp_seq ?_
 refine rg (h := ?_)
 repeat refine awp_seq ?_
 refine awp_regD' (_ :: []) ([]) (_ :: []) (by rw [hP]; exact mixed) rfl (List.Perm.refl _) fun K hK => ?_
 simp -implicitDefEqProofs (disch := first | omega | rfl) only [go_sem, simprocAttr, zr39_1]
 have hh := bnd_some h; clear h; obtain ⟨x1, hx2, h⟩ := hh
 refine call_pure hP (c38 N p2.Names p1.Within.Name x1 hx2) ?_
 simp -implicitDefEqProofs (disch := first | omega | rfl) only [go_sem, simprocAttr]
 refine hK _ _ ?_; clear hK K
 repeat refine awp_seq ?_
 rcases ite_some h with ⟨hc3, h⟩ | ⟨hc3, h⟩
 · refine rgf (eq_true hc3) ?_
   repeat refine awp_seq ?_
   refine awp_then (by rfl) ?_
   repeat refine awp_seq ?_
   refine rg (h := ?_)
   obtain rfl := som_inj h
   repeat refine awp_seq ?_
   refine awp_le' (s' := [(4, .bool false)]) (own' := (900, b900, .cells (Item.cs p1)) :: []) ([]) (_ :: []) (_ :: []) rfl (List.Perm.refl _) ?_ ?_ ?_
   · simp -implicitDefEqProofs (disch := first | omega | rfl) only [go_sem, simprocAttr, subF_cons, subF_nil]
     exact (.keep _)
   · exact (.cell .nil)
   refine awp_ret ?_
   repeat' (first | refine then_ret ?_ | refine blk_ret ?_)
   refine ret_q ?_
   simp -implicitDefEqProofs (disch := first | omega | rfl) only [go_sem, simprocAttr]
   exact leaves_own (G := o39_8 p1 p2 p3 b900 (false, p1)) ⟨rfl, rfl⟩
 refine rgf (eq_false hc3) ?_
 rcases ite_some h with ⟨hc4, h⟩ | ⟨hc4, h⟩
 · repeat refine awp_seq ?_
   refine awp_then (by simp -implicitDefEqProofs (disch := first | omega | rfl) only [go_sem, simprocAttr, eq_true hc4]) ?_
   repeat refine awp_seq ?_
   refine rg (h := ?_)
   obtain rfl := som_inj h
   repeat refine awp_seq ?_
   refine awp_le' (s' := [(4, .bool false)]) (own' := (900, b900, .cells (Item.cs p1)) :: []) ([]) (_ :: []) (_ :: []) rfl (List.Perm.refl _) ?_ ?_ ?_
   · simp -implicitDefEqProofs (disch := first | omega | rfl) only [go_sem, simprocAttr, subF_cons, subF_nil]
     exact (.keep _)
   · exact (.cell .nil)
   refine awp_ret ?_
   repeat' (first | refine then_ret ?_ | refine blk_ret ?_)
   refine ret_q ?_
   simp -implicitDefEqProofs (disch := first | omega | rfl) only [go_sem, simprocAttr]
   exact leaves_own (G := o39_8 p1 p2 p3 b900 (false, p1)) ⟨rfl, rfl⟩
 repeat refine awp_seq ?_
 refine awp_else (by simp -implicitDefEqProofs (disch := first | omega | rfl) only [go_sem, simprocAttr, eq_false hc4]) ?_
 repeat refine awp_seq ?_
 refine awp_skip ?_
 repeat refine awp_seq ?_
 obtain ⟨⟨hg5, hg6⟩, h⟩ := grd_some h
 refine rgf (And.intro (eq_true hg5) (eq_true hg6)) ?_
 repeat refine awp_seq ?_
 refine rg (h := ?_)
 obtain rfl := som_inj h
 repeat refine awp_seq ?_
 refine awp_le' (s' := [(4, .bool true)]) (own' := (900, b900, .cells (Item.cs ({ p1 with Within := { p1.Within with Name := p3.Names[x1.toNat]! } }))) :: []) ([]) (_ :: []) (_ :: []) rfl (List.Perm.refl _) ?_ ?_ ?_
 · simp -implicitDefEqProofs (disch := first | omega | rfl) only [go_sem, simprocAttr, subF_cons, subF_nil]
   exact (.keep _)
 · exact (.cell .nil)
 refine awp_ret ?_
 repeat' (first | refine then_ret ?_ | refine blk_ret ?_)
 refine ret_q ?_
 simp -implicitDefEqProofs (disch := first | omega | rfl) only [go_sem, simprocAttr]
 exact leaves_own (G := o39_8 p1 p2 p3 b900 (true, { p1 with Within := { p1.Within with Name := p3.Names[x1.toNat]! } })) ⟨rfl, rfl⟩
def o39_9 (p1 : Item) (p2 : Item) (p3 : Item) (b900 : Nat) (r : Bool × Item) : Res → Own → Prop := fun q o => q = .val (.bool r.1) ∧ o = (900, b900, .cells (Item.cs r.2)) :: []
def s39_9 (N : Nat) (p1 : Item) (p2 : Item) (p3 : Item) : Option (Bool × Item) :=
  (s38 N p2.Names p1.Grace.Name).bind fun x1 =>
  if p1.Grace.Name = [] then
    some (false, p1)
  else
    if x1 < 0 then
      some (false, p1)
    else
      grd (0 ≤ x1 ∧ x1 < (List.length p3.Names : Int)) <|
      some (true, { p1 with Grace := { p1.Grace with Name := p3.Names[x1.toNat]! } })
set_option maxHeartbeats 4000000 in
theorem c39_9 (N : Nat) (p1 : Item) (p2 : Item) (p3 : Item) (b900 : Nat) (r : Bool × Item) (h : s39_9 N p1 p2 p3 = some r) : FnC Try.prog 39 [.ptr 900 b900 12, .ref (Item.cs p2), .ref (Item.cs p3)] ((900, b900, .cells (Item.cs p1)) :: []) (o39_9 p1 p2 p3 b900 r) := by
 refine fn_intro' 27 Try.func39 nt39 ok39 res39 (by simp) fun X hP hn hd hr => ?_
 unfold s39_9 at h
 repeat refine awp_seq ?_
 refine rg (h := ?_)
 repeat refine awp_seq ?_
 refine awp_regD' (_ :: []) ([]) (_ :: []) (by rw [hP]; exact mixed) rfl (List.Perm.refl _) fun K hK => ?_
 simp -implicitDefEqProofs (disch := first | omega | rfl) only [go_sem, simprocAttr, zr39_1]
 have hh := bnd_some h; clear h; obtain ⟨x1, hx2, h⟩ := hh
 refine call_pure hP (c38 N p2.Names p1.Grace.Name x1 hx2) ?_
 simp -implicitDefEqProofs (disch := first | omega | rfl) only [go_sem, simprocAttr]
 refine hK _ _ ?_; clear hK K
 repeat refine awp_seq ?_
 rcases ite_some h with ⟨hc3, h⟩ | ⟨hc3, h⟩
 · refine rgf (eq_true hc3) ?_
   repeat refine awp_seq ?_
   refine awp_then (by rfl) ?_
   repeat refine awp_seq ?_
   refine rg (h := ?_)
   obtain rfl := som_inj h
   repeat refine awp_seq ?_
   refine awp_le' (s' := [(4, .bool false)]) (own' := (900, b900, .cells (Item.cs p1)) :: []) ([]) (_ :: []) (_ :: []) rfl (List.Perm.refl _) ?_ ?_ ?_
   · simp -implicitDefEqProofs (disch := first | omega | rfl) only [go_sem, simprocAttr, subF_cons, subF_nil]
     exact (.keep _)
   · exact (.cell .nil)
   refine awp_ret ?_
   repeat' (first | refine then_ret ?_ | refine blk_ret ?_)
   refine ret_q ?_
   simp -implicitDefEqProofs (disch := first | omega | rfl) only [go_sem, simprocAttr]
   exact leaves_own (G := o39_9 p1 p2 p3 b900 (false, p1)) ⟨rfl, rfl⟩
 refine rgf (eq_false hc3) ?_
 rcases ite_some h with ⟨hc4, h⟩ | ⟨hc4, h⟩
 · repeat refine awp_seq ?_
   refine awp_then (by simp -implicitDefEqProofs (disch := first | omega | rfl) only [go_sem, simprocAttr, eq_true hc4]) ?_
   repeat refine awp_seq ?_
   refine rg (h := ?_)
   obtain rfl := som_inj h
   repeat refine awp_seq ?_
   refine awp_le' (s' := [(4, .bool false)]) (own' := (900, b900, .cells (Item.cs p1)) :: []) ([]) (_ :: []) (_ :: []) rfl (List.Perm.refl _) ?_ ?_ ?_
   · simp -implicitDefEqProofs (disch := first | omega | rfl) only [go_sem, simprocAttr, subF_cons, subF_nil]
     exact (.keep _)
   · exact (.cell .nil)
   refine awp_ret ?_
   repeat' (first | refine then_ret ?_ | refine blk_ret ?_)
   refine ret_q ?_
   simp -implicitDefEqProofs (disch := first | omega | rfl) only [go_sem, simprocAttr]
   exact leaves_own (G := o39_9 p1 p2 p3 b900 (false, p1)) ⟨rfl, rfl⟩
 repeat refine awp_seq ?_
 refine awp_else (by simp -implicitDefEqProofs (disch := first | omega | rfl) only [go_sem, simprocAttr, eq_false hc4]) ?_
 repeat refine awp_seq ?_
 refine awp_skip ?_
 repeat refine awp_seq ?_
 obtain ⟨⟨hg5, hg6⟩, h⟩ := grd_some h
 refine rgf (And.intro (eq_true hg5) (eq_true hg6)) ?_
 repeat refine awp_seq ?_
 refine rg (h := ?_)
 obtain rfl := som_inj h
 repeat refine awp_seq ?_
 refine awp_le' (s' := [(4, .bool true)]) (own' := (900, b900, .cells (Item.cs ({ p1 with Grace := { p1.Grace with Name := p3.Names[x1.toNat]! } }))) :: []) ([]) (_ :: []) (_ :: []) rfl (List.Perm.refl _) ?_ ?_ ?_
 · simp -implicitDefEqProofs (disch := first | omega | rfl) only [go_sem, simprocAttr, subF_cons, subF_nil]
   exact (.keep _)
 · exact (.cell .nil)
 refine awp_ret ?_
 repeat' (first | refine then_ret ?_ | refine blk_ret ?_)
 refine ret_q ?_
 simp -implicitDefEqProofs (disch := first | omega | rfl) only [go_sem, simprocAttr]
 exact leaves_own (G := o39_9 p1 p2 p3 b900 (true, { p1 with Grace := { p1.Grace with Name := p3.Names[x1.toNat]! } })) ⟨rfl, rfl⟩
def zr40_0 : List AO := [⟨some 2, none, .mov (.c (.nil))⟩]
def zr40_1 : List AO := [⟨some 3, none, .mov (.t 0)⟩,
  ⟨some 4, none, .nilS false (.t 3)⟩]
def zr40_2 : List AO := [⟨some 2, none, .mov (.c (.nil))⟩]
def zc40_0 : AC := .seq (.reg zr40_2) .ret
def zc40_1 : AC := .cond (.t 4) zc40_0 .skip
def zr40_3 : List AO := [⟨some 5, none, .mkrow 2 0 [.str [], .int .i64 0] []⟩,
  ⟨some 6, none, .mov (.t 0)⟩,
  ⟨some 7, none, .app 2 24 (.t 5) (.t 6)⟩,
  ⟨some 2, none, .mov (.t 7)⟩]
def zc40_2 : AC := .seq (.reg zr40_3) .ret
def zc40_3 : AC := .seq (.seq (.reg zr40_1) zc40_1) zc40_2
def zc40_4 : AC := .seq (.reg zr40_0) zc40_3
def zc40 : AC := zc40_4
theorem ok40 : Try.f40.body.bind (compCode Try.prog 8) = some zc40 := by kernel_rfl
theorem nt40 : Try.f40.ntmps = 8 := by kernel_rfl
theorem res40 : compRes Try.prog Try.f40.results.toList = some [.tmp 2] := by kernel_rfl
attribute [go_sem] zr40_0 zr40_2
def o40 (p1 : List Named) (r : (List Named)) : Res → Own → Prop := fun q o => ∃ (e0 : Option Nat), (e0 = none → r = []) ∧ q = .val (accV 990 e0 (List.length r) 2) ∧ o = accO 990 e0 (flt Named.av r) []
def s40 (N : Nat) (p1 : List Named) : Option ((List Named)) :=
  grd (List.length p1 * 24 ≤ 140737488355328 ∧ List.length p1 ≤ 140737488355328) <|
  some p1
set_option maxHeartbeats 4000000 in
theorem c40 (N : Nat) (p1 : List Named) (r : (List Named)) (h : s40 N p1 = some r) : FnC Try.prog 40 [.sl (List.map Named.av p1)] ([]) (o40 p1 r) := by
 refine fn_intro' 8 Try.func40 nt40 ok40 res40 (by simp) fun X hP hn hd hr => ?_
 unfold s40 at h
 repeat refine awp_seq ?_
 refine rg (h := ?_)
 repeat refine awp_seq ?_
 refine awp_reg fun K Q hK hQ => ?_
 simp -implicitDefEqProofs (disch := first | omega | rfl) only [go_sem, simprocAttr, zr40_1]
 refine nis_sl ?_ (fun hn1 => ?_)
 · simp -implicitDefEqProofs (disch := first | omega | rfl) only [go_sem, simprocAttr]
   refine hK _ _ ?_; clear hK hQ K Q
   repeat refine awp_seq ?_
   refine awp_else (by rfl) ?_
   repeat refine awp_seq ?_
   refine awp_skip ?_
   repeat refine awp_seq ?_
   refine awp_reg fun K Q hK hQ => ?_
   obtain ⟨⟨hg3, hg4⟩, h⟩ := grd_some h
   simp -implicitDefEqProofs (disch := first | omega | rfl) only [go_sem, simprocAttr, zr40_3, eq_true hg3, eq_true hg4]
   intro b2 b5
   refine hK _ _ ?_; clear hK hQ K Q
   obtain rfl := som_inj h
   repeat refine awp_seq ?_
   refine awp_le' (s' := [(2, accV 990 (some b5) (List.length p1) 2)]) (own' := accO 990 (some b5) (flt Named.av p1) []) ([]) (_ :: []) (_ :: []) rfl (List.Perm.refl _) ?_ ?_ ?_
   · simp -implicitDefEqProofs (disch := first | omega | rfl) only [go_sem, simprocAttr, subF_cons, subF_nil]
     exact (frz_lrow (by first | rfl | (simp; done) | ((try simp only [List.length_set, List.length_take]); omega)))
   · exact (.cell .nil)
   refine awp_ret ?_
   repeat' (first | refine then_ret ?_ | refine blk_ret ?_)
   refine ret_q ?_
   simp -implicitDefEqProofs (disch := first | omega | rfl) only [go_sem, simprocAttr]
   exact leaves_own (G := o40 p1 p1) ⟨(some b5), (fun h => by cases h), rfl, rfl⟩
 · replace h : (some []) = some r := by
     first | exact h | (try subst hn1); first | exact h | simpa [grd, hn1] using h
   simp -implicitDefEqProofs (disch := first | omega | rfl) only [go_sem, simprocAttr]
   refine hK _ _ ?_; clear hK hQ K Q
   repeat refine awp_seq ?_
   refine awp_then (by rfl) ?_
   repeat refine awp_seq ?_
   refine rg (h := ?_)
   obtain rfl := som_inj h
   repeat refine awp_seq ?_
   refine awp_le' (s' := [(2, accV 990 none (List.length ([] : List Named)) 2)]) (own' := accO 990 none (flt Named.av ([] : List Named)) []) ([]) ([]) ([]) rfl (List.Perm.refl _) ?_ ?_ ?_
   · simp -implicitDefEqProofs (disch := first | omega | rfl) only [go_sem, simprocAttr, subF_cons, subF_nil]
     exact (.keep _)
   · exact .nil
   refine awp_ret ?_
   repeat' (first | refine then_ret ?_ | refine blk_ret ?_)
   refine ret_q ?_
   simp -implicitDefEqProofs (disch := first | omega | rfl) only [go_sem, simprocAttr]
   exact leaves_own (G := o40 p1 []) ⟨none, (fun _ => rfl), rfl, rfl⟩
def o39_10 (p1 : List Named) (p2 : Nat) (p3 : Item) (p4 : Item) (b900 : Nat) (r : Bool × (List Named)) : Res → Own → Prop := fun q o => List.length r.2 = List.length p1 ∧ q = .val (.bool r.1) ∧ o = (900, b900, .cells (flt Named.av r.2)) :: []
def s39_10 (N : Nat) (p1 : List Named) (p2 : Nat) (p3 : Item) (p4 : Item) : Option (Bool × (List Named)) :=
  (s38 N p3.Names ((p1[p2]!).Name)).bind fun x1 =>
  if (p1[p2]!).Name = [] then
    some (false, p1)
  else
    if x1 < 0 then
      some (false, p1)
    else
      grd (0 ≤ x1 ∧ x1 < (List.length p4.Names : Int)) <|
      some (true, List.set p1 p2 ({ p1[p2]! with Name := p4.Names[x1.toNat]! }))
set_option maxHeartbeats 4000000 in
theorem c39_10 (N : Nat) (p1 : List Named) (p2 : Nat) (p3 : Item) (p4 : Item) (b900 : Nat) (hip2 : p2 < List.length p1) (r : Bool × (List Named)) (h : s39_10 N p1 p2 p3 p4 = some r) : FnC Try.prog 39 [.ptr 900 b900 (p2 * 2), .ref (Item.cs p3), .ref (Item.cs p4)] ((900, b900, .cells (flt Named.av p1)) :: []) (o39_10 p1 p2 p3 p4 b900 r) := by
 refine fn_intro' 27 Try.func39 nt39 ok39 res39 (by simp) fun X hP hn hd hr => ?_
 unfold s39_10 at h
 repeat refine awp_seq ?_
 refine rg (h := ?_)
 repeat refine awp_seq ?_
 refine awp_regD' (_ :: []) ([]) (_ :: []) (by rw [hP]; exact mixed) rfl (List.Perm.refl _) fun K hK => ?_
 simp -implicitDefEqProofs (disch := first | omega | rfl) only [go_sem, simprocAttr, zr39_1, eq_true (show p2 * 2 + 1 ≤ List.length p1 * 2 by omega)]
 have hh := bnd_some h; clear h; obtain ⟨x1, hx2, h⟩ := hh
 refine call_pure hP (c38 N p3.Names ((p1[p2]!).Name) x1 hx2) ?_
 simp -implicitDefEqProofs (disch := first | omega | rfl) only [go_sem, simprocAttr]
 refine hK _ _ ?_; clear hK K
 repeat refine awp_seq ?_
 rcases ite_some h with ⟨hc3, h⟩ | ⟨hc3, h⟩
 · refine rg (by intro K Q; simp -implicitDefEqProofs (disch := first | omega | rfl) only [go_sem, simprocAttr, eq_true (show p2 * 2 + 1 ≤ List.length p1 * 2 by omega), eq_true hc3] <;> rfl) ?_
   repeat refine awp_seq ?_
   refine awp_then (by rfl) ?_
   repeat refine awp_seq ?_
   refine rg (h := ?_)
   obtain rfl := som_inj h
   repeat refine awp_seq ?_
   refine awp_le' (s' := [(4, .bool false)]) (own' := (900, b900, .cells (flt Named.av p1)) :: []) ([]) (_ :: []) (_ :: []) rfl (List.Perm.refl _) ?_ ?_ ?_
   · simp -implicitDefEqProofs (disch := first | omega | rfl) only [go_sem, simprocAttr, subF_cons, subF_nil]
     exact (.keep _)
   · exact (.cell .nil)
   refine awp_ret ?_
   repeat' (first | refine then_ret ?_ | refine blk_ret ?_)
   refine ret_q ?_
   simp -implicitDefEqProofs (disch := first | omega | rfl) only [go_sem, simprocAttr]
   exact leaves_own (G := o39_10 p1 p2 p3 p4 b900 (false, p1)) ⟨(by simp), rfl, rfl⟩
 refine rg (by intro K Q; simp -implicitDefEqProofs (disch := first | omega | rfl) only [go_sem, simprocAttr, eq_true (show p2 * 2 + 1 ≤ List.length p1 * 2 by omega), eq_false hc3] <;> rfl) ?_
 rcases ite_some h with ⟨hc4, h⟩ | ⟨hc4, h⟩
 · repeat refine awp_seq ?_
   refine awp_then (by simp -implicitDefEqProofs (disch := first | omega | rfl) only [go_sem, simprocAttr, eq_true hc4]) ?_
   repeat refine awp_seq ?_
   refine rg (h := ?_)
   obtain rfl := som_inj h
   repeat refine awp_seq ?_
   refine awp_le' (s' := [(4, .bool false)]) (own' := (900, b900, .cells (flt Named.av p1)) :: []) ([]) (_ :: []) (_ :: []) rfl (List.Perm.refl _) ?_ ?_ ?_
   · simp -implicitDefEqProofs (disch := first | omega | rfl) only [go_sem, simprocAttr, subF_cons, subF_nil]
     exact (.keep _)
   · exact (.cell .nil)
   refine awp_ret ?_
   repeat' (first | refine then_ret ?_ | refine blk_ret ?_)
   refine ret_q ?_
   simp -implicitDefEqProofs (disch := first | omega | rfl) only [go_sem, simprocAttr]
   exact leaves_own (G := o39_10 p1 p2 p3 p4 b900 (false, p1)) ⟨(by simp), rfl, rfl⟩
 repeat refine awp_seq ?_
 refine awp_else (by simp -implicitDefEqProofs (disch := first | omega | rfl) only [go_sem, simprocAttr, eq_false hc4]) ?_
 repeat refine awp_seq ?_
 refine awp_skip ?_
 repeat refine awp_seq ?_
 obtain ⟨⟨hg5, hg6⟩, h⟩ := grd_some h
 refine rg (by intro K Q; simp -implicitDefEqProofs (disch := first | omega | rfl) only [go_sem, simprocAttr, eq_true (show p2 * 2 + 1 ≤ List.length p1 * 2 by omega), eq_true hg5, eq_true hg6] <;> rfl) ?_
 repeat refine awp_seq ?_
 refine rg (h := ?_)
 obtain rfl := som_inj h
 repeat refine awp_seq ?_
 refine awp_le' (s' := [(4, .bool true)]) (own' := (900, b900, .cells (flt Named.av (List.set p1 p2 ({ p1[p2]! with Name := p4.Names[x1.toNat]! })))) :: []) ([]) (_ :: []) (_ :: []) rfl (List.Perm.refl _) ?_ ?_ ?_
 · simp -implicitDefEqProofs (disch := first | omega | rfl) only [go_sem, simprocAttr, subF_cons, subF_nil]
   exact (.keep _)
 · exact (.cell .nil)
 refine awp_ret ?_
 repeat' (first | refine then_ret ?_ | refine blk_ret ?_)
 refine ret_q ?_
 simp -implicitDefEqProofs (disch := first | omega | rfl) only [go_sem, simprocAttr]
 exact leaves_own (G := o39_10 p1 p2 p3 p4 b900 (true, List.set p1 p2 ({ p1[p2]! with Name := p4.Names[x1.toNat]! }))) ⟨(by simp), rfl, rfl⟩
def zr46_0 : List AO := [⟨some 4, none, .mov (.c (.str []))⟩,
  ⟨some 5, none, .mov (.c (.str []))⟩,
  ⟨some 6, none, .mov (.c (.bool false))⟩]
def zr46_1 : List AO := [⟨some 8, none, .mov (.t 0)⟩,
  ⟨some 9, none, .mov (.t 1)⟩,
  ⟨some 10, none, .callF 48 [(.t 8), (.t 9)]⟩,
  ⟨some 7, none, .mov (.t 10)⟩]
def zr46_2 : List AO := [⟨some 11, none, .mov (.t 7)⟩,
  ⟨some 12, none, .bin .geq (.t 11) (.c (.int .i64 0))⟩]
def zr46_3 : DT := (.pur ⟨some 13, none, .mov (.t 0)⟩ (.pur ⟨some 14, none, .mov (.t 7)⟩ (.pur ⟨some 15, none, .slcS (.t 13) none (some (.t 14))⟩ (.pur ⟨some 16, none, .mov (.t 0)⟩ (.pur ⟨some 17, none, .mov (.t 7)⟩ (.pur ⟨some 18, none, .mov (.t 1)⟩ (.pur ⟨some 19, none, .lenS (.t 18)⟩ (.pur ⟨some 20, none, .bin .add (.t 17) (.t 19)⟩ (.pur ⟨some 21, none, .slcS (.t 16) (some (.t 20)) none⟩ (.alt false ⟨some 4, none, .mov (.t 15)⟩ (.alt false ⟨some 5, none, .mov (.t 21)⟩ (.alt true ⟨some 6, none, .mov (.c (.bool true))⟩ .done .stop) .stop) .stop))))))))))
def zc46_0 : AC := .seq (.regD zr46_3) .ret
def zc46_1 : AC := .cond (.t 12) zc46_0 .skip
def zc46_2 : AC := .seq (.reg zr46_2) zc46_1
def zr46_4 : List AO := [⟨some 22, none, .mov (.t 0)⟩,
  ⟨some 4, none, .mov (.t 22)⟩,
  ⟨some 5, none, .mov (.c (.str []))⟩,
  ⟨some 6, none, .mov (.c (.bool false))⟩]
def zc46_3 : AC := .seq (.reg zr46_4) .ret
def zc46_4 : AC := .seq (.seq (.reg zr46_1) zc46_2) zc46_3
def zc46_5 : AC := .seq (.reg zr46_0) zc46_4
def zc46 : AC := zc46_5
theorem ok46 : Try.f46.body.bind (compCode Try.prog 23) = some zc46 := by kernel_rfl
theorem nt46 : Try.f46.ntmps = 23 := by kernel_rfl
theorem res46 : compRes Try.prog Try.f46.results.toList = some [.tmp 4, .tmp 5, .tmp 6] := by kernel_rfl
attribute [go_sem] zr46_0 zr46_2 zr46_4
def s46 (N : Nat) (p1 : List UInt8) : Option ((List UInt8) × (List UInt8) × Bool) :=
  (some (Lib.indexByte p1 46)).bind fun x1 =>
  if 0 ≤ x1 then
    grd (x1 ≤ (List.length p1 : Int)) <|
    grd (0 ≤ IntKind.wrap .i64 (x1 + 1) ∧ IntKind.wrap .i64 (x1 + 1) ≤ (List.length p1 : Int)) <|
    some (List.take x1.toNat p1, List.drop (IntKind.wrap .i64 (x1 + 1)).toNat p1, true)
  else
    some (p1, [], false)
set_option maxHeartbeats 4000000 in
theorem c46 (N : Nat) (p1 : List UInt8) (r : (List UInt8) × (List UInt8) × Bool) (h : s46 N p1 = some r) : PureC Try.prog 46 [.str p1, .str [46]] (.tup [.str r.1, .str r.2.1, .bool r.2.2]) := by
 refine fn_intro' 23 Try.func46 nt46 ok46 res46 (by simp) fun X hP hn hd hr => ?_
 unfold s46 at h
 repeat refine awp_seq ?_
 refine rg (h := ?_)
 repeat refine awp_seq ?_
 refine awp_reg fun K Q hK hQ => ?_
 simp -implicitDefEqProofs (disch := first | omega | rfl) only [go_sem, simprocAttr, zr46_1]
 have hh := bnd_some h; clear h; obtain ⟨x1, hx2, h⟩ := hh
 refine call_pure hP (c48o p1 46 x1 hx2) ?_
 simp -implicitDefEqProofs (disch := first | omega | rfl) only [go_sem, simprocAttr]
 refine hK _ _ ?_; clear hK hQ K Q
 repeat refine awp_seq ?_
 refine rg (h := ?_)
 rcases ite_some h with ⟨hc3, h⟩ | ⟨hc3, h⟩
 · repeat refine awp_seq ?_
   refine awp_then (by simp -implicitDefEqProofs (disch := first | omega | rfl) only [go_sem, simprocAttr, eq_true hc3]) ?_
   repeat refine awp_seq ?_
   refine awp_regD' ([]) ([]) ([]) (by rw [hP]; exact mixed) rfl (List.Perm.refl _) fun K hK => ?_
   obtain ⟨hg4, h⟩ := grd_some h
   obtain ⟨⟨hg5, hg6⟩, h⟩ := grd_some h
   simp -implicitDefEqProofs (disch := first | omega | rfl) only [go_sem, simprocAttr, zr46_3, eq_true hc3, eq_true hg4, eq_true hg5, eq_true hg6]
   refine hK _ _ ?_; clear hK K
   obtain rfl := som_inj h
   repeat refine awp_seq ?_
   refine awp_ret ?_
   repeat first | refine then_ret ?_ | refine blk_ret ?_
   exact rtp
 repeat refine awp_seq ?_
 refine awp_else (by simp -implicitDefEqProofs (disch := first | omega | rfl) only [go_sem, simprocAttr, eq_false hc3]) ?_
 repeat refine awp_seq ?_
 refine awp_skip ?_
 repeat refine awp_seq ?_
 refine rg (h := ?_)
 obtain rfl := som_inj h
 repeat refine awp_seq ?_
 refine awp_ret ?_
 repeat first | refine then_ret ?_ | refine blk_ret ?_
 exact rtp
def zr43_0 : List AO := [⟨some 4, none, .mov (.c (.str []))⟩,
  ⟨some 5, none, .mov (.c (.str []))⟩,
  ⟨some 6, none, .mov (.c (.bool false))⟩]
def zr43_1 : List AO := [⟨some 7, none, .mov (.t 0)⟩,
  ⟨some 8, none, .mov (.t 1)⟩,
  ⟨some 9, none, .callF 46 [(.t 7), (.t 8)]⟩,
  ⟨some 10, none, .ext 0 (.t 9)⟩,
  ⟨some 11, none, .ext 1 (.t 9)⟩,
  ⟨some 12, none, .ext 2 (.t 9)⟩,
  ⟨some 4, none, .mov (.t 10)⟩,
  ⟨some 5, none, .mov (.t 11)⟩,
  ⟨some 6, none, .mov (.t 12)⟩]
def zc43_0 : AC := .seq (.reg zr43_1) .ret
def zc43_1 : AC := .seq (.reg zr43_0) zc43_0
def zc43 : AC := zc43_1
theorem ok43 : Try.f43.body.bind (compCode Try.prog 13) = some zc43 := by kernel_rfl
theorem nt43 : Try.f43.ntmps = 13 := by kernel_rfl
theorem res43 : compRes Try.prog Try.f43.results.toList = some [.tmp 4, .tmp 5, .tmp 6] := by kernel_rfl
attribute [go_sem] zr43_0
def s43 (N : Nat) (p1 : List UInt8) : Option ((List UInt8) × (List UInt8) × Bool) :=
  (s46 N p1).bind fun x1 =>
  some (x1.1, x1.2.1, x1.2.2)
set_option maxHeartbeats 4000000 in
theorem c43 (N : Nat) (p1 : List UInt8) (r : (List UInt8) × (List UInt8) × Bool) (h : s43 N p1 = some r) : PureC Try.prog 43 [.str p1, .str [46]] (.tup [.str r.1, .str r.2.1, .bool r.2.2]) := by
 refine fn_intro' 13 Try.func43 nt43 ok43 res43 (by simp) fun X hP hn hd hr => ?_
 unfold s43 at h
 repeat refine awp_seq ?_
 refine rg (h := ?_)
 repeat refine awp_seq ?_
 refine awp_reg fun K Q hK hQ => ?_
 simp -implicitDefEqProofs (disch := first | omega | rfl) only [go_sem, simprocAttr, zr43_1]
 have hh := bnd_some h; clear h; obtain ⟨x1, hx2, h⟩ := hh
 refine call_pure hP (c46 N p1 x1 hx2) ?_
 simp -implicitDefEqProofs (disch := first | omega | rfl) only [go_sem, simprocAttr]
 refine hK _ _ ?_; clear hK hQ K Q
 obtain rfl := som_inj h
 repeat refine awp_seq ?_
 refine awp_ret ?_
 repeat first | refine then_ret ?_ | refine blk_ret ?_
 exact rtp
end Go.Proofs.Inc
