/- For every argument, estoppellaw06.LexerNumbers returns true and leaves its arguments as they were, where the listed package variables hold what the program's text lays into them. (Part 3 of what its proof rests on.) -/
import Derived.Shelf.Strings.Search1
import Derived.KernelRfl
import Derived.Test.YtjapnjlkhljhbaaDoorProg
import Derived.ChangeShapes
import Derived.ChangeReads
import Derived.ChangeOld
import Derived.ChangeArms
import Derived.OpenShut
import Derived.ChangeSame
import Derived.RowKit
import Derived.Test.YtjapnjlkhljhbaaDoorPb
set_option linter.unusedSimpArgs false
set_option linter.unusedVariables false
set_option linter.deprecated false
namespace Go.Proofs
def Tryd.ren217 : Go.Shelf.Ren where
  f := fun x => match x with
    | 217 => 39
    | 266 => 46
    | n => n
  t := fun n => n
  g := fun n => n
theorem Tryd.lays217 : Go.Proofs.Lays.n217 Go.Proofs.Tryd.prog Go.Proofs.Tryd.ren217 :=
  { mixed := Eq.refl true,
    f217 := Eq.trans Go.Proofs.Tryd.func39 (congrArg some (Eq.refl (Go.Proofs.Body.n217 Go.Proofs.Tryd.ren217))),
    f266 := Eq.trans Go.Proofs.Tryd.func46 (congrArg some (Eq.refl (Go.Proofs.Body.n266 Go.Proofs.Tryd.ren217))),
    t3 := Go.Proofs.Tryd.underlying3, a3 := Go.Proofs.Tryd.isAgg3, z3 := Go.Proofs.Tryd.sizeOf3, v3 := Go.Proofs.Tryd.zeroValue3,
    t5 := Go.Proofs.Tryd.underlying5, a5 := Go.Proofs.Tryd.isAgg5, z5 := Go.Proofs.Tryd.sizeOf5, v5 := Go.Proofs.Tryd.zeroValue5,
    t9 := Go.Proofs.Tryd.underlying9, a9 := Go.Proofs.Tryd.isAgg9, z9 := Go.Proofs.Tryd.sizeOf9, v9 := Go.Proofs.Tryd.zeroValue9 }
end Go.Proofs
namespace Go.Aw
theorem pure_si {P : Program} {f : FuncId} {l : List UInt8} {k : IntKind} {c : Int} {v : Value} {x : AV} (h : ∀ w, Calls P f #[.string ⟨l.toArray⟩, .int k c] w fun e w' => e = .returned v ∧ w' = w) (hx : ∀ F w, Rel F w v x) : PureC P f [.str l, .int k c] x := by
  intro fr vs w hs hr hok
  have hv : vs = #[.string ⟨l.toArray⟩, .int k c] := by
    have hs : vs.size = 2 := hs
    have h0 := hr 0 vs[0] _ (Array.getElem?_eq_getElem (by omega)) rfl
    have h1 := hr 1 vs[1] _ (Array.getElem?_eq_getElem (by omega)) rfl
    apply Array.ext
    · simpa using hs
    · intro i hi hi'
      have : i = 0 ∨ i = 1 := by simp at hi'; omega
      rcases this with rfl | rfl
      · generalize vs[0] = a at h0
        cases h0; rfl
      · generalize vs[1] = a at h1
        cases h1; rfl
  subst hv
  refine (h w).mono ?_
  rintro e w' ⟨rfl, rfl⟩
  exact ⟨.val x, [], ⟨rfl, rfl⟩, ⟨v, rfl, hx _ _⟩, hok, Grow.refl _ _, fun b hb => .inl hb⟩
end Go.Aw
namespace Go.Proofs.Lex
open Go.Aw Go.Shelf
theorem c39o (l : List UInt8) (c : Int) (r : Int) (h : some (Lib.indexByte l c.toNat.toUInt8) = some r) : PureC Tryd.prog 39 [.str l, .int .u8 c] (.int .i64 r) := by
  cases h
  exact pure_si (fun w => Any.stringslite_IndexByte Tryd.lays217 ⟨l.toArray⟩ c w) (fun _ _ => .int _ _)
end Go.Proofs.Lex
namespace Go.Proofs.Lex
open Go.Aw
set_option maxRecDepth 100000
attribute [-go_sem] nisA_sl appA_nil
theorem mixed : Tryd.prog.follows .mixedOrders = true := by kernel_rfl
end Go.Proofs.Lex
namespace Go.Proofs.Lex
open Go.Aw
set_option maxRecDepth 100000
attribute [-go_sem] nisA_sl appA_nil
structure Token where
  Kind : Int
  Text : List UInt8
  N : Int
  At : Int
  deriving Inhabited, DecidableEq
def Token.cs (x : Token) : List AV := [.int .i64 x.Kind, .str x.Text, .int .i64 x.N, .int .i64 x.At]
def Token.av (x : Token) : AV := .agg x.cs
theorem Token.cs_eq (x : Token) : Token.cs x = [.int .i64 x.Kind, .str x.Text, .int .i64 x.N, .int .i64 x.At] := rfl
theorem Token.len {x : Token} : (Token.cs x).length = 4 := by rw [Token.cs_eq]; rfl
theorem Token.all {x : Token} : List.take 4 (Token.cs x) = Token.cs x := by rw [Token.cs_eq]; rfl
theorem Token.dropn {x : Token} : List.drop 4 (Token.cs x) = [] := by rw [Token.cs_eq]; rfl
theorem Token.av_eq {x : Token} : Token.av x = .agg (Token.cs x) := by rfl
theorem Token.g0_1 {x : Token} : List.take 1 (Token.cs x) = [.int .i64 x.Kind] := by rw [Token.cs_eq]; rfl
theorem Token.s0_1 {x : Token} {v : Int} : .int .i64 v :: List.drop 1 (Token.cs x) = Token.cs { x with Kind := v } := by first | (rw [Token.cs_eq, Token.cs_eq]; rfl) | (rw [Token.cs_eq]; rfl) | rw [Token.cs_eq]
theorem Token.g1_1 {x : Token} : List.take 1 (List.drop 1 (Token.cs x)) = [.str x.Text] := by rw [Token.cs_eq]; rfl
theorem Token.s1_1 {x : Token} {v : List UInt8} : .int .i64 x.Kind :: .str v :: List.drop 2 (Token.cs x) = Token.cs { x with Text := v } := by first | (rw [Token.cs_eq, Token.cs_eq]; rfl) | (rw [Token.cs_eq]; rfl) | rw [Token.cs_eq]
theorem Token.g2_1 {x : Token} : List.take 1 (List.drop 2 (Token.cs x)) = [.int .i64 x.N] := by rw [Token.cs_eq]; rfl
theorem Token.s2_1 {x : Token} {v : Int} : List.take 2 (Token.cs x) ++ [.int .i64 v] ++ List.drop 3 (Token.cs x) = Token.cs { x with N := v } := by first | (rw [Token.cs_eq, Token.cs_eq]; rfl) | (rw [Token.cs_eq]; rfl) | rw [Token.cs_eq]
theorem Token.g3_1 {x : Token} : List.take 1 (List.drop 3 (Token.cs x)) = [.int .i64 x.At] := by rw [Token.cs_eq]; rfl
theorem Token.s3_1 {x : Token} {v : Int} : List.take 3 (Token.cs x) ++ [.int .i64 v] = Token.cs { x with At := v } := by first | (rw [Token.cs_eq, Token.cs_eq]; rfl) | (rw [Token.cs_eq]; rfl) | rw [Token.cs_eq]
theorem Token.avl {x : Token} : (Token.av x).cells.length = 4 := by exact Token.len
theorem Token.flen {l : List Token} : (flt Token.av l).length = l.length * 4 := by exact flt_len (fun _ => Token.avl) l
theorem Token.ftake {l : List Token} : List.take (l.length * 4) (flt Token.av l) = flt Token.av l := by exact flt_take (fun _ => Token.avl) l
theorem Token.snoc {l : List Token} {x : Token} : flt Token.av l ++ Token.cs x = flt Token.av (l ++ [x]) := by rw [flt_app, flt_one]; rfl
theorem Token.snocx {l : List Token} {v0 : Int} {v1 : List UInt8} {v2 : Int} {v3 : Int} : flt Token.av l ++ [.int .i64 v0, .str v1, .int .i64 v2, .int .i64 v3] = flt Token.av (l ++ [({ Kind := v0, Text := v1, N := v2, At := v3 } : Token)]) := by rw [flt_app, flt_one]; show _ = _ ++ Token.cs _; rw [Token.cs_eq]
theorem Token.app {l m : List Token} : flt Token.av l ++ flt Token.av m = flt Token.av (l ++ m) := by exact flt_app.symm
theorem Token.allm {l : List Token} : (∀ x, x ∈ List.map Token.av l → x.cells.length = 4) = True := by exact eq_true (fun x hx => by obtain ⟨a, _, rfl⟩ := List.mem_map.1 hx; exact Token.avl)
theorem Token.fget0 {l : List Token} {i c : Nat} (h : i < l.length) (hc : c ≤ 4) : List.take c (List.drop (i * 4) (flt Token.av l)) = List.take c (Token.cs l[i]!) := by exact flt_get (fun _ => Token.avl) l i 0 c h (by omega)
theorem Token.fget {l : List Token} {i o c : Nat} (h : i < l.length) (hc : o + c ≤ 4) : List.take c (List.drop (i * 4 + o) (flt Token.av l)) = List.take c (List.drop o (Token.cs l[i]!)) := by exact flt_get (fun _ => Token.avl) l i o c h hc
theorem Token.fset {l : List Token} {i : Nat} {v : Token} (h : i < l.length) : List.take (i * 4) (flt Token.av l) ++ Token.cs v ++ List.drop (i * 4 + 4) (flt Token.av l) = flt Token.av (l.set i v) := by have := flt_set (f := Token.av) (fun _ => Token.avl) l i 0 4 (Token.cs v) v h (by show List.take 0 (Token.cs _) ++ Token.cs v ++ List.drop (0 + 4) (Token.cs _) = Token.cs v; rw [Nat.zero_add, Token.dropn]; simp) (by omega); exact this
theorem Token.fs0_1 {l : List Token} {i : Nat} {v : Int} (h : i < l.length) : List.take (i * 4) (flt Token.av l) ++ [.int .i64 v] ++ List.drop (i * 4 + 1) (flt Token.av l) = flt Token.av (l.set i { (l[i]!) with Kind := v }) := by exact flt_set (f := Token.av) (fun _ => Token.avl) l i 0 1 _ { (l[i]!) with Kind := v } h (by show List.take 0 (Token.cs l[i]!) ++ _ ++ List.drop (0 + 1) (Token.cs l[i]!) = Token.cs _; rw [Token.cs_eq, Token.cs_eq]; rfl) (by omega)
theorem Token.fs1_1 {l : List Token} {i : Nat} {v : List UInt8} (h : i < l.length) : List.take (i * 4 + 1) (flt Token.av l) ++ [.str v] ++ List.drop (i * 4 + 1 + 1) (flt Token.av l) = flt Token.av (l.set i { (l[i]!) with Text := v }) := by exact flt_set (f := Token.av) (fun _ => Token.avl) l i 1 1 _ { (l[i]!) with Text := v } h (by show List.take 1 (Token.cs l[i]!) ++ _ ++ List.drop (1 + 1) (Token.cs l[i]!) = Token.cs _; rw [Token.cs_eq, Token.cs_eq]; rfl) (by omega)
theorem Token.fs2_1 {l : List Token} {i : Nat} {v : Int} (h : i < l.length) : List.take (i * 4 + 2) (flt Token.av l) ++ [.int .i64 v] ++ List.drop (i * 4 + 2 + 1) (flt Token.av l) = flt Token.av (l.set i { (l[i]!) with N := v }) := by exact flt_set (f := Token.av) (fun _ => Token.avl) l i 2 1 _ { (l[i]!) with N := v } h (by show List.take 2 (Token.cs l[i]!) ++ _ ++ List.drop (2 + 1) (Token.cs l[i]!) = Token.cs _; rw [Token.cs_eq, Token.cs_eq]; rfl) (by omega)
theorem Token.fs3_1 {l : List Token} {i : Nat} {v : Int} (h : i < l.length) : List.take (i * 4 + 3) (flt Token.av l) ++ [.int .i64 v] ++ List.drop (i * 4 + 3 + 1) (flt Token.av l) = flt Token.av (l.set i { (l[i]!) with At := v }) := by exact flt_set (f := Token.av) (fun _ => Token.avl) l i 3 1 _ { (l[i]!) with At := v } h (by show List.take 3 (Token.cs l[i]!) ++ _ ++ List.drop (3 + 1) (Token.cs l[i]!) = Token.cs _; rw [Token.cs_eq, Token.cs_eq]; rfl) (by omega)
theorem Token.eqc {a b : Token} : eqCells [.i, .s, .i, .i] (Token.cs a) (Token.cs b) = some (decide (a = b)) := by cases a; cases b; simp only [eqC_nil, eqC_cons, bndO_some, same_i, same_s, same_b, Token.cs_eq]; rw [Option.some.injEq, Bool.eq_iff_iff]; simp
attribute [go_sem] Token.len Token.all Token.dropn Token.av_eq Token.g0_1 Token.s0_1 Token.g1_1 Token.s1_1 Token.g2_1 Token.s2_1 Token.g3_1 Token.s3_1 Token.flen Token.ftake Token.snoc Token.snocx Token.app Token.allm Token.fget0 Token.fget Token.fset Token.fs0_1 Token.fs1_1 Token.fs2_1 Token.fs3_1 Token.eqc
def lit1 : List UInt8 := [100, 117, 116, 121, 32, 97, 46, 98, 32, 111, 102, 32, 120, 58]
def zr24_0 : List AO := [⟨some 3, none, .mov (.c (.bool false))⟩]
def zr24_1 : List AO := [⟨some 4, none, .load false 1 (.t 1)⟩,
  ⟨some 5, none, .mov (.t 0)⟩,
  ⟨some 6, none, .idxS (.t 4) (.t 5)⟩,
  ⟨some 7, none, .bin .neq (.t 6) (.c (.int .u8 10))⟩,
  ⟨some 3, none, .mov (.t 7)⟩]
def zc24_0 : AC := .seq (.reg zr24_1) .ret
def zc24_1 : AC := .seq (.reg zr24_0) zc24_0
def zc24 : AC := zc24_1
theorem ok24 : Tryd.f24.body.bind (compCode Tryd.prog 8) = some zc24 := by kernel_rfl
theorem nt24 : Tryd.f24.ntmps = 8 := by kernel_rfl
theorem res24 : compRes Tryd.prog Tryd.f24.results.toList = some [.tmp 3] := by kernel_rfl
attribute [go_sem] zr24_0 zr24_1
def s24 (N : Nat) (p1 : Int) (p2 : List UInt8) : Option Bool :=
  grd (0 ≤ p1 ∧ p1 < (List.length p2 : Int)) <|
  some (!decide (((List.getD p2 p1.toNat 0).toNat : Int) = 10))
set_option maxHeartbeats 4000000 in
theorem c24 (N : Nat) (p1 : Int) (p2 : List UInt8) (r : Bool) (h : s24 N p1 p2 = some r) : PureC Tryd.prog 24 [.int .i64 p1, .ref ([.str p2])] (.bool r) := by
 refine fn_intro' 8 Tryd.func24 nt24 ok24 res24 (by simp) fun X hP hn hd hr => ?_
 unfold s24 at h
 repeat refine awp_seq ?_
 refine rg (h := ?_)
 repeat refine awp_seq ?_
 obtain ⟨⟨hg1, hg2⟩, h⟩ := grd_some h
 refine rgf (And.intro (eq_true hg1) (eq_true hg2)) ?_
 obtain rfl := som_inj h
 repeat refine awp_seq ?_
 refine awp_ret ?_
 repeat first | refine then_ret ?_ | refine blk_ret ?_
 exact rtp
def zr23_0 : List AO := [⟨some 6, none, .mov (.c (.int .i64 0))⟩]
def zr23_1 : List AO := [⟨some 7, none, .mov (.t 1)⟩,
  ⟨some 8, none, .mov (.t 0)⟩,
  ⟨some 9, none, .lenS (.t 8)⟩,
  ⟨some 10, none, .bin .lss (.t 7) (.t 9)⟩,
  ⟨some 11, none, .mov (.t 10)⟩,
  ⟨some 12, some (11, true), .mov (.t 2)⟩,
  ⟨some 13, some (11, true), .mov (.t 1)⟩,
  ⟨some 14, some (11, true), .callV (.t 12) [(.t 13)]⟩,
  ⟨some 15, none, .pick (.t 11) (.t 14) (.c (.bool false))⟩]
def zc23_0 : AC := .cond (.t 15) .skip (.exit 0)
def zr23_2 : List AO := [⟨some 16, none, .mov (.t 1)⟩,
  ⟨some 17, none, .bin .add (.t 16) (.c (.int .i64 1))⟩,
  ⟨some 1, none, .mov (.t 17)⟩]
def zc23_1 : AC := .reg zr23_2
def zc23_2 : AC := .block 1 zc23_1
def zc23_3 : AC := .seq (.seq (.reg zr23_1) zc23_0) zc23_2
def zc23_4 : AC := .loop zc23_3
def zr23_3 : List AO := [⟨some 18, none, .mov (.t 1)⟩,
  ⟨some 6, none, .mov (.t 18)⟩]
def zc23_5 : AC := .seq (.reg zr23_3) .ret
def zc23_6 : AC := .seq (.block 0 zc23_4) zc23_5
def zc23_7 : AC := .seq (.reg zr23_0) zc23_6
def zc23 : AC := zc23_7
theorem ok23 : Tryd.f23.body.bind (compCode Tryd.prog 19) = some zc23 := by kernel_rfl
theorem nt23 : Tryd.f23.ntmps = 19 := by kernel_rfl
theorem res23 : compRes Tryd.prog Tryd.f23.results.toList = some [.tmp 6] := by kernel_rfl
theorem okf24 : okF Tryd.prog 24 = true := by kernel_rfl
attribute [go_sem] zr23_0 zr23_2 zr23_3
def s23_b1 (N : Nat) (p1 : List UInt8) (p3 : List UInt8) (x1 : Int) : Option (((Int) ⊕ (Int))) :=
  if x1 < (List.length p1 : Int) then
    (s24 N x1 p3).bind fun x5 =>
    bif x5 then
      some (.inl (IntKind.wrap .i64 (x1 + 1)))
    else
      some (.inr x1)
  else
    some (.inr x1)
def s23 (N : Nat) (p1 : List UInt8) (p2 : Int) (p3 : List UInt8) : Option Int :=
  (iter (fun p => s23_b1 N p1 p3 p) N p2).bind fun a2 =>
  some a2
set_option maxHeartbeats 4000000 in
theorem c23 (N : Nat) (p1 : List UInt8) (p2 : Int) (p3 : List UInt8) (r : Int) (h : s23 N p1 p2 p3 = some r) : PureC Tryd.prog 23 [.str p1, .int .i64 p2, .fn (.func 24) [] [.ref ([.str p3])]] (.int .i64 r) := by
 refine fn_intro' 19 Tryd.func23 nt23 ok23 res23 (by simp) fun X hP hn hd hr => ?_
 unfold s23 at h
 repeat refine awp_seq ?_
 refine rg (h := ?_)
 repeat refine awp_seq ?_
 refine awp_block ?_
 obtain ⟨o2, ho2, hO2⟩ := bnd_some h
 repeat refine awp_seq ?_
 refine awp_loop (ι := {p : Nat × Int // iter (fun p => s23_b1 N p1 p3 p) p.1 p.2 = some o2}) (fun p => [(0, .str p1), (1, .int .i64 p.1.2), (2, .fn (.func 24) [] [.ref ([.str p3])])]) (fun p => []) (fun p => p.1.1) ⟨⟨N, p2⟩, ho2⟩ ?_ ?_
 · refine ent_le' ([]) ([]) ([]) rfl (List.Perm.refl _) ?_ ?_
   · simp -implicitDefEqProofs (disch := first | omega | rfl) only [go_sem, simprocAttr, subF_cons, subF_nil]
     exact ⟨(.keep _), (.keep _), (.fnL .nil (.cons (.keep _) .nil))⟩
   · exact .nil
 rintro ⟨⟨n2, x1⟩, hi2⟩
 obtain ⟨m2, q2, rfl, h, hm2⟩ := iter_some hi2
 try dsimp only at h
 try dsimp only
 unfold s23_b1 at h
 repeat refine awp_seq ?_
 refine awp_reg fun K Q hK hQ => ?_
 rcases ite_some h with ⟨hc4, h⟩ | ⟨hc4, h⟩
 · simp -implicitDefEqProofs (disch := first | omega | rfl) only [go_sem, simprocAttr, zr23_1, hP, hide_P, okf24, eq_true hc4]
   have hh := bnd_some h; clear h; obtain ⟨x5, hx6, h⟩ := hh
   refine call_pure hP (c24 N x1 p3 x5 hx6) ?_
   simp -implicitDefEqProofs (disch := first | omega | rfl) only [go_sem, simprocAttr]
   refine hK _ _ ?_; clear hK hQ K Q
   rcases cnd_some h with ⟨hc7, h⟩ | ⟨hc7, h⟩
   · repeat refine awp_seq ?_
     refine awp_then (by simp -implicitDefEqProofs (disch := first | omega | rfl) only [go_sem, simprocAttr, hc7]) ?_
     repeat refine awp_seq ?_
     refine awp_skip ?_
     repeat refine awp_seq ?_
     refine awp_block ?_
     repeat refine awp_seq ?_
     refine rg (h := ?_)
     obtain rfl := som_inj h
     try dsimp only at hm2
     refine ⟨⟨⟨m2, IntKind.wrap .i64 (x1 + 1)⟩, hm2⟩, Nat.lt_succ_self _, ?_⟩
     refine ent_le' ([]) ([]) ([]) rfl (List.Perm.refl _) ?_ ?_
     · simp -implicitDefEqProofs (disch := first | omega | rfl) only [go_sem, simprocAttr, subF_cons, subF_nil]
       exact ⟨(.keep _), (.keep _), (.fnL .nil (.cons (.keep _) .nil))⟩
     · exact .nil
   repeat refine awp_seq ?_
   refine awp_else (by simp -implicitDefEqProofs (disch := first | omega | rfl) only [go_sem, simprocAttr, hc7]) ?_
   repeat refine awp_seq ?_
   refine awp_exit ?_
   repeat' (first | refine then_exit ?_ | refine exit_here ?_ | refine exit_on rfl ?_)
   obtain rfl := som_inj h
   try dsimp only at hm2
   subst hm2
   try dsimp only at hO2
   repeat refine awp_seq ?_
   refine rg (h := ?_)
   obtain rfl := som_inj hO2
   repeat refine awp_seq ?_
   refine awp_ret ?_
   repeat first | refine then_ret ?_ | refine blk_ret ?_
   exact rtp
 simp -implicitDefEqProofs (disch := first | omega | rfl) only [go_sem, simprocAttr, zr23_1, eq_false hc4]
 refine hK _ _ ?_; clear hK hQ K Q
 repeat refine awp_seq ?_
 refine awp_else (by rfl) ?_
 repeat refine awp_seq ?_
 refine awp_exit ?_
 repeat' (first | refine then_exit ?_ | refine exit_here ?_ | refine exit_on rfl ?_)
 obtain rfl := som_inj h
 try dsimp only at hm2
 subst hm2
 try dsimp only at hO2
 repeat refine awp_seq ?_
 refine rg (h := ?_)
 obtain rfl := som_inj hO2
 repeat refine awp_seq ?_
 refine awp_ret ?_
 repeat first | refine then_ret ?_ | refine blk_ret ?_
 exact rtp
def zr19_0 : List AO := [⟨some 2, none, .box (.t 0)⟩,
  ⟨some 4, none, .mov (.c (.int .i64 0))⟩]
def zr19_1 : List AO := [⟨some 5, none, .mov (.t 1)⟩,
  ⟨some 6, none, .load false 1 (.t 2)⟩,
  ⟨some 7, none, .lenS (.t 6)⟩,
  ⟨some 8, none, .bin .lss (.t 5) (.t 7)⟩]
def zc19_0 : AC := .cond (.t 8) .skip (.exit 0)
def zr19_2 : List AO := [⟨some 9, none, .load false 1 (.t 2)⟩,
  ⟨some 10, none, .mov (.t 1)⟩,
  ⟨some 11, none, .idxS (.t 9) (.t 10)⟩]
def zr19_3 : List AO := [⟨some 14, none, .bin .eql (.t 11) (.c (.int .u8 32))⟩,
  ⟨some 13, none, .mov (.t 14)⟩]
def zr19_4 : List AO := [⟨some 15, none, .bin .eql (.t 11) (.c (.int .u8 9))⟩,
  ⟨some 13, none, .mov (.t 15)⟩]
def zr19_5 : List AO := [⟨some 16, none, .bin .eql (.t 11) (.c (.int .u8 10))⟩,
  ⟨some 13, none, .mov (.t 16)⟩]
def zc19_1 : AC := .reg zr19_5
def zc19_2 : AC := .cond (.t 13) .skip zc19_1
def zc19_3 : AC := .seq (.reg zr19_4) zc19_2
def zc19_4 : AC := .cond (.t 13) .skip zc19_3
def zr19_6 : List AO := [⟨some 17, none, .mov (.t 1)⟩,
  ⟨some 18, none, .bin .add (.t 17) (.c (.int .i64 1))⟩,
  ⟨some 1, none, .mov (.t 18)⟩]
def zc19_5 : AC := .reg zr19_6
def zr19_7 : List AO := [⟨some 20, none, .bin .eql (.t 11) (.c (.int .u8 35))⟩,
  ⟨some 19, none, .mov (.t 20)⟩]
def zr19_8 : List AO := [⟨some 21, none, .load false 1 (.t 2)⟩,
  ⟨some 22, none, .mov (.t 1)⟩,
  ⟨some 23, none, .mkfn (.func 24) [] [(.t 2)]⟩,
  ⟨some 24, none, .callF 23 [(.t 21), (.t 22), (.t 23)]⟩,
  ⟨some 1, none, .mov (.t 24)⟩]
def zc19_6 : AC := .reg zr19_8
def zr19_9 : List AO := [⟨some 12, none, .mov (.t 1)⟩,
  ⟨some 4, none, .mov (.t 12)⟩]
def zc19_7 : AC := .seq (.reg zr19_9) .ret
def zc19_8 : AC := .cond (.t 19) zc19_6 zc19_7
def zc19_9 : AC := .seq (.reg zr19_7) zc19_8
def zc19_10 : AC := .cond (.t 13) zc19_5 zc19_9
def zc19_11 : AC := .seq (.seq (.reg zr19_3) zc19_4) zc19_10
def zc19_12 : AC := .block 2 zc19_11
def zc19_13 : AC := .seq (.reg zr19_2) zc19_12
def zc19_14 : AC := .block 1 zc19_13
def zc19_15 : AC := .seq (.seq (.reg zr19_1) zc19_0) zc19_14
def zc19_16 : AC := .loop zc19_15
def zr19_10 : List AO := [⟨some 25, none, .mov (.t 1)⟩,
  ⟨some 4, none, .mov (.t 25)⟩]
def zc19_17 : AC := .seq (.reg zr19_10) .ret
def zc19_18 : AC := .seq (.block 0 zc19_16) zc19_17
def zc19_19 : AC := .seq (.reg zr19_0) zc19_18
def zc19 : AC := zc19_19
theorem ok19 : Tryd.f19.body.bind (compCode Tryd.prog 26) = some zc19 := by kernel_rfl
theorem nt19 : Tryd.f19.ntmps = 26 := by kernel_rfl
theorem res19 : compRes Tryd.prog Tryd.f19.results.toList = some [.tmp 4] := by kernel_rfl
attribute [go_sem] zr19_1 zr19_10 zr19_2 zr19_3 zr19_4 zr19_5 zr19_6 zr19_7 zr19_9
def s19_k1 (N : Nat) (p1 : List UInt8) (x2 : Int) (x7 : Bool) : Option (((Int) ⊕ (Ou (Int) (Int)))) :=
  bif x7 then
    some (.inl (IntKind.wrap .i64 (x2 + 1)))
  else
    if ((List.getD p1 x2.toNat 0).toNat : Int) = 35 then
      (s23 N p1 x2 p1).bind fun x10 =>
      some (.inl x10)
    else
      some (.inr (.ret x2))
def s19_b2 (N : Nat) (p1 : List UInt8) (x2 : Int) : Option (((Int) ⊕ (Ou (Int) (Int)))) :=
  if x2 < (List.length p1 : Int) then
    grd (0 ≤ x2) <|
    if ((List.getD p1 x2.toNat 0).toNat : Int) = 32 then
      s19_k1 N p1 x2 (decide (((List.getD p1 x2.toNat 0).toNat : Int) = 32))
    else
      if ((List.getD p1 x2.toNat 0).toNat : Int) = 9 then
        s19_k1 N p1 x2 (decide (((List.getD p1 x2.toNat 0).toNat : Int) = 9))
      else
        s19_k1 N p1 x2 (decide (((List.getD p1 x2.toNat 0).toNat : Int) = 10))
  else
    some (.inr (.brk x2))
def s19 (N : Nat) (p1 : List UInt8) (p2 : Int) : Option Int :=
  (iter (fun p => s19_b2 N p1 p) N p2).bind fun o3 => o3.on (fun a3 =>
    some a3)
    (fun a3r => some a3r)
set_option maxHeartbeats 4000000 in
theorem c19 (N : Nat) (p1 : List UInt8) (p2 : Int) (r : Int) (h : s19 N p1 p2 = some r) : PureC Tryd.prog 19 [.str p1, .int .i64 p2] (.int .i64 r) := by
 refine fn_intro' 26 Tryd.func19 nt19 ok19 res19 (by simp) fun X hP hn hd hr => ?_
 unfold s19 at h
 repeat refine awp_seq ?_
 refine awp_reg fun K Q hK hQ => ?_
 simp -implicitDefEqProofs (disch := first | omega | rfl) only [go_sem, simprocAttr, zr19_0, argS]
 intro b1
 refine hK _ _ ?_; clear hK hQ K Q
 repeat refine awp_seq ?_
 refine awp_le' (s' := [(1, .int .i64 p2), (2, .ref ([.str p1]))]) (own' := []) (_ :: []) ([]) (_ :: []) rfl (List.Perm.refl _) ?_ ?_ ?_
 · simp -implicitDefEqProofs (disch := first | omega | rfl) only [go_sem, simprocAttr, subF_cons, subF_nil]
   exact ⟨(.keep _), (frz_ptr (by simp -implicitDefEqProofs (disch := first | omega | rfl) only [go_sem, simprocAttr]))⟩
 · exact .nil
 repeat refine awp_seq ?_
 refine awp_block ?_
 obtain ⟨o3, ho3, hO3⟩ := bnd_some h
 repeat refine awp_seq ?_
 refine awp_loop (ι := {p : Nat × Int // iter (fun p => s19_b2 N p1 p) p.1 p.2 = some o3}) (fun p => [(1, .int .i64 p.1.2), (2, .ref ([.str p1]))]) (fun p => []) (fun p => p.1.1) ⟨⟨N, p2⟩, ho3⟩ ?_ ?_
 · refine ent_le' ([]) ([]) ([]) rfl (List.Perm.refl _) ?_ ?_
   · simp -implicitDefEqProofs (disch := first | omega | rfl) only [go_sem, simprocAttr, subF_cons, subF_nil]
     exact ⟨(.keep _), (.keep _)⟩
   · exact .nil
 rintro ⟨⟨n3, x2⟩, hi3⟩
 obtain ⟨m3, q3, rfl, h, hm3⟩ := iter_some hi3
 try dsimp only at h
 try dsimp only
 unfold s19_b2 at h
 repeat refine awp_seq ?_
 refine rg (h := ?_)
 rcases ite_some h with ⟨hc5, h⟩ | ⟨hc5, h⟩
 · repeat refine awp_seq ?_
   refine awp_then (by simp -implicitDefEqProofs (disch := first | omega | rfl) only [go_sem, simprocAttr, eq_true hc5]) ?_
   repeat refine awp_seq ?_
   refine awp_skip ?_
   repeat refine awp_seq ?_
   refine awp_block ?_
   repeat refine awp_seq ?_
   obtain ⟨hg6, h⟩ := grd_some h
   refine rgf (And.intro (eq_true hc5) (eq_true hg6)) ?_
   repeat refine awp_seq ?_
   refine awp_block ?_
   repeat refine awp_seq ?_
   refine rg (h := ?_)
   repeat refine awp_seq ?_
   refine awp_cut (ι := {p : Bool // s19_k1 N p1 x2 p = some q3}) (fun p => [(1, .int .i64 x2), (2, .ref ([.str p1])), (11, .int .u8 ((List.getD p1 x2.toNat 0).toNat : Int)), (13, .bool p.1)]) (fun p => []) ?_ ?_
   · rcases ite_some h with ⟨hc12, h⟩ | ⟨hc12, h⟩
     · repeat refine awp_seq ?_
       refine awp_then (by simp -implicitDefEqProofs (disch := first | omega | rfl) only [go_sem, simprocAttr, eq_true hc12]) ?_
       repeat refine awp_seq ?_
       refine awp_skip ?_
       refine ⟨⟨decide (((List.getD p1 x2.toNat 0).toNat : Int) = 32), h⟩, ?_⟩
       refine ent_le' ([]) ([]) ([]) rfl (List.Perm.refl _) ?_ ?_
       · simp -implicitDefEqProofs (disch := first | omega | rfl) only [go_sem, simprocAttr, subF_cons, subF_nil]
         exact ⟨(.keep _), (.keep _), (.keep _), (.keep _)⟩
       · exact .nil
     repeat refine awp_seq ?_
     refine awp_else (by simp -implicitDefEqProofs (disch := first | omega | rfl) only [go_sem, simprocAttr, eq_false hc12]) ?_
     repeat refine awp_seq ?_
     refine rg (h := ?_)
     rcases ite_some h with ⟨hc13, h⟩ | ⟨hc13, h⟩
     · repeat refine awp_seq ?_
       refine awp_then (by simp -implicitDefEqProofs (disch := first | omega | rfl) only [go_sem, simprocAttr, eq_true hc13]) ?_
       repeat refine awp_seq ?_
       refine awp_skip ?_
       refine ⟨⟨decide (((List.getD p1 x2.toNat 0).toNat : Int) = 9), h⟩, ?_⟩
       refine ent_le' ([]) ([]) ([]) rfl (List.Perm.refl _) ?_ ?_
       · simp -implicitDefEqProofs (disch := first | omega | rfl) only [go_sem, simprocAttr, subF_cons, subF_nil]
         exact ⟨(.keep _), (.keep _), (.keep _), (.keep _)⟩
       · exact .nil
     repeat refine awp_seq ?_
     refine awp_else (by simp -implicitDefEqProofs (disch := first | omega | rfl) only [go_sem, simprocAttr, eq_false hc13]) ?_
     repeat refine awp_seq ?_
     refine rg (h := ?_)
     refine ⟨⟨decide (((List.getD p1 x2.toNat 0).toNat : Int) = 10), h⟩, ?_⟩
     refine ent_le' ([]) ([]) ([]) rfl (List.Perm.refl _) ?_ ?_
     · simp -implicitDefEqProofs (disch := first | omega | rfl) only [go_sem, simprocAttr, subF_cons, subF_nil]
       exact ⟨(.keep _), (.keep _), (.keep _), (.keep _)⟩
     · exact .nil
   rintro ⟨x7, h⟩
   try dsimp only at h
   try dsimp only
   rcases cnd_some h with ⟨hc8, h⟩ | ⟨hc8, h⟩
   · repeat refine awp_seq ?_
     refine awp_then (by simp -implicitDefEqProofs (disch := first | omega | rfl) only [go_sem, simprocAttr, hc8]) ?_
     repeat refine awp_seq ?_
     refine rg (h := ?_)
     obtain rfl := som_inj h
     try dsimp only at hm3
     refine ⟨⟨⟨m3, IntKind.wrap .i64 (x2 + 1)⟩, hm3⟩, Nat.lt_succ_self _, ?_⟩
     refine ent_le' ([]) ([]) ([]) rfl (List.Perm.refl _) ?_ ?_
     · simp -implicitDefEqProofs (disch := first | omega | rfl) only [go_sem, simprocAttr, subF_cons, subF_nil]
       exact ⟨(.keep _), (.keep _)⟩
     · exact .nil
   repeat refine awp_seq ?_
   refine awp_else (by simp -implicitDefEqProofs (disch := first | omega | rfl) only [go_sem, simprocAttr, hc8]) ?_
   repeat refine awp_seq ?_
   refine rg (h := ?_)
   rcases ite_some h with ⟨hc9, h⟩ | ⟨hc9, h⟩
   · repeat refine awp_seq ?_
     refine awp_then (by simp -implicitDefEqProofs (disch := first | omega | rfl) only [go_sem, simprocAttr, eq_true hc9]) ?_
     repeat refine awp_seq ?_
     refine awp_reg fun K Q hK hQ => ?_
     simp -implicitDefEqProofs (disch := first | omega | rfl) only [go_sem, simprocAttr, zr19_8]
     have hh := bnd_some h; clear h; obtain ⟨x10, hx11, h⟩ := hh
     refine call_pure hP (c23 N p1 x2 p1 x10 hx11) ?_
     simp -implicitDefEqProofs (disch := first | omega | rfl) only [go_sem, simprocAttr]
     refine hK _ _ ?_; clear hK hQ K Q
     obtain rfl := som_inj h
     try dsimp only at hm3
     refine ⟨⟨⟨m3, x10⟩, hm3⟩, Nat.lt_succ_self _, ?_⟩
     refine ent_le' ([]) ([]) ([]) rfl (List.Perm.refl _) ?_ ?_
     · simp -implicitDefEqProofs (disch := first | omega | rfl) only [go_sem, simprocAttr, subF_cons, subF_nil]
       exact ⟨(.keep _), (.keep _)⟩
     · exact .nil
   repeat refine awp_seq ?_
   refine awp_else (by simp -implicitDefEqProofs (disch := first | omega | rfl) only [go_sem, simprocAttr, eq_false hc9]) ?_
   repeat refine awp_seq ?_
   refine rg (h := ?_)
   obtain rfl := som_inj h
   try dsimp only at hm3
   subst hm3
   simp only [Ou.on_ret] at hO3
   obtain rfl := som_inj hO3
   repeat refine awp_seq ?_
   refine awp_ret ?_
   repeat first | refine then_ret ?_ | refine blk_ret ?_
   exact rtp
 repeat refine awp_seq ?_
 refine awp_else (by simp -implicitDefEqProofs (disch := first | omega | rfl) only [go_sem, simprocAttr, eq_false hc5]) ?_
 repeat refine awp_seq ?_
 refine awp_exit ?_
 repeat' (first | refine then_exit ?_ | refine exit_here ?_ | refine exit_on rfl ?_)
 obtain rfl := som_inj h
 try dsimp only at hm3
 subst hm3
 simp only [Ou.on_brk] at hO3
 repeat refine awp_seq ?_
 refine rg (h := ?_)
 obtain rfl := som_inj hO3
 repeat refine awp_seq ?_
 refine awp_ret ?_
 repeat first | refine then_ret ?_ | refine blk_ret ?_
 exact rtp
structure LexerFault where
  err_ : Int
  at_ : Int
  deriving Inhabited, DecidableEq
def LexerFault.cs (x : LexerFault) : List AV := [.int .i64 x.err_, .int .i64 x.at_]
def LexerFault.av (x : LexerFault) : AV := .agg x.cs
theorem LexerFault.cs_eq (x : LexerFault) : LexerFault.cs x = [.int .i64 x.err_, .int .i64 x.at_] := rfl
theorem LexerFault.len {x : LexerFault} : (LexerFault.cs x).length = 2 := by rw [LexerFault.cs_eq]; rfl
theorem LexerFault.all {x : LexerFault} : List.take 2 (LexerFault.cs x) = LexerFault.cs x := by rw [LexerFault.cs_eq]; rfl
theorem LexerFault.dropn {x : LexerFault} : List.drop 2 (LexerFault.cs x) = [] := by rw [LexerFault.cs_eq]; rfl
theorem LexerFault.av_eq {x : LexerFault} : LexerFault.av x = .agg (LexerFault.cs x) := by rfl
theorem LexerFault.g0_1 {x : LexerFault} : List.take 1 (LexerFault.cs x) = [.int .i64 x.err_] := by rw [LexerFault.cs_eq]; rfl
theorem LexerFault.s0_1 {x : LexerFault} {v : Int} : .int .i64 v :: List.drop 1 (LexerFault.cs x) = LexerFault.cs { x with err_ := v } := by first | (rw [LexerFault.cs_eq, LexerFault.cs_eq]; rfl) | (rw [LexerFault.cs_eq]; rfl) | rw [LexerFault.cs_eq]
theorem LexerFault.g1_1 {x : LexerFault} : List.take 1 (List.drop 1 (LexerFault.cs x)) = [.int .i64 x.at_] := by rw [LexerFault.cs_eq]; rfl
theorem LexerFault.s1_1 {x : LexerFault} {v : Int} : [.int .i64 x.err_, .int .i64 v] = LexerFault.cs { x with at_ := v } := by first | (rw [LexerFault.cs_eq, LexerFault.cs_eq]; rfl) | (rw [LexerFault.cs_eq]; rfl) | rw [LexerFault.cs_eq]
theorem LexerFault.avl {x : LexerFault} : (LexerFault.av x).cells.length = 2 := by exact LexerFault.len
theorem LexerFault.flen {l : List LexerFault} : (flt LexerFault.av l).length = l.length * 2 := by exact flt_len (fun _ => LexerFault.avl) l
theorem LexerFault.ftake {l : List LexerFault} : List.take (l.length * 2) (flt LexerFault.av l) = flt LexerFault.av l := by exact flt_take (fun _ => LexerFault.avl) l
theorem LexerFault.snoc {l : List LexerFault} {x : LexerFault} : flt LexerFault.av l ++ LexerFault.cs x = flt LexerFault.av (l ++ [x]) := by rw [flt_app, flt_one]; rfl
theorem LexerFault.snocx {l : List LexerFault} {v0 : Int} {v1 : Int} : flt LexerFault.av l ++ [.int .i64 v0, .int .i64 v1] = flt LexerFault.av (l ++ [({ err_ := v0, at_ := v1 } : LexerFault)]) := by rw [flt_app, flt_one]; show _ = _ ++ LexerFault.cs _; rw [LexerFault.cs_eq]
theorem LexerFault.app {l m : List LexerFault} : flt LexerFault.av l ++ flt LexerFault.av m = flt LexerFault.av (l ++ m) := by exact flt_app.symm
theorem LexerFault.allm {l : List LexerFault} : (∀ x, x ∈ List.map LexerFault.av l → x.cells.length = 2) = True := by exact eq_true (fun x hx => by obtain ⟨a, _, rfl⟩ := List.mem_map.1 hx; exact LexerFault.avl)
theorem LexerFault.fget0 {l : List LexerFault} {i c : Nat} (h : i < l.length) (hc : c ≤ 2) : List.take c (List.drop (i * 2) (flt LexerFault.av l)) = List.take c (LexerFault.cs l[i]!) := by exact flt_get (fun _ => LexerFault.avl) l i 0 c h (by omega)
theorem LexerFault.fget {l : List LexerFault} {i o c : Nat} (h : i < l.length) (hc : o + c ≤ 2) : List.take c (List.drop (i * 2 + o) (flt LexerFault.av l)) = List.take c (List.drop o (LexerFault.cs l[i]!)) := by exact flt_get (fun _ => LexerFault.avl) l i o c h hc
theorem LexerFault.fset {l : List LexerFault} {i : Nat} {v : LexerFault} (h : i < l.length) : List.take (i * 2) (flt LexerFault.av l) ++ LexerFault.cs v ++ List.drop (i * 2 + 2) (flt LexerFault.av l) = flt LexerFault.av (l.set i v) := by have := flt_set (f := LexerFault.av) (fun _ => LexerFault.avl) l i 0 2 (LexerFault.cs v) v h (by show List.take 0 (LexerFault.cs _) ++ LexerFault.cs v ++ List.drop (0 + 2) (LexerFault.cs _) = LexerFault.cs v; rw [Nat.zero_add, LexerFault.dropn]; simp) (by omega); exact this
theorem LexerFault.fs0_1 {l : List LexerFault} {i : Nat} {v : Int} (h : i < l.length) : List.take (i * 2) (flt LexerFault.av l) ++ [.int .i64 v] ++ List.drop (i * 2 + 1) (flt LexerFault.av l) = flt LexerFault.av (l.set i { (l[i]!) with err_ := v }) := by exact flt_set (f := LexerFault.av) (fun _ => LexerFault.avl) l i 0 1 _ { (l[i]!) with err_ := v } h (by show List.take 0 (LexerFault.cs l[i]!) ++ _ ++ List.drop (0 + 1) (LexerFault.cs l[i]!) = LexerFault.cs _; rw [LexerFault.cs_eq, LexerFault.cs_eq]; rfl) (by omega)
theorem LexerFault.fs1_1 {l : List LexerFault} {i : Nat} {v : Int} (h : i < l.length) : List.take (i * 2 + 1) (flt LexerFault.av l) ++ [.int .i64 v] ++ List.drop (i * 2 + 1 + 1) (flt LexerFault.av l) = flt LexerFault.av (l.set i { (l[i]!) with at_ := v }) := by exact flt_set (f := LexerFault.av) (fun _ => LexerFault.avl) l i 1 1 _ { (l[i]!) with at_ := v } h (by show List.take 1 (LexerFault.cs l[i]!) ++ _ ++ List.drop (1 + 1) (LexerFault.cs l[i]!) = LexerFault.cs _; rw [LexerFault.cs_eq, LexerFault.cs_eq]; rfl) (by omega)
theorem LexerFault.eqc {a b : LexerFault} : eqCells [.i, .i] (LexerFault.cs a) (LexerFault.cs b) = some (decide (a = b)) := by cases a; cases b; simp only [eqC_nil, eqC_cons, bndO_some, same_i, same_s, same_b, LexerFault.cs_eq]; rw [Option.some.injEq, Bool.eq_iff_iff]; simp
attribute [go_sem] LexerFault.len LexerFault.all LexerFault.dropn LexerFault.av_eq LexerFault.g0_1 LexerFault.s0_1 LexerFault.g1_1 LexerFault.flen LexerFault.ftake LexerFault.snoc LexerFault.snocx LexerFault.app LexerFault.allm LexerFault.fget0 LexerFault.fget LexerFault.fset LexerFault.fs0_1 LexerFault.fs1_1 LexerFault.eqc
def zr25_0 : List AO := [⟨some 2, none, .mov (.c (.bool false))⟩]
def zr25_1 : List AO := [⟨some 3, none, .mov (.t 0)⟩,
  ⟨some 4, none, .bin .or (.t 3) (.c (.int .u8 32))⟩,
  ⟨some 5, none, .bin .leq (.c (.int .u8 97)) (.t 4)⟩,
  ⟨some 6, none, .mov (.t 5)⟩,
  ⟨some 7, some (6, true), .mov (.t 0)⟩,
  ⟨some 8, some (6, true), .bin .or (.t 7) (.c (.int .u8 32))⟩,
  ⟨some 9, some (6, true), .bin .leq (.t 8) (.c (.int .u8 122))⟩,
  ⟨some 10, none, .pick (.t 6) (.t 9) (.c (.bool false))⟩,
  ⟨some 2, none, .mov (.t 10)⟩]
def zc25_0 : AC := .seq (.reg zr25_1) .ret
def zc25_1 : AC := .seq (.reg zr25_0) zc25_0
def zc25 : AC := zc25_1
theorem ok25 : Tryd.f25.body.bind (compCode Tryd.prog 11) = some zc25 := by kernel_rfl
theorem nt25 : Tryd.f25.ntmps = 11 := by kernel_rfl
theorem res25 : compRes Tryd.prog Tryd.f25.results.toList = some [.tmp 2] := by kernel_rfl
attribute [go_sem] zr25_0 zr25_1
def s25 (N : Nat) (p1 : Int) : Option Bool :=
  if 97 ≤ bitI .or .u8 p1 32 then
    some (decide (bitI .or .u8 p1 32 ≤ 122))
  else
    some false
set_option maxHeartbeats 4000000 in
theorem c25 (N : Nat) (p1 : Int) (r : Bool) (h : s25 N p1 = some r) : PureC Tryd.prog 25 [.int .u8 p1] (.bool r) := by
 refine fn_intro' 11 Tryd.func25 nt25 ok25 res25 (by simp) fun X hP hn hd hr => ?_
 unfold s25 at h
 repeat refine awp_seq ?_
 refine rg (h := ?_)
 repeat refine awp_seq ?_
 rcases ite_some h with ⟨hc1, h⟩ | ⟨hc1, h⟩
 · refine rgf (eq_true hc1) ?_
   obtain rfl := som_inj h
   repeat refine awp_seq ?_
   refine awp_ret ?_
   repeat first | refine then_ret ?_ | refine blk_ret ?_
   exact rtp
 refine rgf (eq_false hc1) ?_
 obtain rfl := som_inj h
 repeat refine awp_seq ?_
 refine awp_ret ?_
 repeat first | refine then_ret ?_ | refine blk_ret ?_
 exact rtp
def zr28_0 : List AO := [⟨some 2, none, .mov (.c (.bool false))⟩]
def zr28_1 : List AO := [⟨some 3, none, .mov (.t 0)⟩,
  ⟨some 4, none, .bin .leq (.c (.int .u8 48)) (.t 3)⟩,
  ⟨some 5, none, .mov (.t 4)⟩,
  ⟨some 6, some (5, true), .mov (.t 0)⟩,
  ⟨some 7, some (5, true), .bin .leq (.t 6) (.c (.int .u8 57))⟩,
  ⟨some 8, none, .pick (.t 5) (.t 7) (.c (.bool false))⟩,
  ⟨some 2, none, .mov (.t 8)⟩]
def zc28_0 : AC := .seq (.reg zr28_1) .ret
def zc28_1 : AC := .seq (.reg zr28_0) zc28_0
def zc28 : AC := zc28_1
theorem ok28 : Tryd.f28.body.bind (compCode Tryd.prog 9) = some zc28 := by kernel_rfl
theorem nt28 : Tryd.f28.ntmps = 9 := by kernel_rfl
theorem res28 : compRes Tryd.prog Tryd.f28.results.toList = some [.tmp 2] := by kernel_rfl
attribute [go_sem] zr28_0 zr28_1
def s28 (N : Nat) (p1 : Int) : Option Bool :=
  if 48 ≤ p1 then
    some (decide (p1 ≤ 57))
  else
    some false
set_option maxHeartbeats 4000000 in
theorem c28 (N : Nat) (p1 : Int) (r : Bool) (h : s28 N p1 = some r) : PureC Tryd.prog 28 [.int .u8 p1] (.bool r) := by
 refine fn_intro' 9 Tryd.func28 nt28 ok28 res28 (by simp) fun X hP hn hd hr => ?_
 unfold s28 at h
 repeat refine awp_seq ?_
 refine rg (h := ?_)
 repeat refine awp_seq ?_
 rcases ite_some h with ⟨hc1, h⟩ | ⟨hc1, h⟩
 · refine rgf (eq_true hc1) ?_
   obtain rfl := som_inj h
   repeat refine awp_seq ?_
   refine awp_ret ?_
   repeat first | refine then_ret ?_ | refine blk_ret ?_
   exact rtp
 refine rgf (eq_false hc1) ?_
 obtain rfl := som_inj h
 repeat refine awp_seq ?_
 refine awp_ret ?_
 repeat first | refine then_ret ?_ | refine blk_ret ?_
 exact rtp
def zr27_0 : List AO := [⟨some 2, none, .mov (.c (.bool false))⟩]
def zr27_1 : List AO := [⟨some 3, none, .mov (.t 0)⟩,
  ⟨some 4, none, .callF 25 [(.t 3)]⟩,
  ⟨some 5, none, .mov (.t 4)⟩,
  ⟨some 6, some (5, false), .mov (.t 0)⟩,
  ⟨some 7, some (5, false), .callF 28 [(.t 6)]⟩,
  ⟨some 8, none, .pick (.t 5) (.c (.bool true)) (.t 7)⟩,
  ⟨some 9, none, .mov (.t 8)⟩,
  ⟨some 10, some (9, false), .mov (.t 0)⟩,
  ⟨some 11, some (9, false), .bin .eql (.t 10) (.c (.int .u8 95))⟩,
  ⟨some 12, none, .pick (.t 9) (.c (.bool true)) (.t 11)⟩,
  ⟨some 2, none, .mov (.t 12)⟩]
def zc27_0 : AC := .seq (.reg zr27_1) .ret
def zc27_1 : AC := .seq (.reg zr27_0) zc27_0
def zc27 : AC := zc27_1
theorem ok27 : Tryd.f27.body.bind (compCode Tryd.prog 13) = some zc27 := by kernel_rfl
theorem nt27 : Tryd.f27.ntmps = 13 := by kernel_rfl
theorem res27 : compRes Tryd.prog Tryd.f27.results.toList = some [.tmp 2] := by kernel_rfl
attribute [go_sem] zr27_0
def s27 (N : Nat) (p1 : Int) : Option Bool :=
  (s25 N p1).bind fun x1 =>
  bif x1 then
    some true
  else
    (s28 N p1).bind fun x4 =>
    bif x4 then
      some true
    else
      some (decide (p1 = 95))
set_option maxHeartbeats 4000000 in
theorem c27 (N : Nat) (p1 : Int) (r : Bool) (h : s27 N p1 = some r) : PureC Tryd.prog 27 [.int .u8 p1] (.bool r) := by
 refine fn_intro' 13 Tryd.func27 nt27 ok27 res27 (by simp) fun X hP hn hd hr => ?_
 unfold s27 at h
 repeat refine awp_seq ?_
 refine rg (h := ?_)
 repeat refine awp_seq ?_
 refine awp_reg fun K Q hK hQ => ?_
 simp -implicitDefEqProofs (disch := first | omega | rfl) only [go_sem, simprocAttr, zr27_1]
 have hh := bnd_some h; clear h; obtain ⟨x1, hx2, h⟩ := hh
 refine call_pure hP (c25 N p1 x1 hx2) ?_
 rcases cnd_some h with ⟨hc3, h⟩ | ⟨hc3, h⟩
 · simp -implicitDefEqProofs (disch := first | omega | rfl) only [go_sem, simprocAttr, hc3]
   refine hK _ _ ?_; clear hK hQ K Q
   obtain rfl := som_inj h
   repeat refine awp_seq ?_
   refine awp_ret ?_
   repeat first | refine then_ret ?_ | refine blk_ret ?_
   exact rtp
 simp -implicitDefEqProofs (disch := first | omega | rfl) only [go_sem, simprocAttr, hc3]
 have hh := bnd_some h; clear h; obtain ⟨x4, hx5, h⟩ := hh
 refine call_pure hP (c28 N p1 x4 hx5) ?_
 rcases cnd_some h with ⟨hc6, h⟩ | ⟨hc6, h⟩
 · simp -implicitDefEqProofs (disch := first | omega | rfl) only [go_sem, simprocAttr, hc6]
   refine hK _ _ ?_; clear hK hQ K Q
   obtain rfl := som_inj h
   repeat refine awp_seq ?_
   refine awp_ret ?_
   repeat first | refine then_ret ?_ | refine blk_ret ?_
   exact rtp
 simp -implicitDefEqProofs (disch := first | omega | rfl) only [go_sem, simprocAttr, hc6]
 refine hK _ _ ?_; clear hK hQ K Q
 obtain rfl := som_inj h
 repeat refine awp_seq ?_
 refine awp_ret ?_
 repeat first | refine then_ret ?_ | refine blk_ret ?_
 exact rtp
def zr26_0 : List AO := [⟨some 3, none, .mov (.c (.bool false))⟩]
def zr26_1 : List AO := [⟨some 4, none, .load false 1 (.t 1)⟩,
  ⟨some 5, none, .mov (.t 0)⟩,
  ⟨some 6, none, .idxS (.t 4) (.t 5)⟩,
  ⟨some 7, none, .callF 27 [(.t 6)]⟩,
  ⟨some 8, none, .mov (.t 7)⟩,
  ⟨some 9, some (8, false), .load false 1 (.t 1)⟩,
  ⟨some 10, some (8, false), .mov (.t 0)⟩,
  ⟨some 11, some (8, false), .idxS (.t 9) (.t 10)⟩,
  ⟨some 12, some (8, false), .bin .eql (.t 11) (.c (.int .u8 46))⟩,
  ⟨some 13, some (8, false), .mov (.t 12)⟩,
  ⟨some 14, some (13, true), .mov (.t 0)⟩,
  ⟨some 15, some (13, true), .bin .add (.t 14) (.c (.int .i64 1))⟩,
  ⟨some 16, some (13, true), .load false 1 (.t 1)⟩,
  ⟨some 17, some (13, true), .lenS (.t 16)⟩,
  ⟨some 18, some (13, true), .bin .lss (.t 15) (.t 17)⟩,
  ⟨some 19, some (8, false), .pick (.t 13) (.t 18) (.c (.bool false))⟩,
  ⟨some 20, some (8, false), .mov (.t 19)⟩,
  ⟨some 21, some (20, true), .load false 1 (.t 1)⟩,
  ⟨some 22, some (20, true), .mov (.t 0)⟩,
  ⟨some 23, some (20, true), .bin .add (.t 22) (.c (.int .i64 1))⟩,
  ⟨some 24, some (20, true), .idxS (.t 21) (.t 23)⟩,
  ⟨some 25, some (20, true), .callF 27 [(.t 24)]⟩,
  ⟨some 26, some (8, false), .pick (.t 20) (.t 25) (.c (.bool false))⟩,
  ⟨some 27, none, .pick (.t 8) (.c (.bool true)) (.t 26)⟩,
  ⟨some 3, none, .mov (.t 27)⟩]
def zc26_0 : AC := .seq (.reg zr26_1) .ret
def zc26_1 : AC := .seq (.reg zr26_0) zc26_0
def zc26 : AC := zc26_1
theorem ok26 : Tryd.f26.body.bind (compCode Tryd.prog 28) = some zc26 := by kernel_rfl
theorem nt26 : Tryd.f26.ntmps = 28 := by kernel_rfl
theorem res26 : compRes Tryd.prog Tryd.f26.results.toList = some [.tmp 3] := by kernel_rfl
attribute [go_sem] zr26_0
def s26 (N : Nat) (p1 : Int) (p2 : List UInt8) : Option Bool :=
  grd (0 ≤ p1 ∧ p1 < (List.length p2 : Int)) <|
  (s27 N ((List.getD p2 p1.toNat 0).toNat : Int)).bind fun x3 =>
  bif x3 then
    some true
  else
    if ((List.getD p2 p1.toNat 0).toNat : Int) = 46 then
      if IntKind.wrap .i64 (p1 + 1) < (List.length p2 : Int) then
        grd (0 ≤ IntKind.wrap .i64 (p1 + 1)) <|
        (s27 N (((List.getD p2 (IntKind.wrap .i64 (p1 + 1)).toNat 0).toNat : Int))).bind fun x9 =>
        some x9
      else
        some false
    else
      some false
set_option maxHeartbeats 4000000 in
theorem c26 (N : Nat) (p1 : Int) (p2 : List UInt8) (r : Bool) (h : s26 N p1 p2 = some r) : PureC Tryd.prog 26 [.int .i64 p1, .ref ([.str p2])] (.bool r) := by
 refine fn_intro' 28 Tryd.func26 nt26 ok26 res26 (by simp) fun X hP hn hd hr => ?_
 unfold s26 at h
 repeat refine awp_seq ?_
 refine rg (h := ?_)
 repeat refine awp_seq ?_
 refine awp_reg fun K Q hK hQ => ?_
 obtain ⟨⟨hg1, hg2⟩, h⟩ := grd_some h
 simp -implicitDefEqProofs (disch := first | omega | rfl) only [go_sem, simprocAttr, zr26_1, eq_true hg1, eq_true hg2]
 have hh := bnd_some h; clear h; obtain ⟨x3, hx4, h⟩ := hh
 refine call_pure hP (c27 N ((List.getD p2 p1.toNat 0).toNat : Int) x3 hx4) ?_
 rcases cnd_some h with ⟨hc5, h⟩ | ⟨hc5, h⟩
 · simp -implicitDefEqProofs (disch := first | omega | rfl) only [go_sem, simprocAttr, hc5]
   refine hK _ _ ?_; clear hK hQ K Q
   obtain rfl := som_inj h
   repeat refine awp_seq ?_
   refine awp_ret ?_
   repeat first | refine then_ret ?_ | refine blk_ret ?_
   exact rtp
 rcases ite_some h with ⟨hc6, h⟩ | ⟨hc6, h⟩
 · rcases ite_some h with ⟨hc7, h⟩ | ⟨hc7, h⟩
   · obtain ⟨hg8, h⟩ := grd_some h
     simp -implicitDefEqProofs (disch := first | omega | rfl) only [go_sem, simprocAttr, hc5, eq_true hg1, eq_true hg2, eq_true hc6, eq_true hc7, eq_true hg8]
     have hh := bnd_some h; clear h; obtain ⟨x9, hx10, h⟩ := hh
     refine call_pure hP (c27 N (((List.getD p2 (IntKind.wrap .i64 (p1 + 1)).toNat 0).toNat : Int)) x9 hx10) ?_
     simp -implicitDefEqProofs (disch := first | omega | rfl) only [go_sem, simprocAttr]
     refine hK _ _ ?_; clear hK hQ K Q
     obtain rfl := som_inj h
     repeat refine awp_seq ?_
     refine awp_ret ?_
     repeat first | refine then_ret ?_ | refine blk_ret ?_
     exact rtp
   simp -implicitDefEqProofs (disch := first | omega | rfl) only [go_sem, simprocAttr, hc5, eq_true hg1, eq_true hg2, eq_true hc6, eq_false hc7]
   refine hK _ _ ?_; clear hK hQ K Q
   obtain rfl := som_inj h
   repeat refine awp_seq ?_
   refine awp_ret ?_
   repeat first | refine then_ret ?_ | refine blk_ret ?_
   exact rtp
 simp -implicitDefEqProofs (disch := first | omega | rfl) only [go_sem, simprocAttr, hc5, eq_true hg1, eq_true hg2, eq_false hc6]
 refine hK _ _ ?_; clear hK hQ K Q
 obtain rfl := som_inj h
 repeat refine awp_seq ?_
 refine awp_ret ?_
 repeat first | refine then_ret ?_ | refine blk_ret ?_
 exact rtp
theorem okf26 : okF Tryd.prog 26 = true := by kernel_rfl
def s23_2_b1 (N : Nat) (p1 : List UInt8) (p3 : List UInt8) (x1 : Int) : Option (((Int) ⊕ (Int))) :=
  if x1 < (List.length p1 : Int) then
    (s26 N x1 p3).bind fun x5 =>
    bif x5 then
      some (.inl (IntKind.wrap .i64 (x1 + 1)))
    else
      some (.inr x1)
  else
    some (.inr x1)
def s23_2 (N : Nat) (p1 : List UInt8) (p2 : Int) (p3 : List UInt8) : Option Int :=
  (iter (fun p => s23_2_b1 N p1 p3 p) N p2).bind fun a2 =>
  some a2
set_option maxHeartbeats 4000000 in
theorem c23_2 (N : Nat) (p1 : List UInt8) (p2 : Int) (p3 : List UInt8) (r : Int) (h : s23_2 N p1 p2 p3 = some r) : PureC Tryd.prog 23 [.str p1, .int .i64 p2, .fn (.func 26) [] [.ref ([.str p3])]] (.int .i64 r) := by
 refine fn_intro' 19 Tryd.func23 nt23 ok23 res23 (by simp) fun X hP hn hd hr => ?_
 unfold s23_2 at h
 repeat refine awp_seq ?_
 refine rg (h := ?_)
 repeat refine awp_seq ?_
 refine awp_block ?_
 obtain ⟨o2, ho2, hO2⟩ := bnd_some h
 repeat refine awp_seq ?_
 refine awp_loop (ι := {p : Nat × Int // iter (fun p => s23_2_b1 N p1 p3 p) p.1 p.2 = some o2}) (fun p => [(0, .str p1), (1, .int .i64 p.1.2), (2, .fn (.func 26) [] [.ref ([.str p3])])]) (fun p => []) (fun p => p.1.1) ⟨⟨N, p2⟩, ho2⟩ ?_ ?_
 · refine ent_le' ([]) ([]) ([]) rfl (List.Perm.refl _) ?_ ?_
   · simp -implicitDefEqProofs (disch := first | omega | rfl) only [go_sem, simprocAttr, subF_cons, subF_nil]
     exact ⟨(.keep _), (.keep _), (.fnL .nil (.cons (.keep _) .nil))⟩
   · exact .nil
 rintro ⟨⟨n2, x1⟩, hi2⟩
 obtain ⟨m2, q2, rfl, h, hm2⟩ := iter_some hi2
 try dsimp only at h
 try dsimp only
 unfold s23_2_b1 at h
 repeat refine awp_seq ?_
 refine awp_reg fun K Q hK hQ => ?_
 rcases ite_some h with ⟨hc4, h⟩ | ⟨hc4, h⟩
 · simp -implicitDefEqProofs (disch := first | omega | rfl) only [go_sem, simprocAttr, zr23_1, hP, hide_P, okf26, eq_true hc4]
   have hh := bnd_some h; clear h; obtain ⟨x5, hx6, h⟩ := hh
   refine call_pure hP (c26 N x1 p3 x5 hx6) ?_
   simp -implicitDefEqProofs (disch := first | omega | rfl) only [go_sem, simprocAttr]
   refine hK _ _ ?_; clear hK hQ K Q
   rcases cnd_some h with ⟨hc7, h⟩ | ⟨hc7, h⟩
   · repeat refine awp_seq ?_
     refine awp_then (by simp -implicitDefEqProofs (disch := first | omega | rfl) only [go_sem, simprocAttr, hc7]) ?_
     repeat refine awp_seq ?_
     refine awp_skip ?_
     repeat refine awp_seq ?_
     refine awp_block ?_
     repeat refine awp_seq ?_
     refine rg (h := ?_)
     obtain rfl := som_inj h
     try dsimp only at hm2
     refine ⟨⟨⟨m2, IntKind.wrap .i64 (x1 + 1)⟩, hm2⟩, Nat.lt_succ_self _, ?_⟩
     refine ent_le' ([]) ([]) ([]) rfl (List.Perm.refl _) ?_ ?_
     · simp -implicitDefEqProofs (disch := first | omega | rfl) only [go_sem, simprocAttr, subF_cons, subF_nil]
       exact ⟨(.keep _), (.keep _), (.fnL .nil (.cons (.keep _) .nil))⟩
     · exact .nil
   repeat refine awp_seq ?_
   refine awp_else (by simp -implicitDefEqProofs (disch := first | omega | rfl) only [go_sem, simprocAttr, hc7]) ?_
   repeat refine awp_seq ?_
   refine awp_exit ?_
   repeat' (first | refine then_exit ?_ | refine exit_here ?_ | refine exit_on rfl ?_)
   obtain rfl := som_inj h
   try dsimp only at hm2
   subst hm2
   try dsimp only at hO2
   repeat refine awp_seq ?_
   refine rg (h := ?_)
   obtain rfl := som_inj hO2
   repeat refine awp_seq ?_
   refine awp_ret ?_
   repeat first | refine then_ret ?_ | refine blk_ret ?_
   exact rtp
 simp -implicitDefEqProofs (disch := first | omega | rfl) only [go_sem, simprocAttr, zr23_1, eq_false hc4]
 refine hK _ _ ?_; clear hK hQ K Q
 repeat refine awp_seq ?_
 refine awp_else (by rfl) ?_
 repeat refine awp_seq ?_
 refine awp_exit ?_
 repeat' (first | refine then_exit ?_ | refine exit_here ?_ | refine exit_on rfl ?_)
 obtain rfl := som_inj h
 try dsimp only at hm2
 subst hm2
 try dsimp only at hO2
 repeat refine awp_seq ?_
 refine rg (h := ?_)
 obtain rfl := som_inj hO2
 repeat refine awp_seq ?_
 refine awp_ret ?_
 repeat first | refine then_ret ?_ | refine blk_ret ?_
 exact rtp
def zr29_0 : List AO := [⟨some 3, none, .mov (.c (.bool false))⟩]
def zr29_1 : List AO := [⟨some 4, none, .load false 1 (.t 1)⟩,
  ⟨some 5, none, .mov (.t 0)⟩,
  ⟨some 6, none, .idxS (.t 4) (.t 5)⟩,
  ⟨some 7, none, .callF 28 [(.t 6)]⟩,
  ⟨some 3, none, .mov (.t 7)⟩]
def zc29_0 : AC := .seq (.reg zr29_1) .ret
def zc29_1 : AC := .seq (.reg zr29_0) zc29_0
def zc29 : AC := zc29_1
theorem ok29 : Tryd.f29.body.bind (compCode Tryd.prog 8) = some zc29 := by kernel_rfl
theorem nt29 : Tryd.f29.ntmps = 8 := by kernel_rfl
theorem res29 : compRes Tryd.prog Tryd.f29.results.toList = some [.tmp 3] := by kernel_rfl
attribute [go_sem] zr29_0
def s29 (N : Nat) (p1 : Int) (p2 : List UInt8) : Option Bool :=
  grd (0 ≤ p1 ∧ p1 < (List.length p2 : Int)) <|
  (s28 N ((List.getD p2 p1.toNat 0).toNat : Int)).bind fun x3 =>
  some x3
set_option maxHeartbeats 4000000 in
theorem c29 (N : Nat) (p1 : Int) (p2 : List UInt8) (r : Bool) (h : s29 N p1 p2 = some r) : PureC Tryd.prog 29 [.int .i64 p1, .ref ([.str p2])] (.bool r) := by
 refine fn_intro' 8 Tryd.func29 nt29 ok29 res29 (by simp) fun X hP hn hd hr => ?_
 unfold s29 at h
 repeat refine awp_seq ?_
 refine rg (h := ?_)
 repeat refine awp_seq ?_
 refine awp_reg fun K Q hK hQ => ?_
 obtain ⟨⟨hg1, hg2⟩, h⟩ := grd_some h
 simp -implicitDefEqProofs (disch := first | omega | rfl) only [go_sem, simprocAttr, zr29_1, eq_true hg1, eq_true hg2]
 have hh := bnd_some h; clear h; obtain ⟨x3, hx4, h⟩ := hh
 refine call_pure hP (c28 N ((List.getD p2 p1.toNat 0).toNat : Int) x3 hx4) ?_
 simp -implicitDefEqProofs (disch := first | omega | rfl) only [go_sem, simprocAttr]
 refine hK _ _ ?_; clear hK hQ K Q
 obtain rfl := som_inj h
 repeat refine awp_seq ?_
 refine awp_ret ?_
 repeat first | refine then_ret ?_ | refine blk_ret ?_
 exact rtp
theorem okf29 : okF Tryd.prog 29 = true := by kernel_rfl
def s23_3_b1 (N : Nat) (p1 : List UInt8) (p3 : List UInt8) (x1 : Int) : Option (((Int) ⊕ (Int))) :=
  if x1 < (List.length p1 : Int) then
    (s29 N x1 p3).bind fun x5 =>
    bif x5 then
      some (.inl (IntKind.wrap .i64 (x1 + 1)))
    else
      some (.inr x1)
  else
    some (.inr x1)
def s23_3 (N : Nat) (p1 : List UInt8) (p2 : Int) (p3 : List UInt8) : Option Int :=
  (iter (fun p => s23_3_b1 N p1 p3 p) N p2).bind fun a2 =>
  some a2
set_option maxHeartbeats 4000000 in
theorem c23_3 (N : Nat) (p1 : List UInt8) (p2 : Int) (p3 : List UInt8) (r : Int) (h : s23_3 N p1 p2 p3 = some r) : PureC Tryd.prog 23 [.str p1, .int .i64 p2, .fn (.func 29) [] [.ref ([.str p3])]] (.int .i64 r) := by
 refine fn_intro' 19 Tryd.func23 nt23 ok23 res23 (by simp) fun X hP hn hd hr => ?_
 unfold s23_3 at h
 repeat refine awp_seq ?_
 refine rg (h := ?_)
 repeat refine awp_seq ?_
 refine awp_block ?_
 obtain ⟨o2, ho2, hO2⟩ := bnd_some h
 repeat refine awp_seq ?_
 refine awp_loop (ι := {p : Nat × Int // iter (fun p => s23_3_b1 N p1 p3 p) p.1 p.2 = some o2}) (fun p => [(0, .str p1), (1, .int .i64 p.1.2), (2, .fn (.func 29) [] [.ref ([.str p3])])]) (fun p => []) (fun p => p.1.1) ⟨⟨N, p2⟩, ho2⟩ ?_ ?_
 · refine ent_le' ([]) ([]) ([]) rfl (List.Perm.refl _) ?_ ?_
   · simp -implicitDefEqProofs (disch := first | omega | rfl) only [go_sem, simprocAttr, subF_cons, subF_nil]
     exact ⟨(.keep _), (.keep _), (.fnL .nil (.cons (.keep _) .nil))⟩
   · exact .nil
 rintro ⟨⟨n2, x1⟩, hi2⟩
 obtain ⟨m2, q2, rfl, h, hm2⟩ := iter_some hi2
 try dsimp only at h
 try dsimp only
 unfold s23_3_b1 at h
 repeat refine awp_seq ?_
 refine awp_reg fun K Q hK hQ => ?_
 rcases ite_some h with ⟨hc4, h⟩ | ⟨hc4, h⟩
 · simp -implicitDefEqProofs (disch := first | omega | rfl) only [go_sem, simprocAttr, zr23_1, hP, hide_P, okf29, eq_true hc4]
   have hh := bnd_some h; clear h; obtain ⟨x5, hx6, h⟩ := hh
   refine call_pure hP (c29 N x1 p3 x5 hx6) ?_
   simp -implicitDefEqProofs (disch := first | omega | rfl) only [go_sem, simprocAttr]
   refine hK _ _ ?_; clear hK hQ K Q
   rcases cnd_some h with ⟨hc7, h⟩ | ⟨hc7, h⟩
   · repeat refine awp_seq ?_
     refine awp_then (by simp -implicitDefEqProofs (disch := first | omega | rfl) only [go_sem, simprocAttr, hc7]) ?_
     repeat refine awp_seq ?_
     refine awp_skip ?_
     repeat refine awp_seq ?_
     refine awp_block ?_
     repeat refine awp_seq ?_
     refine rg (h := ?_)
     obtain rfl := som_inj h
     try dsimp only at hm2
     refine ⟨⟨⟨m2, IntKind.wrap .i64 (x1 + 1)⟩, hm2⟩, Nat.lt_succ_self _, ?_⟩
     refine ent_le' ([]) ([]) ([]) rfl (List.Perm.refl _) ?_ ?_
     · simp -implicitDefEqProofs (disch := first | omega | rfl) only [go_sem, simprocAttr, subF_cons, subF_nil]
       exact ⟨(.keep _), (.keep _), (.fnL .nil (.cons (.keep _) .nil))⟩
     · exact .nil
   repeat refine awp_seq ?_
   refine awp_else (by simp -implicitDefEqProofs (disch := first | omega | rfl) only [go_sem, simprocAttr, hc7]) ?_
   repeat refine awp_seq ?_
   refine awp_exit ?_
   repeat' (first | refine then_exit ?_ | refine exit_here ?_ | refine exit_on rfl ?_)
   obtain rfl := som_inj h
   try dsimp only at hm2
   subst hm2
   try dsimp only at hO2
   repeat refine awp_seq ?_
   refine rg (h := ?_)
   obtain rfl := som_inj hO2
   repeat refine awp_seq ?_
   refine awp_ret ?_
   repeat first | refine then_ret ?_ | refine blk_ret ?_
   exact rtp
 simp -implicitDefEqProofs (disch := first | omega | rfl) only [go_sem, simprocAttr, zr23_1, eq_false hc4]
 refine hK _ _ ?_; clear hK hQ K Q
 repeat refine awp_seq ?_
 refine awp_else (by rfl) ?_
 repeat refine awp_seq ?_
 refine awp_exit ?_
 repeat' (first | refine then_exit ?_ | refine exit_here ?_ | refine exit_on rfl ?_)
 obtain rfl := som_inj h
 try dsimp only at hm2
 subst hm2
 try dsimp only at hO2
 repeat refine awp_seq ?_
 refine rg (h := ?_)
 obtain rfl := som_inj hO2
 repeat refine awp_seq ?_
 refine awp_ret ?_
 repeat first | refine then_ret ?_ | refine blk_ret ?_
 exact rtp
def zr37_0 : List AO := [⟨some 2, none, .mov (.c (.int .i64 0))⟩,
  ⟨some 3, none, .mov (.c (.lit .nilIface))⟩]
def zr37_1 : List AO := [⟨some 11, none, .mov (.t 0)⟩,
  ⟨some 12, none, .lenS (.t 11)⟩,
  ⟨some 4, none, .mov (.t 12)⟩]
def zr37_2 : List AO := [⟨some 13, none, .mov (.c (.bool false))⟩,
  ⟨some 14, some (13, true), .mov (.t 4)⟩,
  ⟨some 15, some (13, true), .bin .lss (.c (.int .i64 0)) (.t 14)⟩,
  ⟨some 16, some (13, true), .mov (.t 15)⟩,
  ⟨some 17, some (16, true), .mov (.t 4)⟩,
  ⟨some 18, some (16, true), .bin .lss (.t 17) (.c (.int .i64 10))⟩,
  ⟨some 19, some (13, true), .pick (.t 16) (.t 18) (.c (.bool false))⟩,
  ⟨some 20, none, .pick (.t 13) (.t 19) (.c (.bool false))⟩,
  ⟨some 21, none, .mov (.t 20)⟩,
  ⟨some 22, some (21, false), .mov (.c (.bool true))⟩,
  ⟨some 23, some (22, true), .mov (.t 4)⟩,
  ⟨some 24, some (22, true), .bin .lss (.c (.int .i64 0)) (.t 23)⟩,
  ⟨some 25, some (22, true), .mov (.t 24)⟩,
  ⟨some 26, some (25, true), .mov (.t 4)⟩,
  ⟨some 27, some (25, true), .bin .lss (.t 26) (.c (.int .i64 19))⟩,
  ⟨some 28, some (22, true), .pick (.t 25) (.t 27) (.c (.bool false))⟩,
  ⟨some 29, some (21, false), .pick (.t 22) (.t 28) (.c (.bool false))⟩,
  ⟨some 30, none, .pick (.t 21) (.c (.bool true)) (.t 29)⟩]
def zr37_3 : List AO := [⟨some 31, none, .mov (.t 0)⟩,
  ⟨some 5, none, .mov (.t 31)⟩]
def zr37_4 : List AO := [⟨some 32, none, .mov (.t 0)⟩,
  ⟨some 33, none, .idxS (.t 32) (.c (.int .i64 0))⟩,
  ⟨some 34, none, .bin .eql (.t 33) (.c (.int .u8 45))⟩,
  ⟨some 35, none, .mov (.t 34)⟩,
  ⟨some 36, some (35, false), .mov (.t 0)⟩,
  ⟨some 37, some (35, false), .idxS (.t 36) (.c (.int .i64 0))⟩,
  ⟨some 38, some (35, false), .bin .eql (.t 37) (.c (.int .u8 43))⟩,
  ⟨some 39, none, .pick (.t 35) (.c (.bool true)) (.t 38)⟩]
def zr37_5 : List AO := [⟨some 40, none, .mov (.t 0)⟩,
  ⟨some 41, none, .slcS (.t 40) (some (.c (.int .i64 1))) none⟩,
  ⟨some 0, none, .mov (.t 41)⟩]
def zr37_6 : List AO := [⟨some 42, none, .mov (.t 0)⟩,
  ⟨some 43, none, .lenS (.t 42)⟩,
  ⟨some 44, none, .bin .lss (.t 43) (.c (.int .i64 1))⟩]
def zr37_7 : List AO := [⟨some 45, none, .ifc 58 (.c (.int .i64 2))⟩,
  ⟨some 2, none, .mov (.c (.int .i64 0))⟩,
  ⟨some 3, none, .mov (.t 45)⟩]
def zc37_0 : AC := .seq (.reg zr37_7) .ret
def zc37_1 : AC := .cond (.t 44) zc37_0 .skip
def zc37_2 : AC := .seq (.reg zr37_6) zc37_1
def zc37_3 : AC := .seq (.reg zr37_5) zc37_2
def zc37_4 : AC := .cond (.t 39) zc37_3 .skip
def zr37_8 : List AO := [⟨some 6, none, .mov (.c (.int .i64 0))⟩]
def zr37_9 : List AO := [⟨some 46, none, .mov (.t 0)⟩,
  ⟨some 47, none, .s2b (.t 46)⟩,
  ⟨some 48, none, .len (.t 47)⟩,
  ⟨some 49, none, .mov (.c (.int .i64 0))⟩]
def zr37_10 : List AO := [⟨some 50, none, .bin .lss (.t 49) (.t 48)⟩]
def zr37_11 : List AO := [⟨some 51, none, .iadr 1 (.t 47) (.t 49)⟩,
  ⟨some 52, none, .load false 1 (.t 51)⟩,
  ⟨some 8, none, .mov (.t 52)⟩]
def zr37_12 : List AO := [⟨some 53, none, .mov (.t 8)⟩,
  ⟨some 54, none, .bin .sub (.t 53) (.c (.int .u8 48))⟩,
  ⟨some 8, none, .mov (.t 54)⟩]
def zr37_13 : List AO := [⟨some 55, none, .mov (.t 8)⟩,
  ⟨some 56, none, .bin .gtr (.t 55) (.c (.int .u8 9))⟩]
def zr37_14 : List AO := [⟨some 57, none, .ifc 58 (.c (.int .i64 2))⟩,
  ⟨some 2, none, .mov (.c (.int .i64 0))⟩,
  ⟨some 3, none, .mov (.t 57)⟩]
def zc37_5 : AC := .seq (.reg zr37_14) .ret
def zc37_6 : AC := .cond (.t 56) zc37_5 .skip
def zr37_15 : List AO := [⟨some 58, none, .mov (.t 6)⟩,
  ⟨some 59, none, .bin .mul (.t 58) (.c (.int .i64 10))⟩,
  ⟨some 60, none, .mov (.t 8)⟩,
  ⟨some 61, none, .conv .i64 (.t 60)⟩,
  ⟨some 62, none, .bin .add (.t 59) (.t 61)⟩,
  ⟨some 6, none, .mov (.t 62)⟩]
def zc37_7 : AC := .reg zr37_15
def zc37_8 : AC := .seq (.seq (.reg zr37_13) zc37_6) zc37_7
def zc37_9 : AC := .seq (.reg zr37_12) zc37_8
def zc37_10 : AC := .seq (.reg zr37_11) zc37_9
def zr37_16 : List AO := [⟨some 63, none, .bin .add (.t 49) (.c (.int .i64 1))⟩,
  ⟨some 49, none, .mov (.t 63)⟩]
def zc37_11 : AC := .reg zr37_16
def zc37_12 : AC := .seq (.block 1 zc37_10) zc37_11
def zc37_13 : AC := .seq (.cond (.t 50) .skip (.exit 0)) zc37_12
def zc37_14 : AC := .seq (.reg zr37_10) zc37_13
def zc37_15 : AC := .loop zc37_14
def zc37_16 : AC := .block 0 zc37_15
def zr37_17 : List AO := [⟨some 64, none, .mov (.t 5)⟩,
  ⟨some 65, none, .idxS (.t 64) (.c (.int .i64 0))⟩,
  ⟨some 66, none, .bin .eql (.t 65) (.c (.int .u8 45))⟩]
def zr37_18 : List AO := [⟨some 67, none, .mov (.t 6)⟩,
  ⟨some 68, none, .un .neg (.t 67)⟩,
  ⟨some 6, none, .mov (.t 68)⟩]
def zc37_17 : AC := .reg zr37_18
def zc37_18 : AC := .cond (.t 66) zc37_17 .skip
def zr37_19 : List AO := [⟨some 69, none, .mov (.t 6)⟩,
  ⟨some 2, none, .mov (.t 69)⟩,
  ⟨some 3, none, .mov (.c (.lit .nilIface))⟩]
def zc37_19 : AC := .seq (.reg zr37_19) .ret
def zc37_20 : AC := .seq (.seq (.reg zr37_17) zc37_18) zc37_19
def zc37_21 : AC := .seq (.seq (.reg zr37_9) zc37_16) zc37_20
def zc37_22 : AC := .seq (.reg zr37_8) zc37_21
def zc37_23 : AC := .seq (.seq (.reg zr37_4) zc37_4) zc37_22
def zc37_24 : AC := .seq (.reg zr37_3) zc37_23
def zc37_25 : AC := .cond (.t 30) zc37_24 .skip
def zr37_20 : List AO := [⟨some 71, none, .mov (.t 0)⟩,
  ⟨some 72, none, .callF 41 [(.t 71), (.c (.int .i64 10)), (.c (.int .i64 0))]⟩,
  ⟨some 70, none, .mov (.t 72)⟩,
  ⟨some 73, none, .ext 0 (.t 70)⟩,
  ⟨some 74, none, .ext 1 (.t 70)⟩,
  ⟨some 9, none, .mov (.t 73)⟩,
  ⟨some 10, none, .mov (.t 74)⟩]
def zr37_21 : List AO := [⟨some 75, none, .mov (.t 9)⟩,
  ⟨some 76, none, .mov (.t 10)⟩,
  ⟨some 2, none, .mov (.t 75)⟩,
  ⟨some 3, none, .mov (.t 76)⟩]
def zc37_26 : AC := .seq (.reg zr37_21) .ret
def zc37_27 : AC := .seq (.reg zr37_20) zc37_26
def zc37_28 : AC := .seq (.seq (.reg zr37_2) zc37_25) zc37_27
def zc37_29 : AC := .seq (.reg zr37_1) zc37_28
def zc37_30 : AC := .seq (.reg zr37_0) zc37_29
def zc37 : AC := zc37_30
theorem ok37 : Tryd.f37.body.bind (compCode Tryd.prog 77) = some zc37 := by kernel_rfl
theorem nt37 : Tryd.f37.ntmps = 77 := by kernel_rfl
theorem res37 : compRes Tryd.prog Tryd.f37.results.toList = some [.tmp 2, .tmp 3] := by kernel_rfl
attribute [go_sem] zr37_0 zr37_1 zr37_10 zr37_11 zr37_12 zr37_13 zr37_15 zr37_16 zr37_17 zr37_18 zr37_19 zr37_2 zr37_3 zr37_4 zr37_5 zr37_6 zr37_8
def s37_k1 (N : Nat) (p1 : List UInt8) (x5 : Int) : Option (Int × Unit) :=
  if ((List.getD p1 0 0).toNat : Int) = 45 then
    some (IntKind.wrap .i64 (0 - x5), ())
  else
    some (x5, ())
def s37_b2 (N : Nat) (x4 : List UInt8) (x7 : Int) (x8 : Int) : Option (((Int × Int) ⊕ (Ou (Int) (Int × Unit)))) :=
  if x8 < (List.length (byts x4) : Int) then
    grd (0 ≤ x8) <|
    if 9 < IntKind.wrap .u8 (((byts x4)[x8.toNat]!) - 48) then
      none
    else
      some (.inl (IntKind.wrap .i64 ((IntKind.wrap .i64 (x7 * 10)) + (IntKind.wrap .i64 (IntKind.wrap .u8 (((byts x4)[x8.toNat]!) - 48)))), IntKind.wrap .i64 (x8 + 1)))
  else
    some (.inr (.brk x7))
def s37_k3 (N : Nat) (p1 : List UInt8) (x4 : List UInt8) : Option (Int × Unit) :=
  (iter (fun p => s37_b2 N x4 p.1 p.2) N (0, 0)).bind fun o9 => o9.on (fun a9 =>
    s37_k1 N p1 a9)
    (fun a9r => some a9r)
def s37_k4 (N : Nat) (p1 : List UInt8) (x3 : Bool) : Option (Int × Unit) :=
  bif x3 then
    grd (1 ≤ (List.length p1 : Int)) <|
    if (List.length (List.drop 1 p1) : Int) < 1 then
      none
    else
      s37_k3 N p1 (List.drop 1 p1)
  else
    s37_k3 N p1 p1
def s37 (N : Nat) (p1 : List UInt8) : Option (Int × Unit) :=
  if 0 < (List.length p1 : Int) then
    if (List.length p1 : Int) < 19 then
      if ((List.getD p1 0 0).toNat : Int) = 45 then
        s37_k4 N p1 true
      else
        s37_k4 N p1 (decide (((List.getD p1 0 0).toNat : Int) = 43))
    else
      none
  else
    none
set_option maxHeartbeats 4000000 in
theorem c37 (N : Nat) (p1 : List UInt8) (r : Int × Unit) (h : s37 N p1 = some r) : PureC Tryd.prog 37 [.str p1] (.tup [.int .i64 r.1, .lit .nilIface]) := by
 refine fn_intro' 77 Tryd.func37 nt37 ok37 res37 (by simp) fun X hP hn hd hr => ?_
 unfold s37 at h
 repeat refine awp_seq ?_
 refine rg (h := ?_)
 repeat refine awp_seq ?_
 refine rg (h := ?_)
 repeat refine awp_seq ?_
 rcases ite_some h with ⟨hc1, h⟩ | ⟨hc1, h⟩
 · refine awp_reg fun K Q hK hQ => ?_
   simp -implicitDefEqProofs (disch := first | omega | rfl) only [go_sem, simprocAttr, zr37_2, eq_true hc1]
   first | refine hK _ _ ?_ | (refine ⟨by assumption, ?_⟩; refine hK _ _ ?_)
   clear hK hQ K Q
   rcases ite_some h with ⟨hc2, h⟩ | ⟨hc2, h⟩
   · repeat refine awp_seq ?_
     refine awp_then (by simp -implicitDefEqProofs (disch := first | omega | rfl) only [go_sem, simprocAttr, eq_true hc2]) ?_
     repeat refine awp_seq ?_
     refine rg (h := ?_)
     repeat refine awp_seq ?_
     refine awp_cut (ι := {p : Bool // s37_k4 N p1 p = some r}) (fun p => [(0, .str p1), (5, .str p1), (39, .bool p.1)]) (fun p => []) ?_ ?_
     · repeat refine awp_seq ?_
       rcases ite_some h with ⟨hc17, h⟩ | ⟨hc17, h⟩
       · refine awp_reg fun K Q hK hQ => ?_
         simp -implicitDefEqProofs (disch := first | omega | rfl) only [go_sem, simprocAttr, zr37_4, eq_true hc1, eq_true hc17]
         first | refine hK _ _ ?_ | (refine ⟨by assumption, ?_⟩; refine hK _ _ ?_)
         clear hK hQ K Q
         refine ⟨⟨true, h⟩, ?_⟩
         refine ent_le' ([]) ([]) ([]) rfl (List.Perm.refl _) ?_ ?_
         · simp -implicitDefEqProofs (disch := first | omega | rfl) only [go_sem, simprocAttr, subF_cons, subF_nil]
           exact ⟨(.keep _), (.keep _), (.keep _)⟩
         · exact .nil
       refine awp_reg fun K Q hK hQ => ?_
       simp -implicitDefEqProofs (disch := first | omega | rfl) only [go_sem, simprocAttr, zr37_4, eq_true hc1, eq_false hc17]
       first | refine hK _ _ ?_ | (refine ⟨by assumption, ?_⟩; refine hK _ _ ?_)
       clear hK hQ K Q
       refine ⟨⟨decide (((List.getD p1 0 0).toNat : Int) = 43), h⟩, ?_⟩
       refine ent_le' ([]) ([]) ([]) rfl (List.Perm.refl _) ?_ ?_
       · simp -implicitDefEqProofs (disch := first | omega | rfl) only [go_sem, simprocAttr, subF_cons, subF_nil]
         exact ⟨(.keep _), (.keep _), (.keep _)⟩
       · exact .nil
     rintro ⟨x3, h⟩
     try dsimp only at h
     try dsimp only
     repeat refine awp_seq ?_
     refine awp_cut (ι := {p : (List UInt8) // s37_k3 N p1 p = some r}) (fun p => [(0, .str p.1), (5, .str p1)]) (fun p => []) ?_ ?_
     · rcases cnd_some h with ⟨hc14, h⟩ | ⟨hc14, h⟩
       · repeat refine awp_seq ?_
         refine awp_then (by simp -implicitDefEqProofs (disch := first | omega | rfl) only [go_sem, simprocAttr, hc14]) ?_
         repeat refine awp_seq ?_
         obtain ⟨hg15, h⟩ := grd_some h
         refine rgf (eq_true hg15) ?_
         repeat refine awp_seq ?_
         refine rg (h := ?_)
         rcases ite_some h with ⟨hc16, h⟩ | ⟨hc16, h⟩
         · simp only [List.length_drop, List.cons_append, List.nil_append] at hc16
           cases h
         simp only [List.length_drop, List.cons_append, List.nil_append] at hc16
         repeat refine awp_seq ?_
         refine awp_else (by simp -implicitDefEqProofs (disch := first | omega | rfl) only [go_sem, simprocAttr, eq_false hc16]) ?_
         repeat refine awp_seq ?_
         refine awp_skip ?_
         refine ⟨⟨List.drop 1 p1, h⟩, ?_⟩
         refine ent_le' ([]) ([]) ([]) rfl (List.Perm.refl _) ?_ ?_
         · simp -implicitDefEqProofs (disch := first | omega | rfl) only [go_sem, simprocAttr, subF_cons, subF_nil]
           exact ⟨(.keep _), (.keep _)⟩
         · exact .nil
       repeat refine awp_seq ?_
       refine awp_else (by simp -implicitDefEqProofs (disch := first | omega | rfl) only [go_sem, simprocAttr, hc14]) ?_
       repeat refine awp_seq ?_
       refine awp_skip ?_
       refine ⟨⟨p1, h⟩, ?_⟩
       refine ent_le' ([]) ([]) ([]) rfl (List.Perm.refl _) ?_ ?_
       · simp -implicitDefEqProofs (disch := first | omega | rfl) only [go_sem, simprocAttr, subF_cons, subF_nil]
         exact ⟨(.keep _), (.keep _)⟩
       · exact .nil
     rintro ⟨x4, h⟩
     try dsimp only at h
     try dsimp only
     repeat refine awp_seq ?_
     refine rg (h := ?_)
     repeat refine awp_seq ?_
     refine awp_reg fun K Q hK hQ => ?_
     simp -implicitDefEqProofs (disch := first | omega | rfl) only [go_sem, simprocAttr, zr37_9]
     refine hK _ _ ?_; clear hK hQ K Q
     repeat refine awp_seq ?_
     refine awp_cut (ι := {p : Int // s37_k1 N p1 p = some r}) (fun p => [(5, .str p1), (6, .int .i64 p.1)]) (fun p => []) ?_ ?_
     · repeat refine awp_seq ?_
       refine awp_block ?_
       obtain ⟨o9, ho9, hO9⟩ := bnd_some h
       repeat refine awp_seq ?_
       refine awp_loop (ι := {p : Nat × Int × Int // iter (fun p => s37_b2 N x4 p.1 p.2) p.1 (p.2.1, p.2.2) = some o9}) (fun p => [(5, .str p1), (6, .int .i64 p.1.2.1), (47, .sl (List.map (AV.int .u8) (byts x4))), (48, .int .i64 (List.length (byts x4) : Int)), (49, .int .i64 p.1.2.2)]) (fun p => []) (fun p => p.1.1) ⟨⟨N, 0, 0⟩, ho9⟩ ?_ ?_
       · refine ent_le' ([]) ([]) ([]) rfl (List.Perm.refl _) ?_ ?_
         · simp -implicitDefEqProofs (disch := first | omega | rfl) only [go_sem, simprocAttr, subF_cons, subF_nil]
           exact ⟨(.keep _), (.keep _), (.keep _), (.keep _), (.keep _)⟩
         · exact .nil
       rintro ⟨⟨n9, x7, x8⟩, hi9⟩
       obtain ⟨m9, q9, rfl, h, hm9⟩ := iter_some hi9
       try dsimp only at h
       try dsimp only
       unfold s37_b2 at h
       repeat refine awp_seq ?_
       refine rg (h := ?_)
       rcases ite_some h with ⟨hc11, h⟩ | ⟨hc11, h⟩
       · repeat refine awp_seq ?_
         refine awp_then (by simp -implicitDefEqProofs (disch := first | omega | rfl) only [go_sem, simprocAttr, eq_true hc11]) ?_
         repeat refine awp_seq ?_
         refine awp_skip ?_
         repeat refine awp_seq ?_
         refine awp_block ?_
         repeat refine awp_seq ?_
         obtain ⟨hg12, h⟩ := grd_some h
         refine rgf (And.intro (eq_true hc11) (eq_true hg12)) ?_
         repeat refine awp_seq ?_
         refine rg (h := ?_)
         repeat refine awp_seq ?_
         refine rg (h := ?_)
         rcases ite_some h with ⟨hc13, h⟩ | ⟨hc13, h⟩
         · cases h
         repeat refine awp_seq ?_
         refine awp_else (by simp -implicitDefEqProofs (disch := first | omega | rfl) only [go_sem, simprocAttr, eq_false hc13]) ?_
         repeat refine awp_seq ?_
         refine awp_skip ?_
         repeat refine awp_seq ?_
         refine rg (h := ?_)
         repeat refine awp_seq ?_
         refine rg (h := ?_)
         obtain rfl := som_inj h
         try dsimp only at hm9
         refine ⟨⟨⟨m9, IntKind.wrap .i64 ((IntKind.wrap .i64 (x7 * 10)) + (IntKind.wrap .i64 (IntKind.wrap .u8 (((byts x4)[x8.toNat]!) - 48)))), IntKind.wrap .i64 (x8 + 1)⟩, hm9⟩, Nat.lt_succ_self _, ?_⟩
         refine ent_le' ([]) ([]) ([]) rfl (List.Perm.refl _) ?_ ?_
         · simp -implicitDefEqProofs (disch := first | omega | rfl) only [go_sem, simprocAttr, subF_cons, subF_nil]
           exact ⟨(.keep _), (.keep _), (.keep _), (.keep _), (.keep _)⟩
         · exact .nil
       repeat refine awp_seq ?_
       refine awp_else (by simp -implicitDefEqProofs (disch := first | omega | rfl) only [go_sem, simprocAttr, eq_false hc11]) ?_
       repeat refine awp_seq ?_
       refine awp_exit ?_
       repeat' (first | refine then_exit ?_ | refine exit_here ?_ | refine exit_on rfl ?_)
       obtain rfl := som_inj h
       try dsimp only at hm9
       subst hm9
       simp only [Ou.on_brk] at hO9
       refine ⟨⟨x7, hO9⟩, ?_⟩
       refine ent_le' ([]) ([]) ([]) rfl (List.Perm.refl _) ?_ ?_
       · simp -implicitDefEqProofs (disch := first | omega | rfl) only [go_sem, simprocAttr, subF_cons, subF_nil]
         exact ⟨(.keep _), (.keep _)⟩
       · exact .nil
     rintro ⟨x5, h⟩
     try dsimp only at h
     try dsimp only
     repeat refine awp_seq ?_
     refine awp_reg fun K Q hK hQ => ?_
     simp -implicitDefEqProofs (disch := first | omega | rfl) only [go_sem, simprocAttr, zr37_17, eq_true hc1]
     first | refine hK _ _ ?_ | (refine ⟨by assumption, ?_⟩; refine hK _ _ ?_)
     clear hK hQ K Q
     rcases ite_some h with ⟨hc6, h⟩ | ⟨hc6, h⟩
     · repeat refine awp_seq ?_
       refine awp_then (by simp -implicitDefEqProofs (disch := first | omega | rfl) only [go_sem, simprocAttr, eq_true hc6]) ?_
       repeat refine awp_seq ?_
       refine rg (h := ?_)
       repeat refine awp_seq ?_
       refine rg (h := ?_)
       obtain rfl := som_inj h
       repeat refine awp_seq ?_
       refine awp_ret ?_
       repeat first | refine then_ret ?_ | refine blk_ret ?_
       exact rtp
     repeat refine awp_seq ?_
     refine awp_else (by simp -implicitDefEqProofs (disch := first | omega | rfl) only [go_sem, simprocAttr, eq_false hc6]) ?_
     repeat refine awp_seq ?_
     refine awp_skip ?_
     repeat refine awp_seq ?_
     refine rg (h := ?_)
     obtain rfl := som_inj h
     repeat refine awp_seq ?_
     refine awp_ret ?_
     repeat first | refine then_ret ?_ | refine blk_ret ?_
     exact rtp
   cases h
 cases h
def zr30_0 : List AO := [⟨some 2, none, .mov (.c (.int .i64 0))⟩,
  ⟨some 3, none, .mov (.c (.lit .nilIface))⟩]
def zr30_1 : List AO := [⟨some 7, none, .mov (.t 0)⟩,
  ⟨some 8, none, .callF 37 [(.t 7)]⟩,
  ⟨some 6, none, .mov (.t 8)⟩,
  ⟨some 9, none, .ext 0 (.t 6)⟩,
  ⟨some 10, none, .ext 1 (.t 6)⟩,
  ⟨some 4, none, .mov (.t 9)⟩,
  ⟨some 5, none, .mov (.t 10)⟩]
def zr30_2 : List AO := [⟨some 11, none, .mov (.t 5)⟩,
  ⟨some 12, none, .nilI true (.t 11)⟩]
def zr30_3 : List AO := [⟨some 13, none, .mov (.t 4)⟩,
  ⟨some 14, none, .mov (.t 0)⟩,
  ⟨some 15, none, .mov (.t 5)⟩,
  ⟨some 16, none, .callF 38 [(.c (.str [65, 116, 111, 105])), (.t 14), (.c (.int .i64 0)), (.c (.int .i64 0)), (.t 15)]⟩,
  ⟨some 2, none, .mov (.t 13)⟩,
  ⟨some 3, none, .mov (.t 16)⟩]
def zc30_0 : AC := .seq (.reg zr30_3) .ret
def zc30_1 : AC := .cond (.t 12) zc30_0 .skip
def zr30_4 : List AO := [⟨some 17, none, .mov (.t 4)⟩,
  ⟨some 2, none, .mov (.t 17)⟩,
  ⟨some 3, none, .mov (.c (.lit .nilIface))⟩]
def zc30_2 : AC := .seq (.reg zr30_4) .ret
def zc30_3 : AC := .seq (.seq (.reg zr30_2) zc30_1) zc30_2
def zc30_4 : AC := .seq (.reg zr30_1) zc30_3
def zc30_5 : AC := .seq (.reg zr30_0) zc30_4
def zc30 : AC := zc30_5
theorem ok30 : Tryd.f30.body.bind (compCode Tryd.prog 18) = some zc30 := by kernel_rfl
theorem nt30 : Tryd.f30.ntmps = 18 := by kernel_rfl
theorem res30 : compRes Tryd.prog Tryd.f30.results.toList = some [.tmp 2, .tmp 3] := by kernel_rfl
attribute [go_sem] zr30_0 zr30_4
def s30 (N : Nat) (p1 : List UInt8) : Option (Int × Unit) :=
  (s37 N p1).bind fun x1 =>
  some (x1.1, ())
set_option maxHeartbeats 4000000 in
theorem c30 (N : Nat) (p1 : List UInt8) (r : Int × Unit) (h : s30 N p1 = some r) : PureC Tryd.prog 30 [.str p1] (.tup [.int .i64 r.1, .lit .nilIface]) := by
 refine fn_intro' 18 Tryd.func30 nt30 ok30 res30 (by simp) fun X hP hn hd hr => ?_
 unfold s30 at h
 repeat refine awp_seq ?_
 refine rg (h := ?_)
 repeat refine awp_seq ?_
 refine awp_reg fun K Q hK hQ => ?_
 simp -implicitDefEqProofs (disch := first | omega | rfl) only [go_sem, simprocAttr, zr30_1]
 have hh := bnd_some h; clear h; obtain ⟨x1, hx2, h⟩ := hh
 refine call_pure hP (c37 N p1 x1 hx2) ?_
 simp -implicitDefEqProofs (disch := first | omega | rfl) only [go_sem, simprocAttr]
 refine hK _ _ ?_; clear hK hQ K Q
 repeat refine awp_seq ?_
 refine awp_reg fun K Q hK hQ => ?_
 simp -implicitDefEqProofs (disch := first | omega | rfl) only [go_sem, simprocAttr, zr30_2]
 refine hK _ _ ?_; clear hK hQ K Q
 repeat refine awp_seq ?_
 refine awp_else (by rfl) ?_
 repeat refine awp_seq ?_
 refine awp_skip ?_
 repeat refine awp_seq ?_
 refine rg (h := ?_)
 obtain rfl := som_inj h
 repeat refine awp_seq ?_
 refine awp_ret ?_
 repeat first | refine then_ret ?_ | refine blk_ret ?_
 exact rtp
def lit2 : List UInt8 := [59, 58, 44, 61, 47, 45, 40, 41, 123, 125]
def zr31_0 : List AO := [⟨some 4, none, .mov (.c (.int .i64 0))⟩]
def zr31_1 : List AO := [⟨some 5, none, .mov (.t 0)⟩,
  ⟨some 6, none, .mov (.t 1)⟩,
  ⟨some 7, none, .callF 39 [(.t 5), (.t 6)]⟩,
  ⟨some 4, none, .mov (.t 7)⟩]
def zc31_0 : AC := .seq (.reg zr31_1) .ret
def zc31_1 : AC := .seq (.reg zr31_0) zc31_0
def zc31 : AC := zc31_1
theorem ok31 : Tryd.f31.body.bind (compCode Tryd.prog 8) = some zc31 := by kernel_rfl
theorem nt31 : Tryd.f31.ntmps = 8 := by kernel_rfl
theorem res31 : compRes Tryd.prog Tryd.f31.results.toList = some [.tmp 4] := by kernel_rfl
attribute [go_sem] zr31_0
def s31 (N : Nat) (p1 : List UInt8) (p2 : Int) : Option Int :=
  (some (Lib.indexByte p1 (Int.toNat p2).toUInt8)).bind fun x1 =>
  some x1
set_option maxHeartbeats 4000000 in
theorem c31 (N : Nat) (p1 : List UInt8) (p2 : Int) (r : Int) (h : s31 N p1 p2 = some r) : PureC Tryd.prog 31 [.str p1, .int .u8 p2] (.int .i64 r) := by
 refine fn_intro' 8 Tryd.func31 nt31 ok31 res31 (by simp) fun X hP hn hd hr => ?_
 unfold s31 at h
 repeat refine awp_seq ?_
 refine rg (h := ?_)
 repeat refine awp_seq ?_
 refine awp_reg fun K Q hK hQ => ?_
 simp -implicitDefEqProofs (disch := first | omega | rfl) only [go_sem, simprocAttr, zr31_1]
 have hh := bnd_some h; clear h; obtain ⟨x1, hx2, h⟩ := hh
 refine call_pure hP (c39o p1 p2 x1 hx2) ?_
 simp -implicitDefEqProofs (disch := first | omega | rfl) only [go_sem, simprocAttr]
 refine hK _ _ ?_; clear hK hQ K Q
 obtain rfl := som_inj h
 repeat refine awp_seq ?_
 refine awp_ret ?_
 repeat first | refine then_ret ?_ | refine blk_ret ?_
 exact rtp
def zr20_0 : List AO := [⟨some 2, none, .box (.t 0)⟩,
  ⟨some 4, none, .alloc [.int .i64 0, .str [], .int .i64 0, .int .i64 0]⟩]
def zr20_1 : List AO := [⟨some 10, none, .load false 1 (.t 2)⟩,
  ⟨some 11, none, .mov (.t 1)⟩,
  ⟨some 12, none, .idxS (.t 10) (.t 11)⟩,
  ⟨some 5, none, .mov (.t 12)⟩]
def zr20_2 : List AO := [⟨some 14, none, .mov (.t 5)⟩,
  ⟨some 15, none, .callF 25 [(.t 14)]⟩,
  ⟨some 13, none, .mov (.t 15)⟩]
def zr20_3 : List AO := [⟨some 16, none, .load false 1 (.t 2)⟩,
  ⟨some 17, none, .mov (.t 1)⟩,
  ⟨some 18, none, .mkfn (.func 26) [] [(.t 2)]⟩,
  ⟨some 19, none, .callF 23 [(.t 16), (.t 17), (.t 18)]⟩,
  ⟨some 6, none, .mov (.t 19)⟩]
def zr20_4 : List AO := [⟨some 20, none, .mov (.t 6)⟩,
  ⟨some 21, none, .mov (.t 1)⟩,
  ⟨some 22, none, .bin .sub (.t 20) (.t 21)⟩,
  ⟨some 23, none, .bin .gtr (.t 22) (.c (.int .i64 24))⟩]
def zr20_5 : List AO := [⟨some 24, none, .mov (.t 1)⟩,
  ⟨some 25, none, .bld [.int .i64 0, .int .i64 0] [(0, 1, (.c (.int .i64 3))), (1, 1, (.t 24))]⟩,
  ⟨some 26, none, .ifc 41 (.t 25)⟩,
  ⟨none, none, .pan (.t 26)⟩]
def zc20_0 : AC := .reg zr20_5
def zc20_1 : AC := .cond (.t 23) zc20_0 .skip
def zr20_6 : List AO := [⟨some 27, none, .load false 1 (.t 2)⟩,
  ⟨some 28, none, .mov (.t 1)⟩,
  ⟨some 29, none, .mov (.t 6)⟩,
  ⟨some 30, none, .slcS (.t 27) (some (.t 28)) (some (.t 29))⟩,
  ⟨some 31, none, .mov (.t 1)⟩,
  ⟨some 32, none, .bld [.int .i64 0, .str [], .int .i64 0, .int .i64 0] [(0, 1, (.c (.int .i64 1))), (1, 1, (.t 30)), (3, 1, (.t 31))]⟩,
  ⟨none, none, .store 4 (.t 4) (.t 32)⟩]
def zc20_2 : AC := .seq (.reg zr20_6) .ret
def zc20_3 : AC := .seq (.seq (.reg zr20_4) zc20_1) zc20_2
def zc20_4 : AC := .seq (.reg zr20_3) zc20_3
def zr20_7 : List AO := [⟨some 34, none, .mov (.t 5)⟩,
  ⟨some 35, none, .callF 28 [(.t 34)]⟩,
  ⟨some 33, none, .mov (.t 35)⟩]
def zr20_8 : List AO := [⟨some 36, none, .load false 1 (.t 2)⟩,
  ⟨some 37, none, .mov (.t 1)⟩,
  ⟨some 38, none, .mkfn (.func 29) [] [(.t 2)]⟩,
  ⟨some 39, none, .callF 23 [(.t 36), (.t 37), (.t 38)]⟩,
  ⟨some 7, none, .mov (.t 39)⟩]
def zr20_9 : List AO := [⟨some 40, none, .mov (.t 7)⟩,
  ⟨some 41, none, .mov (.t 1)⟩,
  ⟨some 42, none, .bin .sub (.t 40) (.t 41)⟩,
  ⟨some 43, none, .bin .gtr (.t 42) (.c (.int .i64 12))⟩,
  ⟨some 44, none, .mov (.t 43)⟩,
  ⟨some 45, some (44, false), .mov (.t 7)⟩,
  ⟨some 46, some (44, false), .load false 1 (.t 2)⟩,
  ⟨some 47, some (44, false), .lenS (.t 46)⟩,
  ⟨some 48, some (44, false), .bin .lss (.t 45) (.t 47)⟩,
  ⟨some 49, some (44, false), .mov (.t 48)⟩,
  ⟨some 50, some (49, true), .load false 1 (.t 2)⟩,
  ⟨some 51, some (49, true), .mov (.t 7)⟩,
  ⟨some 52, some (49, true), .idxS (.t 50) (.t 51)⟩,
  ⟨some 53, some (49, true), .callF 27 [(.t 52)]⟩,
  ⟨some 54, some (44, false), .pick (.t 49) (.t 53) (.c (.bool false))⟩,
  ⟨some 55, none, .pick (.t 44) (.c (.bool true)) (.t 54)⟩]
def zr20_10 : List AO := [⟨some 56, none, .mov (.t 1)⟩,
  ⟨some 57, none, .bld [.int .i64 0, .int .i64 0] [(0, 1, (.c (.int .i64 5))), (1, 1, (.t 56))]⟩,
  ⟨some 58, none, .ifc 41 (.t 57)⟩,
  ⟨none, none, .pan (.t 58)⟩]
def zc20_5 : AC := .reg zr20_10
def zc20_6 : AC := .cond (.t 55) zc20_5 .skip
def zr20_11 : List AO := [⟨some 60, none, .load false 1 (.t 2)⟩,
  ⟨some 61, none, .mov (.t 1)⟩,
  ⟨some 62, none, .mov (.t 7)⟩,
  ⟨some 63, none, .slcS (.t 60) (some (.t 61)) (some (.t 62))⟩,
  ⟨some 64, none, .callF 30 [(.t 63)]⟩,
  ⟨some 59, none, .mov (.t 64)⟩,
  ⟨some 65, none, .ext 0 (.t 59)⟩,
  ⟨some 66, none, .ext 1 (.t 59)⟩,
  ⟨some 8, none, .mov (.t 65)⟩,
  ⟨some 9, none, .mov (.t 66)⟩]
def zr20_12 : List AO := [⟨some 67, none, .load false 1 (.t 2)⟩,
  ⟨some 68, none, .mov (.t 1)⟩,
  ⟨some 69, none, .mov (.t 7)⟩,
  ⟨some 70, none, .slcS (.t 67) (some (.t 68)) (some (.t 69))⟩,
  ⟨some 71, none, .mov (.t 8)⟩,
  ⟨some 72, none, .mov (.t 1)⟩,
  ⟨some 73, none, .bld [.int .i64 0, .str [], .int .i64 0, .int .i64 0] [(0, 1, (.c (.int .i64 2))), (1, 1, (.t 70)), (2, 1, (.t 71)), (3, 1, (.t 72))]⟩,
  ⟨none, none, .store 4 (.t 4) (.t 73)⟩]
def zc20_7 : AC := .seq (.reg zr20_12) .ret
def zc20_8 : AC := .seq (.reg zr20_11) zc20_7
def zc20_9 : AC := .seq (.seq (.reg zr20_9) zc20_6) zc20_8
def zc20_10 : AC := .seq (.reg zr20_8) zc20_9
def zr20_13 : List AO := [⟨some 75, none, .mov (.t 5)⟩,
  ⟨some 76, none, .callF 31 [(.c (.str lit2)), (.t 75)]⟩,
  ⟨some 77, none, .bin .geq (.t 76) (.c (.int .i64 0))⟩,
  ⟨some 74, none, .mov (.t 77)⟩]
def zr20_14 : List AO := [⟨some 78, none, .load false 1 (.t 2)⟩,
  ⟨some 79, none, .mov (.t 1)⟩,
  ⟨some 80, none, .mov (.t 1)⟩,
  ⟨some 81, none, .bin .add (.t 80) (.c (.int .i64 1))⟩,
  ⟨some 82, none, .slcS (.t 78) (some (.t 79)) (some (.t 81))⟩,
  ⟨some 83, none, .mov (.t 1)⟩,
  ⟨some 84, none, .bld [.int .i64 0, .str [], .int .i64 0, .int .i64 0] [(0, 1, (.c (.int .i64 3))), (1, 1, (.t 82)), (3, 1, (.t 83))]⟩,
  ⟨none, none, .store 4 (.t 4) (.t 84)⟩]
def zc20_11 : AC := .seq (.reg zr20_14) .ret
def zc20_12 : AC := .cond (.t 74) zc20_11 .skip
def zc20_13 : AC := .seq (.reg zr20_13) zc20_12
def zc20_14 : AC := .cond (.t 33) zc20_10 zc20_13
def zc20_15 : AC := .seq (.reg zr20_7) zc20_14
def zc20_16 : AC := .cond (.t 13) zc20_4 zc20_15
def zc20_17 : AC := .seq (.reg zr20_2) zc20_16
def zc20_18 : AC := .block 0 zc20_17
def zr20_15 : List AO := [⟨some 85, none, .mov (.t 1)⟩,
  ⟨some 86, none, .bld [.int .i64 0, .int .i64 0] [(0, 1, (.c (.int .i64 4))), (1, 1, (.t 85))]⟩,
  ⟨some 87, none, .ifc 41 (.t 86)⟩,
  ⟨none, none, .pan (.t 87)⟩]
def zc20_19 : AC := .reg zr20_15
def zc20_20 : AC := .seq (.seq (.reg zr20_1) zc20_18) zc20_19
def zc20_21 : AC := .seq (.reg zr20_0) zc20_20
def zc20 : AC := zc20_21
theorem ok20 : Tryd.f20.body.bind (compCode Tryd.prog 88) = some zc20 := by kernel_rfl
theorem nt20 : Tryd.f20.ntmps = 88 := by kernel_rfl
theorem res20 : compRes Tryd.prog Tryd.f20.results.toList = some [.cell true 4 4] := by kernel_rfl
attribute [go_sem] zr20_1 zr20_12 zr20_14 zr20_4 zr20_6
def s20 (N : Nat) (p1 : List UInt8) (p2 : Int) : Option ((Token) ⊕ LexerFault) :=
  grd (0 ≤ p2 ∧ p2 < (List.length p1 : Int)) <|
  (s25 N ((List.getD p1 p2.toNat 0).toNat : Int)).bind fun x5 =>
  bif x5 then
    (s23_2 N p1 p2 p1).bind fun x8 =>
    if 24 < IntKind.wrap .i64 (x8 - p2) then
      some (.inr ({ err_ := 3, at_ := p2 } : LexerFault))
    else
      grd (p2 ≤ x8 ∧ x8 ≤ (List.length p1 : Int)) <|
      some (.inl ({ Kind := 1, Text := List.drop p2.toNat (List.take x8.toNat p1), N := 0, At := p2 } : Token))
  else
    (s28 N ((List.getD p1 p2.toNat 0).toNat : Int)).bind fun x13 =>
    bif x13 then
      (s23_3 N p1 p2 p1).bind fun x16 =>
      if 12 < IntKind.wrap .i64 (x16 - p2) then
        some (.inr ({ err_ := 5, at_ := p2 } : LexerFault))
      else
        if x16 < (List.length p1 : Int) then
          grd (0 ≤ x16) <|
          (s27 N ((List.getD p1 x16.toNat 0).toNat : Int)).bind fun x21 =>
          bif x21 then
            some (.inr ({ err_ := 5, at_ := p2 } : LexerFault))
          else
            grd (p2 ≤ x16 ∧ x16 ≤ (List.length p1 : Int)) <|
            (s30 N (List.drop p2.toNat (List.take x16.toNat p1))).bind fun x26 =>
            some (.inl ({ Kind := 2, Text := List.drop p2.toNat (List.take x16.toNat p1), N := x26.1, At := p2 } : Token))
        else
          grd (p2 ≤ x16 ∧ x16 ≤ (List.length p1 : Int)) <|
          (s30 N (List.drop p2.toNat (List.take x16.toNat p1))).bind fun x30 =>
          some (.inl ({ Kind := 2, Text := List.drop p2.toNat (List.take x16.toNat p1), N := x30.1, At := p2 } : Token))
    else
      (s31 N lit2 ((List.getD p1 p2.toNat 0).toNat : Int)).bind fun x32 =>
      if 0 ≤ x32 then
        grd (p2 ≤ IntKind.wrap .i64 (p2 + 1) ∧ IntKind.wrap .i64 (p2 + 1) ≤ (List.length p1 : Int)) <|
        some (.inl ((({ Kind := 3, Text := List.drop p2.toNat (List.take (IntKind.wrap .i64 (p2 + 1)).toNat p1), N := 0, At := p2 } : Token))))
      else
        some (.inr ({ err_ := 4, at_ := p2 } : LexerFault))
set_option maxHeartbeats 4000000 in
theorem c20 (N : Nat) (p1 : List UInt8) (p2 : Int) (r : (Token) ⊕ LexerFault) (h : s20 N p1 p2 = some r) : PanC Tryd.prog 20 [.str p1, .int .i64 p2] (resP 41 (fun r : Token => .agg (Token.cs r)) (fun y : LexerFault => .agg (LexerFault.cs y)) r) := by
 refine fn_intro' 88 Tryd.func20 nt20 ok20 res20 (by simp) fun X hP hn hd hr => ?_
 unfold s20 at h
 repeat refine awp_seq ?_
 refine awp_reg fun K Q hK hQ => ?_
 simp -implicitDefEqProofs (disch := first | omega | rfl) only [go_sem, simprocAttr, zr20_0, argS]
 intro b1 b2
 refine hK _ _ ?_; clear hK hQ K Q
 repeat refine awp_seq ?_
 refine awp_le' (s' := [(1, .int .i64 p2), (2, .ref ([.str p1])), (4, .ptr 4 b2 0)]) (own' := (4, b2, .cells ([.int .i64 0, .str [], .int .i64 0, .int .i64 0])) :: []) (_ :: []) (_ :: []) (_ :: _ :: []) rfl (List.Perm.trans perm_cc (List.Perm.refl _)) ?_ ?_ ?_
 · simp -implicitDefEqProofs (disch := first | omega | rfl) only [go_sem, simprocAttr, subF_cons, subF_nil]
   exact ⟨(.keep _), (frz_ptr (by simp -implicitDefEqProofs (disch := first | omega | rfl) only [go_sem, simprocAttr])), (.lptr ..)⟩
 · exact (.cell .nil)
 repeat refine awp_seq ?_
 obtain ⟨⟨hg3, hg4⟩, h⟩ := grd_some h
 refine rgf (And.intro (eq_true hg3) (eq_true hg4)) ?_
 repeat refine awp_seq ?_
 refine awp_block ?_
 repeat refine awp_seq ?_
 refine awp_reg fun K Q hK hQ => ?_
 simp -implicitDefEqProofs (disch := first | omega | rfl) only [go_sem, simprocAttr, zr20_2]
 have hh := bnd_some h; clear h; obtain ⟨x5, hx6, h⟩ := hh
 refine call_pure hP (c25 N ((List.getD p1 p2.toNat 0).toNat : Int) x5 hx6) ?_
 simp -implicitDefEqProofs (disch := first | omega | rfl) only [go_sem, simprocAttr]
 refine hK _ _ ?_; clear hK hQ K Q
 rcases cnd_some h with ⟨hc7, h⟩ | ⟨hc7, h⟩
 · repeat refine awp_seq ?_
   refine awp_then (by simp -implicitDefEqProofs (disch := first | omega | rfl) only [go_sem, simprocAttr, hc7]) ?_
   repeat refine awp_seq ?_
   refine awp_reg fun K Q hK hQ => ?_
   simp -implicitDefEqProofs (disch := first | omega | rfl) only [go_sem, simprocAttr, zr20_3]
   have hh := bnd_some h; clear h; obtain ⟨x8, hx9, h⟩ := hh
   refine call_pure hP (c23_2 N p1 p2 p1 x8 hx9) ?_
   simp -implicitDefEqProofs (disch := first | omega | rfl) only [go_sem, simprocAttr]
   refine hK _ _ ?_; clear hK hQ K Q
   repeat refine awp_seq ?_
   refine rg (h := ?_)
   rcases ite_some h with ⟨hc10, h⟩ | ⟨hc10, h⟩
   · repeat refine awp_seq ?_
     refine awp_then (by simp -implicitDefEqProofs (disch := first | omega | rfl) only [go_sem, simprocAttr, eq_true hc10]) ?_
     repeat refine awp_seq ?_
     refine awp_reg fun K Q hK hQ => ?_
     simp -implicitDefEqProofs (disch := first | omega | rfl) only [go_sem, simprocAttr, zr20_5]
     refine hQ _ _ _ ?_
     clear hK hQ K Q
     obtain rfl := som_inj h
     repeat first | refine then_pan ?_ | refine blk_pan ?_
     exact pnp
   repeat refine awp_seq ?_
   refine awp_else (by simp -implicitDefEqProofs (disch := first | omega | rfl) only [go_sem, simprocAttr, eq_false hc10]) ?_
   repeat refine awp_seq ?_
   refine awp_skip ?_
   repeat refine awp_seq ?_
   obtain ⟨⟨hg11, hg12⟩, h⟩ := grd_some h
   refine rgf (And.intro (eq_true hg3) (And.intro (eq_true hg11) (eq_true hg12))) ?_
   obtain rfl := som_inj h
   repeat refine awp_seq ?_
   refine awp_le' (s' := [(4, .ptr 4 b2 0)]) (own' := (4, b2, .cells (Token.cs ({ Kind := 1, Text := List.drop p2.toNat (List.take x8.toNat p1), N := 0, At := p2 } : Token))) :: []) ([]) (_ :: []) (_ :: []) rfl (List.Perm.refl _) ?_ ?_ ?_
   · simp -implicitDefEqProofs (disch := first | omega | rfl) only [go_sem, simprocAttr, subF_cons, subF_nil]
     exact (.lptr ..)
   · exact (.cells (by rw [Token.cs_eq]; exact (.cons (.keep _) (.cons (.keep _) (.cons (.keep _) (.cons (.keep _) (.nil _)))))) .nil)
   refine awp_ret ?_
   repeat first | refine then_ret ?_ | refine blk_ret ?_
   exact rtv
 repeat refine awp_seq ?_
 refine awp_else (by simp -implicitDefEqProofs (disch := first | omega | rfl) only [go_sem, simprocAttr, hc7]) ?_
 repeat refine awp_seq ?_
 refine awp_reg fun K Q hK hQ => ?_
 simp -implicitDefEqProofs (disch := first | omega | rfl) only [go_sem, simprocAttr, zr20_7]
 have hh := bnd_some h; clear h; obtain ⟨x13, hx14, h⟩ := hh
 refine call_pure hP (c28 N ((List.getD p1 p2.toNat 0).toNat : Int) x13 hx14) ?_
 simp -implicitDefEqProofs (disch := first | omega | rfl) only [go_sem, simprocAttr]
 refine hK _ _ ?_; clear hK hQ K Q
 rcases cnd_some h with ⟨hc15, h⟩ | ⟨hc15, h⟩
 · repeat refine awp_seq ?_
   refine awp_then (by simp -implicitDefEqProofs (disch := first | omega | rfl) only [go_sem, simprocAttr, hc15]) ?_
   repeat refine awp_seq ?_
   refine awp_reg fun K Q hK hQ => ?_
   simp -implicitDefEqProofs (disch := first | omega | rfl) only [go_sem, simprocAttr, zr20_8]
   have hh := bnd_some h; clear h; obtain ⟨x16, hx17, h⟩ := hh
   refine call_pure hP (c23_3 N p1 p2 p1 x16 hx17) ?_
   simp -implicitDefEqProofs (disch := first | omega | rfl) only [go_sem, simprocAttr]
   refine hK _ _ ?_; clear hK hQ K Q
   repeat refine awp_seq ?_
   refine awp_reg fun K Q hK hQ => ?_
   rcases ite_some h with ⟨hc18, h⟩ | ⟨hc18, h⟩
   · simp -implicitDefEqProofs (disch := first | omega | rfl) only [go_sem, simprocAttr, zr20_9, eq_true hc18]
     refine hK _ _ ?_; clear hK hQ K Q
     repeat refine awp_seq ?_
     refine awp_then (by rfl) ?_
     repeat refine awp_seq ?_
     refine awp_reg fun K Q hK hQ => ?_
     simp -implicitDefEqProofs (disch := first | omega | rfl) only [go_sem, simprocAttr, zr20_10]
     refine hQ _ _ _ ?_
     clear hK hQ K Q
     obtain rfl := som_inj h
     repeat first | refine then_pan ?_ | refine blk_pan ?_
     exact pnp
   rcases ite_some h with ⟨hc19, h⟩ | ⟨hc19, h⟩
   · obtain ⟨hg20, h⟩ := grd_some h
     simp -implicitDefEqProofs (disch := first | omega | rfl) only [go_sem, simprocAttr, zr20_9, eq_false hc18, eq_true hc19, eq_true hg20]
     have hh := bnd_some h; clear h; obtain ⟨x21, hx22, h⟩ := hh
     refine call_pure hP (c27 N ((List.getD p1 x16.toNat 0).toNat : Int) x21 hx22) ?_
     simp -implicitDefEqProofs (disch := first | omega | rfl) only [go_sem, simprocAttr]
     refine hK _ _ ?_; clear hK hQ K Q
     rcases cnd_some h with ⟨hc23, h⟩ | ⟨hc23, h⟩
     · repeat refine awp_seq ?_
       refine awp_then (by simp -implicitDefEqProofs (disch := first | omega | rfl) only [go_sem, simprocAttr, hc23]) ?_
       repeat refine awp_seq ?_
       refine awp_reg fun K Q hK hQ => ?_
       simp -implicitDefEqProofs (disch := first | omega | rfl) only [go_sem, simprocAttr, zr20_10]
       refine hQ _ _ _ ?_
       clear hK hQ K Q
       obtain rfl := som_inj h
       repeat first | refine then_pan ?_ | refine blk_pan ?_
       exact pnp
     repeat refine awp_seq ?_
     refine awp_else (by simp -implicitDefEqProofs (disch := first | omega | rfl) only [go_sem, simprocAttr, hc23]) ?_
     repeat refine awp_seq ?_
     refine awp_skip ?_
     repeat refine awp_seq ?_
     refine awp_reg fun K Q hK hQ => ?_
     obtain ⟨⟨hg24, hg25⟩, h⟩ := grd_some h
     simp -implicitDefEqProofs (disch := first | omega | rfl) only [go_sem, simprocAttr, zr20_11, eq_true hg3, eq_true hg24, eq_true hg25]
     have hh := bnd_some h; clear h; obtain ⟨x26, hx27, h⟩ := hh
     refine call_pure hP (c30 N (List.drop p2.toNat (List.take x16.toNat p1)) x26 hx27) ?_
     simp -implicitDefEqProofs (disch := first | omega | rfl) only [go_sem, simprocAttr]
     refine hK _ _ ?_; clear hK hQ K Q
     repeat refine awp_seq ?_
     refine rgf (And.intro (eq_true hg3) (And.intro (eq_true hg24) (eq_true hg25))) ?_
     obtain rfl := som_inj h
     repeat refine awp_seq ?_
     refine awp_le' (s' := [(4, .ptr 4 b2 0)]) (own' := (4, b2, .cells (Token.cs ({ Kind := 2, Text := List.drop p2.toNat (List.take x16.toNat p1), N := x26.1, At := p2 } : Token))) :: []) ([]) (_ :: []) (_ :: []) rfl (List.Perm.refl _) ?_ ?_ ?_
     · simp -implicitDefEqProofs (disch := first | omega | rfl) only [go_sem, simprocAttr, subF_cons, subF_nil]
       exact (.lptr ..)
     · exact (.cells (by rw [Token.cs_eq]; exact (.cons (.keep _) (.cons (.keep _) (.cons (.keep _) (.cons (.keep _) (.nil _)))))) .nil)
     refine awp_ret ?_
     repeat first | refine then_ret ?_ | refine blk_ret ?_
     exact rtv
   simp -implicitDefEqProofs (disch := first | omega | rfl) only [go_sem, simprocAttr, zr20_9, eq_false hc18, eq_false hc19]
   refine hK _ _ ?_; clear hK hQ K Q
   repeat refine awp_seq ?_
   refine awp_else (by rfl) ?_
   repeat refine awp_seq ?_
   refine awp_skip ?_
   repeat refine awp_seq ?_
   refine awp_reg fun K Q hK hQ => ?_
   obtain ⟨⟨hg28, hg29⟩, h⟩ := grd_some h
   simp -implicitDefEqProofs (disch := first | omega | rfl) only [go_sem, simprocAttr, zr20_11, eq_true hg3, eq_true hg28, eq_true hg29]
   have hh := bnd_some h; clear h; obtain ⟨x30, hx31, h⟩ := hh
   refine call_pure hP (c30 N (List.drop p2.toNat (List.take x16.toNat p1)) x30 hx31) ?_
   simp -implicitDefEqProofs (disch := first | omega | rfl) only [go_sem, simprocAttr]
   refine hK _ _ ?_; clear hK hQ K Q
   repeat refine awp_seq ?_
   refine rgf (And.intro (eq_true hg3) (And.intro (eq_true hg28) (eq_true hg29))) ?_
   obtain rfl := som_inj h
   repeat refine awp_seq ?_
   refine awp_le' (s' := [(4, .ptr 4 b2 0)]) (own' := (4, b2, .cells (Token.cs ({ Kind := 2, Text := List.drop p2.toNat (List.take x16.toNat p1), N := x30.1, At := p2 } : Token))) :: []) ([]) (_ :: []) (_ :: []) rfl (List.Perm.refl _) ?_ ?_ ?_
   · simp -implicitDefEqProofs (disch := first | omega | rfl) only [go_sem, simprocAttr, subF_cons, subF_nil]
     exact (.lptr ..)
   · exact (.cells (by rw [Token.cs_eq]; exact (.cons (.keep _) (.cons (.keep _) (.cons (.keep _) (.cons (.keep _) (.nil _)))))) .nil)
   refine awp_ret ?_
   repeat first | refine then_ret ?_ | refine blk_ret ?_
   exact rtv
 repeat refine awp_seq ?_
 refine awp_else (by simp -implicitDefEqProofs (disch := first | omega | rfl) only [go_sem, simprocAttr, hc15]) ?_
 repeat refine awp_seq ?_
 refine awp_reg fun K Q hK hQ => ?_
 simp -implicitDefEqProofs (disch := first | omega | rfl) only [go_sem, simprocAttr, zr20_13]
 have hh := bnd_some h; clear h; obtain ⟨x32, hx33, h⟩ := hh
 refine call_pure hP (c31 N lit2 ((List.getD p1 p2.toNat 0).toNat : Int) x32 hx33) ?_
 simp -implicitDefEqProofs (disch := first | omega | rfl) only [go_sem, simprocAttr]
 refine hK _ _ ?_; clear hK hQ K Q
 rcases ite_some h with ⟨hc34, h⟩ | ⟨hc34, h⟩
 · repeat refine awp_seq ?_
   refine awp_then (by simp -implicitDefEqProofs (disch := first | omega | rfl) only [go_sem, simprocAttr, eq_true hc34]) ?_
   repeat refine awp_seq ?_
   obtain ⟨⟨hg35, hg36⟩, h⟩ := grd_some h
   refine rgf (And.intro (eq_true hg3) (And.intro (eq_true hg35) (eq_true hg36))) ?_
   obtain rfl := som_inj h
   repeat refine awp_seq ?_
   refine awp_le' (s' := [(4, .ptr 4 b2 0)]) (own' := (4, b2, .cells (Token.cs (({ Kind := 3, Text := List.drop p2.toNat (List.take (IntKind.wrap .i64 (p2 + 1)).toNat p1), N := 0, At := p2 } : Token)))) :: []) ([]) (_ :: []) (_ :: []) rfl (List.Perm.refl _) ?_ ?_ ?_
   · simp -implicitDefEqProofs (disch := first | omega | rfl) only [go_sem, simprocAttr, subF_cons, subF_nil]
     exact (.lptr ..)
   · exact (.cells (by rw [Token.cs_eq]; exact (.cons (.keep _) (.cons (.keep _) (.cons (.keep _) (.cons (.keep _) (.nil _)))))) .nil)
   refine awp_ret ?_
   repeat first | refine then_ret ?_ | refine blk_ret ?_
   exact rtv
 repeat refine awp_seq ?_
 refine awp_else (by simp -implicitDefEqProofs (disch := first | omega | rfl) only [go_sem, simprocAttr, eq_false hc34]) ?_
 repeat refine awp_seq ?_
 refine awp_skip ?_
 repeat refine awp_seq ?_
 refine awp_reg fun K Q hK hQ => ?_
 simp -implicitDefEqProofs (disch := first | omega | rfl) only [go_sem, simprocAttr, zr20_15]
 refine hQ _ _ _ ?_
 clear hK hQ K Q
 obtain rfl := som_inj h
 repeat first | refine then_pan ?_ | refine blk_pan ?_
 exact pnp
def zr18_0 : List AO := [⟨some 7, none, .asrt 41 (.agg [.int .i64 0, .int .i64 0]) (.t 6)⟩,
  ⟨some 5, none, .mov (.t 7)⟩,
  ⟨some 8, none, .ext 0 (.t 5)⟩,
  ⟨some 9, none, .ext 1 (.t 5)⟩,
  ⟨some 3, none, .alloc [.int .i64 0, .int .i64 0]⟩,
  ⟨none, none, .store 2 (.t 3) (.t 8)⟩,
  ⟨some 4, none, .mov (.t 9)⟩]
def zr18_1 : List AO := [⟨some 10, none, .mov (.t 4)⟩]
def zr18_2 : DT := (.pur ⟨some 11, none, .fadr 0 (.t 3)⟩ (.pur ⟨some 12, none, .load false 1 (.t 11)⟩ (.pur ⟨some 13, none, .fadr 1 (.t 3)⟩ (.pur ⟨some 14, none, .load false 1 (.t 13)⟩ (.alt false ⟨none, none, .store 1 (.t 0) (.c (.nil))⟩ (.alt false ⟨none, none, .store 1 (.t 1) (.t 12)⟩ (.alt true ⟨none, none, .store 1 (.t 2) (.t 14)⟩ .done .stop) .stop) .stop)))))
def zc18_0 : AC := .regD zr18_2
def zc18_1 : AC := .cond (.t 10) zc18_0 .skip
def zc18_2 : AC := .seq (.reg zr18_1) zc18_1
theorem rec18 : Tryd.f18.body.bind (compR Tryd.prog 15) = some (6, zr18_0, zc18_2) := by kernel_rfl
theorem nt18 : Tryd.f18.ntmps = 15 := by kernel_rfl
theorem rs18 : Tryd.f18.results.toList = [] := by kernel_rfl
def zr11_0 : List AO := [⟨some 2, none, .alloc [.nil]⟩,
  ⟨some 3, none, .alloc [.int .i64 0]⟩,
  ⟨some 4, none, .alloc [.int .i64 0]⟩]
def zr11_1 : List AO := [⟨some 7, none, .mov (.t 0)⟩,
  ⟨some 8, none, .lenS (.t 7)⟩,
  ⟨some 9, none, .bin .gtr (.t 8) (.c (.int .i64 20000))⟩]
def zr11_2 : List AO := [⟨none, none, .store 1 (.t 2) (.c (.nil))⟩,
  ⟨none, none, .store 1 (.t 3) (.c (.int .i64 3))⟩,
  ⟨none, none, .store 1 (.t 4) (.c (.int .i64 (-1)))⟩]
def zc11_0 : AC := .seq (.reg zr11_2) .ret
def zc11_1 : AC := .cond (.t 9) zc11_0 .skip
def zr11_3 : List AO := [⟨some 10, none, .mkfn (.func 18) [] [(.t 2), (.t 3), (.t 4)]⟩]
def zr11_4 : List AO := [⟨some 11, none, .mov (.t 0)⟩,
  ⟨some 12, none, .callF 19 [(.t 11), (.c (.int .i64 0))]⟩,
  ⟨some 5, none, .mov (.t 12)⟩]
def zr11_5 : List AO := [⟨some 13, none, .mov (.t 5)⟩,
  ⟨some 14, none, .mov (.t 0)⟩,
  ⟨some 15, none, .lenS (.t 14)⟩,
  ⟨some 16, none, .bin .lss (.t 13) (.t 15)⟩]
def zc11_2 : AC := .cond (.t 16) .skip (.exit 0)
def zr11_6 : List AO := [⟨some 20, none, .mov (.t 0)⟩,
  ⟨some 21, none, .mov (.t 5)⟩,
  ⟨some 22, none, .callF 20 [(.t 20), (.t 21)]⟩,
  ⟨some 6, none, .alloc [.int .i64 0, .str [], .int .i64 0, .int .i64 0]⟩,
  ⟨none, none, .store 4 (.t 6) (.t 22)⟩]
def zr11_7 : List AO := [⟨some 23, none, .load false 1 (.t 2)⟩,
  ⟨some 24, none, .len (.t 23)⟩,
  ⟨some 25, none, .bin .eql (.t 24) (.c (.int .i64 5000))⟩]
def zr11_8 : List AO := [⟨some 26, none, .mov (.t 5)⟩,
  ⟨some 27, none, .bld [.int .i64 0, .int .i64 0] [(0, 1, (.c (.int .i64 3))), (1, 1, (.t 26))]⟩,
  ⟨some 28, none, .ifc 41 (.t 27)⟩,
  ⟨none, none, .pan (.t 28)⟩]
def zc11_3 : AC := .reg zr11_8
def zc11_4 : AC := .cond (.t 25) zc11_3 .skip
def zr11_9 : List AO := [⟨some 29, none, .load false 1 (.t 2)⟩,
  ⟨some 30, none, .load true 4 (.t 6)⟩,
  ⟨some 31, none, .mkrow 4 1 [.int .i64 0, .str [], .int .i64 0, .int .i64 0] [(0, 4, (.t 30))]⟩,
  ⟨some 32, none, .app 4 40 (.t 29) (.t 31)⟩,
  ⟨none, none, .store 1 (.t 2) (.t 32)⟩]
def zr11_10 : List AO := [⟨some 33, none, .mov (.t 5)⟩,
  ⟨some 34, none, .fadr 1 (.t 6)⟩,
  ⟨some 35, none, .load false 1 (.t 34)⟩,
  ⟨some 36, none, .lenS (.t 35)⟩,
  ⟨some 37, none, .bin .add (.t 33) (.t 36)⟩,
  ⟨some 5, none, .mov (.t 37)⟩]
def zc11_5 : AC := .reg zr11_10
def zc11_6 : AC := .seq (.reg zr11_9) zc11_5
def zc11_7 : AC := .seq (.seq (.reg zr11_7) zc11_4) zc11_6
def zc11_8 : AC := .seq (.reg zr11_6) zc11_7
def zr11_11 : List AO := [⟨some 17, none, .mov (.t 0)⟩,
  ⟨some 18, none, .mov (.t 5)⟩,
  ⟨some 19, none, .callF 19 [(.t 17), (.t 18)]⟩,
  ⟨some 5, none, .mov (.t 19)⟩]
def zc11_9 : AC := .reg zr11_11
def zc11_10 : AC := .seq (.block 1 zc11_8) zc11_9
def zc11_11 : AC := .seq (.seq (.reg zr11_5) zc11_2) zc11_10
def zc11_12 : AC := .loop zc11_11
def zc11_13 : AC := .block 0 zc11_12
def zr11_12 : List AO := [⟨some 38, none, .load false 1 (.t 2)⟩,
  ⟨none, none, .store 1 (.t 2) (.t 38)⟩,
  ⟨none, none, .store 1 (.t 3) (.c (.int .i64 0))⟩,
  ⟨none, none, .store 1 (.t 4) (.c (.int .i64 0))⟩]
def zc11 : CD := .seq (.reg zr11_0) (.seq (.seq (.reg zr11_1) zc11_1) (.dfr zr11_3 (.t 10) (.seq (.seq (.reg zr11_4) zc11_13) (.seq (.reg zr11_12) (.last (.ret))))))
theorem ok11 : Tryd.f11.body.bind (compD Tryd.prog 39) = some zc11 := by kernel_rfl
theorem nt11 : Tryd.f11.ntmps = 39 := by kernel_rfl
theorem res11 : compRes Tryd.prog Tryd.f11.results.toList = some [.cell false 1 2, .cell false 1 3, .cell false 1 4] := by kernel_rfl
theorem okf18 : okF Tryd.prog 18 = true := by kernel_rfl
attribute [go_sem] zr11_1 zr11_10 zr11_12 zr11_2 zr11_5 zr11_7 zr18_1
def s11_b1 (N : Nat) (p1 : List UInt8) (l7 : List Token) (x10 : Int) : Option ((((List Token) × Int) ⊕ (Ou ((List Token)) ((List Token) × Int × Int)))) :=
  if x10 < (List.length p1 : Int) then
    (s20 N p1 x10).bind fun x16 => Sum.elim (fun x18 =>
      if (List.length l7 : Int) = 5000 then
        some (.inr (.ret ([], 3, x10)))
      else
        grd ((List.length l7 + 1) * 40 ≤ 140737488355328 ∧ List.length l7 + 1 ≤ 140737488355328) <|
        (s19 N p1 (IntKind.wrap .i64 (x10 + (List.length x18.Text : Int)))).bind fun x29 =>
        some (.inl (l7 ++ [x18], x29))) (fun x19 =>
      some (.inr (.ret ([], x19.err_, x19.at_)))) x16
  else
    some (.inr (.brk l7))
def s11 (N : Nat) (p1 : List UInt8) : Option ((List Token) × Int × Int) :=
  if 20000 < (List.length p1 : Int) then
    some ([], 3, (-1))
  else
    (s19 N p1 0).bind fun x5 =>
    (iter (fun p => s11_b1 N p1 p.1 p.2) N ([], x5)).bind fun o11 => o11.on (fun a11 =>
      some (a11, 0, 0))
      (fun a11r => some a11r)
set_option maxHeartbeats 4000000 in
theorem c11 (N : Nat) (p1 : List UInt8) (r : (List Token) × Int × Int) (h : s11 N p1 = some r) : PureC Tryd.prog 11 [.str p1] (.tup [.sl (List.map Token.av r.1), .int .i64 r.2.1, .int .i64 r.2.2]) := by
 refine fn_introD 39 Tryd.func11 nt11 ok11 res11 (by simp) fun X hP hn hd hr hz => ?_
 unfold s11 at h
 repeat first | refine awp_seq ?_ | refine dwp_seq hz ?_ | refine dwp_last hz ?_
 refine awp_reg fun K Q hK hQ => ?_
 simp -implicitDefEqProofs (disch := first | omega | rfl) only [go_sem, simprocAttr, zr11_0, argS]
 intro b1 b2 b3
 refine hK _ _ ?_; clear hK hQ K Q
 repeat first | refine awp_seq ?_ | refine dwp_seq hz ?_ | refine dwp_last hz ?_
 refine rg (h := ?_)
 rcases ite_some h with ⟨hc4, h⟩ | ⟨hc4, h⟩
 · repeat first | refine awp_seq ?_ | refine dwp_seq hz ?_ | refine dwp_last hz ?_
   refine awp_then (by simp -implicitDefEqProofs (disch := first | omega | rfl) only [go_sem, simprocAttr, eq_true hc4]) ?_
   repeat first | refine awp_seq ?_ | refine dwp_seq hz ?_ | refine dwp_last hz ?_
   refine rg (h := ?_)
   obtain rfl := som_inj h
   repeat first | refine awp_seq ?_ | refine dwp_seq hz ?_ | refine dwp_last hz ?_
   refine awp_le' (s' := [(2, .ptr 2 b1 0), (3, .ptr 3 b2 0), (4, .ptr 4 b3 0)]) (own' := (2, b1, .cells ([.sl (List.map Token.av [])])) :: (3, b2, .cells ([.int .i64 3])) :: (4, b3, .cells ([.int .i64 (-1)])) :: []) ([]) (_ :: _ :: _ :: []) (_ :: _ :: _ :: []) rfl (List.Perm.trans (List.Perm.cons _ perm_cc) (List.Perm.trans perm_cc ((List.Perm.cons _ (List.Perm.trans perm_cc (List.Perm.refl _)))))) ?_ ?_ ?_
   · simp -implicitDefEqProofs (disch := first | omega | rfl) only [go_sem, simprocAttr, subF_cons, subF_nil]
     exact ⟨(.lptr ..), (.lptr ..), (.lptr ..)⟩
   · exact (.cells (.cons .nil (.nil _)) (.cell (.cell .nil)))
   refine awp_ret ?_
   repeat first | refine then_ret ?_ | refine blk_ret ?_
   refine dend_no hd ?_
   exact rtp
 repeat first | refine awp_seq ?_ | refine dwp_seq hz ?_ | refine dwp_last hz ?_
 refine awp_else (by simp -implicitDefEqProofs (disch := first | omega | rfl) only [go_sem, simprocAttr, eq_false hc4]) ?_
 repeat first | refine awp_seq ?_ | refine dwp_seq hz ?_ | refine dwp_last hz ?_
 refine awp_skip ?_
 repeat first | refine awp_seq ?_ | refine dwp_seq hz ?_ | refine dwp_last hz ?_
 refine dwp_dfr hz hd hr fun K Q hK => ?_
 simp -implicitDefEqProofs (disch := first | omega | rfl) only [go_sem, simprocAttr, zr11_3]
 refine hK _ _ ⟨18, [], [.ptr 2 b1 0, .ptr 3 b2 0, .ptr 4 b3 0], rfl, by rw [hP]; exact okf18, rfl, fun X e1 e2 hr hz hD => ?_⟩
 have hP := e1.trans hP; have hn := e2.trans hn; clear e1 e2 hK K Q
 repeat first | refine awp_seq ?_ | refine dwp_seq hz ?_ | refine dwp_last hz ?_
 refine awp_reg fun K Q hK hQ => ?_
 simp -implicitDefEqProofs (disch := first | omega | rfl) only [go_sem, simprocAttr, zr11_4]
 have hh := bnd_some h; clear h; obtain ⟨x5, hx6, h⟩ := hh
 refine call_pure hP (c19 N p1 0 x5 hx6) ?_
 simp -implicitDefEqProofs (disch := first | omega | rfl) only [go_sem, simprocAttr]
 refine hK _ _ ?_; clear hK hQ K Q
 repeat first | refine awp_seq ?_ | refine dwp_seq hz ?_ | refine dwp_last hz ?_
 refine awp_block ?_
 obtain ⟨o11, ho11, hO11⟩ := bnd_some h
 repeat first | refine awp_seq ?_ | refine dwp_seq hz ?_ | refine dwp_last hz ?_
 refine awp_loop (ι := {p : Nat × (List Token) × (Option Nat) × Int // iter (fun p => s11_b1 N p1 p.1 p.2) p.1 (p.2.1, p.2.2.2) = some o11 ∧ (p.2.2.1 = none → p.2.1 = [])}) (fun p => [(0, .str p1), (2, .ptr 2 b1 0), (3, .ptr 3 b2 0), (4, .ptr 4 b3 0), (5, .int .i64 p.1.2.2.2)]) (fun p => (2, b1, .cells ([accV 501 p.1.2.2.1 (List.length p.1.2.1) 4])) :: accO 501 p.1.2.2.1 (flt Token.av p.1.2.1) ((3, b2, .cells ([.int .i64 0])) :: (4, b3, .cells ([.int .i64 0])) :: [])) (fun p => p.1.1) ⟨⟨N, [], none, x5⟩, ho11, (fun _ => rfl)⟩ ?_ ?_
 · refine ent_le' ([]) (_ :: _ :: _ :: []) (_ :: _ :: _ :: []) rfl (List.Perm.trans (List.Perm.cons _ perm_cc) (List.Perm.trans perm_cc ((List.Perm.cons _ (List.Perm.trans perm_cc (List.Perm.refl _)))))) ?_ ?_
   · simp -implicitDefEqProofs (disch := first | omega | rfl) only [go_sem, simprocAttr, subF_cons, subF_nil]
     exact ⟨(.keep _), (.lptr ..), (.lptr ..), (.lptr ..), (.keep _)⟩
   · exact (.cells (.cons (.keep _) (.nil _)) (.cell (.cell .nil)))
 rintro ⟨⟨n11, l7, bo8, x10⟩, hi11, hb9⟩
 obtain ⟨m11, q11, rfl, h, hm11⟩ := iter_some hi11
 try dsimp only at h
 try dsimp only
 unfold s11_b1 at h
 repeat first | refine awp_seq ?_ | refine dwp_seq hz ?_ | refine dwp_last hz ?_
 refine rg (h := ?_)
 rcases ite_some h with ⟨hc15, h⟩ | ⟨hc15, h⟩
 · repeat first | refine awp_seq ?_ | refine dwp_seq hz ?_ | refine dwp_last hz ?_
   refine awp_then (by simp -implicitDefEqProofs (disch := first | omega | rfl) only [go_sem, simprocAttr, eq_true hc15]) ?_
   repeat first | refine awp_seq ?_ | refine dwp_seq hz ?_ | refine dwp_last hz ?_
   refine awp_skip ?_
   repeat first | refine awp_seq ?_ | refine dwp_seq hz ?_ | refine dwp_last hz ?_
   refine awp_block ?_
   repeat first | refine awp_seq ?_ | refine dwp_seq hz ?_ | refine dwp_last hz ?_
   refine awp_reg fun K Q hK hQ => ?_
   simp -implicitDefEqProofs (disch := first | omega | rfl) only [go_sem, simprocAttr, zr11_6]
   have hh := bnd_some h; clear h; obtain ⟨x16, hx17, h⟩ := hh
   rcases x16 with x18 | x19
   · replace h := sum_l h
     refine call_pure hP (c20 N p1 x10 (.inl x18) hx17) ?_
     simp -implicitDefEqProofs (disch := first | omega | rfl) only [go_sem, simprocAttr]
     intro b21
     refine hK _ _ ?_; clear hK hQ K Q
     repeat first | refine awp_seq ?_ | refine dwp_seq hz ?_ | refine dwp_last hz ?_
     refine rg (by intro K Q; simp -implicitDefEqProofs (disch := first | omega | rfl) only [go_sem, simprocAttr, lenA_acc (acc_len hb9)] <;> rfl) ?_
     rcases ite_some h with ⟨hc22, h⟩ | ⟨hc22, h⟩
     · repeat first | refine awp_seq ?_ | refine dwp_seq hz ?_ | refine dwp_last hz ?_
       refine awp_then (by simp -implicitDefEqProofs (disch := first | omega | rfl) only [go_sem, simprocAttr, eq_true hc22]) ?_
       repeat first | refine awp_seq ?_ | refine dwp_seq hz ?_ | refine dwp_last hz ?_
       refine awp_reg fun K Q hK hQ => ?_
       simp -implicitDefEqProofs (disch := first | omega | rfl) only [go_sem, simprocAttr, zr11_8]
       refine hQ _ _ _ ?_
       clear hK hQ K Q
       obtain rfl := som_inj h
       try dsimp only at hm11
       subst hm11
       simp only [Ou.on_ret] at hO11
       obtain rfl := som_inj hO11
       repeat first | refine then_pan ?_ | refine blk_pan ?_
       refine dend_pan hP hD ?_
       refine def_intro 15 Tryd.func18 nt18 rec18 rs18 (by simp) (.inr ⟨41, (.agg [.int .i64 3, .int .i64 x10]), _, rfl, rfl, rfl, rfl⟩) fun X hP hn hd hr K Q hK => ?_
       simp -implicitDefEqProofs (disch := first | omega | rfl) only [go_sem, simprocAttr, zr18_0, argS]
       intro b23
       refine hK _ _ ?_; clear hK K Q
       repeat first | refine awp_seq ?_ | refine dwp_seq hz ?_ | refine dwp_last hz ?_
       refine rg (h := ?_)
       repeat first | refine awp_seq ?_ | refine dwp_seq hz ?_ | refine dwp_last hz ?_
       refine awp_then (by rfl) ?_
       repeat first | refine awp_seq ?_ | refine dwp_seq hz ?_ | refine dwp_last hz ?_
       refine awp_regD' (_ :: _ :: accO _ _ _ (_ :: [])) (_ :: _ :: []) (_ :: _ :: accO _ _ _ (_ :: _ :: _ :: [])) (by rw [hP]; exact mixed) (by first | rfl | (simp only [accO_app, List.cons_append, List.nil_append]; rfl) | simp only [accO_app, List.cons_append, List.nil_append]) ((List.Perm.cons _ ((List.Perm.cons _ (List.Perm.trans perm_ca ((perm_ha (List.Perm.trans (List.Perm.cons _ perm_cc) (List.Perm.trans perm_cc (List.Perm.refl _)))))))))) fun K hK => ?_
       simp -implicitDefEqProofs (disch := first | omega | rfl) only [go_sem, simprocAttr, zr18_2]
       refine hK _ _ ?_; clear hK K
       repeat' (first | refine then_normal ?_ | refine blk_normal ?_)
       refine dfr_end [] ((2, b1, .cells ([.sl (List.map Token.av [])])) :: (3, b2, .cells ([.int .i64 3])) :: (4, b3, .cells ([.int .i64 x10])) :: []) ?_ ⟨?_, ?_⟩
       · refine ent_le' ([]) (_ :: _ :: _ :: _ :: _ :: accO _ _ _ []) (_ :: _ :: _ :: _ :: _ :: accO _ _ _ []) rfl (List.Perm.trans ((List.Perm.cons _ (List.Perm.cons _ (perm_ha perm_cc)))) (List.Perm.trans (List.Perm.cons _ (List.Perm.cons _ perm_ac)) (List.Perm.trans (List.Perm.cons _ perm_cc) (List.Perm.trans perm_cc ((List.Perm.cons _ (List.Perm.trans ((List.Perm.cons _ (List.Perm.cons _ (perm_ha perm_cc)))) (List.Perm.trans (List.Perm.cons _ (List.Perm.cons _ perm_ac)) (List.Perm.trans (List.Perm.cons _ perm_cc) (List.Perm.trans perm_cc ((List.Perm.cons _ (List.Perm.trans (List.Perm.cons _ (List.Perm.cons _ perm_ac)) (List.Perm.trans (List.Perm.cons _ perm_cc) (List.Perm.trans perm_cc (List.Perm.refl _)))))))))))))))) ?_ ?_
         · exact trivial
         · exact (.cells (.cons .nil (.nil _)) (.cell (.cell (.drop (.drop (.accDrop .nil))))))
       · rfl
       simp -implicitDefEqProofs (disch := first | omega | rfl) only [go_sem, simprocAttr]
       first | exact leaves_none (by first | rfl | simp) | exact leaves_nil
     repeat first | refine awp_seq ?_ | refine dwp_seq hz ?_ | refine dwp_last hz ?_
     refine awp_else (by simp -implicitDefEqProofs (disch := first | omega | rfl) only [go_sem, simprocAttr, eq_false hc22]) ?_
     repeat first | refine awp_seq ?_ | refine dwp_seq hz ?_ | refine dwp_last hz ?_
     refine awp_skip ?_
     repeat first | refine awp_seq ?_ | refine dwp_seq hz ?_ | refine dwp_last hz ?_
     refine awp_reg fun K Q hK hQ => ?_
     obtain ⟨⟨hg25, hg26⟩, h⟩ := grd_some h
     simp -implicitDefEqProofs (disch := first | omega | rfl) only [go_sem, simprocAttr, zr11_9, eq_true hg25, eq_true hg26]
     intro b24
     refine app_acc (f := Token.av) (l := l7) ((31, b24, .cells (Token.cs x18)) :: (6, b21, .cells (Token.cs x18)) :: (2, b1, .cells ([accV 501 bo8 (List.length l7) 4])) :: (3, b2, .cells ([.int .i64 0])) :: (4, b3, .cells ([.int .i64 0])) :: []) hb9 (by first | rfl | simp) (fun _ => Token.avl) (by intro b hb; subst hb; simp -implicitDefEqProofs (disch := first | omega | rfl) only [go_sem, simprocAttr]) (by intro b hb; subst hb; simp -implicitDefEqProofs (disch := first | omega | rfl) only [go_sem, simprocAttr]) (by intro hb; subst hb; simp -implicitDefEqProofs (disch := first | omega | rfl) only [go_sem, simprocAttr]) ?_
     simp -implicitDefEqProofs (disch := first | omega | rfl) only [go_sem, simprocAttr, eq_true hg25, eq_true hg26]
     intro bo27 hb28
     try simp -implicitDefEqProofs (disch := first | omega | rfl) only [go_sem, simprocAttr]
     refine hK _ _ ?_; clear hK hQ K Q
     repeat first | refine awp_seq ?_ | refine dwp_seq hz ?_ | refine dwp_last hz ?_
     refine rg (h := ?_)
     repeat first | refine awp_seq ?_ | refine dwp_seq hz ?_ | refine dwp_last hz ?_
     refine awp_reg fun K Q hK hQ => ?_
     simp -implicitDefEqProofs (disch := first | omega | rfl) only [go_sem, simprocAttr, zr11_11]
     have hh := bnd_some h; clear h; obtain ⟨x29, hx30, h⟩ := hh
     refine call_pure hP (c19 N p1 (IntKind.wrap .i64 (x10 + (List.length x18.Text : Int))) x29 hx30) ?_
     simp -implicitDefEqProofs (disch := first | omega | rfl) only [go_sem, simprocAttr]
     refine hK _ _ ?_; clear hK hQ K Q
     obtain rfl := som_inj h
     try dsimp only at hm11
     refine ⟨⟨⟨m11, l7 ++ [x18], bo27, x29⟩, hm11, (fun h => List.length_eq_zero_iff.1 (by simpa using hb28 h))⟩, Nat.lt_succ_self _, ?_⟩
     refine ent_le' ([]) (_ :: accO _ _ _ (_ :: _ :: _ :: _ :: [])) (_ :: accO _ _ _ (_ :: _ :: _ :: _ :: [])) rfl (List.Perm.trans (perm_ha (List.Perm.cons _ perm_cc)) (List.Perm.trans (perm_ha perm_cc) (List.Perm.trans perm_ac ((List.Perm.cons _ ((perm_ha (List.Perm.trans (List.Perm.cons _ perm_cc) (List.Perm.trans perm_cc ((List.Perm.cons _ (List.Perm.trans (List.Perm.cons _ perm_cc) (List.Perm.trans perm_cc (List.Perm.refl _)))))))))))))) ?_ ?_
     · simp -implicitDefEqProofs (disch := first | omega | rfl) only [go_sem, simprocAttr, subF_cons, subF_nil]
       exact ⟨(.keep _), (.lptr ..), (.lptr ..), (.lptr ..), (.keep _)⟩
     · exact (.cells (.cons (frz_lacc (by first | rfl | (simp; done) | ((try simp only [List.length_set, List.length_take]); omega))) (.nil _)) (.acc (FrzP.of_eq (by first | rfl | simp only [flt_app, flt_one, List.append_assoc])) (.cell (.cell (.drop (.drop .nil))))))
   replace h := sum_r h
   refine call_pan hP (c20 N p1 x10 (.inr x19) hx17) ?_
   refine hQ _ _ _ ?_
   clear hK hQ K Q
   obtain rfl := som_inj h
   try dsimp only at hm11
   subst hm11
   simp only [Ou.on_ret] at hO11
   obtain rfl := som_inj hO11
   repeat first | refine then_pan ?_ | refine blk_pan ?_
   refine dend_pan hP hD ?_
   refine def_intro 15 Tryd.func18 nt18 rec18 rs18 (by simp) (.inr ⟨41, (.agg (LexerFault.cs x19)), _, rfl, rfl, rfl, rfl⟩) fun X hP hn hd hr K Q hK => ?_
   simp -implicitDefEqProofs (disch := first | omega | rfl) only [go_sem, simprocAttr, zr18_0, argS]
   intro b20
   refine hK _ _ ?_; clear hK K Q
   repeat first | refine awp_seq ?_ | refine dwp_seq hz ?_ | refine dwp_last hz ?_
   refine rg (h := ?_)
   repeat first | refine awp_seq ?_ | refine dwp_seq hz ?_ | refine dwp_last hz ?_
   refine awp_then (by rfl) ?_
   repeat first | refine awp_seq ?_ | refine dwp_seq hz ?_ | refine dwp_last hz ?_
   refine awp_regD' (_ :: accO _ _ _ (_ :: [])) (_ :: _ :: []) (_ :: accO _ _ _ (_ :: _ :: _ :: [])) (by rw [hP]; exact mixed) (by first | rfl | (simp only [accO_app, List.cons_append, List.nil_append]; rfl) | simp only [accO_app, List.cons_append, List.nil_append]) ((List.Perm.cons _ (List.Perm.trans perm_ca ((perm_ha (List.Perm.trans (List.Perm.cons _ perm_cc) (List.Perm.trans perm_cc (List.Perm.refl _)))))))) fun K hK => ?_
   simp -implicitDefEqProofs (disch := first | omega | rfl) only [go_sem, simprocAttr, zr18_2]
   refine hK _ _ ?_; clear hK K
   repeat' (first | refine then_normal ?_ | refine blk_normal ?_)
   refine dfr_end [] ((2, b1, .cells ([.sl (List.map Token.av [])])) :: (3, b2, .cells ([.int .i64 x19.err_])) :: (4, b3, .cells ([.int .i64 x19.at_])) :: []) ?_ ⟨?_, ?_⟩
   · refine ent_le' ([]) (_ :: _ :: _ :: _ :: accO _ _ _ []) (_ :: _ :: _ :: _ :: accO _ _ _ []) rfl (List.Perm.trans (List.Perm.cons _ (perm_ha perm_cc)) (List.Perm.trans (List.Perm.cons _ perm_ac) (List.Perm.trans perm_cc ((List.Perm.cons _ (List.Perm.trans (List.Perm.cons _ (perm_ha perm_cc)) (List.Perm.trans (List.Perm.cons _ perm_ac) (List.Perm.trans perm_cc ((List.Perm.cons _ (List.Perm.trans (List.Perm.cons _ perm_ac) (List.Perm.trans perm_cc (List.Perm.refl _))))))))))))) ?_ ?_
     · exact trivial
     · exact (.cells (.cons .nil (.nil _)) (.cell (.cell (.drop (.accDrop .nil)))))
   · rfl
   simp -implicitDefEqProofs (disch := first | omega | rfl) only [go_sem, simprocAttr]
   first | exact leaves_none (by first | rfl | simp) | exact leaves_nil
 repeat first | refine awp_seq ?_ | refine dwp_seq hz ?_ | refine dwp_last hz ?_
 refine awp_else (by simp -implicitDefEqProofs (disch := first | omega | rfl) only [go_sem, simprocAttr, eq_false hc15]) ?_
 repeat first | refine awp_seq ?_ | refine dwp_seq hz ?_ | refine dwp_last hz ?_
 refine awp_exit ?_
 repeat' (first | refine then_exit ?_ | refine exit_here ?_ | refine exit_on rfl ?_)
 obtain rfl := som_inj h
 try dsimp only at hm11
 subst hm11
 simp only [Ou.on_brk] at hO11
 repeat first | refine awp_seq ?_ | refine dwp_seq hz ?_ | refine dwp_last hz ?_
 refine rg (h := ?_)
 obtain rfl := som_inj hO11
 repeat first | refine awp_seq ?_ | refine dwp_seq hz ?_ | refine dwp_last hz ?_
 refine awp_ret ?_
 repeat first | refine then_ret ?_ | refine blk_ret ?_
 refine dend_ret hP hD ?_
 refine def_intro 15 Tryd.func18 nt18 rec18 rs18 (by simp) (.inl ⟨rfl, rfl, rfl⟩) fun X hP hn hd hr K Q hK => ?_
 simp -implicitDefEqProofs (disch := first | omega | rfl) only [go_sem, simprocAttr, zr18_0, argS]
 intro b31
 refine hK _ _ ?_; clear hK K Q
 repeat first | refine awp_seq ?_ | refine dwp_seq hz ?_ | refine dwp_last hz ?_
 refine rg (h := ?_)
 repeat first | refine awp_seq ?_ | refine dwp_seq hz ?_ | refine dwp_last hz ?_
 refine awp_else (by rfl) ?_
 repeat first | refine awp_seq ?_ | refine dwp_seq hz ?_ | refine dwp_last hz ?_
 refine awp_skip ?_
 repeat' (first | refine then_normal ?_ | refine blk_normal ?_)
 refine dfr_end [] ((2, b1, .cells ([.sl (List.map Token.av l7)])) :: (3, b2, .cells ([.int .i64 0])) :: (4, b3, .cells ([.int .i64 0])) :: []) ?_ ⟨?_, ?_⟩
 · refine ent_le' (accO _ _ _ []) (_ :: _ :: _ :: _ :: []) (accO _ _ _ (_ :: _ :: _ :: _ :: [])) (by first | rfl | (simp only [accO_app, List.cons_append, List.nil_append]; rfl) | simp only [accO_app, List.cons_append, List.nil_append]) (List.Perm.trans (List.Perm.cons _ perm_ca) (List.Perm.trans perm_ca ((perm_ha (List.Perm.trans perm_cc ((List.Perm.cons _ (List.Perm.trans perm_cc ((List.Perm.cons _ (List.Perm.trans perm_cc (List.Perm.refl _)))))))))))) ?_ ?_
   · exact trivial
   · exact (.cells (.cons (frz_acc (fun _ => Token.avl) hb9 (by intro b hb; subst hb; simp -implicitDefEqProofs (disch := first | omega | rfl) only [go_sem, simprocAttr]) (by first | rfl | (simp; done) | ((try simp only [List.length_set, List.length_take]); omega))) (.nil _)) (.cell (.cell (.drop .nil))))
 · rfl
 simp -implicitDefEqProofs (disch := first | omega | rfl) only [go_sem, simprocAttr]
 first | exact leaves_none (by first | rfl | simp) | exact leaves_nil
end Go.Proofs.Lex
namespace Go.Proofs.Lex
open Go.Aw
set_option maxRecDepth 100000
attribute [-go_sem] nisA_sl appA_nil
def zr10_0 : List AO := [⟨some 0, none, .mov (.c (.bool false))⟩]
def zr10_1 : List AO := [⟨some 15, none, .callF 11 [(.c (.str lit1))]⟩,
  ⟨some 14, none, .mov (.t 15)⟩,
  ⟨some 16, none, .ext 0 (.t 14)⟩,
  ⟨some 17, none, .ext 1 (.t 14)⟩,
  ⟨some 18, none, .ext 2 (.t 14)⟩,
  ⟨some 1, none, .mov (.t 16)⟩,
  ⟨some 2, none, .mov (.t 17)⟩,
  ⟨some 3, none, .mov (.t 18)⟩]
def zr10_2 : List AO := [⟨some 20, none, .callF 11 [(.c (.str [49, 50, 32, 35, 32, 51]))]⟩,
  ⟨some 19, none, .mov (.t 20)⟩,
  ⟨some 21, none, .ext 0 (.t 19)⟩,
  ⟨some 22, none, .ext 1 (.t 19)⟩,
  ⟨some 23, none, .ext 2 (.t 19)⟩,
  ⟨some 4, none, .mov (.t 21)⟩,
  ⟨some 5, none, .mov (.t 22)⟩,
  ⟨some 6, none, .mov (.t 23)⟩]
def zr10_3 : List AO := [⟨some 25, none, .callF 11 [(.c (.str [97, 46]))]⟩,
  ⟨some 24, none, .mov (.t 25)⟩,
  ⟨some 26, none, .ext 0 (.t 24)⟩,
  ⟨some 27, none, .ext 1 (.t 24)⟩,
  ⟨some 28, none, .ext 2 (.t 24)⟩,
  ⟨some 7, none, .mov (.t 26)⟩,
  ⟨some 8, none, .mov (.t 27)⟩,
  ⟨some 9, none, .mov (.t 28)⟩]
def zr10_4 : List AO := [⟨some 30, none, .callF 11 [(.c (.str [55, 120]))]⟩,
  ⟨some 29, none, .mov (.t 30)⟩,
  ⟨some 31, none, .ext 0 (.t 29)⟩,
  ⟨some 32, none, .ext 1 (.t 29)⟩,
  ⟨some 33, none, .ext 2 (.t 29)⟩,
  ⟨some 10, none, .mov (.t 31)⟩,
  ⟨some 11, none, .mov (.t 32)⟩,
  ⟨some 12, none, .mov (.t 33)⟩]
def zr10_5 : List AO := [⟨some 34, none, .mov (.t 2)⟩,
  ⟨some 35, none, .bin .neq (.t 34) (.c (.int .i64 0))⟩,
  ⟨some 36, none, .mov (.t 35)⟩,
  ⟨some 37, some (36, false), .mov (.t 1)⟩,
  ⟨some 38, some (36, false), .len (.t 37)⟩,
  ⟨some 39, some (36, false), .bin .neq (.t 38) (.c (.int .i64 5))⟩,
  ⟨some 40, none, .pick (.t 36) (.c (.bool true)) (.t 39)⟩,
  ⟨some 41, none, .mov (.t 40)⟩,
  ⟨some 42, some (41, false), .mov (.t 5)⟩,
  ⟨some 43, some (41, false), .bin .neq (.t 42) (.c (.int .i64 0))⟩,
  ⟨some 44, none, .pick (.t 41) (.c (.bool true)) (.t 43)⟩,
  ⟨some 45, none, .mov (.t 44)⟩,
  ⟨some 46, some (45, false), .mov (.t 4)⟩,
  ⟨some 47, some (45, false), .len (.t 46)⟩,
  ⟨some 48, some (45, false), .bin .neq (.t 47) (.c (.int .i64 1))⟩,
  ⟨some 49, none, .pick (.t 45) (.c (.bool true)) (.t 48)⟩]
def zr10_6 : List AO := [⟨some 0, none, .mov (.c (.bool false))⟩]
def zc10_0 : AC := .seq (.reg zr10_6) .ret
def zc10_1 : AC := .cond (.t 49) zc10_0 .skip
def zr10_7 : List AO := [⟨some 50, none, .mov (.t 1)⟩,
  ⟨some 51, none, .iadr 4 (.t 50) (.c (.int .i64 1))⟩,
  ⟨some 52, none, .load true 4 (.t 51)⟩,
  ⟨some 53, none, .bld [.int .i64 0, .str [], .int .i64 0, .int .i64 0] [(0, 1, (.c (.int .i64 1))), (1, 1, (.c (.str [97, 46, 98]))), (3, 1, (.c (.int .i64 5)))]⟩,
  ⟨some 54, none, .eqS false [.i, .s, .i, .i] (.t 52) (.t 53)⟩,
  ⟨some 55, none, .mov (.t 54)⟩,
  ⟨some 56, some (55, true), .mov (.t 1)⟩,
  ⟨some 57, some (55, true), .iadr 4 (.t 56) (.c (.int .i64 4))⟩,
  ⟨some 58, some (55, true), .load true 4 (.t 57)⟩,
  ⟨some 59, some (55, true), .bld [.int .i64 0, .str [], .int .i64 0, .int .i64 0] [(0, 1, (.c (.int .i64 3))), (1, 1, (.c (.str [58]))), (3, 1, (.c (.int .i64 13)))]⟩,
  ⟨some 60, some (55, true), .eqS false [.i, .s, .i, .i] (.t 58) (.t 59)⟩,
  ⟨some 61, none, .pick (.t 55) (.t 60) (.c (.bool false))⟩,
  ⟨some 13, none, .mov (.t 61)⟩]
def zr10_8 : List AO := [⟨some 62, none, .mov (.t 13)⟩,
  ⟨some 63, none, .mov (.t 62)⟩,
  ⟨some 64, some (63, true), .mov (.t 4)⟩,
  ⟨some 65, some (63, true), .iadr 4 (.t 64) (.c (.int .i64 0))⟩,
  ⟨some 66, some (63, true), .load true 4 (.t 65)⟩,
  ⟨some 67, some (63, true), .bld [.int .i64 0, .str [], .int .i64 0, .int .i64 0] [(0, 1, (.c (.int .i64 2))), (1, 1, (.c (.str [49, 50]))), (2, 1, (.c (.int .i64 12)))]⟩,
  ⟨some 68, some (63, true), .eqS false [.i, .s, .i, .i] (.t 66) (.t 67)⟩,
  ⟨some 69, none, .pick (.t 63) (.t 68) (.c (.bool false))⟩,
  ⟨some 70, none, .mov (.t 69)⟩,
  ⟨some 71, some (70, true), .mov (.t 8)⟩,
  ⟨some 72, some (70, true), .bin .eql (.t 71) (.c (.int .i64 4))⟩,
  ⟨some 73, none, .pick (.t 70) (.t 72) (.c (.bool false))⟩,
  ⟨some 74, none, .mov (.t 73)⟩,
  ⟨some 75, some (74, true), .mov (.t 9)⟩,
  ⟨some 76, some (74, true), .bin .eql (.t 75) (.c (.int .i64 1))⟩,
  ⟨some 77, none, .pick (.t 74) (.t 76) (.c (.bool false))⟩,
  ⟨some 78, none, .mov (.t 77)⟩,
  ⟨some 79, some (78, true), .mov (.t 11)⟩,
  ⟨some 80, some (78, true), .bin .eql (.t 79) (.c (.int .i64 5))⟩,
  ⟨some 81, none, .pick (.t 78) (.t 80) (.c (.bool false))⟩,
  ⟨some 82, none, .mov (.t 81)⟩,
  ⟨some 83, some (82, true), .mov (.t 12)⟩,
  ⟨some 84, some (82, true), .bin .eql (.t 83) (.c (.int .i64 0))⟩,
  ⟨some 85, none, .pick (.t 82) (.t 84) (.c (.bool false))⟩,
  ⟨some 0, none, .mov (.t 85)⟩]
def zc10_2 : AC := .seq (.reg zr10_8) .ret
def zc10_3 : AC := .seq (.reg zr10_7) zc10_2
def zc10_4 : AC := .seq (.seq (.reg zr10_5) zc10_1) zc10_3
def zc10_5 : AC := .seq (.reg zr10_4) zc10_4
def zc10_6 : AC := .seq (.reg zr10_3) zc10_5
def zc10_7 : AC := .seq (.reg zr10_2) zc10_6
def zc10_8 : AC := .seq (.reg zr10_1) zc10_7
def zc10_9 : AC := .seq (.reg zr10_0) zc10_8
def zc10 : AC := zc10_9
theorem ok10 : Tryd.f10.body.bind (compCode Tryd.prog 86) = some zc10 := by kernel_rfl
theorem nt10 : Tryd.f10.ntmps = 86 := by kernel_rfl
theorem res10 : compRes Tryd.prog Tryd.f10.results.toList = some [.tmp 0] := by kernel_rfl
attribute [go_sem] zr10_0 zr10_5 zr10_6 zr10_7 zr10_8
def s10_k1 (N : Nat) (x3 : (List Token) × Int × Int) (x5 : (List Token) × Int × Int) (x7 : (List Token) × Int × Int) (x13 : Bool) : Option Bool :=
  bif x13 then
    grd (0 < (List.length x3.1 : Int)) <|
    bif (decide ((x3.1[0]!).Kind = 2) && (decide ((x3.1[0]!).Text = [49, 50]) && (decide ((x3.1[0]!).N = 12) && (decide ((x3.1[0]!).At = 0) && true)))) then
      if x5.2.1 = 4 then
        if x5.2.2 = 1 then
          if x7.2.1 = 5 then
            some (decide (x7.2.2 = 0))
          else
            some false
        else
          some false
      else
        some false
    else
      some false
  else
    some false
def s10 (N : Nat) : Option Bool :=
  (s11 N lit1).bind fun x1 =>
  (s11 N [49, 50, 32, 35, 32, 51]).bind fun x3 =>
  (s11 N [97, 46]).bind fun x5 =>
  (s11 N [55, 120]).bind fun x7 =>
  if x1.2.1 = 0 then
    if (List.length x1.1 : Int) = 5 then
      if x3.2.1 = 0 then
        if (List.length x3.1 : Int) = 1 then
          grd (1 < (List.length x1.1 : Int)) <|
          bif (decide ((x1.1[1]!).Kind = 1) && (decide ((x1.1[1]!).Text = [97, 46, 98]) && (decide ((x1.1[1]!).N = 0) && (decide ((x1.1[1]!).At = 5) && true)))) then
            grd (4 < (List.length x1.1 : Int)) <|
            s10_k1 N x3 x5 x7 ((decide ((x1.1[4]!).Kind = 3) && (decide ((x1.1[4]!).Text = [58]) && (decide ((x1.1[4]!).N = 0) && (decide ((x1.1[4]!).At = 13) && true)))))
          else
            s10_k1 N x3 x5 x7 false
        else
          some false
      else
        some false
    else
      some false
  else
    some false
set_option maxHeartbeats 4000000 in
theorem c10 (N : Nat) (r : Bool) (h : s10 N  = some r) : PureC Tryd.prog 10 [] (.bool r) := by
 refine fn_intro' 86 Tryd.func10 nt10 ok10 res10 (by simp) fun X hP hn hd hr => ?_
 unfold s10 at h
 repeat refine awp_seq ?_
 refine rg (h := ?_)
 repeat refine awp_seq ?_
 refine awp_reg fun K Q hK hQ => ?_
 simp -implicitDefEqProofs (disch := first | omega | rfl) only [go_sem, simprocAttr, zr10_1]
 have hh := bnd_some h; clear h; obtain ⟨x1, hx2, h⟩ := hh
 refine call_pure hP (c11 N lit1 x1 hx2) ?_
 simp -implicitDefEqProofs (disch := first | omega | rfl) only [go_sem, simprocAttr]
 refine hK _ _ ?_; clear hK hQ K Q
 repeat refine awp_seq ?_
 refine awp_reg fun K Q hK hQ => ?_
 simp -implicitDefEqProofs (disch := first | omega | rfl) only [go_sem, simprocAttr, zr10_2]
 have hh := bnd_some h; clear h; obtain ⟨x3, hx4, h⟩ := hh
 refine call_pure hP (c11 N [49, 50, 32, 35, 32, 51] x3 hx4) ?_
 simp -implicitDefEqProofs (disch := first | omega | rfl) only [go_sem, simprocAttr]
 refine hK _ _ ?_; clear hK hQ K Q
 repeat refine awp_seq ?_
 refine awp_reg fun K Q hK hQ => ?_
 simp -implicitDefEqProofs (disch := first | omega | rfl) only [go_sem, simprocAttr, zr10_3]
 have hh := bnd_some h; clear h; obtain ⟨x5, hx6, h⟩ := hh
 refine call_pure hP (c11 N [97, 46] x5 hx6) ?_
 simp -implicitDefEqProofs (disch := first | omega | rfl) only [go_sem, simprocAttr]
 refine hK _ _ ?_; clear hK hQ K Q
 repeat refine awp_seq ?_
 refine awp_reg fun K Q hK hQ => ?_
 simp -implicitDefEqProofs (disch := first | omega | rfl) only [go_sem, simprocAttr, zr10_4]
 have hh := bnd_some h; clear h; obtain ⟨x7, hx8, h⟩ := hh
 refine call_pure hP (c11 N [55, 120] x7 hx8) ?_
 simp -implicitDefEqProofs (disch := first | omega | rfl) only [go_sem, simprocAttr]
 refine hK _ _ ?_; clear hK hQ K Q
 repeat refine awp_seq ?_
 rcases ite_some h with ⟨hc9, h⟩ | ⟨hc9, h⟩
 · rcases ite_some h with ⟨hc10, h⟩ | ⟨hc10, h⟩
   · rcases ite_some h with ⟨hc11, h⟩ | ⟨hc11, h⟩
     · refine rgf (And.intro (eq_true hc9) (And.intro (eq_true hc10) (eq_true hc11))) ?_
       rcases ite_some h with ⟨hc12, h⟩ | ⟨hc12, h⟩
       · repeat refine awp_seq ?_
         refine awp_else (by simp -implicitDefEqProofs (disch := first | omega | rfl) only [go_sem, simprocAttr, eq_true hc12]) ?_
         repeat refine awp_seq ?_
         refine awp_skip ?_
         repeat refine awp_seq ?_
         refine awp_cut (ι := {p : Bool // s10_k1 N x3 x5 x7 p = some r}) (fun p => [(4, .sl (List.map Token.av x3.1)), (8, .int .i64 x5.2.1), (9, .int .i64 x5.2.2), (11, .int .i64 x7.2.1), (12, .int .i64 x7.2.2), (13, .bool p.1)]) (fun p => []) ?_ ?_
         · repeat refine awp_seq ?_
           obtain ⟨hg20, h⟩ := grd_some h
           rcases cnd_some h with ⟨hc21, h⟩ | ⟨hc21, h⟩
           · obtain ⟨hg22, h⟩ := grd_some h
             refine rg (by intro K Q; simp -implicitDefEqProofs (disch := first | omega | rfl) only [go_sem, simprocAttr, Token.cs_eq, eq_true hg20, hc21, eq_true hg22] <;> rfl) ?_
             refine ⟨⟨(decide ((x1.1[4]!).Kind = 3) && (decide ((x1.1[4]!).Text = [58]) && (decide ((x1.1[4]!).N = 0) && (decide ((x1.1[4]!).At = 13) && true)))), h⟩, ?_⟩
             refine ent_le' ([]) ([]) ([]) rfl (List.Perm.refl _) ?_ ?_
             · simp -implicitDefEqProofs (disch := first | omega | rfl) only [go_sem, simprocAttr, subF_cons, subF_nil]
               exact ⟨(.keep _), (.keep _), (.keep _), (.keep _), (.keep _), (.keep _)⟩
             · exact .nil
           refine rg (by intro K Q; simp -implicitDefEqProofs (disch := first | omega | rfl) only [go_sem, simprocAttr, Token.cs_eq, eq_true hg20, hc21] <;> rfl) ?_
           refine ⟨⟨false, h⟩, ?_⟩
           refine ent_le' ([]) ([]) ([]) rfl (List.Perm.refl _) ?_ ?_
           · simp -implicitDefEqProofs (disch := first | omega | rfl) only [go_sem, simprocAttr, subF_cons, subF_nil]
             exact ⟨(.keep _), (.keep _), (.keep _), (.keep _), (.keep _), (.keep _)⟩
           · exact .nil
         rintro ⟨x13, h⟩
         try dsimp only at h
         try dsimp only
         repeat refine awp_seq ?_
         rcases cnd_some h with ⟨hc14, h⟩ | ⟨hc14, h⟩
         · obtain ⟨hg15, h⟩ := grd_some h
           rcases cnd_some h with ⟨hc16, h⟩ | ⟨hc16, h⟩
           · rcases ite_some h with ⟨hc17, h⟩ | ⟨hc17, h⟩
             · rcases ite_some h with ⟨hc18, h⟩ | ⟨hc18, h⟩
               · rcases ite_some h with ⟨hc19, h⟩ | ⟨hc19, h⟩
                 · refine awp_reg fun K Q hK hQ => ?_
                   simp -implicitDefEqProofs (disch := first | omega | rfl) only [go_sem, simprocAttr, zr10_8, Token.cs_eq, hc14, eq_true hg15, hc16, eq_true hc17, eq_true hc18, eq_true hc19]
                   first | refine hK _ _ ?_ | (refine ⟨by assumption, ?_⟩; refine hK _ _ ?_)
                   clear hK hQ K Q
                   obtain rfl := som_inj h
                   repeat refine awp_seq ?_
                   refine awp_ret ?_
                   repeat first | refine then_ret ?_ | refine blk_ret ?_
                   exact rtp
                 refine awp_reg fun K Q hK hQ => ?_
                 simp -implicitDefEqProofs (disch := first | omega | rfl) only [go_sem, simprocAttr, zr10_8, Token.cs_eq, hc14, eq_true hg15, hc16, eq_true hc17, eq_true hc18, eq_false hc19]
                 first | refine hK _ _ ?_ | (refine ⟨by assumption, ?_⟩; refine hK _ _ ?_)
                 clear hK hQ K Q
                 obtain rfl := som_inj h
                 repeat refine awp_seq ?_
                 refine awp_ret ?_
                 repeat first | refine then_ret ?_ | refine blk_ret ?_
                 exact rtp
               refine awp_reg fun K Q hK hQ => ?_
               simp -implicitDefEqProofs (disch := first | omega | rfl) only [go_sem, simprocAttr, zr10_8, Token.cs_eq, hc14, eq_true hg15, hc16, eq_true hc17, eq_false hc18]
               first | refine hK _ _ ?_ | (refine ⟨by assumption, ?_⟩; refine hK _ _ ?_)
               clear hK hQ K Q
               obtain rfl := som_inj h
               repeat refine awp_seq ?_
               refine awp_ret ?_
               repeat first | refine then_ret ?_ | refine blk_ret ?_
               exact rtp
             refine awp_reg fun K Q hK hQ => ?_
             simp -implicitDefEqProofs (disch := first | omega | rfl) only [go_sem, simprocAttr, zr10_8, Token.cs_eq, hc14, eq_true hg15, hc16, eq_false hc17]
             first | refine hK _ _ ?_ | (refine ⟨by assumption, ?_⟩; refine hK _ _ ?_)
             clear hK hQ K Q
             obtain rfl := som_inj h
             repeat refine awp_seq ?_
             refine awp_ret ?_
             repeat first | refine then_ret ?_ | refine blk_ret ?_
             exact rtp
           refine awp_reg fun K Q hK hQ => ?_
           simp -implicitDefEqProofs (disch := first | omega | rfl) only [go_sem, simprocAttr, zr10_8, Token.cs_eq, hc14, eq_true hg15, hc16]
           first | refine hK _ _ ?_ | (refine ⟨by assumption, ?_⟩; refine hK _ _ ?_)
           clear hK hQ K Q
           obtain rfl := som_inj h
           repeat refine awp_seq ?_
           refine awp_ret ?_
           repeat first | refine then_ret ?_ | refine blk_ret ?_
           exact rtp
         refine rg (by intro K Q; simp -implicitDefEqProofs (disch := first | omega | rfl) only [go_sem, simprocAttr, Token.cs_eq, hc14] <;> rfl) ?_
         obtain rfl := som_inj h
         repeat refine awp_seq ?_
         refine awp_ret ?_
         repeat first | refine then_ret ?_ | refine blk_ret ?_
         exact rtp
       repeat refine awp_seq ?_
       refine awp_then (by simp -implicitDefEqProofs (disch := first | omega | rfl) only [go_sem, simprocAttr, eq_false hc12]) ?_
       repeat refine awp_seq ?_
       refine rg (h := ?_)
       obtain rfl := som_inj h
       repeat refine awp_seq ?_
       refine awp_ret ?_
       repeat first | refine then_ret ?_ | refine blk_ret ?_
       exact rtp
     refine rgf (And.intro (eq_true hc9) (And.intro (eq_true hc10) (eq_false hc11))) ?_
     repeat refine awp_seq ?_
     refine awp_then (by rfl) ?_
     repeat refine awp_seq ?_
     refine rg (h := ?_)
     obtain rfl := som_inj h
     repeat refine awp_seq ?_
     refine awp_ret ?_
     repeat first | refine then_ret ?_ | refine blk_ret ?_
     exact rtp
   refine rgf (And.intro (eq_true hc9) (eq_false hc10)) ?_
   repeat refine awp_seq ?_
   refine awp_then (by rfl) ?_
   repeat refine awp_seq ?_
   refine rg (h := ?_)
   obtain rfl := som_inj h
   repeat refine awp_seq ?_
   refine awp_ret ?_
   repeat first | refine then_ret ?_ | refine blk_ret ?_
   exact rtp
 refine rgf (eq_false hc9) ?_
 repeat refine awp_seq ?_
 refine awp_then (by rfl) ?_
 repeat refine awp_seq ?_
 refine rg (h := ?_)
 obtain rfl := som_inj h
 repeat refine awp_seq ?_
 refine awp_ret ?_
 repeat first | refine then_ret ?_ | refine blk_ret ?_
 exact rtp
def lit3 : List UInt8 := [48, 49, 50, 51, 52, 53, 54, 55, 56, 57]
def zr17_0 : List AO := [⟨some 2, none, .mov (.c (.str []))⟩]
def zr17_1 : List AO := [⟨some 3, none, .mov (.t 0)⟩,
  ⟨some 4, none, .bin .lss (.t 3) (.c (.int .i64 10))⟩]
def zr17_2 : List AO := [⟨some 5, none, .mov (.t 0)⟩,
  ⟨some 6, none, .mov (.t 0)⟩,
  ⟨some 7, none, .bin .add (.t 6) (.c (.int .i64 1))⟩,
  ⟨some 8, none, .slcS (.c (.str lit3)) (some (.t 5)) (some (.t 7))⟩,
  ⟨some 2, none, .mov (.t 8)⟩]
def zc17_0 : AC := .seq (.reg zr17_2) .ret
def zc17_1 : AC := .cond (.t 4) zc17_0 .skip
def zr17_3 : DT := (.pur ⟨some 9, none, .mov (.t 0)⟩ (.pur ⟨some 10, none, .bin .quo (.t 9) (.c (.int .i64 10))⟩ (.pur ⟨some 12, none, .mov (.t 0)⟩ (.pur ⟨some 13, none, .bin .rem (.t 12) (.c (.int .i64 10))⟩ (.pur ⟨some 14, none, .mov (.t 0)⟩ (.pur ⟨some 15, none, .bin .rem (.t 14) (.c (.int .i64 10))⟩ (.pur ⟨some 16, none, .bin .add (.t 15) (.c (.int .i64 1))⟩ (.pur ⟨some 17, none, .slcS (.c (.str lit3)) (some (.t 13)) (some (.t 16))⟩ (.alt false ⟨some 11, none, .callF 17 [(.t 10)]⟩ (.alt false ⟨some 18, none, .bin .add (.t 11) (.t 17)⟩ (.alt true ⟨some 2, none, .mov (.t 18)⟩ .done .stop) .stop) .stop)))))))))
def zc17_2 : AC := .seq (.regD zr17_3) .ret
def zc17_3 : AC := .seq (.seq (.reg zr17_1) zc17_1) zc17_2
def zc17_4 : AC := .seq (.reg zr17_0) zc17_3
def zc17 : AC := zc17_4
theorem ok17 : Tryd.f17.body.bind (compCode Tryd.prog 19) = some zc17 := by kernel_rfl
theorem nt17 : Tryd.f17.ntmps = 19 := by kernel_rfl
theorem res17 : compRes Tryd.prog Tryd.f17.results.toList = some [.tmp 2] := by kernel_rfl
attribute [go_sem] zr17_0 zr17_1 zr17_2
def s17_body (rec17 : Int → Option ((List UInt8))) (N : Nat) (p1 : Int) : Option ((List UInt8)) :=
  if p1 < 10 then
    grd (0 ≤ p1 ∧ p1 ≤ IntKind.wrap .i64 (p1 + 1) ∧ IntKind.wrap .i64 (p1 + 1) ≤ (List.length lit3 : Int)) <|
    some (List.drop p1.toNat (List.take (IntKind.wrap .i64 (p1 + 1)).toNat lit3))
  else
    grd (0 ≤ Int.tmod p1 10 ∧ Int.tmod p1 10 ≤ IntKind.wrap .i64 ((Int.tmod p1 10) + 1) ∧ IntKind.wrap .i64 ((Int.tmod p1 10) + 1) ≤ (List.length lit3 : Int)) <|
    (rec17 (IntKind.wrap .i64 (Int.tdiv p1 10))).bind fun x8 =>
    grd (List.length x8 + List.length (List.drop (Int.tmod p1 10).toNat (List.take (IntKind.wrap .i64 ((Int.tmod p1 10) + 1)).toNat lit3)) ≤ 9223372036854775807) <|
    some (x8 ++ (List.drop (Int.tmod p1 10).toNat (List.take (IntKind.wrap .i64 ((Int.tmod p1 10) + 1)).toNat lit3)))
def s17 : Nat → Int → Option ((List UInt8))
  | 0, _ => none
  | N + 1, p1 => s17_body (s17 N) N p1
set_option maxHeartbeats 4000000 in
theorem c17_body (rec17 : Int → Option ((List UInt8))) (hrec17 : ∀ (p1 : Int) (r : (List UInt8)), rec17 p1 = some r → PureC Tryd.prog 17 [.int .i64 p1] (.str r)) (N : Nat) (p1 : Int) (r : (List UInt8)) (h : s17_body rec17 N p1 = some r) : PureC Tryd.prog 17 [.int .i64 p1] (.str r) := by
 refine fn_intro' 19 Tryd.func17 nt17 ok17 res17 (by simp) fun X hP hn hd hr => ?_
 unfold s17_body at h
 repeat refine awp_seq ?_
 refine rg (h := ?_)
 repeat refine awp_seq ?_
 refine rg (h := ?_)
 rcases ite_some h with ⟨hc1, h⟩ | ⟨hc1, h⟩
 · repeat refine awp_seq ?_
   refine awp_then (by simp -implicitDefEqProofs (disch := first | omega | rfl) only [go_sem, simprocAttr, eq_true hc1]) ?_
   repeat refine awp_seq ?_
   obtain ⟨⟨hg2, hg3, hg4⟩, h⟩ := grd_some h
   refine rgf (And.intro (eq_true hg2) (And.intro (eq_true hg3) (eq_true hg4))) ?_
   obtain rfl := som_inj h
   repeat refine awp_seq ?_
   refine awp_ret ?_
   repeat first | refine then_ret ?_ | refine blk_ret ?_
   exact rtp
 repeat refine awp_seq ?_
 refine awp_else (by simp -implicitDefEqProofs (disch := first | omega | rfl) only [go_sem, simprocAttr, eq_false hc1]) ?_
 repeat refine awp_seq ?_
 refine awp_skip ?_
 repeat refine awp_seq ?_
 refine awp_regD' ([]) ([]) ([]) (by rw [hP]; exact mixed) rfl (List.Perm.refl _) fun K hK => ?_
 obtain ⟨⟨hg5, hg6, hg7⟩, h⟩ := grd_some h
 simp -implicitDefEqProofs (disch := first | omega | rfl) only [go_sem, simprocAttr, zr17_3, eq_true hg5, eq_true hg6, eq_true hg7]
 have hh := bnd_some h; clear h; obtain ⟨x8, hx9, h⟩ := hh
 refine call_pure hP (hrec17 (IntKind.wrap .i64 (Int.tdiv p1 10)) x8 hx9) ?_
 obtain ⟨hg10, h⟩ := grd_some h
 simp only [List.length_drop, List.cons_append, List.nil_append] at hg10
 simp -implicitDefEqProofs (disch := first | omega | rfl) only [go_sem, simprocAttr, eq_true hg10]
 refine hK _ _ ?_; clear hK K
 obtain rfl := som_inj h
 repeat refine awp_seq ?_
 refine awp_ret ?_
 repeat first | refine then_ret ?_ | refine blk_ret ?_
 exact rtp
theorem cs_17 : ∀ N : Nat, (∀ (p1 : Int) (r : (List UInt8)), s17 N p1 = some r → PureC Tryd.prog 17 [.int .i64 p1] (.str r)) := by
  intro N
  induction N with
  | zero => exact fun _ r h => by cases h
  | succ N ih => exact fun p1 r h => c17_body (s17 N) ih N p1 r h
theorem c17 (N : Nat) (p1 : Int) (r : (List UInt8)) (h : s17 N p1 = some r) : PureC Tryd.prog 17 [.int .i64 p1] (.str r) := (cs_17 N) p1 r h
def zr9_0 : List AO := [⟨some 4, none, .mov (.c (.bool false))⟩]
def zr9_1 : List AO := [⟨some 13, none, .callF 10 []⟩,
  ⟨some 5, none, .mov (.t 13)⟩]
def zr9_2 : List AO := [⟨some 14, none, .mov (.t 0)⟩,
  ⟨some 15, none, .len (.t 14)⟩,
  ⟨some 16, none, .bin .gtr (.t 15) (.c (.int .i64 40))⟩]
def zr9_3 : List AO := [⟨some 17, none, .mov (.t 5)⟩,
  ⟨some 4, none, .mov (.t 17)⟩]
def zc9_0 : AC := .seq (.reg zr9_3) .ret
def zc9_1 : AC := .cond (.t 16) zc9_0 .skip
def zr9_4 : List AO := [⟨some 6, none, .mov (.c (.str []))⟩]
def zr9_5 : List AO := [⟨some 7, none, .mov (.c (.int .i64 0))⟩]
def zr9_6 : List AO := [⟨some 18, none, .mov (.t 7)⟩,
  ⟨some 19, none, .mov (.t 0)⟩,
  ⟨some 20, none, .len (.t 19)⟩,
  ⟨some 21, none, .bin .lss (.t 18) (.t 20)⟩]
def zc9_2 : AC := .cond (.t 21) .skip (.exit 0)
def zr9_7 : List AO := [⟨some 24, none, .mov (.t 7)⟩,
  ⟨some 25, none, .bin .gtr (.t 24) (.c (.int .i64 0))⟩,
  ⟨some 26, none, .mov (.t 25)⟩,
  ⟨some 27, some (26, true), .mov (.t 1)⟩,
  ⟨some 28, none, .pick (.t 26) (.t 27) (.c (.bool false))⟩]
def zr9_8 : List AO := [⟨some 29, none, .mov (.t 6)⟩,
  ⟨some 30, none, .bin .add (.t 29) (.c (.str [45]))⟩,
  ⟨some 6, none, .mov (.t 30)⟩]
def zc9_3 : AC := .reg zr9_8
def zr9_9 : List AO := [⟨some 31, none, .mov (.t 7)⟩,
  ⟨some 32, none, .bin .gtr (.t 31) (.c (.int .i64 0))⟩]
def zr9_10 : List AO := [⟨some 33, none, .mov (.t 6)⟩,
  ⟨some 34, none, .bin .add (.t 33) (.c (.str [32]))⟩,
  ⟨some 6, none, .mov (.t 34)⟩]
def zc9_4 : AC := .reg zr9_10
def zc9_5 : AC := .cond (.t 32) zc9_4 .skip
def zc9_6 : AC := .seq (.reg zr9_9) zc9_5
def zc9_7 : AC := .cond (.t 28) zc9_3 zc9_6
def zr9_11 : List AO := [⟨some 35, none, .mov (.t 6)⟩,
  ⟨some 36, none, .mov (.t 0)⟩,
  ⟨some 37, none, .mov (.t 7)⟩,
  ⟨some 38, none, .iadr 1 (.t 36) (.t 37)⟩,
  ⟨some 39, none, .load false 1 (.t 38)⟩,
  ⟨some 40, none, .bin .rem (.t 39) (.c (.int .u64 1000000000000))⟩,
  ⟨some 41, none, .conv .i64 (.t 40)⟩,
  ⟨some 42, none, .callF 17 [(.t 41)]⟩,
  ⟨some 43, none, .bin .add (.t 35) (.t 42)⟩,
  ⟨some 6, none, .mov (.t 43)⟩]
def zc9_8 : AC := .reg zr9_11
def zc9_9 : AC := .seq (.seq (.reg zr9_7) zc9_7) zc9_8
def zr9_12 : List AO := [⟨some 22, none, .mov (.t 7)⟩,
  ⟨some 23, none, .bin .add (.t 22) (.c (.int .i64 1))⟩,
  ⟨some 7, none, .mov (.t 23)⟩]
def zc9_10 : AC := .reg zr9_12
def zc9_11 : AC := .seq (.block 1 zc9_9) zc9_10
def zc9_12 : AC := .seq (.seq (.reg zr9_6) zc9_2) zc9_11
def zc9_13 : AC := .loop zc9_12
def zc9_14 : AC := .block 0 zc9_13
def zr9_13 : List AO := [⟨some 45, none, .mov (.t 6)⟩,
  ⟨some 46, none, .callF 11 [(.t 45)]⟩,
  ⟨some 44, none, .mov (.t 46)⟩,
  ⟨some 47, none, .ext 0 (.t 44)⟩,
  ⟨some 48, none, .ext 1 (.t 44)⟩,
  ⟨some 49, none, .ext 2 (.t 44)⟩,
  ⟨some 8, none, .mov (.t 47)⟩,
  ⟨some 9, none, .mov (.t 48)⟩,
  ⟨some 10, none, .mov (.t 49)⟩]
def zr9_14 : List AO := [⟨some 50, none, .mov (.t 9)⟩,
  ⟨some 51, none, .bin .neq (.t 50) (.c (.int .i64 0))⟩]
def zr9_15 : List AO := [⟨some 4, none, .mov (.c (.bool false))⟩]
def zc9_15 : AC := .seq (.reg zr9_15) .ret
def zc9_16 : AC := .cond (.t 51) zc9_15 .skip
def zr9_16 : List AO := [⟨some 11, none, .mov (.c (.int .i64 0))⟩]
def zr9_17 : List AO := [⟨some 12, none, .mov (.c (.int .i64 0))⟩]
def zr9_18 : List AO := [⟨some 52, none, .mov (.t 12)⟩,
  ⟨some 53, none, .mov (.t 8)⟩,
  ⟨some 54, none, .len (.t 53)⟩,
  ⟨some 55, none, .bin .lss (.t 52) (.t 54)⟩]
def zc9_17 : AC := .cond (.t 55) .skip (.exit 2)
def zr9_19 : List AO := [⟨some 58, none, .mov (.t 8)⟩,
  ⟨some 59, none, .mov (.t 12)⟩,
  ⟨some 60, none, .iadr 4 (.t 58) (.t 59)⟩,
  ⟨some 61, none, .fadr 0 (.t 60)⟩,
  ⟨some 62, none, .load false 1 (.t 61)⟩,
  ⟨some 63, none, .bin .neq (.t 62) (.c (.int .i64 2))⟩]
def zr9_20 : List AO := [⟨some 64, none, .mov (.t 1)⟩,
  ⟨some 65, none, .un .not (.t 64)⟩,
  ⟨some 66, none, .mov (.t 65)⟩,
  ⟨some 67, some (66, false), .mov (.t 8)⟩,
  ⟨some 68, some (66, false), .mov (.t 12)⟩,
  ⟨some 69, some (66, false), .iadr 4 (.t 67) (.t 68)⟩,
  ⟨some 70, some (66, false), .fadr 1 (.t 69)⟩,
  ⟨some 71, some (66, false), .load false 1 (.t 70)⟩,
  ⟨some 72, some (66, false), .bin .neq (.t 71) (.c (.str [45]))⟩,
  ⟨some 73, none, .pick (.t 66) (.c (.bool true)) (.t 72)⟩,
  ⟨some 74, none, .mov (.t 73)⟩,
  ⟨some 75, some (74, false), .mov (.t 8)⟩,
  ⟨some 76, some (74, false), .mov (.t 12)⟩,
  ⟨some 77, some (74, false), .iadr 4 (.t 75) (.t 76)⟩,
  ⟨some 78, some (74, false), .fadr 2 (.t 77)⟩,
  ⟨some 79, some (74, false), .load false 1 (.t 78)⟩,
  ⟨some 80, some (74, false), .bin .neq (.t 79) (.c (.int .i64 0))⟩,
  ⟨some 81, none, .pick (.t 74) (.c (.bool true)) (.t 80)⟩]
def zr9_21 : List AO := [⟨some 4, none, .mov (.c (.bool false))⟩]
def zc9_18 : AC := .seq (.reg zr9_21) .ret
def zc9_19 : AC := .cond (.t 81) zc9_18 .skip
def zc9_20 : AC := .seq (.seq (.reg zr9_20) zc9_19) (.exit 3)
def zc9_21 : AC := .cond (.t 63) zc9_20 .skip
def zr9_22 : DT := (.pur ⟨some 82, none, .mov (.t 11)⟩ (.alt false ⟨some 83, none, .mov (.t 0)⟩ (.alt false ⟨some 84, none, .len (.t 83)⟩ (.alt false ⟨some 85, none, .bin .geq (.t 82) (.t 84)⟩ (.alt false ⟨some 86, none, .mov (.t 85)⟩ (.pur ⟨some 87, some (86, false), .mov (.t 8)⟩ (.pur ⟨some 88, some (86, false), .mov (.t 12)⟩ (.pur ⟨some 89, some (86, false), .iadr 4 (.t 87) (.t 88)⟩ (.pur ⟨some 90, some (86, false), .fadr 2 (.t 89)⟩ (.pur ⟨some 91, some (86, false), .load false 1 (.t 90)⟩ (.pur ⟨some 92, some (86, false), .mov (.t 0)⟩ (.alt false ⟨some 93, some (86, false), .mov (.t 11)⟩ (.alt false ⟨some 94, some (86, false), .iadr 1 (.t 92) (.t 93)⟩ (.alt false ⟨some 95, some (86, false), .load false 1 (.t 94)⟩ (.alt false ⟨some 96, some (86, false), .bin .rem (.t 95) (.c (.int .u64 1000000000000))⟩ (.alt false ⟨some 97, some (86, false), .conv .i64 (.t 96)⟩ (.alt false ⟨some 98, some (86, false), .bin .neq (.t 91) (.t 97)⟩ (.alt true ⟨some 99, none, .pick (.t 86) (.c (.bool true)) (.t 98)⟩ .done .stop) .stop) .stop) .stop) .stop) .stop) .stop))))))) .stop) .stop) .stop) .stop))
def zr9_23 : List AO := [⟨some 4, none, .mov (.c (.bool false))⟩]
def zc9_22 : AC := .seq (.reg zr9_23) .ret
def zc9_23 : AC := .cond (.t 99) zc9_22 .skip
def zr9_24 : List AO := [⟨some 100, none, .mov (.t 11)⟩,
  ⟨some 101, none, .bin .add (.t 100) (.c (.int .i64 1))⟩,
  ⟨some 11, none, .mov (.t 101)⟩]
def zc9_24 : AC := .reg zr9_24
def zc9_25 : AC := .seq (.seq (.regD zr9_22) zc9_23) zc9_24
def zc9_26 : AC := .seq (.seq (.reg zr9_19) zc9_21) zc9_25
def zr9_25 : List AO := [⟨some 56, none, .mov (.t 12)⟩,
  ⟨some 57, none, .bin .add (.t 56) (.c (.int .i64 1))⟩,
  ⟨some 12, none, .mov (.t 57)⟩]
def zc9_27 : AC := .reg zr9_25
def zc9_28 : AC := .seq (.block 3 zc9_26) zc9_27
def zc9_29 : AC := .seq (.seq (.reg zr9_18) zc9_17) zc9_28
def zc9_30 : AC := .loop zc9_29
def zc9_31 : AC := .block 2 zc9_30
def zr9_26 : List AO := [⟨some 102, none, .mov (.t 5)⟩,
  ⟨some 103, none, .mov (.t 102)⟩,
  ⟨some 104, some (103, true), .mov (.t 11)⟩,
  ⟨some 105, some (103, true), .mov (.t 0)⟩,
  ⟨some 106, some (103, true), .len (.t 105)⟩,
  ⟨some 107, some (103, true), .bin .eql (.t 104) (.t 106)⟩,
  ⟨some 108, none, .pick (.t 103) (.t 107) (.c (.bool false))⟩,
  ⟨some 4, none, .mov (.t 108)⟩]
def zc9_32 : AC := .seq (.reg zr9_26) .ret
def zc9_33 : AC := .seq (.seq (.reg zr9_17) zc9_31) zc9_32
def zc9_34 : AC := .seq (.reg zr9_16) zc9_33
def zc9_35 : AC := .seq (.seq (.reg zr9_14) zc9_16) zc9_34
def zc9_36 : AC := .seq (.reg zr9_13) zc9_35
def zc9_37 : AC := .seq (.seq (.reg zr9_5) zc9_14) zc9_36
def zc9_38 : AC := .seq (.reg zr9_4) zc9_37
def zc9_39 : AC := .seq (.seq (.reg zr9_2) zc9_1) zc9_38
def zc9_40 : AC := .seq (.reg zr9_1) zc9_39
def zc9_41 : AC := .seq (.reg zr9_0) zc9_40
def zc9 : AC := zc9_41
theorem ok9 : Tryd.f9.body.bind (compCode Tryd.prog 109) = some zc9 := by kernel_rfl
theorem nt9 : Tryd.f9.ntmps = 109 := by kernel_rfl
theorem res9 : compRes Tryd.prog Tryd.f9.results.toList = some [.tmp 4] := by kernel_rfl
attribute [go_sem] zr9_0 zr9_10 zr9_12 zr9_14 zr9_15 zr9_16 zr9_17 zr9_18 zr9_19 zr9_2 zr9_20 zr9_21 zr9_23 zr9_24 zr9_25 zr9_26 zr9_3 zr9_4 zr9_5 zr9_6 zr9_7 zr9_8 zr9_9
def s9_k1 (N : Nat) (p1 : List Int) (x1 : Bool) (x8 : Int) : Option Bool :=
  bif x1 then
    some (decide (x8 = (List.length p1 : Int)))
  else
    some false
def s9_b2 (N : Nat) (p1 : List Int) (x5 : (List Token) × Int × Int) (x10 : Bool) (x11 : Int) (x12 : Int) : Option (((Bool × Int × Int) ⊕ (Ou (Int) (Bool)))) :=
  if x12 < (List.length x5.1 : Int) then
    grd (0 ≤ x12) <|
    if (x5.1[x12.toNat]!).Kind = 2 then
      if (List.length p1 : Int) ≤ x11 then
        some (.inr (.ret false))
      else
        grd (0 ≤ x11 ∧ x11 < (List.length p1 : Int)) <|
        if (x5.1[x12.toNat]!).N = IntKind.wrap .i64 (Int.tmod (p1[x11.toNat]!) 1000000000000) then
          some (.inl (x10, IntKind.wrap .i64 (x11 + 1), IntKind.wrap .i64 (x12 + 1)))
        else
          some (.inr (.ret false))
    else
      bif x10 then
        if (x5.1[x12.toNat]!).Text = [45] then
          if (x5.1[x12.toNat]!).N = 0 then
            some (.inl (true, x11, IntKind.wrap .i64 (x12 + 1)))
          else
            some (.inr (.ret false))
        else
          some (.inr (.ret false))
      else
        some (.inr (.ret false))
  else
    some (.inr (.brk x11))
def s9_k3 (N : Nat) (p1 : List Int) (p2 : Bool) (x1 : Bool) (x4 : List UInt8) : Option Bool :=
  (s11 N x4).bind fun x5 =>
  if x5.2.1 = 0 then
    (iter (fun p => s9_b2 N p1 x5 p.1 p.2.1 p.2.2) N (p2, 0, 0)).bind fun o13 => o13.on (fun a13 =>
      s9_k1 N p1 x1 a13)
      (fun a13r => some a13r)
  else
    some false
def s9_k4 (N : Nat) (p1 : List Int) (x25 : List UInt8) (x26 : Int) (x30 : Bool) : Option ((((List UInt8) × Int) ⊕ ((List UInt8)))) :=
  bif x30 then
    grd (List.length x25 ≤ 9223372036854775806) <|
    grd (0 ≤ x26) <|
    (s17 N (IntKind.wrap .i64 (Int.tmod (p1[x26.toNat]!) 1000000000000))).bind fun x34 =>
    grd (List.length (x25 ++ [45]) + List.length x34 ≤ 9223372036854775807) <|
    some (.inl ((x25 ++ [45]) ++ x34, IntKind.wrap .i64 (x26 + 1)))
  else
    if 0 < x26 then
      grd (List.length x25 ≤ 9223372036854775806) <|
      grd (0 ≤ x26) <|
      (s17 N (IntKind.wrap .i64 (Int.tmod (p1[x26.toNat]!) 1000000000000))).bind fun x40 =>
      grd (List.length (x25 ++ [32]) + List.length x40 ≤ 9223372036854775807) <|
      some (.inl ((x25 ++ [32]) ++ x40, IntKind.wrap .i64 (x26 + 1)))
    else
      grd (0 ≤ x26) <|
      (s17 N (IntKind.wrap .i64 (Int.tmod (p1[x26.toNat]!) 1000000000000))).bind fun x44 =>
      grd (List.length x25 + List.length x44 ≤ 9223372036854775807) <|
      some (.inl (x25 ++ x44, IntKind.wrap .i64 (x26 + 1)))
def s9_b5 (N : Nat) (p1 : List Int) (p2 : Bool) (x25 : List UInt8) (x26 : Int) : Option ((((List UInt8) × Int) ⊕ ((List UInt8)))) :=
  if x26 < (List.length p1 : Int) then
    if 0 < x26 then
      s9_k4 N p1 x25 x26 p2
    else
      s9_k4 N p1 x25 x26 false
  else
    some (.inr x25)
def s9 (N : Nat) (p1 : List Int) (p2 : Bool) : Option Bool :=
  (s10 N).bind fun x1 =>
  if 40 < (List.length p1 : Int) then
    some x1
  else
    (iter (fun p => s9_b5 N p1 p2 p.1 p.2) N ([], 0)).bind fun a27 =>
    s9_k3 N p1 p2 x1 a27
set_option maxHeartbeats 4000000 in
theorem c9 (N : Nat) (p1 : List Int) (p2 : Bool) (r : Bool) (h : s9 N p1 p2 = some r) : PureC Tryd.prog 9 [.sl (List.map (AV.int .u64) p1), .bool p2] (.bool r) := by
 refine fn_intro' 109 Tryd.func9 nt9 ok9 res9 (by simp) fun X hP hn hd hr => ?_
 unfold s9 at h
 repeat refine awp_seq ?_
 refine rg (h := ?_)
 repeat refine awp_seq ?_
 refine awp_reg fun K Q hK hQ => ?_
 simp -implicitDefEqProofs (disch := first | omega | rfl) only [go_sem, simprocAttr, zr9_1]
 have hh := bnd_some h; clear h; obtain ⟨x1, hx2, h⟩ := hh
 refine call_pure hP (c10 N  x1 hx2) ?_
 simp -implicitDefEqProofs (disch := first | omega | rfl) only [go_sem, simprocAttr]
 refine hK _ _ ?_; clear hK hQ K Q
 repeat refine awp_seq ?_
 refine rg (h := ?_)
 rcases ite_some h with ⟨hc3, h⟩ | ⟨hc3, h⟩
 · repeat refine awp_seq ?_
   refine awp_then (by simp -implicitDefEqProofs (disch := first | omega | rfl) only [go_sem, simprocAttr, eq_true hc3]) ?_
   repeat refine awp_seq ?_
   refine rg (h := ?_)
   obtain rfl := som_inj h
   repeat refine awp_seq ?_
   refine awp_ret ?_
   repeat first | refine then_ret ?_ | refine blk_ret ?_
   exact rtp
 repeat refine awp_seq ?_
 refine awp_else (by simp -implicitDefEqProofs (disch := first | omega | rfl) only [go_sem, simprocAttr, eq_false hc3]) ?_
 repeat refine awp_seq ?_
 refine awp_skip ?_
 repeat refine awp_seq ?_
 refine rg (h := ?_)
 repeat refine awp_seq ?_
 refine rg (h := ?_)
 repeat refine awp_seq ?_
 refine awp_cut (ι := {p : (List UInt8) // s9_k3 N p1 p2 x1 p = some r}) (fun p => [(0, .sl (List.map (AV.int .u64) p1)), (1, .bool p2), (5, .bool x1), (6, .str p.1)]) (fun p => []) ?_ ?_
 · repeat refine awp_seq ?_
   refine awp_block ?_
   obtain ⟨o27, ho27, hO27⟩ := bnd_some h
   repeat refine awp_seq ?_
   refine awp_loop (ι := {p : Nat × (List UInt8) × Int // iter (fun p => s9_b5 N p1 p2 p.1 p.2) p.1 (p.2.1, p.2.2) = some o27}) (fun p => [(0, .sl (List.map (AV.int .u64) p1)), (1, .bool p2), (5, .bool x1), (6, .str p.1.2.1), (7, .int .i64 p.1.2.2)]) (fun p => []) (fun p => p.1.1) ⟨⟨N, [], 0⟩, ho27⟩ ?_ ?_
   · refine ent_le' ([]) ([]) ([]) rfl (List.Perm.refl _) ?_ ?_
     · simp -implicitDefEqProofs (disch := first | omega | rfl) only [go_sem, simprocAttr, subF_cons, subF_nil]
       exact ⟨(.keep _), (.keep _), (.keep _), (.keep _), (.keep _)⟩
     · exact .nil
   rintro ⟨⟨n27, x25, x26⟩, hi27⟩
   obtain ⟨m27, q27, rfl, h, hm27⟩ := iter_some hi27
   try dsimp only at h
   try dsimp only
   unfold s9_b5 at h
   repeat refine awp_seq ?_
   refine rg (h := ?_)
   rcases ite_some h with ⟨hc29, h⟩ | ⟨hc29, h⟩
   · repeat refine awp_seq ?_
     refine awp_then (by simp -implicitDefEqProofs (disch := first | omega | rfl) only [go_sem, simprocAttr, eq_true hc29]) ?_
     repeat refine awp_seq ?_
     refine awp_skip ?_
     repeat refine awp_seq ?_
     refine awp_block ?_
     repeat refine awp_seq ?_
     refine awp_cut (ι := {p : Bool // s9_k4 N p1 x25 x26 p = some q27}) (fun p => [(0, .sl (List.map (AV.int .u64) p1)), (1, .bool p2), (5, .bool x1), (6, .str x25), (7, .int .i64 x26), (28, .bool p.1)]) (fun p => []) ?_ ?_
     · repeat refine awp_seq ?_
       rcases ite_some h with ⟨hc47, h⟩ | ⟨hc47, h⟩
       · refine rgf (eq_true hc47) ?_
         refine ⟨⟨p2, h⟩, ?_⟩
         refine ent_le' ([]) ([]) ([]) rfl (List.Perm.refl _) ?_ ?_
         · simp -implicitDefEqProofs (disch := first | omega | rfl) only [go_sem, simprocAttr, subF_cons, subF_nil]
           exact ⟨(.keep _), (.keep _), (.keep _), (.keep _), (.keep _), (.keep _)⟩
         · exact .nil
       refine rgf (eq_false hc47) ?_
       refine ⟨⟨false, h⟩, ?_⟩
       refine ent_le' ([]) ([]) ([]) rfl (List.Perm.refl _) ?_ ?_
       · simp -implicitDefEqProofs (disch := first | omega | rfl) only [go_sem, simprocAttr, subF_cons, subF_nil]
         exact ⟨(.keep _), (.keep _), (.keep _), (.keep _), (.keep _), (.keep _)⟩
       · exact .nil
     rintro ⟨x30, h⟩
     try dsimp only at h
     try dsimp only
     rcases cnd_some h with ⟨hc31, h⟩ | ⟨hc31, h⟩
     · repeat refine awp_seq ?_
       refine awp_then (by simp -implicitDefEqProofs (disch := first | omega | rfl) only [go_sem, simprocAttr, hc31]) ?_
       repeat refine awp_seq ?_
       obtain ⟨hg32, h⟩ := grd_some h
       refine rgf (eq_true hg32) ?_
       repeat refine awp_seq ?_
       refine awp_reg fun K Q hK hQ => ?_
       obtain ⟨hg33, h⟩ := grd_some h
       simp -implicitDefEqProofs (disch := first | omega | rfl) only [go_sem, simprocAttr, zr9_11, eq_true hc29, eq_true hg33]
       have hh := bnd_some h; clear h; obtain ⟨x34, hx35, h⟩ := hh
       refine call_pure hP (c17 N (IntKind.wrap .i64 (Int.tmod (p1[x26.toNat]!) 1000000000000)) x34 hx35) ?_
       obtain ⟨hg36, h⟩ := grd_some h
       simp -implicitDefEqProofs (disch := first | omega | rfl) only [go_sem, simprocAttr, eq_true hg36]
       refine hK _ _ ?_; clear hK hQ K Q
       repeat refine awp_seq ?_
       refine rg (h := ?_)
       obtain rfl := som_inj h
       try dsimp only at hm27
       refine ⟨⟨⟨m27, (x25 ++ [45]) ++ x34, IntKind.wrap .i64 (x26 + 1)⟩, hm27⟩, Nat.lt_succ_self _, ?_⟩
       refine ent_le' ([]) ([]) ([]) rfl (List.Perm.refl _) ?_ ?_
       · simp -implicitDefEqProofs (disch := first | omega | rfl) only [go_sem, simprocAttr, subF_cons, subF_nil]
         exact ⟨(.keep _), (.keep _), (.keep _), (.keep _), (.keep _)⟩
       · exact .nil
     repeat refine awp_seq ?_
     refine awp_else (by simp -implicitDefEqProofs (disch := first | omega | rfl) only [go_sem, simprocAttr, hc31]) ?_
     repeat refine awp_seq ?_
     refine rg (h := ?_)
     rcases ite_some h with ⟨hc37, h⟩ | ⟨hc37, h⟩
     · repeat refine awp_seq ?_
       refine awp_then (by simp -implicitDefEqProofs (disch := first | omega | rfl) only [go_sem, simprocAttr, eq_true hc37]) ?_
       repeat refine awp_seq ?_
       obtain ⟨hg38, h⟩ := grd_some h
       refine rgf (eq_true hg38) ?_
       repeat refine awp_seq ?_
       refine awp_reg fun K Q hK hQ => ?_
       obtain ⟨hg39, h⟩ := grd_some h
       simp -implicitDefEqProofs (disch := first | omega | rfl) only [go_sem, simprocAttr, zr9_11, eq_true hc29, eq_true hg39]
       have hh := bnd_some h; clear h; obtain ⟨x40, hx41, h⟩ := hh
       refine call_pure hP (c17 N (IntKind.wrap .i64 (Int.tmod (p1[x26.toNat]!) 1000000000000)) x40 hx41) ?_
       obtain ⟨hg42, h⟩ := grd_some h
       simp -implicitDefEqProofs (disch := first | omega | rfl) only [go_sem, simprocAttr, eq_true hg42]
       refine hK _ _ ?_; clear hK hQ K Q
       repeat refine awp_seq ?_
       refine rg (h := ?_)
       obtain rfl := som_inj h
       try dsimp only at hm27
       refine ⟨⟨⟨m27, (x25 ++ [32]) ++ x40, IntKind.wrap .i64 (x26 + 1)⟩, hm27⟩, Nat.lt_succ_self _, ?_⟩
       refine ent_le' ([]) ([]) ([]) rfl (List.Perm.refl _) ?_ ?_
       · simp -implicitDefEqProofs (disch := first | omega | rfl) only [go_sem, simprocAttr, subF_cons, subF_nil]
         exact ⟨(.keep _), (.keep _), (.keep _), (.keep _), (.keep _)⟩
       · exact .nil
     repeat refine awp_seq ?_
     refine awp_else (by simp -implicitDefEqProofs (disch := first | omega | rfl) only [go_sem, simprocAttr, eq_false hc37]) ?_
     repeat refine awp_seq ?_
     refine awp_skip ?_
     repeat refine awp_seq ?_
     refine awp_reg fun K Q hK hQ => ?_
     obtain ⟨hg43, h⟩ := grd_some h
     simp -implicitDefEqProofs (disch := first | omega | rfl) only [go_sem, simprocAttr, zr9_11, eq_true hc29, eq_true hg43]
     have hh := bnd_some h; clear h; obtain ⟨x44, hx45, h⟩ := hh
     refine call_pure hP (c17 N (IntKind.wrap .i64 (Int.tmod (p1[x26.toNat]!) 1000000000000)) x44 hx45) ?_
     obtain ⟨hg46, h⟩ := grd_some h
     simp -implicitDefEqProofs (disch := first | omega | rfl) only [go_sem, simprocAttr, eq_true hg46]
     refine hK _ _ ?_; clear hK hQ K Q
     repeat refine awp_seq ?_
     refine rg (h := ?_)
     obtain rfl := som_inj h
     try dsimp only at hm27
     refine ⟨⟨⟨m27, x25 ++ x44, IntKind.wrap .i64 (x26 + 1)⟩, hm27⟩, Nat.lt_succ_self _, ?_⟩
     refine ent_le' ([]) ([]) ([]) rfl (List.Perm.refl _) ?_ ?_
     · simp -implicitDefEqProofs (disch := first | omega | rfl) only [go_sem, simprocAttr, subF_cons, subF_nil]
       exact ⟨(.keep _), (.keep _), (.keep _), (.keep _), (.keep _)⟩
     · exact .nil
   repeat refine awp_seq ?_
   refine awp_else (by simp -implicitDefEqProofs (disch := first | omega | rfl) only [go_sem, simprocAttr, eq_false hc29]) ?_
   repeat refine awp_seq ?_
   refine awp_exit ?_
   repeat' (first | refine then_exit ?_ | refine exit_here ?_ | refine exit_on rfl ?_)
   obtain rfl := som_inj h
   try dsimp only at hm27
   subst hm27
   try dsimp only at hO27
   refine ⟨⟨x25, hO27⟩, ?_⟩
   refine ent_le' ([]) ([]) ([]) rfl (List.Perm.refl _) ?_ ?_
   · simp -implicitDefEqProofs (disch := first | omega | rfl) only [go_sem, simprocAttr, subF_cons, subF_nil]
     exact ⟨(.keep _), (.keep _), (.keep _), (.keep _)⟩
   · exact .nil
 rintro ⟨x4, h⟩
 try dsimp only at h
 try dsimp only
 repeat refine awp_seq ?_
 refine awp_reg fun K Q hK hQ => ?_
 simp -implicitDefEqProofs (disch := first | omega | rfl) only [go_sem, simprocAttr, zr9_13]
 have hh := bnd_some h; clear h; obtain ⟨x5, hx6, h⟩ := hh
 refine call_pure hP (c11 N x4 x5 hx6) ?_
 simp -implicitDefEqProofs (disch := first | omega | rfl) only [go_sem, simprocAttr]
 refine hK _ _ ?_; clear hK hQ K Q
 repeat refine awp_seq ?_
 refine rg (h := ?_)
 rcases ite_some h with ⟨hc7, h⟩ | ⟨hc7, h⟩
 · repeat refine awp_seq ?_
   refine awp_else (by simp -implicitDefEqProofs (disch := first | omega | rfl) only [go_sem, simprocAttr, eq_true hc7]) ?_
   repeat refine awp_seq ?_
   refine awp_skip ?_
   repeat refine awp_seq ?_
   refine rg (h := ?_)
   repeat refine awp_seq ?_
   refine rg (h := ?_)
   repeat refine awp_seq ?_
   refine awp_cut (ι := {p : Int // s9_k1 N p1 x1 p = some r}) (fun p => [(0, .sl (List.map (AV.int .u64) p1)), (5, .bool x1), (11, .int .i64 p.1)]) (fun p => []) ?_ ?_
   · repeat refine awp_seq ?_
     refine awp_block ?_
     obtain ⟨o13, ho13, hO13⟩ := bnd_some h
     repeat refine awp_seq ?_
     refine awp_loop (ι := {p : Nat × Bool × Int × Int // iter (fun p => s9_b2 N p1 x5 p.1 p.2.1 p.2.2) p.1 (p.2.1, p.2.2.1, p.2.2.2) = some o13}) (fun p => [(0, .sl (List.map (AV.int .u64) p1)), (1, .bool p.1.2.1), (5, .bool x1), (8, .sl (List.map Token.av x5.1)), (11, .int .i64 p.1.2.2.1), (12, .int .i64 p.1.2.2.2)]) (fun p => []) (fun p => p.1.1) ⟨⟨N, p2, 0, 0⟩, ho13⟩ ?_ ?_
     · refine ent_le' ([]) ([]) ([]) rfl (List.Perm.refl _) ?_ ?_
       · simp -implicitDefEqProofs (disch := first | omega | rfl) only [go_sem, simprocAttr, subF_cons, subF_nil]
         exact ⟨(.keep _), (.keep _), (.keep _), (.keep _), (.keep _), (.keep _)⟩
       · exact .nil
     rintro ⟨⟨n13, x10, x11, x12⟩, hi13⟩
     obtain ⟨m13, q13, rfl, h, hm13⟩ := iter_some hi13
     try dsimp only at h
     try dsimp only
     unfold s9_b2 at h
     repeat refine awp_seq ?_
     refine rg (h := ?_)
     rcases ite_some h with ⟨hc15, h⟩ | ⟨hc15, h⟩
     · repeat refine awp_seq ?_
       refine awp_then (by simp -implicitDefEqProofs (disch := first | omega | rfl) only [go_sem, simprocAttr, eq_true hc15]) ?_
       repeat refine awp_seq ?_
       refine awp_skip ?_
       repeat refine awp_seq ?_
       refine awp_block ?_
       repeat refine awp_seq ?_
       obtain ⟨hg16, h⟩ := grd_some h
       refine rgf (And.intro (eq_true hc15) (eq_true hg16)) ?_
       rcases ite_some h with ⟨hc17, h⟩ | ⟨hc17, h⟩
       · repeat refine awp_seq ?_
         refine awp_else (by simp -implicitDefEqProofs (disch := first | omega | rfl) only [go_sem, simprocAttr, eq_true hc17]) ?_
         repeat refine awp_seq ?_
         refine awp_skip ?_
         repeat refine awp_seq ?_
         refine awp_regD' ([]) ([]) ([]) (by rw [hP]; exact mixed) rfl (List.Perm.refl _) fun K hK => ?_
         rcases ite_some h with ⟨hc18, h⟩ | ⟨hc18, h⟩
         · simp -implicitDefEqProofs (disch := first | omega | rfl) only [go_sem, simprocAttr, zr9_22, eq_true hc18]
           refine hK _ _ ?_; clear hK K
           repeat refine awp_seq ?_
           refine awp_then (by rfl) ?_
           repeat refine awp_seq ?_
           refine rg (h := ?_)
           obtain rfl := som_inj h
           try dsimp only at hm13
           subst hm13
           simp only [Ou.on_ret] at hO13
           obtain rfl := som_inj hO13
           repeat refine awp_seq ?_
           refine awp_ret ?_
           repeat first | refine then_ret ?_ | refine blk_ret ?_
           exact rtp
         obtain ⟨⟨hg19, hg20⟩, h⟩ := grd_some h
         simp -implicitDefEqProofs (disch := first | omega | rfl) only [go_sem, simprocAttr, zr9_22, eq_false hc18, eq_true hg16, eq_true hc15, eq_true hg19, eq_true hg20]
         refine hK _ _ ?_; clear hK K
         rcases ite_some h with ⟨hc21, h⟩ | ⟨hc21, h⟩
         · repeat refine awp_seq ?_
           refine awp_else (by simp -implicitDefEqProofs (disch := first | omega | rfl) only [go_sem, simprocAttr, eq_true hc21]) ?_
           repeat refine awp_seq ?_
           refine awp_skip ?_
           repeat refine awp_seq ?_
           refine rg (h := ?_)
           repeat refine awp_seq ?_
           refine rg (h := ?_)
           obtain rfl := som_inj h
           try dsimp only at hm13
           refine ⟨⟨⟨m13, x10, IntKind.wrap .i64 (x11 + 1), IntKind.wrap .i64 (x12 + 1)⟩, hm13⟩, Nat.lt_succ_self _, ?_⟩
           refine ent_le' ([]) ([]) ([]) rfl (List.Perm.refl _) ?_ ?_
           · simp -implicitDefEqProofs (disch := first | omega | rfl) only [go_sem, simprocAttr, subF_cons, subF_nil]
             exact ⟨(.keep _), (.keep _), (.keep _), (.keep _), (.keep _), (.keep _)⟩
           · exact .nil
         repeat refine awp_seq ?_
         refine awp_then (by simp -implicitDefEqProofs (disch := first | omega | rfl) only [go_sem, simprocAttr, eq_false hc21]) ?_
         repeat refine awp_seq ?_
         refine rg (h := ?_)
         obtain rfl := som_inj h
         try dsimp only at hm13
         subst hm13
         simp only [Ou.on_ret] at hO13
         obtain rfl := som_inj hO13
         repeat refine awp_seq ?_
         refine awp_ret ?_
         repeat first | refine then_ret ?_ | refine blk_ret ?_
         exact rtp
       repeat refine awp_seq ?_
       refine awp_then (by simp -implicitDefEqProofs (disch := first | omega | rfl) only [go_sem, simprocAttr, eq_false hc17]) ?_
       repeat refine awp_seq ?_
       rcases cnd_some h with ⟨hc22, h⟩ | ⟨hc22, h⟩
       · rcases ite_some h with ⟨hc23, h⟩ | ⟨hc23, h⟩
         · refine rgf (And.intro hc22 (And.intro (eq_true hg16) (And.intro (eq_true hc15) (eq_true hc23)))) ?_
           rcases ite_some h with ⟨hc24, h⟩ | ⟨hc24, h⟩
           · repeat refine awp_seq ?_
             refine awp_else (by simp -implicitDefEqProofs (disch := first | omega | rfl) only [go_sem, simprocAttr, eq_true hc24]) ?_
             repeat refine awp_seq ?_
             refine awp_skip ?_
             repeat refine awp_seq ?_
             refine awp_exit ?_
             repeat' (first | refine then_exit ?_ | refine exit_here ?_ | refine exit_on rfl ?_)
             repeat refine awp_seq ?_
             refine rg (h := ?_)
             obtain rfl := som_inj h
             try dsimp only at hm13
             refine ⟨⟨⟨m13, true, x11, IntKind.wrap .i64 (x12 + 1)⟩, hm13⟩, Nat.lt_succ_self _, ?_⟩
             refine ent_le' ([]) ([]) ([]) rfl (List.Perm.refl _) ?_ ?_
             · simp -implicitDefEqProofs (disch := first | omega | rfl) only [go_sem, simprocAttr, subF_cons, subF_nil]
               exact ⟨(.keep _), (.keep _), (.keep _), (.keep _), (.keep _), (.keep _)⟩
             · exact .nil
           repeat refine awp_seq ?_
           refine awp_then (by simp -implicitDefEqProofs (disch := first | omega | rfl) only [go_sem, simprocAttr, eq_false hc24]) ?_
           repeat refine awp_seq ?_
           refine rg (h := ?_)
           obtain rfl := som_inj h
           try dsimp only at hm13
           subst hm13
           simp only [Ou.on_ret] at hO13
           obtain rfl := som_inj hO13
           repeat refine awp_seq ?_
           refine awp_ret ?_
           repeat first | refine then_ret ?_ | refine blk_ret ?_
           exact rtp
         refine rgf (And.intro hc22 (And.intro (eq_true hg16) (And.intro (eq_true hc15) (eq_false hc23)))) ?_
         repeat refine awp_seq ?_
         refine awp_then (by rfl) ?_
         repeat refine awp_seq ?_
         refine rg (h := ?_)
         obtain rfl := som_inj h
         try dsimp only at hm13
         subst hm13
         simp only [Ou.on_ret] at hO13
         obtain rfl := som_inj hO13
         repeat refine awp_seq ?_
         refine awp_ret ?_
         repeat first | refine then_ret ?_ | refine blk_ret ?_
         exact rtp
       refine rgf (hc22) ?_
       repeat refine awp_seq ?_
       refine awp_then (by rfl) ?_
       repeat refine awp_seq ?_
       refine rg (h := ?_)
       obtain rfl := som_inj h
       try dsimp only at hm13
       subst hm13
       simp only [Ou.on_ret] at hO13
       obtain rfl := som_inj hO13
       repeat refine awp_seq ?_
       refine awp_ret ?_
       repeat first | refine then_ret ?_ | refine blk_ret ?_
       exact rtp
     repeat refine awp_seq ?_
     refine awp_else (by simp -implicitDefEqProofs (disch := first | omega | rfl) only [go_sem, simprocAttr, eq_false hc15]) ?_
     repeat refine awp_seq ?_
     refine awp_exit ?_
     repeat' (first | refine then_exit ?_ | refine exit_here ?_ | refine exit_on rfl ?_)
     obtain rfl := som_inj h
     try dsimp only at hm13
     subst hm13
     simp only [Ou.on_brk] at hO13
     refine ⟨⟨x11, hO13⟩, ?_⟩
     refine ent_le' ([]) ([]) ([]) rfl (List.Perm.refl _) ?_ ?_
     · simp -implicitDefEqProofs (disch := first | omega | rfl) only [go_sem, simprocAttr, subF_cons, subF_nil]
       exact ⟨(.keep _), (.keep _), (.keep _)⟩
     · exact .nil
   rintro ⟨x8, h⟩
   try dsimp only at h
   try dsimp only
   repeat refine awp_seq ?_
   rcases cnd_some h with ⟨hc9, h⟩ | ⟨hc9, h⟩
   · refine rgf (hc9) ?_
     obtain rfl := som_inj h
     repeat refine awp_seq ?_
     refine awp_ret ?_
     repeat first | refine then_ret ?_ | refine blk_ret ?_
     exact rtp
   refine rgf (hc9) ?_
   obtain rfl := som_inj h
   repeat refine awp_seq ?_
   refine awp_ret ?_
   repeat first | refine then_ret ?_ | refine blk_ret ?_
   exact rtp
 repeat refine awp_seq ?_
 refine awp_then (by simp -implicitDefEqProofs (disch := first | omega | rfl) only [go_sem, simprocAttr, eq_false hc7]) ?_
 repeat refine awp_seq ?_
 refine rg (h := ?_)
 obtain rfl := som_inj h
 repeat refine awp_seq ?_
 refine awp_ret ?_
 repeat first | refine then_ret ?_ | refine blk_ret ?_
 exact rtp
end Go.Proofs.Lex
namespace Go.Aw
theorem wr {n : Int} (h1 : -9223372036854775808 ≤ n) (h2 : n ≤ 9223372036854775807) : IntKind.wrap .i64 n = n := w64 h1 h2
theorem wr_succ {i : Nat} (h : i < 9223372036854775807) : IntKind.wrap .i64 ((i : Int) + 1) = ((i + 1 : Nat) : Int) := by
  rw [wr (by omega) (by omega)]
  omega
section
variable {α σ ρ τ : Type}
def runL (f : Nat → σ → α → σ ⊕ ρ) (fin : σ → ρ) : Nat → σ → List α → ρ
  | _, s, [] => fin s
  | i, s, a :: l => match f i s a with | .inl s' => runL f fin (i + 1) s' l | .inr r => r
theorem iter_step {body : τ → Option (τ ⊕ ρ)} {N : Nat} {s s' : τ} (h : body s = some (.inl s')) : iter body (N + 1) s = iter body N s' := by
  rw [iter, h]; rfl
theorem iter_end {body : τ → Option (τ ⊕ ρ)} {N : Nat} {s : τ} {r : ρ} (h : body s = some (.inr r)) : iter body (N + 1) s = some r := by
  rw [iter, h]; rfl
theorem iter_from {body : τ → Option (τ ⊕ ρ)} (mk : σ → Int → τ) (f : Nat → σ → α → σ ⊕ ρ) (fin : σ → ρ) (Inv : Nat → σ → Prop) (L : Nat) :
    ∀ (l : List α) (i : Nat), i + l.length = L →
    (∀ (j : Nat) s a, l[j]? = some a → Inv (i + j) s → (body (mk s ((i + j : Nat) : Int)) = some (match f (i + j) s a with | .inl s' => .inl (mk s' ((i + j + 1 : Nat) : Int)) | .inr r => .inr r)) ∧ ∀ s', f (i + j) s a = .inl s' → Inv (i + j + 1) s') →
    (∀ s, Inv L s → body (mk s (L : Int)) = some (.inr (fin s))) → ∀ {N : Nat}, l.length < N → ∀ {s0 : σ}, Inv i s0 → iter body N (mk s0 (i : Int)) = some (runL f fin i s0 l)
  | [], i, hL, _, he, N, hN, s0, h0 => by
    obtain ⟨M, rfl⟩ : ∃ M, N = M + 1 := ⟨N - 1, by simp at hN; omega⟩
    simp only [List.length_nil, Nat.add_zero] at hL
    subst hL
    exact iter_end (he s0 h0)
  | a :: l, i, hL, hb, he, N, hN, s0, h0 => by
    obtain ⟨M, rfl⟩ : ∃ M, N = M + 1 := ⟨N - 1, by simp at hN; omega⟩
    obtain ⟨h1, h2⟩ := hb 0 s0 a rfl h0
    simp only [Nat.add_zero] at h1 h2
    rw [runL]
    cases hf : f i s0 a with
    | inl s' =>
      rw [hf] at h1
      rw [iter_step h1]
      refine iter_from mk f fin Inv L l (i + 1) (by simp only [List.length_cons] at hL; omega) (fun j s b hj hs => ?_) he (by simp only [List.length_cons] at hN; omega) (h2 s' hf)
      have := hb (j + 1) s b (by simpa using hj) (by rw [show i + (j + 1) = i + 1 + j by omega]; exact hs)
      rw [show i + (j + 1) = i + 1 + j by omega] at this
      exact this
    | inr r =>
      rw [hf] at h1
      exact iter_end h1
theorem iter_list {body : τ → Option (τ ⊕ ρ)} (mk : σ → Int → τ) (s0 : σ) (l : List α) (f : Nat → σ → α → σ ⊕ ρ) (fin : σ → ρ) (Inv : Nat → σ → Prop)
    (hb : ∀ (i : Nat) s a, l[i]? = some a → Inv i s → (body (mk s (i : Int)) = some (match f i s a with | .inl s' => .inl (mk s' ((i + 1 : Nat) : Int)) | .inr r => .inr r)) ∧ ∀ s', f i s a = .inl s' → Inv (i + 1) s')
    (he : ∀ s, Inv l.length s → body (mk s (l.length : Int)) = some (.inr (fin s))) {N : Nat} (hN : l.length < N) (h0 : Inv 0 s0) : iter body N (mk s0 0) = some (runL f fin 0 s0 l) := by
  have := iter_from (body := body) mk f fin Inv l.length l 0 (by simp) (fun j s a hj hs => by
    have := hb j s a hj (by simpa using hs)
    simpa using this) he hN h0
  simpa using this
theorem runL_fold {g : σ → α → σ} {fin : σ → ρ} : ∀ (l : List α) (i : Nat) (s : σ), runL (fun _ s a => .inl (g s a)) fin i s l = fin (l.foldl g s)
  | [], _, _ => rfl
  | a :: l, i, s => by rw [runL]; exact runL_fold l (i + 1) (g s a)
end
theorem getI {α : Type} [Inhabited α] {l : List α} {i : Nat} {a : α} (h : l[i]? = some a) : l[i]! = a ∧ i < l.length := by
  obtain ⟨h1, h2⟩ := List.getElem?_eq_some_iff.1 h
  exact ⟨by rw [getElem!_pos l i h1, h2], h1⟩
theorem toNat_nat {i : Nat} : ((i : Int)).toNat = i := rfl
end Go.Aw
namespace Go.Proofs.Lex
open Go.Aw
abbrev Str := List UInt8
def lett (c : UInt8) : Bool := (decide (97 ≤ c.toNat) && decide (c.toNat ≤ 122)) || (decide (65 ≤ c.toNat) && decide (c.toNat ≤ 90))
def digi (c : UInt8) : Bool := decide (48 ≤ c.toNat) && decide (c.toNat ≤ 57)
def word (c : UInt8) : Bool := lett c || digi c || decide (c.toNat = 95)
def lettN (n : Nat) : Bool := (decide (97 ≤ n) && decide (n ≤ 122)) || (decide (65 ≤ n) && decide (n ≤ 90))
theorem lett_or : ∀ n : Nat, n < 256 → (if 97 ≤ bitI .or .u8 (n : Int) 32 then decide (bitI .or .u8 (n : Int) 32 ≤ 122) else false) = lettN n := by decide +kernel
theorem s25_eq {N : Nat} {c : UInt8} : s25 N (c.toNat : Int) = some (lett c) := by
  have := lett_or c.toNat (by have := c.toNat_lt; omega)
  simp only [s25]
  show _ = some (lettN c.toNat)
  rw [← this]
  split <;> rfl
theorem s28_eq {N : Nat} {c : UInt8} : s28 N (c.toNat : Int) = some (digi c) := by
  simp only [s28, digi]
  by_cases h : (48 : Int) ≤ c.toNat
  · rw [if_pos h]; congr 1; rw [show decide (48 ≤ c.toNat) = true by simp; omega]; simp; omega
  · rw [if_neg h]; rw [show decide (48 ≤ c.toNat) = false by simp; omega]; rfl
theorem s27_eq {N : Nat} {c : UInt8} : s27 N (c.toNat : Int) = some (word c) := by
  simp only [s27, s25_eq, s28_eq, Option.bind_some, word]
  cases lett c <;> cases digi c <;> simp
  omega
def runN (f : Str → Bool) : Str → Nat
  | [] => 0
  | c :: l => if f (c :: l) then 1 + runN f l else 0
def headW : Str → Bool
  | [] => false
  | d :: _ => word d
def fName : Str → Bool
  | [] => false
  | c :: l => word c || (decide (c.toNat = 46) && headW l)
def fDig : Str → Bool
  | [] => false
  | c :: _ => digi c
def fCom : Str → Bool
  | [] => false
  | c :: _ => !decide (c.toNat = 10)
abbrev nameN := runN fName
abbrev digN := runN fDig
theorem runN_le (f : Str → Bool) : ∀ l, runN f l ≤ l.length
  | [] => Nat.le_refl _
  | c :: l => by
    have := runN_le f l
    rw [runN]; simp only [List.length_cons]; split <;> omega
theorem scan_run {body : Int → Option (Int ⊕ Int)} {p : Str} {f : Str → Bool} (hb : ∀ (i : Nat) c l, p.drop i = c :: l → body (i : Int) = some (if f (c :: l) then .inl ((i + 1 : Nat) : Int) else .inr (i : Int))) (he : body (p.length : Int) = some (.inr (p.length : Int))) :
    ∀ (l : Str) (i : Nat), p.drop i = l → i ≤ p.length → ∀ {N}, l.length < N → iter body N (i : Int) = some ((i + runN f l : Nat) : Int)
  | [], i, hd, hi, N, hN => by
    obtain ⟨M, rfl⟩ : ∃ M, N = M + 1 := ⟨N - 1, by simp at hN; omega⟩
    have : i = p.length := by have := List.drop_eq_nil_iff.1 hd; omega
    subst this
    exact iter_end he
  | c :: l, i, hd, hi, N, hN => by
    obtain ⟨M, rfl⟩ : ∃ M, N = M + 1 := ⟨N - 1, by simp at hN; omega⟩
    have h1 := hb i c l hd
    rw [runN]
    cases hf : f (c :: l) with
    | true =>
      rw [hf] at h1
      have hlt : i < p.length := by
        rcases Nat.lt_or_ge i p.length with h | h
        · exact h
        · rw [List.drop_eq_nil_iff.2 h] at hd; cases hd
      rw [iter_step h1, scan_run hb he l (i + 1) (by rw [← List.drop_drop, hd]; rfl) (by omega) (by simp at hN; omega)]
      simp only [if_true]; congr 2; omega
    | false =>
      rw [hf] at h1
      rw [iter_end h1]; rfl
theorem drop_get {p : Str} {i : Nat} {c : UInt8} {l : Str} (h : p.drop i = c :: l) : i < p.length ∧ p.getD i 0 = c ∧ p.drop (i + 1) = l := by
  have hlt : i < p.length := by
    rcases Nat.lt_or_ge i p.length with h1 | h1
    · exact h1
    · rw [List.drop_eq_nil_iff.2 h1] at h; cases h
  refine ⟨hlt, ?_, by rw [← List.drop_drop, h]; rfl⟩
  have : p[i]? = some c := by rw [← List.head?_drop, h]; rfl
  simp [List.getD, this]
theorem s23_eq {N : Nat} {p : Str} {i : Nat} (hi : i ≤ p.length) (hN : p.length < N) (hp : p.length ≤ 1000000) : s23 N p (i : Int) p = some ((i + runN fCom (p.drop i) : Nat) : Int) := by
  have hb : ∀ (i : Nat) (c : UInt8) (l : Str), p.drop i = c :: l → s23_b1 N p p (i : Int) = some (if fCom (c :: l) then .inl ((i + 1 : Nat) : Int) else .inr (i : Int)) := fun i c l hd => by
    obtain ⟨hlt, hg, _⟩ := drop_get hd
    simp only [s23_b1, s24]
    rw [if_pos (by omega), grd_pos (by omega), toNat_nat, hg, wr_succ (by omega)]
    simp only [Option.bind_some]
    by_cases h : (c.toNat : Int) = 10
    · rw [show fCom (c :: l) = false by simp only [fCom, Bool.not_eq_false', decide_eq_true_eq]; omega]; simp [h]
    · rw [show fCom (c :: l) = true by simp only [fCom, Bool.not_eq_true', decide_eq_false_iff_not]; omega]; simp [h]
  have he : s23_b1 N p p (p.length : Int) = some (.inr (p.length : Int)) := by simp only [s23_b1]; rw [if_neg (by omega)]
  simp only [s23]
  rw [scan_run (body := fun q => s23_b1 N p p q) hb he (p.drop i) i rfl hi (by simp; omega)]
  rfl
theorem s26_eq {N : Nat} {p : Str} {i : Nat} {c : UInt8} {l : Str} (hd : p.drop i = c :: l) (hp : p.length ≤ 1000000) : s26 N (i : Int) p = some (fName (c :: l)) := by
  obtain ⟨hlt, hg, hd2⟩ := drop_get hd
  simp only [s26]
  rw [grd_pos (by omega), toNat_nat, hg, s27_eq, wr_succ (by omega)]
  simp only [Option.bind_some, fName]
  cases hw : word c with
  | true => simp
  | false =>
    simp only [cond_false, Bool.false_or]
    by_cases h : (c.toNat : Int) = 46
    · rw [if_pos h, show decide (c.toNat = 46) = true by simp; omega]
      simp only [Bool.true_and]
      cases l with
      | nil =>
        have : p.length ≤ i + 1 := List.drop_eq_nil_iff.1 hd2
        rw [if_neg (by omega)]; rfl
      | cons d l =>
        obtain ⟨hlt2, hg2, _⟩ := drop_get hd2
        rw [if_pos (by omega), grd_pos (by omega), toNat_nat, hg2, s27_eq]; rfl
    · rw [if_neg h, show decide (c.toNat = 46) = false by simp; omega]; rfl
theorem s23_2_eq {N : Nat} {p : Str} {i : Nat} (hi : i ≤ p.length) (hN : p.length < N) (hp : p.length ≤ 1000000) : s23_2 N p (i : Int) p = some ((i + nameN (p.drop i) : Nat) : Int) := by
  have hb : ∀ (i : Nat) (c : UInt8) (l : Str), p.drop i = c :: l → s23_2_b1 N p p (i : Int) = some (if fName (c :: l) then .inl ((i + 1 : Nat) : Int) else .inr (i : Int)) := fun i c l hd => by
    obtain ⟨hlt, hg, _⟩ := drop_get hd
    simp only [s23_2_b1]
    rw [if_pos (by omega), s26_eq hd hp, wr_succ (by omega)]
    simp only [Option.bind_some]
    cases fName (c :: l) <;> rfl
  have he : s23_2_b1 N p p (p.length : Int) = some (.inr (p.length : Int)) := by simp only [s23_2_b1]; rw [if_neg (by omega)]
  simp only [s23_2]
  rw [scan_run (body := fun q => s23_2_b1 N p p q) hb he (p.drop i) i rfl hi (by simp; omega)]
  rfl
theorem s23_3_eq {N : Nat} {p : Str} {i : Nat} (hi : i ≤ p.length) (hN : p.length < N) (hp : p.length ≤ 1000000) : s23_3 N p (i : Int) p = some ((i + digN (p.drop i) : Nat) : Int) := by
  have hb : ∀ (i : Nat) (c : UInt8) (l : Str), p.drop i = c :: l → s23_3_b1 N p p (i : Int) = some (if fDig (c :: l) then .inl ((i + 1 : Nat) : Int) else .inr (i : Int)) := fun i c l hd => by
    obtain ⟨hlt, hg, _⟩ := drop_get hd
    simp only [s23_3_b1, s29]
    rw [if_pos (by omega), grd_pos (by omega), toNat_nat, hg, s28_eq, wr_succ (by omega)]
    simp only [Option.bind_some]
    show (bif fDig (c :: l) then _ else _) = _
    cases fDig (c :: l) <;> rfl
  have he : s23_3_b1 N p p (p.length : Int) = some (.inr (p.length : Int)) := by simp only [s23_3_b1]; rw [if_neg (by omega)]
  simp only [s23_3]
  rw [scan_run (body := fun q => s23_3_b1 N p p q) hb he (p.drop i) i rfl hi (by simp; omega)]
  rfl
def gapC : Bool → Str → Nat
  | _, [] => 0
  | b, c :: l => if c.toNat = 10 then 1 + gapC false l else if c.toNat = 35 then 1 + gapC true l else if b || decide (c.toNat = 32) || decide (c.toNat = 9) then 1 + gapC b l else 0
theorem gapC_true : ∀ l, gapC true l = runN fCom l + gapC false (l.drop (runN fCom l))
  | [] => rfl
  | c :: l => by
    rw [gapC, runN]
    by_cases h : c.toNat = 10
    · rw [if_pos h, show fCom (c :: l) = false by simp [fCom, h]]
      simp only [Bool.false_eq_true, if_false, Nat.zero_add, List.drop_zero]
      rw [gapC, if_pos h]
    · rw [if_neg h, show fCom (c :: l) = true by simp [fCom, h]]
      simp only [if_true, Bool.true_or]
      have := gapC_true l
      rw [show 1 + runN fCom l = runN fCom l + 1 by omega, List.drop_succ_cons]
      split <;> omega
theorem s19_loop {N : Nat} {p : Str} (hN : p.length < N) (hp : p.length ≤ 1000000) : ∀ (n : Nat) (l : Str) (i : Nat), l.length ≤ n → p.drop i = l → i ≤ p.length → ∀ {M}, l.length < M →
    ∃ o : Ou Int Int, iter (fun q => s19_b2 N p q) M (i : Int) = some o ∧ (o.on (fun a => some a) (fun a => some a) : Option Int) = some ((i + gapC false l : Nat) : Int) := by
  intro n
  induction n with
  | zero =>
    intro l i hl hd hi M hM
    obtain rfl : l = [] := List.length_eq_zero_iff.1 (by omega)
    obtain ⟨M, rfl⟩ : ∃ k, M = k + 1 := ⟨M - 1, by omega⟩
    have : p.length ≤ i := List.drop_eq_nil_iff.1 hd
    exact ⟨.brk i, iter_end (by simp only [s19_b2]; rw [if_neg (by omega)]), rfl⟩
  | succ n ih =>
    intro l i hl hd hi M hM
    obtain ⟨M, rfl⟩ : ∃ k, M = k + 1 := ⟨M - 1, by omega⟩
    cases l with
    | nil =>
      have : p.length ≤ i := List.drop_eq_nil_iff.1 hd
      exact ⟨.brk i, iter_end (by simp only [s19_b2]; rw [if_neg (by omega)]), rfl⟩
    | cons c l =>
      simp only [List.length_cons] at hl hM
      obtain ⟨hlt, hg, hd2⟩ := drop_get hd
      have hone : c.toNat = 10 ∨ c.toNat = 32 ∨ c.toNat = 9 → s19_b2 N p (i : Int) = some (.inl ((i + 1 : Nat) : Int)) := fun h => by
        simp only [s19_b2, s19_k1]
        rw [if_pos (by omega), grd_pos (by omega), toNat_nat, hg, wr_succ (by omega)]
        rcases h with h | h | h <;> simp [h]
      have hgo : c.toNat = 10 ∨ c.toNat = 32 ∨ c.toNat = 9 → ∃ o : Ou Int Int, iter (fun q => s19_b2 N p q) (M + 1) (i : Int) = some o ∧ (o.on (fun a => some a) (fun a => some a) : Option Int) = some ((i + 1 + gapC false l : Nat) : Int) := fun h => by
        rw [iter_step (hone h)]
        exact ih l (i + 1) (by omega) hd2 (by omega) (by omega)
      rw [gapC]
      by_cases h10 : c.toNat = 10
      · rw [if_pos h10]
        have := hgo (.inl h10)
        rwa [Nat.add_assoc] at this
      rw [if_neg h10]
      by_cases h35 : c.toNat = 35
      · rw [if_pos h35]
        have hr : runN fCom (c :: l) = 1 + runN fCom l := by rw [runN, if_pos (by simp [fCom, h35])]
        have hs : s19_b2 N p (i : Int) = some (.inl ((i + 1 + runN fCom l : Nat) : Int)) := by
          simp only [s19_b2, s19_k1]
          rw [if_pos (by omega), grd_pos (by omega), toNat_nat, hg, s23_eq (by omega) hN hp, hd, hr]
          simp [h35]; omega
        rw [iter_step hs]
        have hrl := runN_le fCom l
        have hll : (c :: l).length = p.length - i := by rw [← hd, List.length_drop]
        simp only [List.length_cons] at hll
        obtain ⟨o, e1, e2⟩ := ih (l.drop (runN fCom l)) (i + 1 + runN fCom l) (by simp; omega) (by rw [← List.drop_drop, hd2]) (by omega) (M := M) (by simp; omega)
        refine ⟨o, e1, ?_⟩
        rw [e2, gapC_true l]
        congr 2; omega
      rw [if_neg h35]
      by_cases h32 : c.toNat = 32 ∨ c.toNat = 9
      · have := hgo (.inr h32)
        rw [if_pos (by rcases h32 with h | h <;> simp [h])]
        rwa [Nat.add_assoc] at this
      · have hn32 : ¬ c.toNat = 32 := fun h => h32 (.inl h)
        have hn9 : ¬ c.toNat = 9 := fun h => h32 (.inr h)
        rw [if_neg (by simp [hn32, hn9])]
        refine ⟨.ret i, iter_end ?_, rfl⟩
        simp only [s19_b2, s19_k1]
        rw [if_pos (by omega), grd_pos (by omega), toNat_nat, hg]
        have a1 : ¬ ((c.toNat : Int) = 32) := by omega
        have a2 : ¬ ((c.toNat : Int) = 9) := by omega
        have a3 : ¬ ((c.toNat : Int) = 10) := by omega
        have a4 : ¬ ((c.toNat : Int) = 35) := by omega
        simp [a1, a2, a3, a4]
theorem s19_eq {N : Nat} {p : Str} {i : Nat} (hi : i ≤ p.length) (hN : p.length < N) (hp : p.length ≤ 1000000) : s19 N p (i : Int) = some ((i + gapC false (p.drop i) : Nat) : Int) := by
  obtain ⟨o, e1, e2⟩ := s19_loop hN hp _ (p.drop i) i (Nat.le_refl _) rfl hi (M := N) (by simp; omega)
  simp only [s19]
  rw [e1]
  exact e2
end Go.Proofs.Lex
namespace Go.Proofs.Lex
open Go.Aw
theorem wr8 {n : Int} (h1 : 0 ≤ n) (h2 : n ≤ 255) : IntKind.wrap .u8 n = n := by
  obtain ⟨m, rfl⟩ : ∃ m : Nat, n = m := ⟨n.toNat, by omega⟩
  have : ∀ m : Nat, m < 256 → IntKind.wrap .u8 (m : Int) = m := by decide +kernel
  exact this m (by omega)
def valN (l : Str) : Nat := l.foldl (fun v c => v * 10 + (c.toNat - 48)) 0
theorem byts_get {l : Str} {i : Nat} {c : UInt8} (h : l[i]? = some c) : (byts l)[i]! = (c.toNat : Int) := by
  have h1 : (byts l)[i]? = some (c.toNat : Int) := by simp [byts, h]
  exact (getI h1).1
theorem byts_len (l : Str) : (byts l).length = l.length := by simp [byts]
theorem s30_eq {N : Nat} {l : Str} (h0 : 0 < l.length) (h1 : l.length ≤ 12) (hd : ∀ c, c ∈ l → digi c = true) (hN : l.length < N) : s30 N l = some ((valN l : Int), ()) := by
  have dg : ∀ c, c ∈ l → 48 ≤ c.toNat ∧ c.toNat ≤ 57 := fun c hc => by
    have := hd c hc
    simpa [digi] using this
  have hloop : iter (fun p => s37_b2 N l p.1 p.2) N (((0 : Nat) : Int), 0) = some _ := iter_list (fun (v : Nat) i => ((v : Int), i)) 0 l (fun _ v c => .inl (v * 10 + (c.toNat - 48))) (fun v => .brk (v : Int)) (fun i v => v < 10 ^ i) (fun i v c hi hv => by
    obtain ⟨hg, hlt⟩ := getI hi
    obtain ⟨d1, d2⟩ := dg c (List.mem_of_getElem? hi)
    have hpow : 10 ^ i ≤ 10 ^ 12 := Nat.pow_le_pow_right (by omega) (by omega)
    have h12 : (10 : Nat) ^ 12 = 1000000000000 := by decide
    refine ⟨?_, fun s' e => by cases e; rw [Nat.pow_succ]; omega⟩
    simp only [s37_b2]
    rw [if_pos (by rw [byts_len]; omega), grd_pos (by omega), toNat_nat, byts_get hi, wr8 (by omega) (by omega), if_neg (by omega), wr_succ (by omega), wr (n := (c.toNat : Int) - 48) (by omega) (by omega), wr (n := (v : Int) * 10) (by omega) (by omega), wr (by omega) (by omega)]
    congr 3
    omega) (fun v hv => by
    simp only [s37_b2]
    rw [if_neg (by rw [byts_len]; omega)]) hN (by decide)
  have hf : ((l.getD 0 0).toNat : Int) ≠ 45 ∧ ((l.getD 0 0).toNat : Int) ≠ 43 := by
    obtain ⟨c, r, rfl⟩ : ∃ c r, l = c :: r := by cases l with | nil => simp at h0 | cons c r => exact ⟨c, r, rfl⟩
    have := dg c (List.mem_cons_self ..)
    show (c.toNat : Int) ≠ 45 ∧ (c.toNat : Int) ≠ 43
    omega
  simp only [s30, s37]
  rw [if_pos (by omega), if_pos (by omega), if_neg hf.1, decide_eq_false hf.2]
  simp only [s37_k4, cond_false, s37_k3]
  rw [show iter (fun p => s37_b2 N l p.1 p.2) N (0, 0) = _ from hloop, runL_fold]
  simp only [Option.bind_some, Ou.on, s37_k1]
  rw [if_neg hf.1]
  rfl
def symb (c : UInt8) : Bool := lit2.contains c
def tokR : Str → (Int × Nat × Nat) ⊕ Int
  | [] => .inr 4
  | c :: l =>
    if lett c then (if 24 < nameN (c :: l) then .inr 3 else .inl (1, nameN (c :: l), 0))
    else if digi c then (if 12 < digN (c :: l) then .inr 5 else if headW ((c :: l).drop (digN (c :: l))) then .inr 5 else .inl (2, digN (c :: l), valN ((c :: l).take (digN (c :: l)))))
    else if symb c then .inl (3, 1, 0) else .inr 4
def tokS (at_ : Nat) (l : Str) : Token ⊕ LexerFault :=
  match tokR l with
  | .inl (k, n, v) => .inl ⟨k, l.take n, v, at_⟩
  | .inr e => .inr ⟨e, at_⟩
theorem ib_symb : ∀ n : Nat, n < 256 → decide (0 ≤ Lib.indexByte lit2 (Int.toNat (n : Int)).toUInt8) = lit2.contains n.toUInt8 := by decide +kernel
theorem s31_eq {N : Nat} {c : UInt8} : ∃ x, s31 N lit2 (c.toNat : Int) = some x ∧ decide (0 ≤ x) = symb c := by
  refine ⟨_, rfl, ?_⟩
  have := ib_symb c.toNat (by have := c.toNat_lt; omega)
  rw [this]
  show lit2.contains c.toNat.toUInt8 = lit2.contains c
  congr 1
  simp
theorem digN_dig : ∀ (l : Str) c, c ∈ l.take (digN l) → digi c = true
  | [], c, h => by simp at h
  | d :: l, c, h => by
    rw [digN, runN] at h
    by_cases hd : digi d = true
    · rw [if_pos (by simpa [fDig] using hd), show 1 + runN fDig l = runN fDig l + 1 by omega, List.take_succ_cons] at h
      rcases List.mem_cons.1 h with h | h
      · rw [h]; exact hd
      · exact digN_dig l c h
    · rw [if_neg (by simpa [fDig] using hd)] at h
      simp at h
theorem s20_eq {N : Nat} {p : Str} {i : Nat} {c : UInt8} {l : Str} (hd : p.drop i = c :: l) (hp : p.length ≤ 1000000) (hN : p.length < N) : s20 N p (i : Int) = some (tokS i (c :: l)) := by
  obtain ⟨hlt, hg, hd2⟩ := drop_get hd
  have hll : (c :: l).length = p.length - i := by rw [← hd, List.length_drop]
  have cut : ∀ n, List.drop i (List.take (i + n) p) = (c :: l).take n := fun n => by
    rw [List.drop_take, hd, Nat.add_sub_cancel_left]
  simp only [s20]
  rw [grd_pos (by omega), toNat_nat, hg, s25_eq]
  simp only [Option.bind_some, tokS, tokR]
  cases hl : lett c with
  | true =>
    simp only [cond_true, if_true]
    have hn : nameN (c :: l) ≤ (c :: l).length := runN_le fName (c :: l)
    rw [s23_2_eq (by omega) hN hp, hd]
    simp only [Option.bind_some]
    generalize hnm : nameN (c :: l) = n at *
    rw [wr (by omega) (by omega)]
    by_cases h24 : 24 < n
    · rw [if_pos (by omega), if_pos h24]
    · rw [if_neg (by omega), if_neg h24, grd_pos (by omega)]
      simp only [toNat_nat, cut]
      rfl
  | false =>
    simp only [cond_false, Bool.false_eq_true, if_false]
    rw [s28_eq]
    simp only [Option.bind_some]
    cases hdg : digi c with
    | true =>
      simp only [cond_true, if_true]
      have hn : digN (c :: l) ≤ (c :: l).length := runN_le fDig (c :: l)
      have hn1 : 1 ≤ digN (c :: l) := by rw [digN, runN, if_pos (by simpa [fDig] using hdg)]; omega
      have hdd := digN_dig (c :: l)
      rw [s23_3_eq (by omega) hN hp, hd]
      simp only [Option.bind_some]
      generalize hnm : digN (c :: l) = n at *
      rw [wr (by omega) (by omega)]
      by_cases h12 : 12 < n
      · rw [if_pos (by omega), if_pos h12]
      · rw [if_neg (by omega), if_neg h12]
        have hdn : p.drop (i + n) = (c :: l).drop n := by rw [← List.drop_drop, hd]
        have hs30 : s30 N ((c :: l).take n) = some ((valN ((c :: l).take n) : Int), ()) := by
          exact s30_eq (by rw [List.length_take]; omega) (by rw [List.length_take]; omega) hdd (by rw [List.length_take]; omega)
        cases hr : (c :: l).drop n with
        | nil =>
          have : p.length ≤ i + n := List.drop_eq_nil_iff.1 (hdn.trans hr)
          rw [if_neg (by omega), grd_pos (by omega)]
          simp only [toNat_nat, cut, hs30, Option.bind_some]
          rfl
        | cons e r =>
          obtain ⟨hlt2, hg2, _⟩ := drop_get (hdn.trans hr)
          rw [if_pos (by omega), grd_pos (by omega), toNat_nat, hg2, s27_eq, show word e = headW (e :: r) from rfl]
          simp only [Option.bind_some]
          cases hw : headW (e :: r) with
          | true => simp
          | false =>
            simp only [cond_false, Bool.false_eq_true, if_false]
            rw [grd_pos (by omega)]
            simp only [toNat_nat, cut, hs30, Option.bind_some]
    | false =>
      simp only [cond_false, Bool.false_eq_true, if_false]
      obtain ⟨x, e1, e2⟩ := s31_eq (N := N) (c := c)
      rw [e1]
      simp only [Option.bind_some]
      by_cases h0 : 0 ≤ x
      · rw [if_pos h0, show symb c = true by rw [← e2]; simpa using h0]
        simp only [if_true]
        rw [wr_succ (by omega), grd_pos (by omega)]
        simp only [toNat_nat, cut]
        rfl
      · rw [if_neg h0, show symb c = false by rw [← e2]; simpa using h0]
        simp
inductive Lx : Nat → Str → List Token → Option (Int × Nat) → Prop
  | done {at_ l} : gapC false l = l.length → Lx at_ l [] none
  | bad {at_ l c r e} : l.drop (gapC false l) = c :: r → tokR (c :: r) = .inr e → Lx at_ l [] (some (e, at_ + gapC false l))
  | tok {at_ l c r k n v ts e} : l.drop (gapC false l) = c :: r → tokR (c :: r) = .inl (k, n, v) → Lx (at_ + gapC false l + n) ((c :: r).drop n) ts e → Lx at_ l (⟨k, (c :: r).take n, v, (at_ + gapC false l : Nat)⟩ :: ts) e
theorem tokR_len {c : UInt8} {r : Str} {k : Int} {n v : Nat} (h : tokR (c :: r) = .inl (k, n, v)) : 1 ≤ n ∧ n ≤ r.length + 1 := by
  have h1 := runN_le fName (c :: r); have h2 := runN_le fDig (c :: r)
  simp only [List.length_cons] at h1 h2
  rw [tokR] at h
  split at h
  · rename_i hl
    split at h
    · cases h
    · cases h
      refine ⟨?_, h1⟩
      show 1 ≤ runN fName (c :: r)
      rw [runN, if_pos (by simp [fName, word, hl])]; omega
  · split at h
    · rename_i hdg
      split at h
      · cases h
      · split at h
        · cases h
        · cases h
          refine ⟨?_, h2⟩
          show 1 ≤ runN fDig (c :: r)
          rw [runN, if_pos (by simpa [fDig] using hdg)]; omega
    · split at h
      · cases h; exact ⟨Nat.le_refl _, by omega⟩
      · cases h
theorem lx_len {at_ : Nat} {l : Str} {ts : List Token} {e : Option (Int × Nat)} (h : Lx at_ l ts e) : ts.length ≤ l.length := by
  induction h with
  | done => simp
  | bad => simp
  | @tok at_ l c r k n v ts e hr ht _ ih =>
    obtain ⟨h1, h2⟩ := tokR_len ht
    have hlen : r.length + 1 = l.length - gapC false l := by rw [← List.length_drop, hr, List.length_cons]
    simp only [List.length_drop, List.length_cons] at ih ⊢
    omega
def ans (o ts : List Token) : Option (Int × Nat) → List Token × Int × Int
  | none => (o ++ ts, 0, 0)
  | some (e, a) => ([], e, (a : Int))
theorem s11_loop {N : Nat} {p : Str} (hN : p.length < N) (hp : p.length ≤ 1000000) {at_ : Nat} {l : Str} {ts : List Token} {e : Option (Int × Nat)} (h : Lx at_ l ts e) :
    ∀ (o : List Token), p.drop at_ = l → at_ ≤ p.length → o.length + ts.length < 5000 → ∀ {M}, ts.length + 1 < M →
    ∃ q, iter (fun q => s11_b1 N p q.1 q.2) M (o, ((at_ + gapC false l : Nat) : Int)) = some q ∧ (q.on (fun a => some (a, 0, 0)) (fun a => some a) : Option (List Token × Int × Int)) = some (ans o ts e) := by
  induction h with
  | @done at_ l hg =>
    intro o hd hi ho M hM
    obtain ⟨M, rfl⟩ : ∃ k, M = k + 1 := ⟨M - 1, by omega⟩
    have hll : l.length = p.length - at_ := by rw [← hd, List.length_drop]
    refine ⟨.brk o, iter_end ?_, by simp [ans, Ou.on]⟩
    simp only [s11_b1]
    rw [if_neg (by omega)]
  | @bad at_ l c r e hr ht =>
    intro o hd hi ho M hM
    obtain ⟨M, rfl⟩ : ∃ k, M = k + 1 := ⟨M - 1, by omega⟩
    have hd' : p.drop (at_ + gapC false l) = c :: r := by rw [← List.drop_drop, hd, hr]
    obtain ⟨hlt, _, _⟩ := drop_get hd'
    refine ⟨.ret ([], e, ((at_ + gapC false l : Nat) : Int)), iter_end ?_, rfl⟩
    simp only [s11_b1]
    rw [if_pos (by omega), s20_eq hd' hp hN]
    simp only [Option.bind_some, tokS, ht, Sum.elim_inr]
  | @tok at_ l c r k n v ts e hr ht hx ih =>
    intro o hd hi ho M hM
    obtain ⟨M, rfl⟩ : ∃ k, M = k + 1 := ⟨M - 1, by omega⟩
    obtain ⟨n1, n2⟩ := tokR_len ht
    have hd' : p.drop (at_ + gapC false l) = c :: r := by rw [← List.drop_drop, hd, hr]
    obtain ⟨hlt, _, _⟩ := drop_get hd'
    have hll : r.length + 1 = p.length - (at_ + gapC false l) := by rw [← List.length_drop, hd', List.length_cons]
    simp only [List.length_cons] at ho hM
    have hstep : s11_b1 N p o ((at_ + gapC false l : Nat) : Int) = some (.inl (o ++ [⟨k, (c :: r).take n, v, ((at_ + gapC false l : Nat) : Int)⟩], ((at_ + gapC false l + n + gapC false ((c :: r).drop n) : Nat) : Int))) := by
      simp only [s11_b1]
      rw [if_pos (by omega), s20_eq hd' hp hN]
      simp only [Option.bind_some, tokS, ht, Sum.elim_inl]
      rw [if_neg (by omega), grd_pos (by omega), List.length_take, List.length_cons, Nat.min_eq_left (by omega)]
      rw [wr (by omega) (by omega), show ((at_ + gapC false l : Nat) : Int) + (n : Int) = ((at_ + gapC false l + n : Nat) : Int) by omega, s19_eq (by omega) hN hp, ← List.drop_drop, hd']
      rfl
    rw [iter_step hstep]
    obtain ⟨q, e1, e2⟩ := ih (o ++ [⟨k, (c :: r).take n, v, ((at_ + gapC false l : Nat) : Int)⟩]) (by rw [← List.drop_drop, hd']) (by omega) (by simp; omega) (M := M) (by omega)
    refine ⟨q, e1, ?_⟩
    rw [e2]
    cases e <;> simp [ans]
theorem s11_of {N : Nat} {p : Str} (hN : 20000 < N) (hp : p.length ≤ 20000) {ts : List Token} {e : Option (Int × Nat)} (h : Lx 0 p ts e) (hc : ts.length < 5000) : s11 N p = some (ans [] ts e) := by
  simp only [s11]
  rw [if_neg (by omega), show s19 N p 0 = s19 N p ((0 : Nat) : Int) by rfl, s19_eq (by omega) (by omega) (by omega)]
  simp only [Option.bind_some, List.drop_zero]
  obtain ⟨q, e1, e2⟩ := s11_loop (N := N) (by omega) (by omega) h [] rfl (by omega) (by simpa using hc) (M := N) (by omega)
  rw [e1]
  exact e2
theorem s11_ok {N : Nat} {p : Str} (hN : 20000 < N) (hp : p.length ≤ 20000) {ts : List Token} (h : Lx 0 p ts none) (hc : ts.length < 5000) : s11 N p = some (ts, 0, 0) := s11_of hN hp h hc
end Go.Proofs.Lex
namespace Go.Proofs.Lex
open Go.Aw
def core (t : Token) : Int × Str × Int := (t.Kind, t.Text, t.N)
end Go.Proofs.Lex
namespace Go.Proofs.Lex
open Go.Aw
theorem nameN_app {x : UInt8} (hx : word x = false) (h46 : x.toNat ≠ 46) (m : Str) : ∀ l : Str, nameN (l ++ x :: m) = nameN l
  | [] => by
    show runN fName (x :: m) = 0
    rw [runN, if_neg (by simp [fName, hx, h46])]
  | c :: l => by
    have ih : runN fName (l ++ x :: m) = runN fName l := nameN_app hx h46 m l
    show runN fName (c :: (l ++ x :: m)) = runN fName (c :: l)
    have hf : fName (c :: (l ++ x :: m)) = fName (c :: l) := by
      simp only [fName]
      cases l with
      | nil => simp [headW, hx]
      | cons d l => rfl
    rw [runN, runN, hf, ih]
theorem digN_app {x : UInt8} (hx : digi x = false) (m : Str) : ∀ l : Str, digN (l ++ x :: m) = digN l
  | [] => by
    show runN fDig (x :: m) = 0
    rw [runN, if_neg (by simp [fDig, hx])]
  | c :: l => by
    have ih : runN fDig (l ++ x :: m) = runN fDig l := digN_app hx m l
    show runN fDig (c :: (l ++ x :: m)) = runN fDig (c :: l)
    rw [runN, runN, show fDig (c :: (l ++ x :: m)) = fDig (c :: l) from rfl, ih]
theorem word_digi {x : UInt8} (h : word x = false) : digi x = false := by
  simp only [word, Bool.or_eq_false_iff] at h; exact h.1.2
theorem tokR_app {x : UInt8} (hx : word x = false) (h46 : x.toNat ≠ 46) (m : Str) {c : UInt8} {l : Str} : tokR (c :: l ++ x :: m) = tokR (c :: l) := by
  have h1 := nameN_app hx h46 m (c :: l)
  have h2 := digN_app (word_digi hx) m (c :: l)
  have hle : digN (c :: l) ≤ (c :: l).length := runN_le _ _
  simp only [List.cons_append] at h1 h2 ⊢
  rw [tokR, tokR, h1, h2]
  have h3 : headW ((c :: (l ++ x :: m)).drop (digN (c :: l))) = headW ((c :: l).drop (digN (c :: l))) := by
    rw [← List.cons_append, List.drop_append_of_le_length hle]
    cases (c :: l).drop (digN (c :: l)) with
    | nil => simp [headW, hx]
    | cons d r => rfl
  have h4 : (c :: (l ++ x :: m)).take (digN (c :: l)) = (c :: l).take (digN (c :: l)) := by
    rw [← List.cons_append, List.take_append_of_le_length hle]
  rw [h3, h4]
theorem lx_gap {at_ : Nat} {g m : Str} {ts : List Token} {e : Option (Int × Nat)} (hg : gapC false (g ++ m) = g.length + gapC false m) (h : Lx (at_ + g.length) m ts e) : Lx at_ (g ++ m) ts e := by
  have hd : (g ++ m).drop (g.length + gapC false m) = m.drop (gapC false m) := by
    rw [← List.drop_drop, List.drop_left]
  generalize hat : at_ + g.length = a at h
  subst hat
  cases h with
  | done h0 => exact .done (by rw [hg, h0]; simp)
  | @bad _ _ c r e hr ht =>
    have := Lx.bad (at_ := at_) (l := g ++ m) (by rw [hg, hd]; exact hr) ht
    rwa [hg, ← Nat.add_assoc] at this
  | @tok _ _ c r k n v ts e hr ht hx =>
    have := Lx.tok (at_ := at_) (l := g ++ m) (by rw [hg, hd]; exact hr) ht (by rw [hg, ← Nat.add_assoc]; exact hx)
    rwa [hg, ← Nat.add_assoc] at this
theorem s10_true : s10 8388608 = some true := by kernel_rfl
end Go.Proofs.Lex
namespace Go.Proofs.Lex
open Go.Aw
end Go.Proofs.Lex
namespace Go.Proofs.Lex
open Go.Aw
def decF : Nat → Nat → Str
  | 0, _ => []
  | k + 1, n => if n < 10 then [UInt8.ofNat (48 + n)] else decF k (n / 10) ++ [UInt8.ofNat (48 + n % 10)]
abbrev dec (n : Nat) : Str := decF 12 n
theorem dig_lit : ∀ n : Nat, n < 10 → List.drop n (List.take (n + 1) lit3) = [UInt8.ofNat (48 + n)] := by decide +kernel
theorem dig_ok : ∀ n : Nat, n < 10 → digi (UInt8.ofNat (48 + n)) = true ∧ (UInt8.ofNat (48 + n)).toNat = 48 + n := by decide +kernel
theorem valN_app (l : Str) (c : UInt8) : valN (l ++ [c]) = valN l * 10 + (c.toNat - 48) := by
  simp [valN]
theorem decF_ok : ∀ (k n : Nat), 1 ≤ k → k ≤ 18 → n < 10 ^ k → (∀ M, k ≤ M → s17 M (n : Int) = some (decF k n)) ∧ (∀ c, c ∈ decF k n → digi c = true) ∧ 1 ≤ (decF k n).length ∧ (decF k n).length ≤ k ∧ valN (decF k n) = n
  | 0, n, h, _, _ => by omega
  | k + 1, n, _, h18, hn => by
    have hl3 : lit3.length = 10 := by rfl
    by_cases h10 : n < 10
    · have hd : decF (k + 1) n = [UInt8.ofNat (48 + n)] := by rw [decF, if_pos h10]
      obtain ⟨d1, d2⟩ := dig_ok n h10
      rw [hd]
      refine ⟨fun M hM => ?_, fun c hc => ?_, Nat.le_refl _, by simp, ?_⟩
      · obtain ⟨M, rfl⟩ : ∃ m, M = m + 1 := ⟨M - 1, by omega⟩
        simp only [s17, s17_body]
        rw [if_pos (by omega), wr_succ (by omega), grd_pos (by rw [hl3]; omega), toNat_nat, toNat_nat, dig_lit n h10]
      · rw [List.mem_singleton.1 hc]; exact d1
      · simp only [valN, List.foldl_cons, List.foldl_nil, d2]; omega
    · have hk : 1 ≤ k := by
        rcases Nat.eq_zero_or_pos k with h | h
        · subst h; simp at hn; omega
        · exact h
      have hq : n / 10 < 10 ^ k := by
        rw [Nat.pow_succ] at hn
        exact Nat.div_lt_of_lt_mul (by omega)
      obtain ⟨i1, i2, i3, i4, i5⟩ := decF_ok k (n / 10) hk (by omega) hq
      have hd : decF (k + 1) n = decF k (n / 10) ++ [UInt8.ofNat (48 + n % 10)] := by rw [decF, if_neg h10]
      have hm : n % 10 < 10 := Nat.mod_lt _ (by omega)
      obtain ⟨d1, d2⟩ := dig_ok (n % 10) hm
      rw [hd]
      refine ⟨fun M hM => ?_, fun c hc => ?_, by simp, by simp; omega, ?_⟩
      · obtain ⟨M, rfl⟩ : ∃ m, M = m + 1 := ⟨M - 1, by omega⟩
        have e1 : Int.tmod (n : Int) 10 = ((n % 10 : Nat) : Int) := (Int.ofNat_tmod n 10).symm
        have e2 : Int.tdiv (n : Int) 10 = ((n / 10 : Nat) : Int) := (Int.ofNat_tdiv n 10).symm
        have hp18 : (10 : Nat) ^ (k + 1) ≤ 10 ^ 18 := Nat.pow_le_pow_right (by omega) h18
        have h1818 : (10 : Nat) ^ 18 = 1000000000000000000 := by decide
        · simp only [s17, s17_body]
          rw [if_neg (by omega), e1, e2, wr_succ (by omega), grd_pos (by rw [hl3]; omega), wr (n := ((n / 10 : Nat) : Int)) (by omega) (by omega), i1 M (by omega)]
          simp only [Option.bind_some]
          rw [grd_pos (by rw [toNat_nat, toNat_nat, dig_lit _ hm]; simp only [List.length_cons, List.length_nil]; omega), toNat_nat, toNat_nat, dig_lit _ hm]
      · rcases List.mem_append.1 hc with h | h
        · exact i2 c h
        · rw [List.mem_singleton.1 h]; exact d1
      · rw [valN_app, i5, d2]; omega
theorem digi_lett {c : UInt8} (h : digi c = true) : lett c = false := by
  simp only [digi, Bool.and_eq_true, decide_eq_true_eq] at h
  simp only [lett, Bool.or_eq_false_iff, Bool.and_eq_false_iff, decide_eq_false_iff_not]
  omega
theorem digN_all : ∀ l : Str, (∀ c, c ∈ l → digi c = true) → digN l = l.length
  | [], _ => rfl
  | c :: l, h => by
    show runN fDig (c :: l) = _
    rw [runN, if_pos (show fDig (c :: l) = true from h c (List.mem_cons_self ..))]
    have : runN fDig l = l.length := digN_all l (fun d hd => h d (List.mem_cons_of_mem _ hd))
    rw [this, List.length_cons]; omega
def nm (x : Int) : Nat := x.toNat % 1000000000000
theorem dec_ok (x : Int) : (∀ M, 12 ≤ M → s17 M (nm x : Int) = some (dec (nm x))) ∧ (∀ c, c ∈ dec (nm x) → digi c = true) ∧ 1 ≤ (dec (nm x)).length ∧ (dec (nm x)).length ≤ 12 ∧ valN (dec (nm x)) = nm x := by
  refine decF_ok 12 (nm x) (by omega) (by omega) ?_
  have : (10 : Nat) ^ 12 = 1000000000000 := by decide
  rw [this]
  exact Nat.mod_lt _ (by omega)
theorem tok_dec (x : Int) : ∃ c r, dec (nm x) = c :: r ∧ tokR (c :: r) = .inl (2, (c :: r).length, nm x) ∧ ∀ y, gapC false (c :: y) = 0 := by
  obtain ⟨h1, h2, h3, h4, h5⟩ := dec_ok x
  generalize dec (nm x) = d at *
  cases d with
  | nil => simp at h3
  | cons c r =>
    refine ⟨c, r, rfl, ?_, fun y => ?_⟩
    · have hc := h2 c (List.mem_cons_self ..)
      have hD := digN_all (c :: r) h2
      rw [tokR, if_neg (by rw [digi_lett hc]; simp), if_pos hc, hD, if_neg (by omega), List.drop_length, List.take_length, h5]
      rfl
    · have hc := h2 c (List.mem_cons_self ..)
      simp only [digi, Bool.and_eq_true, decide_eq_true_eq] at hc
      rw [gapC, if_neg (by omega), if_neg (by omega), if_neg (by simp; omega)]
def sep (m : Bool) : UInt8 := if m then 45 else 32
def tail (m : Bool) (r : List Int) : Str := r.flatMap fun x => sep m :: dec (nm x)
def cont (m : Bool) (r : List Int) : List (Int × Str × Int) := r.flatMap fun x => (if m then [(3, [45], 0)] else []) ++ [(2, dec (nm x), (nm x : Int))]
theorem lx_nums (m : Bool) : ∀ (r : List Int), (∀ at_, ∃ ts, Lx at_ (tail m r) ts none ∧ ts.map core = cont m r) ∧ ∀ x at_, ∃ ts, Lx at_ (dec (nm x) ++ tail m r) ts none ∧ ts.map core = (2, dec (nm x), (nm x : Int)) :: cont m r := by
  intro r
  induction r with
  | nil =>
    have hA : ∀ at_, ∃ ts, Lx at_ (tail m []) ts none ∧ ts.map core = cont m [] := fun at_ => ⟨[], .done rfl, rfl⟩
    refine ⟨hA, fun x at_ => ?_⟩
    obtain ⟨c, r, hd, ht, hg⟩ := tok_dec x
    obtain ⟨ts, h1, h2⟩ := hA (at_ + 0 + (c :: r).length)
    have := Lx.tok (at_ := at_) (l := c :: r) (by rw [hg]; rfl) ht (ts := ts) (e := none) (by rw [hg, List.drop_length]; exact h1)
    rw [hd]
    refine ⟨_, by rw [show tail m [] = [] from rfl, List.append_nil]; exact this, ?_⟩
    rw [List.map_cons, h2]
    simp only [core, List.take_length]
  | cons y r ih =>
    obtain ⟨_, hB⟩ := ih
    have hA : ∀ at_, ∃ ts, Lx at_ (tail m (y :: r)) ts none ∧ ts.map core = cont m (y :: r) := fun at_ => by
      have htl : tail m (y :: r) = sep m :: (dec (nm y) ++ tail m r) := rfl
      rw [htl]
      cases m with
      | false =>
        obtain ⟨ts, h1, h2⟩ := hB y (at_ + 1)
        exact ⟨ts, lx_gap (g := [32]) (by simp [gapC]) h1, by rw [h2]; rfl⟩
      | true =>
        obtain ⟨ts, h1, h2⟩ := hB y (at_ + 0 + 1)
        have ht : tokR (45 :: (dec (nm y) ++ tail true r)) = .inl (3, 1, 0) := by
          rw [tokR, if_neg (by decide), if_neg (by decide), if_pos (by decide)]
        have hg : gapC false (45 :: (dec (nm y) ++ tail true r)) = 0 := by
          rw [gapC, if_neg (by decide), if_neg (by decide), if_neg (by decide)]
        have := Lx.tok (at_ := at_) (l := 45 :: (dec (nm y) ++ tail true r)) (by rw [hg]; rfl) ht (ts := ts) (e := none) (by rw [hg]; exact h1)
        refine ⟨_, this, ?_⟩
        rw [List.map_cons, h2]
        rfl
    refine ⟨hA, fun x at_ => ?_⟩
    obtain ⟨c, q, hd, ht, hg⟩ := tok_dec x
    obtain ⟨ts, h1, h2⟩ := hA (at_ + 0 + (c :: q).length)
    have htl : tail m (y :: r) = sep m :: (dec (nm y) ++ tail m r) := rfl
    have hs : word (sep m) = false ∧ (sep m).toNat ≠ 46 := by cases m <;> decide
    have hk : tokR (c :: (q ++ tail m (y :: r))) = .inl (2, (c :: q).length, nm x) := by
      rw [htl, ← List.cons_append, tokR_app hs.1 hs.2]; exact ht
    have := Lx.tok (at_ := at_) (l := c :: (q ++ tail m (y :: r))) (by rw [hg]; rfl) hk (ts := ts) (e := none) (by
      rw [hg, ← List.cons_append, List.drop_left]; exact h1)
    rw [hd]
    refine ⟨_, this, ?_⟩
    rw [List.map_cons, h2]
    simp only [core]
    rw [← List.cons_append, List.take_left]
theorem tmod_nm {x : Int} (h : 0 ≤ x) : IntKind.wrap .i64 (Int.tmod x 1000000000000) = (nm x : Int) := by
  obtain ⟨n, rfl⟩ : ∃ n : Nat, x = n := ⟨x.toNat, by omega⟩
  have e1 : Int.tmod (n : Int) 1000000000000 = ((n % 1000000000000 : Nat) : Int) := (Int.ofNat_tmod n 1000000000000).symm
  have hm : n % 1000000000000 < 1000000000000 := Nat.mod_lt _ (by omega)
  rw [e1, wr (by omega) (by omega)]
  rfl
theorem num_step {N : Nat} {p1 : List Int} {T : List Token} {m : Bool} {i j : Nat} {x : Int} {d : Str} (h0 : 0 ≤ x) (hT : T.length ≤ 1000000) (hi : (T.map core)[i]? = some (2, d, (nm x : Int))) (hj : p1[j]? = some x) (hl : p1.length ≤ 40) :
    s9_b2 N p1 (T, 0, 0) m (j : Int) (i : Int) = some (.inl (m, ((j + 1 : Nat) : Int), ((i + 1 : Nat) : Int))) := by
  obtain ⟨hg, hlt⟩ := getI hj
  rw [List.getElem?_map] at hi
  obtain ⟨t, ht, hc⟩ := Option.map_eq_some_iff.1 hi
  obtain ⟨hgt, hlt2⟩ := getI ht
  simp only [core, Prod.mk.injEq] at hc
  simp only [s9_b2]
  rw [if_pos (by omega), grd_pos (by omega), toNat_nat, hgt, if_pos hc.1, if_neg (by omega), grd_pos (by omega), toNat_nat, hg, tmod_nm h0, if_pos hc.2.2, wr_succ (by omega), wr_succ (by omega)]
theorem sym_step {N : Nat} {p1 : List Int} {T : List Token} {i j : Nat} (hT : T.length ≤ 1000000) (hi : (T.map core)[i]? = some (3, [45], 0)) :
    s9_b2 N p1 (T, 0, 0) true (j : Int) (i : Int) = some (.inl (true, (j : Int), ((i + 1 : Nat) : Int))) := by
  rw [List.getElem?_map] at hi
  obtain ⟨t, ht, hc⟩ := Option.map_eq_some_iff.1 hi
  obtain ⟨hgt, hlt2⟩ := getI ht
  simp only [core, Prod.mk.injEq] at hc
  simp only [s9_b2]
  rw [if_pos (by omega), grd_pos (by omega), toNat_nat, hgt, if_neg (by rw [hc.1]; decide)]
  simp only [cond_true]
  rw [if_pos hc.2.1, if_pos hc.2.2, wr_succ (by omega)]
theorem get_drop {α : Type} {l : List α} {i : Nat} {a : α} {r : List α} (h : l.drop i = a :: r) : l[i]? = some a ∧ l.drop (i + 1) = r ∧ i < l.length := by
  refine ⟨by rw [← List.head?_drop, h]; rfl, by rw [← List.drop_drop, h]; rfl, ?_⟩
  rcases Nat.lt_or_ge i l.length with h1 | h1
  · exact h1
  · rw [List.drop_eq_nil_iff.2 h1] at h; cases h
theorem chk {N : Nat} {p1 : List Int} {T : List Token} {m : Bool} (h0 : ∀ x, x ∈ p1 → 0 ≤ x) (hT : T.length ≤ 1000000) (hl : p1.length ≤ 40) : ∀ (r : List Int) (i j : Nat), (T.map core).drop i = cont m r → p1.drop j = r → i ≤ T.length → j ≤ p1.length → ∀ {M}, 2 * r.length < M →
    iter (fun q => s9_b2 N p1 (T, 0, 0) q.1 q.2.1 q.2.2) M (m, (j : Int), (i : Int)) = some (.brk (p1.length : Int))
  | [], i, j, hi, hj, hi2, hj2, M, hM => by
    obtain ⟨M, rfl⟩ : ∃ k, M = k + 1 := ⟨M - 1, by omega⟩
    have e1 : T.length ≤ i := by have := List.drop_eq_nil_iff.1 hi; simpa using this
    have e2 : p1.length ≤ j := List.drop_eq_nil_iff.1 hj
    refine iter_end ?_
    simp only [s9_b2]
    rw [if_neg (by omega), show j = p1.length by omega]
  | x :: r, i, j, hi, hj, hi2, hj2, M, hM => by
    obtain ⟨M, rfl⟩ : ∃ k, M = k + 1 := ⟨M - 1, by omega⟩
    obtain ⟨g1, g2, g3⟩ := get_drop hj
    have hx := h0 x (List.mem_of_getElem? g1)
    simp only [List.length_cons] at hM
    cases m with
    | false =>
      have hi' : (T.map core).drop i = (2, dec (nm x), (nm x : Int)) :: cont false r := hi
      obtain ⟨t1, t2, t3⟩ := get_drop hi'
      rw [List.length_map] at t3
      rw [iter_step (num_step hx hT t1 g1 hl)]
      exact chk h0 hT hl r (i + 1) (j + 1) t2 g2 (by omega) (by omega) (by omega)
    | true =>
      have hi' : (T.map core).drop i = (3, [45], 0) :: (2, dec (nm x), (nm x : Int)) :: cont true r := hi
      obtain ⟨t1, t2, t3⟩ := get_drop hi'
      obtain ⟨u1, u2, u3⟩ := get_drop t2
      rw [List.length_map] at t3 u3
      obtain ⟨M, rfl⟩ : ∃ k, M = k + 1 := ⟨M - 1, by omega⟩
      rw [iter_step (sym_step hT t1), iter_step (num_step hx hT u1 g1 hl)]
      exact chk h0 hT hl r (i + 1 + 1) (j + 1) u2 g2 (by omega) (by omega) (by omega)
theorem s9_true {p1 : List Int} {m : Bool} (h0 : ∀ x, x ∈ p1 → 0 ≤ x) : s9 8388608 p1 m = some true := by
  simp only [s9, s10_true, Option.bind_some]
  by_cases h1 : 40 < (List.length p1 : Int)
  · rw [if_pos h1]
  rw [if_neg h1]
  have hloop : iter (fun p => s9_b5 8388608 p1 m p.1 p.2) 8388608 ([], 0) = some _ := iter_list (fun (s : Str) i => (s, i)) [] p1 (fun i s x => .inl (if i = 0 then s ++ dec (nm x) else s ++ sep m :: dec (nm x))) (fun s => s) (fun i s => s.length ≤ 13 * i) (fun i s x hi hs => by
    obtain ⟨hg, hlt⟩ := getI hi
    have hx := h0 x (List.mem_of_getElem? hi)
    obtain ⟨d1, d2, d3, d4, d5⟩ := dec_ok x
    refine ⟨?_, fun s' e => by
      cases e
      split <;> simp only [List.length_append, List.length_cons] <;> omega⟩
    simp only [s9_b5]
    rw [if_pos (by omega)]
    by_cases hi0 : i = 0
    · rw [if_neg (by omega), if_pos hi0]
      simp only [s9_k4, cond_false]
      rw [if_neg (by omega), grd_pos (by omega), toNat_nat, hg, tmod_nm hx, d1 _ (by omega)]
      simp only [Option.bind_some]
      rw [grd_pos (by omega), wr_succ (by omega)]
    · rw [if_pos (by omega), if_neg hi0]
      cases m with
      | true =>
        simp only [s9_k4, cond_true]
        rw [grd_pos (by omega), grd_pos (by omega), toNat_nat, hg, tmod_nm hx, d1 _ (by omega)]
        simp only [Option.bind_some]
        rw [grd_pos (by simp; omega), wr_succ (by omega)]
        simp [sep]
      | false =>
        simp only [s9_k4, cond_false]
        rw [if_pos (by omega), grd_pos (by omega), grd_pos (by omega), toNat_nat, hg, tmod_nm hx, d1 _ (by omega)]
        simp only [Option.bind_some]
        rw [grd_pos (by simp; omega), wr_succ (by omega)]
        simp [sep]) (fun s _ => by
    simp only [s9_b5]
    rw [if_neg (by omega)]) (by omega) (by simp)
  rw [hloop]
  simp only [Option.bind_some]
  have hrun : ∀ (l : List Int) (i : Nat) (s : Str), 1 ≤ i → runL (fun i s x => (.inl (if i = 0 then s ++ dec (nm x) else s ++ sep m :: dec (nm x)) : Str ⊕ Str)) (fun s => s) i s l = s ++ tail m l := by
    intro l
    induction l with
    | nil => intro i s _; simp [runL, tail]
    | cons x l ih =>
      intro i s hi
      rw [runL]
      simp only
      rw [if_neg (by omega), ih (i + 1) _ (by omega)]
      simp [tail]
  have htl : ∀ l : List Int, (tail m l).length ≤ 13 * l.length := by
    intro l
    induction l with
    | nil => simp [tail]
    | cons x l ih =>
      have := (dec_ok x).2.2.2.1
      have e : tail m (x :: l) = sep m :: (dec (nm x) ++ tail m l) := rfl
      rw [e]
      simp only [List.length_cons, List.length_append]
      omega
  have main : ∀ (text : Str) (ts : List Token), Lx 0 text ts none → text.length ≤ 1000 → iter (fun q => s9_b2 8388608 p1 (ts, 0, 0) q.1 q.2.1 q.2.2) 8388608 (m, 0, 0) = some (.brk (p1.length : Int)) → s9_k3 8388608 p1 m true text = some true := by
    intro text ts hx hlen hit
    have := lx_len hx
    simp only [s9_k3]
    rw [s11_ok (by omega) (by omega) hx (by omega)]
    simp only [Option.bind_some]
    rw [if_pos trivial, hit]
    simp [Ou.on, s9_k1]
  cases p1 with
  | nil =>
    exact main [] [] (.done rfl) (by simp) (chk h0 (by simp) (by simp) [] 0 0 rfl rfl (by simp) (by simp) (by simp))
  | cons a r =>
    rw [runL]
    simp only [if_true, List.nil_append]
    rw [hrun r 1 _ (Nat.le_refl _)]
    obtain ⟨ts, x1, x2⟩ := (lx_nums m r).2 a 0
    have ha := (dec_ok a).2.2.2.1
    have hr := htl r
    have hts := lx_len x1
    simp only [List.length_cons] at h1
    refine main _ ts x1 (by rw [List.length_append]; omega) ?_
    have hb : (dec (nm a) ++ tail m r).length ≤ 1000 := by rw [List.length_append]; omega
    rw [iter_step (N := 8388607) (num_step (i := 0) (j := 0) (h0 a (List.mem_cons_self ..)) (by omega) (by rw [x2]; rfl) rfl (by simp only [List.length_cons]; omega))]
    have hl : 1 ≤ ts.length := by have := congrArg List.length x2; simp at this; omega
    exact chk h0 (by omega) (by simp only [List.length_cons]; omega) r 1 1 (by rw [x2]; rfl) rfl hl (by simp) (by omega)
end Go.Proofs.Lex
namespace Go.Aw
open Go.WideShapes Go.ChangeShapes
def reach (P : Program) : List Field → Nat → Option Nat
  | [], n => some n
  | f :: r, n => if f.offset = n then reach P r (n + P.cellsOf f.type) else none
def laysT (P : Program) (d : Option TypeDesc) (c : Nat) : Bool := match d with
  | some (.slice e) => decide (e < P.types.size) && decide (0 < P.cellsOf e)
  | some (.pointer e) => decide (e < P.types.size)
  | some (.map k e) => decide (k < P.types.size) && decide (e < P.types.size)
  | some (.struct fs) => fs.toList.all (fun f => decide (f.type < P.types.size)) && (reach P fs.toList 0 == some c)
  | some (.array n e) => decide (e < P.types.size) && (n * P.cellsOf e == c)
  | _ => true
def lays (P : Program) : Bool := (List.range P.types.size).all fun t => laysT P (P.underlying t) (P.cellsOf t)
theorem lays_at {P : Program} (h : lays P = true) {t : TypeId} (ht : t < P.types.size) {d : TypeDesc} (hu : P.underlying t = some d) : laysT P (some d) (P.cellsOf t) = true := by
  have := List.all_eq_true.1 h t (List.mem_range.2 ht)
  rwa [hu] at this
section
variable {H : Type} {enc : TypeId × Value → H} {P : Program} {w : World} {base : Nat} {sp : Nat → Bool}
theorem step_spare (hl : lays P = true) {r r' : TypeId → List Value → Option (DataW H × List MemPlace)}
    (hr : ∀ t cs x, t < P.types.size → r t cs = some x → (∀ p ∈ x.2, sp p.block = true) → r' t cs = some x) {t : TypeId} (ht : t < P.types.size) {cs : List Value} {x : DataW H × List MemPlace}
    (h : DataW.trodStep enc P w base (fun _ => true) true r t cs = some x) (hs : ∀ p ∈ x.2, sp p.block = true) : DataW.trodStep enc P w base sp true r' t cs = some x := by
  unfold DataW.trodStep at h ⊢
  split at h
  case h_6 e a hu =>
    have he : e < P.types.size := by simpa [laysT] using lays_at hl ht hu
    simp only [Option.map_eq_some_iff, Option.bind_eq_some_iff] at h ⊢
    obtain ⟨y, ⟨cs', hc, hy⟩, rfl⟩ := h
    exact ⟨y, ⟨cs', hc, hr _ _ _ he hy (fun p hp => hs p (by simp [hp]))⟩, rfl⟩
  case h_8 e a len cap hu =>
    have hE : e < P.types.size ∧ 0 < P.cellsOf e := by simpa [laysT] using lays_at hl ht hu
    simp only at h ⊢
    split at h
    · rename_i hc
      rw [if_pos hc]
      simp only [Option.map_eq_some_iff, Option.bind_eq_some_iff, if_true] at h ⊢
      obtain ⟨elems, he, rest, hrest, rfl⟩ := h
      have hrl : rest.length = cap - len := by simpa using mapM_some_length hrest
      have one : ∀ (i : Nat) (y : DataW H × List MemPlace), y ∈ elems ++ rest →
          (w.cells? base (a.add (i * P.cellsOf e)) (P.cellsOf e)).bind (r e) = some y → (w.cells? base (a.add (i * P.cellsOf e)) (P.cellsOf e)).bind (r' e) = some y := by
        intro i y hy hv
        simp only [Option.bind_eq_some_iff] at hv ⊢
        obtain ⟨cs', hc', hy'⟩ := hv
        refine ⟨cs', hc', hr _ _ _ hE.1 hy' (fun p hp => hs p ?_)⟩
        simp only [List.mem_append, List.mem_flatMap]
        right
        exact ⟨y, by simpa using hy, hp⟩
      refine ⟨elems, mapM_carry he (fun i y hi hy => one i y (by simp [hy])), rest, ?_, rfl⟩
      by_cases hsp : sp a.block = true
      · rw [if_pos hsp]
        exact mapM_carry hrest (fun j y hj hy => one (len + j) y (by simp [hy]))
      · rw [if_neg hsp]
        have hpos := hE.2
        cases rest with
        | nil => rfl
        | cons z zs =>
          refine absurd (hs (.cell a.block (a.off + 0)) ?_) hsp
          simp only [List.mem_append]
          left
          exact MemPlace.mem_row.2 ⟨0, Nat.mul_pos (by simp only [List.length_cons]; omega) hpos, rfl⟩
    · cases h
  case h_9 fs cs hu =>
    have hE := lays_at hl ht hu
    simp only [laysT, Bool.and_eq_true, List.all_eq_true, decide_eq_true_eq] at hE
    split at h
    · rename_i hc
      rw [if_pos hc]
      simp only [Option.map_eq_some_iff] at h ⊢
      obtain ⟨xs, hx, rfl⟩ := h
      exact ⟨xs, mapM_carry hx (fun f y hf hy hv => hr _ _ _ (hE.1 f hf) hv (fun p hp => hs p (List.mem_flatMap.2 ⟨y, hy, hp⟩))), rfl⟩
    · cases h
  case h_10 n e cs hu =>
    have hE := lays_at hl ht hu
    simp only [laysT, Bool.and_eq_true, decide_eq_true_eq] at hE
    split at h
    · rename_i hc
      rw [if_pos hc]
      simp only [Option.map_eq_some_iff] at h ⊢
      obtain ⟨xs, hx, rfl⟩ := h
      exact ⟨xs, mapM_carry hx (fun f y _ hy hv => hr _ _ _ hE.1 hv (fun p hp => hs p (List.mem_flatMap.2 ⟨y, hy, hp⟩))), rfl⟩
    · cases h
  case h_12 =>
    exact h
  case h_14 k e b hu =>
    have hE : k < P.types.size ∧ e < P.types.size := by simpa [laysT] using lays_at hl ht hu
    split at h
    · rename_i es clock hb
      split at h
      · rename_i hc
        simp only [Option.bind_eq_some_iff] at h
        obtain ⟨entries, he, hd⟩ := h
        split at hd
        · rename_i hris
          have hx := Option.some.inj hd
          subst hx
          simp only [if_pos hc, Option.bind_eq_some_iff]
          refine ⟨entries, mapM_carry he (fun x y _ hy hv => ?_), by simp [hris]⟩
          simp only [Option.bind_eq_some_iff] at hv ⊢
          obtain ⟨key, hk, hz⟩ := hv
          refine ⟨key, hk, ?_⟩
          split at hz
          · rename_i hf
            rw [if_pos hf]
            simp only [Option.map_eq_some_iff] at hz ⊢
            obtain ⟨q, hq, rfl⟩ := hz
            exact ⟨q, hr _ _ _ hE.2 hq (fun p hp => hs p (by simp only [List.mem_cons, List.mem_flatMap]; right; exact ⟨_, hy, hp⟩)), rfl⟩
          · cases hz
        · cases hd
      · cases h
    · cases h
  all_goals first | exact h | cases h
theorem trod_spare (hl : lays P = true) : ∀ (n : Nat) (t : TypeId) (cs : List Value) (x : DataW H × List MemPlace), t < P.types.size →
    DataW.trod enc P w base (fun _ => true) true n t cs = some x → (∀ p ∈ x.2, sp p.block = true) → DataW.trod enc P w base sp true n t cs = some x := by
  intro n
  induction n with
  | zero => intro t cs x _ h; simp [DataW.trod] at h
  | succ n ih =>
    intro t cs x ht h hs
    rw [DataW.trod_step] at h ⊢
    exact step_spare hl ih ht h hs
theorem all_spare (hl : lays P = true) {w' : World} : ∀ (ts : List TypeId) (vs : List Value) (ds : List (DataW H)) (ps : List MemPlace), (∀ t ∈ ts, t < P.types.size) →
    DataW.TrodAll enc P w base (fun _ => true) true ts vs ds ps → (∀ p ∈ ps, sp p.block = true) → (∀ p ∈ ps, w.sameAt w' p) → DataW.TrodAll enc P w' base sp true ts vs ds ps
  | [], vs, ds, ps, _, h, _, _ => by
    obtain ⟨rfl, rfl, rfl⟩ := trodAll_nil h
    rfl
  | t :: ts, vs, ds, ps, ht, h, hs, hw => by
    obtain ⟨v, vs', d, ds', p, q, rfl, rfl, rfl, ⟨n, h1⟩, h2⟩ := trodAll_cons h
    refine ⟨p, q, ⟨n, ?_⟩, all_spare hl ts vs' ds' q (fun u hu => ht u (List.mem_cons_of_mem _ hu)) h2 (fun x hx => hs x (List.mem_append_right _ hx)) (fun x hx => hw x (List.mem_append_right _ hx)), rfl⟩
    exact DataW.trod_carry n t _ _ (trod_spare hl n t _ _ (ht t (List.mem_cons_self ..)) h1 (fun x hx => hs x (List.mem_append_left _ hx))) (fun x hx => hw x (List.mem_append_left _ hx))
end
def okOne (P : Program) (S : List TypeId) (t : TypeId) : Bool := decide (t < P.types.size) && match P.underlying t with
    | some .bool | some (.int _) | some .string => true
    | some (.pointer e) => decide (0 < P.cellsOf e) && S.contains e
    | some (.slice e) | some (.array _ e) => S.contains e
    | some (.struct fs) => fs.toList.all fun f => S.contains f.type
    | _ => false
def okS (P : Program) (S : List TypeId) : Bool := S.all (okOne P S)
def argAV (P : Program) (t : TypeId) (xs : List AV) : AV := match P.underlying t with
  | some (.struct _) | some (.array _ _) => .agg xs
  | _ => xs.headD .any
def Sh (P : Program) : Nat → TypeId → List AV → Prop
  | 0, _, _ => False
  | n + 1, t, xs => match P.underlying t with
    | some .bool => ∃ b, xs = [.bool b]
    | some (.int k) => ∃ i, xs = [.int k i] ∧ (Lit.int k i).wf = true
    | some .string => ∃ l, xs = [.str l] ∧ l.length ≤ maxLen
    | some (.pointer e) => xs = [.lit (.pointer none)] ∨ ∃ ys, xs = [.ref ys] ∧ Sh P n e ys
    | some (.slice e) => ∃ ys : List (List AV), xs = [.sl (ys.map (argAV P e))] ∧ ys.length ≤ maxLen ∧ ∀ y, y ∈ ys → Sh P n e y
    | some (.struct fs) => ∃ ys : List (List AV), xs = ys.flatten ∧ ys.length = fs.size ∧ ∀ (i : Nat) (f : Field) (y : List AV), fs[i]? = some f → ys[i]? = some y → Sh P n f.type y
    | some (.array m e) => ∃ ys : List (List AV), xs = ys.flatten ∧ ys.length = m ∧ ∀ y, y ∈ ys → Sh P n e y
    | _ => False
mutual
def AV.bulk : AV → Nat
  | .str l => l.length + 1
  | .sl xs => bulkL xs + 1
  | .ref cs => bulkL cs + 1
  | .agg cs => bulkL cs + 1
  | .any => 1
  | .int _ _ => 1
  | .bool _ => 1
  | .lit _ => 1
  | .ptr _ _ _ => 1
  | .row _ _ _ _ _ => 1
  | .nil => 1
  | .tup _ => 1
  | .fn _ _ _ => 1
  | .ifc _ _ => 1
  | .mapv _ _ => 1
def bulkL : List AV → Nat
  | [] => 0
  | x :: r => x.bulk + bulkL r
end
theorem bulk_sl (l : List AV) : (AV.sl l).bulk = bulkL l + 1 := by rw [AV.bulk]
theorem bulk_ref (l : List AV) : (AV.ref l).bulk = bulkL l + 1 := by rw [AV.bulk]
theorem bulk_agg (l : List AV) : (AV.agg l).bulk = bulkL l + 1 := by rw [AV.bulk]
theorem bulk_str (l : List UInt8) : (AV.str l).bulk = l.length + 1 := by rw [AV.bulk]
theorem bulk_int (k : IntKind) (n : Int) : (AV.int k n).bulk = 1 := by rw [AV.bulk]
theorem bulk_bool (b : Bool) : (AV.bool b).bulk = 1 := by rw [AV.bulk]
theorem bulk_lit (v : Value) : (AV.lit v).bulk = 1 := by rw [AV.bulk]
theorem bulkL_app : ∀ (l m : List AV), bulkL (l ++ m) = bulkL l + bulkL m
  | [], m => by simp [bulkL]
  | x :: l, m => by simp only [List.cons_append, bulkL, bulkL_app l m]; omega
structure Bulk (H : Type) where
  b : DataW H → Nat
  l : List (DataW H) → Nat
  str : ∀ s, b (.lit (.string s)) = s.length + 1
  one : ∀ d, 1 ≤ b d
  ptr : ∀ d, b (.ptr d) = b d + 1
  slice : ∀ x y, b (.slice x y) = l x + l y + 1
  agg : ∀ x, b (.agg x) = l x + 1
  nil : l [] = 0
  cons : ∀ d r, l (d :: r) = b d + l r
theorem bulk_flat {H : Type} (B : Bulk H) : ∀ (ys : List (List AV)) (ps : List (DataW H × List MemPlace)), ys.length = ps.length → (∀ (i : Nat) y p, ys[i]? = some y → ps[i]? = some p → bulkL y ≤ B.b p.1) → bulkL ys.flatten ≤ B.l (ps.map (·.1))
  | [], [], _, _ => by simp [bulkL]
  | y :: ys, p :: ps, hl, h => by
    have h0 := h 0 y p rfl rfl
    have := bulk_flat B ys ps (by simpa using hl) (fun i z q hz hq => h (i + 1) z q (by simpa using hz) (by simpa using hq))
    rw [List.flatten_cons, bulkL_app, List.map_cons, B.cons]
    omega
theorem bulk_map {H : Type} (B : Bulk H) (f : List AV → AV) : ∀ (ys : List (List AV)) (ps : List (DataW H × List MemPlace)), ys.length = ps.length → (∀ (i : Nat) y p, ys[i]? = some y → ps[i]? = some p → (f y).bulk ≤ B.b p.1) → bulkL (ys.map f) ≤ B.l (ps.map (·.1))
  | [], [], _, _ => by simp [bulkL]
  | y :: ys, p :: ps, hl, h => by
    have h0 := h 0 y p rfl rfl
    have := bulk_map B f ys ps (by simpa using hl) (fun i z q hz hq => h (i + 1) z q (by simpa using hz) (by simpa using hq))
    rw [List.map_cons, List.map_cons, B.cons, bulkL]
    omega
def BulkOk {H : Type} (P : Program) (t : TypeId) (xs : List AV) (d : DataW H) : Prop := ∀ B : Bulk H, bulkL xs ≤ B.b d ∧ (argAV P t xs).bulk ≤ B.b d
theorem bulkOk_one {H : Type} {P : Program} {t : TypeId} {x : AV} {d : DataW H} (hn : argAV P t [x] = x) (h : ∀ B : Bulk H, x.bulk ≤ B.b d) : BulkOk P t [x] d := fun B => by
  rw [hn]
  exact ⟨by simpa [bulkL] using h B, h B⟩
theorem argAV_cells {P : Program} {n : Nat} {t : TypeId} {xs : List AV} (h : Sh P n t xs) : (argAV P t xs).cells = xs := by
  cases n with
  | zero => exact h.elim
  | succ n =>
    unfold argAV
    unfold Sh at h
    cases hu : P.underlying t with
    | none => rw [hu] at h; exact h.elim
    | some d =>
      rw [hu] at h
      cases d with
      | bool => obtain ⟨_, rfl⟩ := h; rfl
      | int q => obtain ⟨_, rfl, _⟩ := h; rfl
      | string => obtain ⟨_, rfl, _⟩ := h; rfl
      | pointer e => rcases h with rfl | ⟨_, rfl, _⟩ <;> rfl
      | slice e => obtain ⟨_, rfl, _⟩ := h; rfl
      | struct fs => rfl
      | array m e => rfl
      | _ => exact h.elim
def RelL (w : World) (cs : List Value) (xs : List AV) : Prop := xs.length = cs.length ∧ ∀ (j : Nat) (v : Value) (y : AV), cs[j]? = some v → xs[j]? = some y → v.oneCell' = true ∧ Rel (fun _ => False) w v y
theorem relL_one {w : World} {v : Value} {x : AV} (h1 : v.oneCell' = true) (h2 : Rel (fun _ => False) w v x) : RelL w [v] [x] := ⟨rfl, fun j v y hv hy => by
  cases j with
  | zero =>
    simp only [List.getElem?_cons_zero, Option.some.injEq] at hv hy
    rw [← hv, ← hy]
    exact ⟨h1, h2⟩
  | succ j => simp at hv⟩
theorem relL_app {w : World} {cs ds : List Value} {xs ys : List AV} (h : RelL w cs xs) (h' : RelL w ds ys) : RelL w (cs ++ ds) (xs ++ ys) := by
  refine ⟨by simp [h.1, h'.1], fun j v y hv hy => ?_⟩
  by_cases hj : j < cs.length
  · rw [List.getElem?_append_left hj] at hv
    rw [List.getElem?_append_left (by rw [h.1]; exact hj)] at hy
    exact h.2 j v y hv hy
  · rw [List.getElem?_append_right (by omega)] at hv
    rw [List.getElem?_append_right (by rw [h.1]; omega), h.1] at hy
    exact h'.2 _ v y hv hy
theorem glue {w : World} {cs : List Value} : ∀ (ls : List Nat) (ys : List (List AV)) (acc : Nat), ys.length = ls.length → acc + ls.sum ≤ cs.length →
    (∀ (i c : Nat) (y : List AV), ls[i]? = some c → ys[i]? = some y → RelL w ((cs.drop (acc + (ls.take i).sum)).take c) y) → RelL w ((cs.drop acc).take ls.sum) ys.flatten
  | [], [], acc, _, _, _ => ⟨by simp, fun j v y hv => by simp at hv⟩
  | c :: ls, y :: ys, acc, hl, hs, h => by
    simp only [List.sum_cons] at hs
    have h0 := h 0 c y rfl rfl
    simp only [List.take_zero, List.sum_nil, Nat.add_zero] at h0
    have h1 := glue (w := w) (cs := cs) ls ys (acc + c) (by simpa using hl) (by omega) (fun i c' y' hi hy => by
      have := h (i + 1) c' y' (by simpa using hi) (by simpa using hy)
      simpa [Nat.add_assoc] using this)
    have := relL_app h0 h1
    rw [List.flatten_cons, List.sum_cons]
    rw [show (cs.drop acc).take (c + ls.sum) = (cs.drop acc).take c ++ (cs.drop (acc + c)).take ls.sum by rw [List.take_add, List.drop_drop]]
    exact this
theorem reach_sum (P : Program) : ∀ (fs : List Field) (acc n : Nat), reach P fs acc = some n → n = acc + (fs.map fun f => P.cellsOf f.type).sum ∧ ∀ (i : Nat) (f : Field), fs[i]? = some f → f.offset = acc + ((fs.map fun f => P.cellsOf f.type).take i).sum
  | [], acc, n, h => by
    simp only [reach, Option.some.injEq] at h
    exact ⟨by simp [h], fun i f hf => by simp at hf⟩
  | f :: fs, acc, n, h => by
    simp only [reach] at h
    split at h
    · rename_i he
      obtain ⟨h1, h2⟩ := reach_sum P fs _ n h
      refine ⟨by simp [h1, Nat.add_assoc], fun i g hg => ?_⟩
      cases i with
      | zero => simp at hg; subst hg; simpa using he
      | succ i =>
        have := h2 i g (by simpa using hg)
        simp [this, Nat.add_assoc]
    · cases h
theorem exists_list {β : Type} (p : Nat → β → Prop) : ∀ n, (∀ i, i < n → ∃ y, p i y) → ∃ l : List β, l.length = n ∧ ∀ (i : Nat) (y : β), l[i]? = some y → p i y
  | 0, _ => ⟨[], rfl, fun i y h => by simp at h⟩
  | n + 1, h => by
    obtain ⟨l, hl, hp⟩ := exists_list p n (fun i hi => h i (by omega))
    obtain ⟨y, hy⟩ := h n (by omega)
    refine ⟨l ++ [y], by simp [hl], fun i z hz => ?_⟩
    by_cases hi : i < n
    · rw [List.getElem?_append_left (by omega)] at hz
      exact hp i z hz
    · rw [List.getElem?_append_right (by omega)] at hz
      have hi' : i - l.length = 0 := by
        have := (List.getElem?_eq_some_iff.1 hz).1
        simp at this
        omega
      rw [hi'] at hz
      simp at hz
      rw [show i = n by omega, ← hz]
      exact hy
section
variable {H : Type} {enc : TypeId × Value → H} {P : Program} {w : World} {sp : Nat → Bool}
theorem cells_get {a : Addr} {n : Nat} {cs : List Value} (h : w.cells? 0 a n = some cs) : cs.length = n ∧ ∀ (i : Nat) (v : Value), cs[i]? = some v → w.cell? (a.add i) = some v := by
  unfold World.cells? at h
  rw [if_pos (Nat.zero_le _)] at h
  have hl : cs.length = n := by simpa using mapM_some_length h
  refine ⟨hl, fun i v hv => ?_⟩
  have hi : i < n := by rw [← hl]; exact (List.getElem?_eq_some_iff.1 hv).1
  have := mapM_some_get h i i (by simp [hi])
  rw [this]
  exact hv
theorem cell_spot {a : Addr} {v : Value} (h : w.cell? a = some v) : a.spot = none ∧ a.block < w.heap.size := by
  unfold World.cell? at h
  cases hb : w.heap[a.block]? with
  | none => simp [hb] at h
  | some o =>
    refine ⟨?_, (Array.getElem?_eq_some_iff.1 hb).1⟩
    cases o <;> simp [hb] at h
    cases hs : a.spot with
    | none => rfl
    | some _ => simp [hs] at h
theorem add_plain {a : Addr} (h : a.spot = none) (i : Nat) : a.add i = ⟨a.block, a.off + i, none⟩ := by
  unfold Addr.add
  split
  · rename_i h0
    subst h0
    cases a
    simp at h
    simp [h]
  · rfl
theorem trod_sh (hl : lays P = true) {S : List TypeId} (hS : okS P S = true) : ∀ (n : Nat) (t : TypeId) (cs : List Value) (x : DataW H × List MemPlace), t ∈ S → DataW.trod enc P w 0 sp true n t cs = some x → ∃ xs, Sh P n t xs ∧ RelL w cs xs ∧ BulkOk P t xs x.1 := by
  intro k
  induction k with
  | zero => intro t cs x _ h; simp [DataW.trod] at h
  | succ k ih =>
    intro t cs x hin h
    have hok := List.all_eq_true.1 hS t hin
    simp only [okOne, Bool.and_eq_true, decide_eq_true_eq] at hok
    obtain ⟨ht, hok⟩ := hok
    cases hu : P.underlying t with
    | none => simp [hu] at hok
    | some d =>
      rw [hu] at hok
      have hla := lays_at hl ht hu
      cases d with
      | bool =>
        obtain ⟨b, rfl, rfl⟩ := DataW.trod_bool hu h
        exact ⟨[.bool b], by simp [Sh, hu], relL_one rfl (.bool b), bulkOk_one (by simp [argAV, hu]) (fun B => by rw [bulk_bool]; exact B.one _)⟩
      | int q =>
        obtain ⟨i, rfl, rfl, hw⟩ := DataW.trod_int hu h
        exact ⟨[.int q i], by simp [Sh, hu, hw], relL_one rfl (.int q i), bulkOk_one (by simp [argAV, hu]) (fun B => by rw [bulk_int]; exact B.one _)⟩
      | string =>
        obtain ⟨s, rfl, rfl, hs⟩ := DataW.trod_string hu h
        refine ⟨[.str s.data.toList], by simp only [Sh, hu]; exact ⟨_, rfl, hs⟩, relL_one rfl ?_, bulkOk_one (by simp [argAV, hu]) (fun B => by rw [bulk_str, B.str]; exact Nat.le_refl _)⟩
        have := Rel.str (F := fun _ => False) (w := w) s.data.toList
        simpa using this
      | pointer e =>
        rcases DataW.trod_pointer hu h with ⟨rfl, rfl⟩ | ⟨a, cs', y, n', hn', rfl, rfl, hc, hy⟩
        · exact ⟨[.lit (.pointer none)], by simp [Sh, hu], relL_one rfl (.lit _), bulkOk_one (by simp [argAV, hu]) (fun B => by rw [bulk_lit]; exact B.one _)⟩
        · simp only [Bool.and_eq_true, decide_eq_true_eq] at hok
          obtain rfl : k = n' := by omega
          obtain ⟨ys, h1, h2, hbk⟩ := ih e cs' y (List.contains_iff_mem.1 hok.2) hy
          obtain ⟨hcl, hcell⟩ := cells_get hc
          obtain ⟨hsp, hlt⟩ := cell_spot (a := a) (v := cs'[0]'(by omega)) (by
            have := hcell 0 _ (List.getElem?_eq_getElem (by omega))
            simpa [Addr.add] using this)
          have hz : ∀ (j : Nat) (z : AV), ys[j]? = some z → ∃ v, w.cell? ⟨a.block, a.off + j, none⟩ = some v ∧ v.oneCell' = true ∧ Rel (fun _ => False) w v z := fun j z hj => by
            have hlt : j < cs'.length := by rw [← h2.1]; exact (List.getElem?_eq_some_iff.1 hj).1
            have hv := List.getElem?_eq_getElem hlt
            have := hcell j _ hv
            rw [add_plain hsp] at this
            exact ⟨_, this, h2.2 j _ z hv hj⟩
          have ha : a = ⟨a.block, a.off, none⟩ := by cases a; simp at hsp; simp [hsp]
          refine ⟨[.ref ys], by simp only [Sh, hu]; exact .inr ⟨ys, rfl, h1⟩, relL_one rfl ?_, bulkOk_one (by simp [argAV, hu]) (fun B => by rw [bulk_ref, B.ptr]; have := (hbk B).1; omega)⟩
          rw [ha]
          refine .ref a.block a.off ys (fun j => (w.cell? ⟨a.block, a.off + j, none⟩).getD undef) (fun f => f) hlt (fun j z hj => ?_) (fun j z hj => ?_) (fun j z hj => ?_)
          · obtain ⟨v, h3, _⟩ := hz j z hj
            simp [h3]
          · obtain ⟨v, h3, h4, _⟩ := hz j z hj
            simpa [h3] using h4
          · obtain ⟨v, h3, _, h5⟩ := hz j z hj
            simpa [h3] using h5
      | slice e =>
        rcases DataW.trod_slice hu h with ⟨rfl, rfl⟩ | ⟨a, len, cap, elems, rest, n', hn', rfl, rfl, _, hlc, hcm, hel, hE, _⟩
        · exact ⟨[.sl []], by simp only [Sh, hu]; exact ⟨[], rfl, by simp, by simp⟩, relL_one rfl .slnil, bulkOk_one (by simp [argAV, hu]) (fun B => by rw [bulk_sl]; simpa [bulkL] using B.one _)⟩
        · simp only [laysT, Bool.and_eq_true, decide_eq_true_eq] at hla
          obtain rfl : k = n' := by omega
          have hok := List.contains_iff_mem.1 hok
          obtain ⟨ys, hyl, hyp⟩ := exists_list (fun i ys => Sh P k e ys ∧ ∃ cs', w.cells? 0 (a.add (i * P.cellsOf e)) (P.cellsOf e) = some cs' ∧ RelL w cs' ys ∧ ∀ p, elems[i]? = some p → BulkOk P e ys p.1) len (fun i hi => by
            have hx : elems[i]? = some elems[i] := List.getElem?_eq_getElem (by omega)
            have := hE i hi
            rw [hx] at this
            obtain ⟨cs', hc, hy⟩ := Option.bind_eq_some_iff.1 this
            obtain ⟨ys, h1, h2, h3⟩ := ih e cs' _ hok hy
            exact ⟨ys, h1, cs', hc, h2, fun p hp => by rw [hx] at hp; cases hp; exact h3⟩)
          have hmem : ∀ y, y ∈ ys → Sh P k e y := fun y hy => by
            obtain ⟨i, hi⟩ := List.getElem?_of_mem hy
            exact (hyp i y hi).1
          refine ⟨[.sl (ys.map (argAV P e))], by simp only [Sh, hu]; exact ⟨ys, rfl, by omega, hmem⟩, relL_one rfl ?_, bulkOk_one (by simp [argAV, hu]) (fun B => by
            rw [bulk_sl, B.slice]
            have := bulk_map B (argAV P e) ys elems (by omega) (fun i y p hy hp => by
              obtain ⟨_, _, _, _, hb⟩ := hyp i y hy
              exact ((hb p hp) B).2)
            omega)⟩
          · by_cases h0 : len = 0
            · subst h0
              have : ys = [] := List.length_eq_zero_iff.1 hyl
              subst this
              exact .sl0 a cap
            · obtain ⟨y0, hy0⟩ : ∃ y, ys[0]? = some y := ⟨ys[0]'(by omega), List.getElem?_eq_getElem (by omega)⟩
              obtain ⟨_, c0, hc0, hr0, _⟩ := hyp 0 y0 hy0
              obtain ⟨hl0, hg0⟩ := cells_get hc0
              obtain ⟨hsp, hlt⟩ := cell_spot (a := a) (v := c0[0]'(by omega)) (by
                have := hg0 0 _ (List.getElem?_eq_getElem (by omega))
                simpa [Addr.add] using this)
              have hz : ∀ (i : Nat) (y : List AV) (j : Nat) (z : AV), ys[i]? = some y → y[j]? = some z → ∃ v, w.cell? ⟨a.block, a.off + (i * P.cellsOf e + j), none⟩ = some v ∧ v.oneCell' = true ∧ Rel (fun _ => False) w v z := fun i y j z hi hj => by
                obtain ⟨_, c1, hc1, hr1, _⟩ := hyp i y hi
                obtain ⟨hl1, hg1⟩ := cells_get hc1
                have hlt : j < c1.length := by rw [← hr1.1]; exact (List.getElem?_eq_some_iff.1 hj).1
                have hv := List.getElem?_eq_getElem hlt
                have := hg1 j _ hv
                rw [add_plain hsp, add_plain rfl] at this
                simp only [Nat.add_assoc] at this
                exact ⟨_, this, hr1.2 j _ z hv hj⟩
              have hget : ∀ (i : Nat) (x : AV), (ys.map (argAV P e))[i]? = some x → ∃ y, ys[i]? = some y ∧ x = argAV P e y := fun i x hx => by
                rw [List.getElem?_map] at hx
                obtain ⟨y, h1, h2⟩ := Option.map_eq_some_iff.1 hx
                exact ⟨y, h1, h2.symm⟩
              have ha : a = ⟨a.block, a.off, none⟩ := by cases a; simp at hsp; simp [hsp]
              rw [ha]
              refine .sl a.block a.off len cap (P.cellsOf e) _ (fun j => (w.cell? ⟨a.block, a.off + j, none⟩).getD undef) (fun f => f) hlt (by simp [hyl]) hlc (fun i x hx => ?_) (fun i x j z hx hj => ?_) (fun i x j z hx hj => ?_) (fun i x j z hx hj => ?_)
              · obtain ⟨y, hy, rfl⟩ := hget i x hx
                obtain ⟨hsh, c1, hc1, hr1, _⟩ := hyp i y hy
                rw [argAV_cells hsh, hr1.1, (cells_get hc1).1]
              · obtain ⟨y, hy, rfl⟩ := hget i x hx
                rw [argAV_cells (hyp i y hy).1] at hj
                obtain ⟨v, h3, _⟩ := hz i y j z hy hj
                rw [Nat.add_assoc, h3]
                simp [h3]
              · obtain ⟨y, hy, rfl⟩ := hget i x hx
                rw [argAV_cells (hyp i y hy).1] at hj
                obtain ⟨v, h3, h4, _⟩ := hz i y j z hy hj
                simpa [h3] using h4
              · obtain ⟨y, hy, rfl⟩ := hget i x hx
                rw [argAV_cells (hyp i y hy).1] at hj
                obtain ⟨v, h3, _, h5⟩ := hz i y j z hy hj
                simpa [h3] using h5
      | struct fs =>
        simp only [List.all_eq_true] at hok
        obtain ⟨ps, n', hn', rfl, hcl, hpl, hf⟩ := DataW.trod_struct hu h
        obtain rfl : k = n' := by omega
        simp only [laysT, Bool.and_eq_true, beq_iff_eq] at hla
        obtain ⟨hsum, hoff⟩ := reach_sum P fs.toList 0 _ hla.2
        obtain ⟨ys, hyl, hyp⟩ := exists_list (fun i ys => ∀ f, fs[i]? = some f → Sh P k f.type ys ∧ RelL w ((cs.drop f.offset).take (P.cellsOf f.type)) ys ∧ ∀ p, ps[i]? = some p → BulkOk P f.type ys p.1) fs.size (fun i hi => by
          have hfi : fs[i]? = some fs[i] := Array.getElem?_eq_getElem hi
          have hx : ps[i]? = some ps[i] := List.getElem?_eq_getElem (by omega)
          have := hf i _ hfi
          rw [hx] at this
          obtain ⟨ys, h1, h2, h3⟩ := ih _ _ _ (List.contains_iff_mem.1 (hok fs[i] (by simp))) this
          exact ⟨ys, fun f hff => by rw [hfi] at hff; cases hff; exact ⟨h1, h2, fun p hp => by rw [hx] at hp; cases hp; exact h3⟩⟩)
        have hbk : ∀ B : Bulk H, bulkL ys.flatten ≤ B.l (ps.map (·.1)) := fun B => bulk_flat B ys ps (by omega) (fun i y p hy hp => by
          have hi : i < fs.size := by have := (List.getElem?_eq_some_iff.1 hy).1; omega
          exact (((hyp i y hy fs[i] (Array.getElem?_eq_getElem hi)).2.2 p hp) B).1)
        refine ⟨ys.flatten, by simp only [Sh, hu]; exact ⟨ys, rfl, hyl, fun i f y hfi hy => (hyp i y hy f hfi).1⟩, ?_, fun B => by
          have := hbk B
          simp only [argAV, hu, bulk_agg, B.agg]
          omega⟩
        have hg := glue (w := w) (cs := cs) (fs.toList.map fun f => P.cellsOf f.type) ys 0 (by simp [hyl]) (by omega) (fun i c y hi hy => by
          rw [List.getElem?_map] at hi
          cases hfi : fs.toList[i]? with
          | none => simp [hfi] at hi
          | some f =>
            simp only [hfi, Option.map_some, Option.some.injEq] at hi
            rw [← hoff i f hfi, ← hi]
            exact (hyp i y hy f (by simpa using hfi)).2.1)
        rw [List.drop_zero, List.take_of_length_le (by omega)] at hg
        exact hg
      | array m e =>
        simp only [laysT, Bool.and_eq_true, decide_eq_true_eq, beq_iff_eq] at hla
        obtain ⟨ps, n', hn', rfl, hcl, hpl, hE⟩ := DataW.trod_array hu h
        obtain rfl : k = n' := by omega
        have hok := List.contains_iff_mem.1 hok
        obtain ⟨ys, hyl, hyp⟩ := exists_list (fun i ys => Sh P k e ys ∧ RelL w ((cs.drop (i * P.cellsOf e)).take (P.cellsOf e)) ys ∧ ∀ p, ps[i]? = some p → BulkOk P e ys p.1) m (fun i hi => by
          have := hE i hi
          have hx : ps[i]? = some ps[i] := List.getElem?_eq_getElem (by omega)
          rw [hx] at this
          obtain ⟨ys, h1, h2, h3⟩ := ih e _ _ hok this
          exact ⟨ys, h1, h2, fun p hp => by rw [hx] at hp; cases hp; exact h3⟩)
        have hmem : ∀ y, y ∈ ys → Sh P k e y := fun y hy => by
          obtain ⟨i, hi⟩ := List.getElem?_of_mem hy
          exact (hyp i y hi).1
        have hbk : ∀ B : Bulk H, bulkL ys.flatten ≤ B.l (ps.map (·.1)) := fun B => bulk_flat B ys ps (by omega) (fun i y p hy hp => (((hyp i y hy).2.2 p hp) B).1)
        refine ⟨ys.flatten, by simp only [Sh, hu]; exact ⟨ys, rfl, hyl, hmem⟩, ?_, fun B => by
          have := hbk B
          simp only [argAV, hu, bulk_agg, B.agg]
          omega⟩
        · have hg := glue (w := w) (cs := cs) (List.replicate m (P.cellsOf e)) ys 0 (by simp [hyl]) (by simp; omega) (fun i c y hi hy => by
            have him : i < m := by have := (List.getElem?_eq_some_iff.1 hi).1; simpa using this
            have hc : c = P.cellsOf e := by
              rw [List.getElem?_replicate, if_pos him] at hi
              exact (Option.some.inj hi).symm
            rw [List.take_replicate, List.sum_replicate_nat, Nat.min_eq_left (by omega), hc, Nat.zero_add]
            exact (hyp i y hy).2.1)
          rw [List.drop_zero, List.sum_replicate_nat, List.take_of_length_le (by omega)] at hg
          exact hg
      | _ => simp at hok
theorem cell_one {t : TypeId} {v : Value} {r : Reach} {base : Nat} (h : Cell.okWide P w r base t v) : v.oneCell' = true := by
  cases v with
  | agg cs =>
    unfold Cell.okWide Cell.ok at h
    cases hu : P.underlying t with
    | none => simp [hu] at h
    | some d => cases d <;> simp [hu] at h
  | tuple cs =>
    unfold Cell.okWide Cell.ok at h
    cases hu : P.underlying t with
    | none => simp [hu] at h
    | some d => cases d <;> simp [hu] at h
  | _ => rfl
theorem arg_rel {t : TypeId} {v : Value} {xs : List AV} {r : Reach} {base : Nat} (hval : Value.okWide P w r base t v) (h : RelL w v.cells.toList xs) : Rel (fun _ => False) w v (argAV P t xs) := by
  unfold Value.okWide at hval
  unfold argAV
  have one : v.oneCell' = true → Rel (fun _ => False) w v (xs.headD .any) := fun h1 => by
    have hc : v.cells = #[v] := by cases v <;> first | rfl | cases h1
    rw [hc] at h
    obtain ⟨hl, hr⟩ := h
    obtain ⟨x, rfl⟩ := List.length_eq_one_iff.1 (show xs.length = 1 by simpa using hl)
    exact (hr 0 v x rfl rfl).2
  split at hval
  · rename_i fs hu
    obtain ⟨cs, rfl, _⟩ := hval
    rw [hu]
    exact .agg cs xs (by simpa [Value.cells] using h.1.symm) (fun j u hj => by
      have hlt := (Array.getElem?_eq_some_iff.1 hj).1
      have hx : xs[j]? = some (xs[j]'(by rw [h.1]; simpa [Value.cells] using hlt)) := List.getElem?_eq_getElem _
      exact (h.2 j u _ (by simpa [Value.cells] using hj) hx).1) (fun j u y hj hy => (h.2 j u y (by simpa [Value.cells] using hj) hy).2)
  · rename_i m e hu
    obtain ⟨cs, rfl, _⟩ := hval
    rw [hu]
    exact .agg cs xs (by simpa [Value.cells] using h.1.symm) (fun j u hj => by
      have hlt := (Array.getElem?_eq_some_iff.1 hj).1
      have hx : xs[j]? = some (xs[j]'(by rw [h.1]; simpa [Value.cells] using hlt)) := List.getElem?_eq_getElem _
      exact (h.2 j u _ (by simpa [Value.cells] using hj) hx).1) (fun j u y hj hy => (h.2 j u y (by simpa [Value.cells] using hj) hy).2)
  · rename_i h1 h2
    have : (match P.underlying t with | some (.struct _) | some (.array _ _) => AV.agg xs | _ => xs.headD .any) = xs.headD .any := by
      split
      · rename_i hu; exact absurd hu (h1 _)
      · rename_i hu; exact absurd hu (h2 _ _)
      · rfl
    rw [this]
    exact one (cell_one hval)
inductive Args (P : Program) : List TypeId → List AV → Prop
  | nil : Args P [] []
  | cons (t : TypeId) (ts : List TypeId) (xs : List AV) (ar : List AV) (n : Nat) (h : Sh P n t xs) (hr : Args P ts ar) : Args P (t :: ts) (argAV P t xs :: ar)
theorem args_of (hl : lays P = true) {S : List TypeId} (hS : okS P S = true) {r : Reach} {base : Nat} : ∀ (ts : List TypeId) (vs : List Value) (ds : List (DataW H)) (ps : List MemPlace), (∀ t ∈ ts, t ∈ S) → DataW.TrodAll enc P w 0 sp true ts vs ds ps →
    (∀ (j : Nat) t v, ts[j]? = some t → vs[j]? = some v → Value.okWide P w r base t v) → ∃ ar, Args P ts ar ∧ (∀ B : Bulk H, bulkL ar ≤ B.l ds) ∧ vs.length = ar.length ∧ ∀ (j : Nat) (v : Value) (y : AV), vs[j]? = some v → ar[j]? = some y → Rel (fun _ => False) w v y
  | [], vs, ds, ps, _, h, _ => by
    obtain ⟨rfl, rfl, rfl⟩ := trodAll_nil h
    exact ⟨[], .nil, fun B => by simp [bulkL], rfl, fun j v y hv => by simp at hv⟩
  | t :: ts, vs, ds, ps, hok, h, hval => by
    obtain ⟨v, vs', d, ds', p, q, rfl, rfl, rfl, ⟨n, h1⟩, h2⟩ := trodAll_cons h
    obtain ⟨xs, hx, hr, hb⟩ := trod_sh hl hS n t _ _ (hok t (List.mem_cons_self ..)) h1
    obtain ⟨ar, ha, hba, hal, har⟩ := args_of hl hS ts vs' ds' q (fun u hu => hok u (List.mem_cons_of_mem _ hu)) h2 (fun j u z hu hz => hval (j + 1) u z (by simpa using hu) (by simpa using hz))
    refine ⟨argAV P t xs :: ar, .cons t ts xs ar n hx ha, fun B => by rw [B.cons, bulkL]; have := hba B; have := (hb B).2; simp only at this; omega, by simp [hal], fun j u y hu hy => ?_⟩
    cases j with
    | zero =>
      simp only [List.getElem?_cons_zero, Option.some.injEq] at hu hy
      rw [← hu, ← hy]
      exact arg_rel (hval 0 t v rfl rfl) hr
    | succ j => exact har j u y (by simpa using hu) (by simpa using hy)
end
end Go.Aw
namespace Go.Aw
open Go.WideShapes Go.ChangeShapes Go.RowKit
section
variable {H : Type} {enc : TypeId × Value → H} {P : Program}
theorem law_contract {f : Func} {fid : FuncId} {s : ChangeSpec} {tb : TypeId} {S : List TypeId} (hl : lays P = true) (hS : okS P S = true) (hts : f.params.toList.all (fun t => S.contains t) = true) (hvars : s.vars = [])
    (hfn : ∀ ds : List (DataW H), ds.length = f.params.size → s.fn H ds = { results := [.lit (.bool true)], args := ds }) (hres : f.resultTypes = #[tb]) (hub : P.underlying tb = some .bool)
    (W : World) (base : Nat) (args : Array Value) (ds gs : List (DataW H)) (before : List MemPlace) (law : ∀ ar, Args P f.params.toList ar → (∀ B : Bulk H, bulkL ar ≤ B.l (ds ++ gs)) → PureC P fid ar (.bool true))
    (hval : ∀ (j : Nat) t v, f.params[j]? = some t → args[j]? = some v → Value.okWide P W .any base t v)
    (hW : DataW.Whole enc P f.params.toList s.vars false W args.toList ds gs before) :
    Calls P fid args W fun e W' => ∃ v, e = .returned v ∧ s.post enc P f false true false false W args v W' := by
  have hW' := hW
  obtain ⟨p, q, hA, hV, rfl, hfz, hnd⟩ := hW
  rw [hvars] at hV
  obtain ⟨rfl, rfl⟩ := trodVars_none hV
  simp only [List.append_nil] at hW' hfz hnd
  have hok : ∀ t ∈ f.params.toList, t ∈ S := fun t ht => List.contains_iff_mem.1 (List.all_eq_true.1 hts t ht)
  obtain ⟨ar, hargs, hbk, hal, har⟩ := args_of hl hS f.params.toList args.toList ds p hok hA (fun j t v ht hv => hval j t v (by simpa using ht) (by simpa using hv))
  have hlt : ∀ t ∈ f.params.toList, t < P.types.size := fun t ht => by
    have := List.all_eq_true.1 hS t (hok t ht)
    simp only [okOne, Bool.and_eq_true, decide_eq_true_eq] at this
    exact this.1
  have hdl : ds.length = f.params.size := by
    have : ∀ (ts : List TypeId) (vs : List Value) (ds : List (DataW H)) (ps : List MemPlace), DataW.TrodAll enc P W 0 (fun _ => true) true ts vs ds ps → ds.length = ts.length := by
      intro ts
      induction ts with
      | nil => intro vs ds ps h; obtain ⟨_, rfl, _⟩ := trodAll_nil h; rfl
      | cons t ts ih =>
        intro vs ds ps h
        obtain ⟨_, _, _, _, _, _, _, rfl, _, _, h2⟩ := trodAll_cons h
        simp [ih _ _ _ h2]
    simpa using this _ _ _ _ hA
  refine (law ar hargs (fun B => by simpa using hbk B) (fun _ => False) args W (by simpa using hal) (fun j v y hv hy => (har j v y (by simpa using hv) hy).mono (Grow.refl _ _) (fun b _ hb => hb.elim (fun f => f) (fun h => by simp [Own.has] at h))) ⟨fun e he => by simp at he, List.nodup_nil, fun b hb => by simp [Own.has] at hb, fun b hb => hb.elim⟩).mono ?_
  rintro e W' ⟨r, own', ⟨rfl, rfl⟩, ⟨v, rfl, hv⟩, _, hg, _⟩
  cases hv
  have hb : Below W.heap.size W W' := ⟨hg.os, hg.tape, hg.out, hg.sz, fun b hb => hg.same b hb (fun h => by simp [Own.has] at h)⟩
  have hps : ∀ x ∈ p, x.block < W.heap.size := fun x hx => hW'.lt x hx
  have again : ∀ sp : Nat → Bool, (∀ x ∈ p, sp x.block = true) → DataW.TrodAll enc P W' 0 sp true f.params.toList args.toList ds p := fun sp hsp =>
    all_spare hl _ _ _ _ hlt hA hsp (fun x hx => hb.same (hps x hx))
  have hfn' := hfn ds hdl
  have res : ∀ (b : Nat) (sp : Nat → Bool) (hd : Bool), DataW.TrodAll enc P W' b sp hd f.resultTypes.toList ((Value.bool true).resultList f.resultTypes.size) (s.fn H (ds ++ [])).results [] := fun b sp hd => by
    rw [List.append_nil, hfn', hres]
    exact trodAll_cons_mk (shut_bool hub true) trodAll_mk0
  have arg : ∀ sp : Nat → Bool, (∀ x ∈ p, sp x.block = true) → DataW.TrodAll enc P W' 0 sp true f.params.toList args.toList (s.fn H (ds ++ [])).args p := fun sp hsp => by
    rw [List.append_nil, hfn']
    exact again sp hsp
  have vr : ∀ sp : Nat → Bool, DataW.TrodVars enc P W' sp s.vars (s.fn H (ds ++ [])).vars [] := fun sp => by
    rw [hvars, List.append_nil, hfn']
    rfl
  refine ⟨_, rfl, ds, [], p, [], p, [], hW', res _ _ _, arg _ (fun x hx => by simpa using hps x hx), vr _, hb.frame _, fun _ => ?_⟩
  refine ⟨ok_one hres rfl (okWide_bool_mk hub _), _, _, ([] ++ p) ++ [], ⟨[] ++ p, [], trodAll_append (arg _ (fun _ _ => rfl)) (res _ _ _), vr _, rfl, ?_, ?_⟩, ?_⟩
  · intro b off hp
    have hp' : MemPlace.cell b off ∈ p := by simpa using hp
    rw [hb.frozen (p := ⟨b, off, none⟩) (hps _ hp')]
    exact hfz b off hp'
  · intro ha
    simpa using hnd ha
  · intro x hp _
    simpa using hp
end
end Go.Aw
namespace Go.Aw
section
variable {P : Program} {k : Nat} {t : TypeId} {xs : List AV}
theorem sh_int {q : IntKind} (hu : P.underlying t = some (.int q)) (h : Sh P (k + 1) t xs) : ∃ n, xs = [.int q n] ∧ (Lit.int q n).wf = true := by simpa only [Sh, hu] using h
theorem sh_bool (hu : P.underlying t = some .bool) (h : Sh P (k + 1) t xs) : ∃ b, xs = [.bool b] := by simpa only [Sh, hu] using h
theorem sh_slice {e : TypeId} (hu : P.underlying t = some (.slice e)) (h : Sh P (k + 1) t xs) : ∃ ys : List (List AV), xs = [.sl (ys.map (argAV P e))] ∧ ys.length ≤ maxLen ∧ ∀ y, y ∈ ys → Sh P k e y := by simpa only [Sh, hu] using h
theorem arg_int {q : IntKind} (hu : P.underlying t = some (.int q)) {x : AV} : argAV P t [x] = x := by simp [argAV, hu]
theorem arg_bool (hu : P.underlying t = some .bool) {x : AV} : argAV P t [x] = x := by simp [argAV, hu]
theorem arg_slice {e : TypeId} (hu : P.underlying t = some (.slice e)) {x : AV} : argAV P t [x] = x := by simp [argAV, hu]
theorem args_nil {ar : List AV} (h : Args P [] ar) : ar = [] := by cases h; rfl
theorem args_cons {ts : List TypeId} {ar : List AV} (h : Args P (t :: ts) ar) : ∃ xs ar' n, ar = argAV P t xs :: ar' ∧ Sh P n t xs ∧ Args P ts ar' := by
  cases h with
  | cons _ _ xs ar' n h hr => exact ⟨xs, ar', n, rfl, h, hr⟩
theorem sh_zero (h : Sh P 0 t xs) : False := h
theorem rdl {α : Type} {f : α → List AV} {g : α → AV} {ok : α → Prop} {e : TypeId} {n : Nat} (hu : P.underlying t = some (.slice e)) (hg : ∀ a, argAV P e (f a) = g a)
    (H : ∀ m, m < n + 1 → ∀ y, Sh P m e y → ∃ a, y = f a ∧ ok a) (h : Sh P (n + 1) t xs) : ∃ l : List α, xs = [.sl (l.map g)] ∧ ∀ a, a ∈ l → ok a := by
  obtain ⟨ys, rfl, hlen, hy⟩ := sh_slice hu h
  have : ∃ l : List α, ys = l.map f ∧ ∀ a, a ∈ l → ok a := by
    clear h hlen
    induction ys with
    | nil => exact ⟨[], rfl, fun a ha => by simp at ha⟩
    | cons y ys ih =>
      obtain ⟨a, rfl, oa⟩ := H n (by omega) y (hy y (List.mem_cons_self ..))
      obtain ⟨l, rfl, ol⟩ := ih (fun z hz => hy z (List.mem_cons_of_mem _ hz))
      exact ⟨a :: l, rfl, fun b hb => by rcases List.mem_cons.1 hb with rfl | hb; exact oa; exact ol b hb⟩
  obtain ⟨l, rfl, ol⟩ := this
  refine ⟨l, ?_, ol⟩
  rw [List.map_map]
  congr 2
  exact List.map_congr_left fun a _ => hg a
theorem rng_u64 {n : Int} (h : (Lit.int .u64 n).wf = true) : 0 ≤ n ∧ n ≤ 18446744073709551615 := by simpa [Lit.wf, IntKind.min, IntKind.max, IntKind.signed, IntKind.bits] using h
end
end Go.Aw
set_option maxRecDepth 100000
namespace Go.Proofs.Lex
open Go.Aw
theorem rd38 : ∀ (n : Nat) (xs : List AV), Sh Tryd.prog n 38 xs → ∃ a : Int, xs = [.int .u64 a] ∧ (0 ≤ a ∧ a ≤ 18446744073709551615) := by
  intro n xs h
  cases n with
  | zero => exact (sh_zero h).elim
  | succ n =>
    obtain ⟨a, rfl, w⟩ := sh_int Tryd.underlying38 h
    exact ⟨a, rfl, rng_u64 w⟩
theorem rd36 : ∀ (n : Nat) (xs : List AV), Sh Tryd.prog n 36 xs → ∃ a : List Int, xs = [.sl (List.map (AV.int .u64) a)] ∧ (∀ a1, a1 ∈ a → 0 ≤ a1 ∧ a1 ≤ 18446744073709551615) := by
  intro n xs h
  cases n with
  | zero => exact (sh_zero h).elim
  | succ n => exact rdl (f := fun a => [.int .u64 a]) (g := fun a => .int .u64 a) (ok := fun a => 0 ≤ a ∧ a ≤ 18446744073709551615) Tryd.underlying36 (fun a => arg_int Tryd.underlying38) (fun m hm y hy => rd38 m y hy) h
theorem rd4 : ∀ (n : Nat) (xs : List AV), Sh Tryd.prog n 4 xs → ∃ a : Bool, xs = [.bool a] ∧ True := by
  intro n xs h
  cases n with
  | zero => exact (sh_zero h).elim
  | succ n =>
    obtain ⟨a, rfl⟩ := sh_bool Tryd.underlying4 h
    exact ⟨a, rfl, trivial⟩
end Go.Proofs.Lex
namespace Go.Proofs.Lex
open Go.Aw
theorem law9 (a0 : List Int) (o0 : ∀ a1, a1 ∈ a0 → 0 ≤ a1 ∧ a1 ≤ 18446744073709551615) (a1 : Bool) (o1 : True) : PureC Tryd.prog 9 [.sl (List.map (AV.int .u64) a0), .bool a1] (.bool true) := c9 8388608 a0 a1 true (s9_true fun x hx => (o0 x hx).1)
end Go.Proofs.Lex
