/- For every argument, estoppellaw06.LexerMatchesReference returns true and leaves its arguments as they were, where the listed package variables hold what the program's text lays into them. (Part 3 of what its proof rests on.) -/
import Derived.Shelf.Strings.Search1
import Derived.KernelRfl
import Derived.Test.YtjapnjlkhljhbaaDoorProg
import Derived.Test.YtjapnjlkhljhbaaDoorPb
set_option linter.unusedSimpArgs false
set_option linter.unusedVariables false
set_option linter.deprecated false
namespace Go.Proofs
def Tryd.ren217 : Go.Shelf.Ren where
  f := fun x => match x with
    | 217 => 39
    | 266 => 46
    | n => n
  t := fun n => n
  g := fun n => n
theorem Tryd.lays217 : Go.Proofs.Lays.n217 Go.Proofs.Tryd.prog Go.Proofs.Tryd.ren217 :=
  { mixed := Eq.refl true,
    f217 := Eq.trans Go.Proofs.Tryd.func39 (congrArg some (Eq.refl (Go.Proofs.Body.n217 Go.Proofs.Tryd.ren217))),
    f266 := Eq.trans Go.Proofs.Tryd.func46 (congrArg some (Eq.refl (Go.Proofs.Body.n266 Go.Proofs.Tryd.ren217))),
    t3 := Go.Proofs.Tryd.underlying3, a3 := Go.Proofs.Tryd.isAgg3, z3 := Go.Proofs.Tryd.sizeOf3, v3 := Go.Proofs.Tryd.zeroValue3,
    t5 := Go.Proofs.Tryd.underlying5, a5 := Go.Proofs.Tryd.isAgg5, z5 := Go.Proofs.Tryd.sizeOf5, v5 := Go.Proofs.Tryd.zeroValue5,
    t9 := Go.Proofs.Tryd.underlying9, a9 := Go.Proofs.Tryd.isAgg9, z9 := Go.Proofs.Tryd.sizeOf9, v9 := Go.Proofs.Tryd.zeroValue9 }
end Go.Proofs
namespace Go.Aw
theorem pure_si {P : Program} {f : FuncId} {l : List UInt8} {k : IntKind} {c : Int} {v : Value} {x : AV} (h : ∀ w, Calls P f #[.string ⟨l.toArray⟩, .int k c] w fun e w' => e = .returned v ∧ w' = w) (hx : ∀ F w, Rel F w v x) : PureC P f [.str l, .int k c] x := by
  intro fr vs w hs hr hok
  have hv : vs = #[.string ⟨l.toArray⟩, .int k c] := by
    have hs : vs.size = 2 := hs
    have h0 := hr 0 vs[0] _ (Array.getElem?_eq_getElem (by omega)) rfl
    have h1 := hr 1 vs[1] _ (Array.getElem?_eq_getElem (by omega)) rfl
    apply Array.ext
    · simpa using hs
    · intro i hi hi'
      have : i = 0 ∨ i = 1 := by simp at hi'; omega
      rcases this with rfl | rfl
      · generalize vs[0] = a at h0
        cases h0; rfl
      · generalize vs[1] = a at h1
        cases h1; rfl
  subst hv
  refine (h w).mono ?_
  rintro e w' ⟨rfl, rfl⟩
  exact ⟨.val x, [], ⟨rfl, rfl⟩, ⟨v, rfl, hx _ _⟩, hok, Grow.refl _ _, fun b hb => .inl hb⟩
end Go.Aw
namespace Go.Proofs.Lex
open Go.Aw Go.Shelf
theorem c39o (l : List UInt8) (c : Int) (r : Int) (h : some (Lib.indexByte l c.toNat.toUInt8) = some r) : PureC Tryd.prog 39 [.str l, .int .u8 c] (.int .i64 r) := by
  cases h
  exact pure_si (fun w => Any.stringslite_IndexByte Tryd.lays217 ⟨l.toArray⟩ c w) (fun _ _ => .int _ _)
end Go.Proofs.Lex
namespace Go.Proofs.Lex
open Go.Aw
set_option maxRecDepth 100000
attribute [-go_sem] nisA_sl appA_nil
theorem mixed : Tryd.prog.follows .mixedOrders = true := by kernel_rfl
end Go.Proofs.Lex
namespace Go.Proofs.Lex
open Go.Aw
set_option maxRecDepth 100000
attribute [-go_sem] nisA_sl appA_nil
structure Token where
  Kind : Int
  Text : List UInt8
  N : Int
  At : Int
  deriving Inhabited, DecidableEq
def Token.cs (x : Token) : List AV := [.int .i64 x.Kind, .str x.Text, .int .i64 x.N, .int .i64 x.At]
def Token.av (x : Token) : AV := .agg x.cs
theorem Token.cs_eq (x : Token) : Token.cs x = [.int .i64 x.Kind, .str x.Text, .int .i64 x.N, .int .i64 x.At] := rfl
theorem Token.len {x : Token} : (Token.cs x).length = 4 := by rw [Token.cs_eq]; rfl
theorem Token.all {x : Token} : List.take 4 (Token.cs x) = Token.cs x := by rw [Token.cs_eq]; rfl
theorem Token.dropn {x : Token} : List.drop 4 (Token.cs x) = [] := by rw [Token.cs_eq]; rfl
theorem Token.av_eq {x : Token} : Token.av x = .agg (Token.cs x) := by rfl
theorem Token.g0_1 {x : Token} : List.take 1 (Token.cs x) = [.int .i64 x.Kind] := by rw [Token.cs_eq]; rfl
theorem Token.s0_1 {x : Token} {v : Int} : .int .i64 v :: List.drop 1 (Token.cs x) = Token.cs { x with Kind := v } := by first | (rw [Token.cs_eq, Token.cs_eq]; rfl) | (rw [Token.cs_eq]; rfl) | rw [Token.cs_eq]
theorem Token.g1_1 {x : Token} : List.take 1 (List.drop 1 (Token.cs x)) = [.str x.Text] := by rw [Token.cs_eq]; rfl
theorem Token.s1_1 {x : Token} {v : List UInt8} : .int .i64 x.Kind :: .str v :: List.drop 2 (Token.cs x) = Token.cs { x with Text := v } := by first | (rw [Token.cs_eq, Token.cs_eq]; rfl) | (rw [Token.cs_eq]; rfl) | rw [Token.cs_eq]
theorem Token.g2_1 {x : Token} : List.take 1 (List.drop 2 (Token.cs x)) = [.int .i64 x.N] := by rw [Token.cs_eq]; rfl
theorem Token.s2_1 {x : Token} {v : Int} : List.take 2 (Token.cs x) ++ [.int .i64 v] ++ List.drop 3 (Token.cs x) = Token.cs { x with N := v } := by first | (rw [Token.cs_eq, Token.cs_eq]; rfl) | (rw [Token.cs_eq]; rfl) | rw [Token.cs_eq]
theorem Token.g3_1 {x : Token} : List.take 1 (List.drop 3 (Token.cs x)) = [.int .i64 x.At] := by rw [Token.cs_eq]; rfl
theorem Token.s3_1 {x : Token} {v : Int} : List.take 3 (Token.cs x) ++ [.int .i64 v] = Token.cs { x with At := v } := by first | (rw [Token.cs_eq, Token.cs_eq]; rfl) | (rw [Token.cs_eq]; rfl) | rw [Token.cs_eq]
theorem Token.avl {x : Token} : (Token.av x).cells.length = 4 := by exact Token.len
theorem Token.flen {l : List Token} : (flt Token.av l).length = l.length * 4 := by exact flt_len (fun _ => Token.avl) l
theorem Token.ftake {l : List Token} : List.take (l.length * 4) (flt Token.av l) = flt Token.av l := by exact flt_take (fun _ => Token.avl) l
theorem Token.snoc {l : List Token} {x : Token} : flt Token.av l ++ Token.cs x = flt Token.av (l ++ [x]) := by rw [flt_app, flt_one]; rfl
theorem Token.snocx {l : List Token} {v0 : Int} {v1 : List UInt8} {v2 : Int} {v3 : Int} : flt Token.av l ++ [.int .i64 v0, .str v1, .int .i64 v2, .int .i64 v3] = flt Token.av (l ++ [({ Kind := v0, Text := v1, N := v2, At := v3 } : Token)]) := by rw [flt_app, flt_one]; show _ = _ ++ Token.cs _; rw [Token.cs_eq]
theorem Token.app {l m : List Token} : flt Token.av l ++ flt Token.av m = flt Token.av (l ++ m) := by exact flt_app.symm
theorem Token.allm {l : List Token} : (∀ x, x ∈ List.map Token.av l → x.cells.length = 4) = True := by exact eq_true (fun x hx => by obtain ⟨a, _, rfl⟩ := List.mem_map.1 hx; exact Token.avl)
theorem Token.fget0 {l : List Token} {i c : Nat} (h : i < l.length) (hc : c ≤ 4) : List.take c (List.drop (i * 4) (flt Token.av l)) = List.take c (Token.cs l[i]!) := by exact flt_get (fun _ => Token.avl) l i 0 c h (by omega)
theorem Token.fget {l : List Token} {i o c : Nat} (h : i < l.length) (hc : o + c ≤ 4) : List.take c (List.drop (i * 4 + o) (flt Token.av l)) = List.take c (List.drop o (Token.cs l[i]!)) := by exact flt_get (fun _ => Token.avl) l i o c h hc
theorem Token.fset {l : List Token} {i : Nat} {v : Token} (h : i < l.length) : List.take (i * 4) (flt Token.av l) ++ Token.cs v ++ List.drop (i * 4 + 4) (flt Token.av l) = flt Token.av (l.set i v) := by have := flt_set (f := Token.av) (fun _ => Token.avl) l i 0 4 (Token.cs v) v h (by show List.take 0 (Token.cs _) ++ Token.cs v ++ List.drop (0 + 4) (Token.cs _) = Token.cs v; rw [Nat.zero_add, Token.dropn]; simp) (by omega); exact this
theorem Token.fs0_1 {l : List Token} {i : Nat} {v : Int} (h : i < l.length) : List.take (i * 4) (flt Token.av l) ++ [.int .i64 v] ++ List.drop (i * 4 + 1) (flt Token.av l) = flt Token.av (l.set i { (l[i]!) with Kind := v }) := by exact flt_set (f := Token.av) (fun _ => Token.avl) l i 0 1 _ { (l[i]!) with Kind := v } h (by show List.take 0 (Token.cs l[i]!) ++ _ ++ List.drop (0 + 1) (Token.cs l[i]!) = Token.cs _; rw [Token.cs_eq, Token.cs_eq]; rfl) (by omega)
theorem Token.fs1_1 {l : List Token} {i : Nat} {v : List UInt8} (h : i < l.length) : List.take (i * 4 + 1) (flt Token.av l) ++ [.str v] ++ List.drop (i * 4 + 1 + 1) (flt Token.av l) = flt Token.av (l.set i { (l[i]!) with Text := v }) := by exact flt_set (f := Token.av) (fun _ => Token.avl) l i 1 1 _ { (l[i]!) with Text := v } h (by show List.take 1 (Token.cs l[i]!) ++ _ ++ List.drop (1 + 1) (Token.cs l[i]!) = Token.cs _; rw [Token.cs_eq, Token.cs_eq]; rfl) (by omega)
theorem Token.fs2_1 {l : List Token} {i : Nat} {v : Int} (h : i < l.length) : List.take (i * 4 + 2) (flt Token.av l) ++ [.int .i64 v] ++ List.drop (i * 4 + 2 + 1) (flt Token.av l) = flt Token.av (l.set i { (l[i]!) with N := v }) := by exact flt_set (f := Token.av) (fun _ => Token.avl) l i 2 1 _ { (l[i]!) with N := v } h (by show List.take 2 (Token.cs l[i]!) ++ _ ++ List.drop (2 + 1) (Token.cs l[i]!) = Token.cs _; rw [Token.cs_eq, Token.cs_eq]; rfl) (by omega)
theorem Token.fs3_1 {l : List Token} {i : Nat} {v : Int} (h : i < l.length) : List.take (i * 4 + 3) (flt Token.av l) ++ [.int .i64 v] ++ List.drop (i * 4 + 3 + 1) (flt Token.av l) = flt Token.av (l.set i { (l[i]!) with At := v }) := by exact flt_set (f := Token.av) (fun _ => Token.avl) l i 3 1 _ { (l[i]!) with At := v } h (by show List.take 3 (Token.cs l[i]!) ++ _ ++ List.drop (3 + 1) (Token.cs l[i]!) = Token.cs _; rw [Token.cs_eq, Token.cs_eq]; rfl) (by omega)
theorem Token.eqc {a b : Token} : eqCells [.i, .s, .i, .i] (Token.cs a) (Token.cs b) = some (decide (a = b)) := by cases a; cases b; simp only [eqC_nil, eqC_cons, bndO_some, same_i, same_s, same_b, Token.cs_eq]; rw [Option.some.injEq, Bool.eq_iff_iff]; simp
attribute [go_sem] Token.len Token.all Token.dropn Token.av_eq Token.g0_1 Token.s0_1 Token.g1_1 Token.s1_1 Token.g2_1 Token.s2_1 Token.g3_1 Token.s3_1 Token.flen Token.ftake Token.snoc Token.snocx Token.app Token.allm Token.fget0 Token.fget Token.fset Token.fs0_1 Token.fs1_1 Token.fs2_1 Token.fs3_1 Token.eqc
def lit1 : List UInt8 := [100, 117, 116, 121, 32, 97, 46, 98, 32, 111, 102, 32, 120, 58]
def zr24_0 : List AO := [⟨some 3, none, .mov (.c (.bool false))⟩]
def zr24_1 : List AO := [⟨some 4, none, .load false 1 (.t 1)⟩,
  ⟨some 5, none, .mov (.t 0)⟩,
  ⟨some 6, none, .idxS (.t 4) (.t 5)⟩,
  ⟨some 7, none, .bin .neq (.t 6) (.c (.int .u8 10))⟩,
  ⟨some 3, none, .mov (.t 7)⟩]
def zc24_0 : AC := .seq (.reg zr24_1) .ret
def zc24_1 : AC := .seq (.reg zr24_0) zc24_0
def zc24 : AC := zc24_1
theorem ok24 : Tryd.f24.body.bind (compCode Tryd.prog 8) = some zc24 := by kernel_rfl
theorem nt24 : Tryd.f24.ntmps = 8 := by kernel_rfl
theorem res24 : compRes Tryd.prog Tryd.f24.results.toList = some [.tmp 3] := by kernel_rfl
attribute [go_sem] zr24_0 zr24_1
def s24 (N : Nat) (p1 : Int) (p2 : List UInt8) : Option Bool :=
  grd (0 ≤ p1 ∧ p1 < (List.length p2 : Int)) <|
  some (!decide (((List.getD p2 p1.toNat 0).toNat : Int) = 10))
set_option maxHeartbeats 4000000 in
theorem c24 (N : Nat) (p1 : Int) (p2 : List UInt8) (r : Bool) (h : s24 N p1 p2 = some r) : PureC Tryd.prog 24 [.int .i64 p1, .ref ([.str p2])] (.bool r) := by
 refine fn_intro' 8 Tryd.func24 nt24 ok24 res24 (by simp) fun X hP hn hd hr => ?_
 unfold s24 at h
 repeat refine awp_seq ?_
 refine rg (h := ?_)
 repeat refine awp_seq ?_
 obtain ⟨⟨hg1, hg2⟩, h⟩ := grd_some h
 refine rgf (And.intro (eq_true hg1) (eq_true hg2)) ?_
 obtain rfl := som_inj h
 repeat refine awp_seq ?_
 refine awp_ret ?_
 repeat first | refine then_ret ?_ | refine blk_ret ?_
 exact rtp
def zr23_0 : List AO := [⟨some 6, none, .mov (.c (.int .i64 0))⟩]
def zr23_1 : List AO := [⟨some 7, none, .mov (.t 1)⟩,
  ⟨some 8, none, .mov (.t 0)⟩,
  ⟨some 9, none, .lenS (.t 8)⟩,
  ⟨some 10, none, .bin .lss (.t 7) (.t 9)⟩,
  ⟨some 11, none, .mov (.t 10)⟩,
  ⟨some 12, some (11, true), .mov (.t 2)⟩,
  ⟨some 13, some (11, true), .mov (.t 1)⟩,
  ⟨some 14, some (11, true), .callV (.t 12) [(.t 13)]⟩,
  ⟨some 15, none, .pick (.t 11) (.t 14) (.c (.bool false))⟩]
def zc23_0 : AC := .cond (.t 15) .skip (.exit 0)
def zr23_2 : List AO := [⟨some 16, none, .mov (.t 1)⟩,
  ⟨some 17, none, .bin .add (.t 16) (.c (.int .i64 1))⟩,
  ⟨some 1, none, .mov (.t 17)⟩]
def zc23_1 : AC := .reg zr23_2
def zc23_2 : AC := .block 1 zc23_1
def zc23_3 : AC := .seq (.seq (.reg zr23_1) zc23_0) zc23_2
def zc23_4 : AC := .loop zc23_3
def zr23_3 : List AO := [⟨some 18, none, .mov (.t 1)⟩,
  ⟨some 6, none, .mov (.t 18)⟩]
def zc23_5 : AC := .seq (.reg zr23_3) .ret
def zc23_6 : AC := .seq (.block 0 zc23_4) zc23_5
def zc23_7 : AC := .seq (.reg zr23_0) zc23_6
def zc23 : AC := zc23_7
theorem ok23 : Tryd.f23.body.bind (compCode Tryd.prog 19) = some zc23 := by kernel_rfl
theorem nt23 : Tryd.f23.ntmps = 19 := by kernel_rfl
theorem res23 : compRes Tryd.prog Tryd.f23.results.toList = some [.tmp 6] := by kernel_rfl
theorem okf24 : okF Tryd.prog 24 = true := by kernel_rfl
attribute [go_sem] zr23_0 zr23_2 zr23_3
def s23_b1 (N : Nat) (p1 : List UInt8) (p3 : List UInt8) (x1 : Int) : Option (((Int) ⊕ (Int))) :=
  if x1 < (List.length p1 : Int) then
    (s24 N x1 p3).bind fun x5 =>
    bif x5 then
      some (.inl (IntKind.wrap .i64 (x1 + 1)))
    else
      some (.inr x1)
  else
    some (.inr x1)
def s23 (N : Nat) (p1 : List UInt8) (p2 : Int) (p3 : List UInt8) : Option Int :=
  (iter (fun p => s23_b1 N p1 p3 p) N p2).bind fun a2 =>
  some a2
set_option maxHeartbeats 4000000 in
theorem c23 (N : Nat) (p1 : List UInt8) (p2 : Int) (p3 : List UInt8) (r : Int) (h : s23 N p1 p2 p3 = some r) : PureC Tryd.prog 23 [.str p1, .int .i64 p2, .fn (.func 24) [] [.ref ([.str p3])]] (.int .i64 r) := by
 refine fn_intro' 19 Tryd.func23 nt23 ok23 res23 (by simp) fun X hP hn hd hr => ?_
 unfold s23 at h
 repeat refine awp_seq ?_
 refine rg (h := ?_)
 repeat refine awp_seq ?_
 refine awp_block ?_
 obtain ⟨o2, ho2, hO2⟩ := bnd_some h
 repeat refine awp_seq ?_
 refine awp_loop (ι := {p : Nat × Int // iter (fun p => s23_b1 N p1 p3 p) p.1 p.2 = some o2}) (fun p => [(0, .str p1), (1, .int .i64 p.1.2), (2, .fn (.func 24) [] [.ref ([.str p3])])]) (fun p => []) (fun p => p.1.1) ⟨⟨N, p2⟩, ho2⟩ ?_ ?_
 · refine ent_le' ([]) ([]) ([]) rfl (List.Perm.refl _) ?_ ?_
   · simp -implicitDefEqProofs (disch := first | omega | rfl) only [go_sem, simprocAttr, subF_cons, subF_nil]
     exact ⟨(.keep _), (.keep _), (.fnL .nil (.cons (.keep _) .nil))⟩
   · exact .nil
 rintro ⟨⟨n2, x1⟩, hi2⟩
 obtain ⟨m2, q2, rfl, h, hm2⟩ := iter_some hi2
 try dsimp only at h
 try dsimp only
 unfold s23_b1 at h
 repeat refine awp_seq ?_
 refine awp_reg fun K Q hK hQ => ?_
 rcases ite_some h with ⟨hc4, h⟩ | ⟨hc4, h⟩
 · simp -implicitDefEqProofs (disch := first | omega | rfl) only [go_sem, simprocAttr, zr23_1, hP, hide_P, okf24, eq_true hc4]
   have hh := bnd_some h; clear h; obtain ⟨x5, hx6, h⟩ := hh
   refine call_pure hP (c24 N x1 p3 x5 hx6) ?_
   simp -implicitDefEqProofs (disch := first | omega | rfl) only [go_sem, simprocAttr]
   refine hK _ _ ?_; clear hK hQ K Q
   rcases cnd_some h with ⟨hc7, h⟩ | ⟨hc7, h⟩
   · repeat refine awp_seq ?_
     refine awp_then (by simp -implicitDefEqProofs (disch := first | omega | rfl) only [go_sem, simprocAttr, hc7]) ?_
     repeat refine awp_seq ?_
     refine awp_skip ?_
     repeat refine awp_seq ?_
     refine awp_block ?_
     repeat refine awp_seq ?_
     refine rg (h := ?_)
     obtain rfl := som_inj h
     try dsimp only at hm2
     refine ⟨⟨⟨m2, IntKind.wrap .i64 (x1 + 1)⟩, hm2⟩, Nat.lt_succ_self _, ?_⟩
     refine ent_le' ([]) ([]) ([]) rfl (List.Perm.refl _) ?_ ?_
     · simp -implicitDefEqProofs (disch := first | omega | rfl) only [go_sem, simprocAttr, subF_cons, subF_nil]
       exact ⟨(.keep _), (.keep _), (.fnL .nil (.cons (.keep _) .nil))⟩
     · exact .nil
   repeat refine awp_seq ?_
   refine awp_else (by simp -implicitDefEqProofs (disch := first | omega | rfl) only [go_sem, simprocAttr, hc7]) ?_
   repeat refine awp_seq ?_
   refine awp_exit ?_
   repeat' (first | refine then_exit ?_ | refine exit_here ?_ | refine exit_on rfl ?_)
   obtain rfl := som_inj h
   try dsimp only at hm2
   subst hm2
   try dsimp only at hO2
   repeat refine awp_seq ?_
   refine rg (h := ?_)
   obtain rfl := som_inj hO2
   repeat refine awp_seq ?_
   refine awp_ret ?_
   repeat first | refine then_ret ?_ | refine blk_ret ?_
   exact rtp
 simp -implicitDefEqProofs (disch := first | omega | rfl) only [go_sem, simprocAttr, zr23_1, eq_false hc4]
 refine hK _ _ ?_; clear hK hQ K Q
 repeat refine awp_seq ?_
 refine awp_else (by rfl) ?_
 repeat refine awp_seq ?_
 refine awp_exit ?_
 repeat' (first | refine then_exit ?_ | refine exit_here ?_ | refine exit_on rfl ?_)
 obtain rfl := som_inj h
 try dsimp only at hm2
 subst hm2
 try dsimp only at hO2
 repeat refine awp_seq ?_
 refine rg (h := ?_)
 obtain rfl := som_inj hO2
 repeat refine awp_seq ?_
 refine awp_ret ?_
 repeat first | refine then_ret ?_ | refine blk_ret ?_
 exact rtp
def zr19_0 : List AO := [⟨some 2, none, .box (.t 0)⟩,
  ⟨some 4, none, .mov (.c (.int .i64 0))⟩]
def zr19_1 : List AO := [⟨some 5, none, .mov (.t 1)⟩,
  ⟨some 6, none, .load false 1 (.t 2)⟩,
  ⟨some 7, none, .lenS (.t 6)⟩,
  ⟨some 8, none, .bin .lss (.t 5) (.t 7)⟩]
def zc19_0 : AC := .cond (.t 8) .skip (.exit 0)
def zr19_2 : List AO := [⟨some 9, none, .load false 1 (.t 2)⟩,
  ⟨some 10, none, .mov (.t 1)⟩,
  ⟨some 11, none, .idxS (.t 9) (.t 10)⟩]
def zr19_3 : List AO := [⟨some 14, none, .bin .eql (.t 11) (.c (.int .u8 32))⟩,
  ⟨some 13, none, .mov (.t 14)⟩]
def zr19_4 : List AO := [⟨some 15, none, .bin .eql (.t 11) (.c (.int .u8 9))⟩,
  ⟨some 13, none, .mov (.t 15)⟩]
def zr19_5 : List AO := [⟨some 16, none, .bin .eql (.t 11) (.c (.int .u8 10))⟩,
  ⟨some 13, none, .mov (.t 16)⟩]
def zc19_1 : AC := .reg zr19_5
def zc19_2 : AC := .cond (.t 13) .skip zc19_1
def zc19_3 : AC := .seq (.reg zr19_4) zc19_2
def zc19_4 : AC := .cond (.t 13) .skip zc19_3
def zr19_6 : List AO := [⟨some 17, none, .mov (.t 1)⟩,
  ⟨some 18, none, .bin .add (.t 17) (.c (.int .i64 1))⟩,
  ⟨some 1, none, .mov (.t 18)⟩]
def zc19_5 : AC := .reg zr19_6
def zr19_7 : List AO := [⟨some 20, none, .bin .eql (.t 11) (.c (.int .u8 35))⟩,
  ⟨some 19, none, .mov (.t 20)⟩]
def zr19_8 : List AO := [⟨some 21, none, .load false 1 (.t 2)⟩,
  ⟨some 22, none, .mov (.t 1)⟩,
  ⟨some 23, none, .mkfn (.func 24) [] [(.t 2)]⟩,
  ⟨some 24, none, .callF 23 [(.t 21), (.t 22), (.t 23)]⟩,
  ⟨some 1, none, .mov (.t 24)⟩]
def zc19_6 : AC := .reg zr19_8
def zr19_9 : List AO := [⟨some 12, none, .mov (.t 1)⟩,
  ⟨some 4, none, .mov (.t 12)⟩]
def zc19_7 : AC := .seq (.reg zr19_9) .ret
def zc19_8 : AC := .cond (.t 19) zc19_6 zc19_7
def zc19_9 : AC := .seq (.reg zr19_7) zc19_8
def zc19_10 : AC := .cond (.t 13) zc19_5 zc19_9
def zc19_11 : AC := .seq (.seq (.reg zr19_3) zc19_4) zc19_10
def zc19_12 : AC := .block 2 zc19_11
def zc19_13 : AC := .seq (.reg zr19_2) zc19_12
def zc19_14 : AC := .block 1 zc19_13
def zc19_15 : AC := .seq (.seq (.reg zr19_1) zc19_0) zc19_14
def zc19_16 : AC := .loop zc19_15
def zr19_10 : List AO := [⟨some 25, none, .mov (.t 1)⟩,
  ⟨some 4, none, .mov (.t 25)⟩]
def zc19_17 : AC := .seq (.reg zr19_10) .ret
def zc19_18 : AC := .seq (.block 0 zc19_16) zc19_17
def zc19_19 : AC := .seq (.reg zr19_0) zc19_18
def zc19 : AC := zc19_19
theorem ok19 : Tryd.f19.body.bind (compCode Tryd.prog 26) = some zc19 := by kernel_rfl
theorem nt19 : Tryd.f19.ntmps = 26 := by kernel_rfl
theorem res19 : compRes Tryd.prog Tryd.f19.results.toList = some [.tmp 4] := by kernel_rfl
attribute [go_sem] zr19_1 zr19_10 zr19_2 zr19_3 zr19_4 zr19_5 zr19_6 zr19_7 zr19_9
def s19_k1 (N : Nat) (p1 : List UInt8) (x2 : Int) (x7 : Bool) : Option (((Int) ⊕ (Ou (Int) (Int)))) :=
  bif x7 then
    some (.inl (IntKind.wrap .i64 (x2 + 1)))
  else
    if ((List.getD p1 x2.toNat 0).toNat : Int) = 35 then
      (s23 N p1 x2 p1).bind fun x10 =>
      some (.inl x10)
    else
      some (.inr (.ret x2))
def s19_b2 (N : Nat) (p1 : List UInt8) (x2 : Int) : Option (((Int) ⊕ (Ou (Int) (Int)))) :=
  if x2 < (List.length p1 : Int) then
    grd (0 ≤ x2) <|
    if ((List.getD p1 x2.toNat 0).toNat : Int) = 32 then
      s19_k1 N p1 x2 (decide (((List.getD p1 x2.toNat 0).toNat : Int) = 32))
    else
      if ((List.getD p1 x2.toNat 0).toNat : Int) = 9 then
        s19_k1 N p1 x2 (decide (((List.getD p1 x2.toNat 0).toNat : Int) = 9))
      else
        s19_k1 N p1 x2 (decide (((List.getD p1 x2.toNat 0).toNat : Int) = 10))
  else
    some (.inr (.brk x2))
def s19 (N : Nat) (p1 : List UInt8) (p2 : Int) : Option Int :=
  (iter (fun p => s19_b2 N p1 p) N p2).bind fun o3 => o3.on (fun a3 =>
    some a3)
    (fun a3r => some a3r)
set_option maxHeartbeats 4000000 in
theorem c19 (N : Nat) (p1 : List UInt8) (p2 : Int) (r : Int) (h : s19 N p1 p2 = some r) : PureC Tryd.prog 19 [.str p1, .int .i64 p2] (.int .i64 r) := by
 refine fn_intro' 26 Tryd.func19 nt19 ok19 res19 (by simp) fun X hP hn hd hr => ?_
 unfold s19 at h
 repeat refine awp_seq ?_
 refine awp_reg fun K Q hK hQ => ?_
 simp -implicitDefEqProofs (disch := first | omega | rfl) only [go_sem, simprocAttr, zr19_0, argS]
 intro b1
 refine hK _ _ ?_; clear hK hQ K Q
 repeat refine awp_seq ?_
 refine awp_le' (s' := [(1, .int .i64 p2), (2, .ref ([.str p1]))]) (own' := []) (_ :: []) ([]) (_ :: []) rfl (List.Perm.refl _) ?_ ?_ ?_
 · simp -implicitDefEqProofs (disch := first | omega | rfl) only [go_sem, simprocAttr, subF_cons, subF_nil]
   exact ⟨(.keep _), (frz_ptr (by simp -implicitDefEqProofs (disch := first | omega | rfl) only [go_sem, simprocAttr]))⟩
 · exact .nil
 repeat refine awp_seq ?_
 refine awp_block ?_
 obtain ⟨o3, ho3, hO3⟩ := bnd_some h
 repeat refine awp_seq ?_
 refine awp_loop (ι := {p : Nat × Int // iter (fun p => s19_b2 N p1 p) p.1 p.2 = some o3}) (fun p => [(1, .int .i64 p.1.2), (2, .ref ([.str p1]))]) (fun p => []) (fun p => p.1.1) ⟨⟨N, p2⟩, ho3⟩ ?_ ?_
 · refine ent_le' ([]) ([]) ([]) rfl (List.Perm.refl _) ?_ ?_
   · simp -implicitDefEqProofs (disch := first | omega | rfl) only [go_sem, simprocAttr, subF_cons, subF_nil]
     exact ⟨(.keep _), (.keep _)⟩
   · exact .nil
 rintro ⟨⟨n3, x2⟩, hi3⟩
 obtain ⟨m3, q3, rfl, h, hm3⟩ := iter_some hi3
 try dsimp only at h
 try dsimp only
 unfold s19_b2 at h
 repeat refine awp_seq ?_
 refine rg (h := ?_)
 rcases ite_some h with ⟨hc5, h⟩ | ⟨hc5, h⟩
 · repeat refine awp_seq ?_
   refine awp_then (by simp -implicitDefEqProofs (disch := first | omega | rfl) only [go_sem, simprocAttr, eq_true hc5]) ?_
   repeat refine awp_seq ?_
   refine awp_skip ?_
   repeat refine awp_seq ?_
   refine awp_block ?_
   repeat refine awp_seq ?_
   obtain ⟨hg6, h⟩ := grd_some h
   refine rgf (And.intro (eq_true hc5) (eq_true hg6)) ?_
   repeat refine awp_seq ?_
   refine awp_block ?_
   repeat refine awp_seq ?_
   refine rg (h := ?_)
   repeat refine awp_seq ?_
   refine awp_cut (ι := {p : Bool // s19_k1 N p1 x2 p = some q3}) (fun p => [(1, .int .i64 x2), (2, .ref ([.str p1])), (11, .int .u8 ((List.getD p1 x2.toNat 0).toNat : Int)), (13, .bool p.1)]) (fun p => []) ?_ ?_
   · rcases ite_some h with ⟨hc12, h⟩ | ⟨hc12, h⟩
     · repeat refine awp_seq ?_
       refine awp_then (by simp -implicitDefEqProofs (disch := first | omega | rfl) only [go_sem, simprocAttr, eq_true hc12]) ?_
       repeat refine awp_seq ?_
       refine awp_skip ?_
       refine ⟨⟨decide (((List.getD p1 x2.toNat 0).toNat : Int) = 32), h⟩, ?_⟩
       refine ent_le' ([]) ([]) ([]) rfl (List.Perm.refl _) ?_ ?_
       · simp -implicitDefEqProofs (disch := first | omega | rfl) only [go_sem, simprocAttr, subF_cons, subF_nil]
         exact ⟨(.keep _), (.keep _), (.keep _), (.keep _)⟩
       · exact .nil
     repeat refine awp_seq ?_
     refine awp_else (by simp -implicitDefEqProofs (disch := first | omega | rfl) only [go_sem, simprocAttr, eq_false hc12]) ?_
     repeat refine awp_seq ?_
     refine rg (h := ?_)
     rcases ite_some h with ⟨hc13, h⟩ | ⟨hc13, h⟩
     · repeat refine awp_seq ?_
       refine awp_then (by simp -implicitDefEqProofs (disch := first | omega | rfl) only [go_sem, simprocAttr, eq_true hc13]) ?_
       repeat refine awp_seq ?_
       refine awp_skip ?_
       refine ⟨⟨decide (((List.getD p1 x2.toNat 0).toNat : Int) = 9), h⟩, ?_⟩
       refine ent_le' ([]) ([]) ([]) rfl (List.Perm.refl _) ?_ ?_
       · simp -implicitDefEqProofs (disch := first | omega | rfl) only [go_sem, simprocAttr, subF_cons, subF_nil]
         exact ⟨(.keep _), (.keep _), (.keep _), (.keep _)⟩
       · exact .nil
     repeat refine awp_seq ?_
     refine awp_else (by simp -implicitDefEqProofs (disch := first | omega | rfl) only [go_sem, simprocAttr, eq_false hc13]) ?_
     repeat refine awp_seq ?_
     refine rg (h := ?_)
     refine ⟨⟨decide (((List.getD p1 x2.toNat 0).toNat : Int) = 10), h⟩, ?_⟩
     refine ent_le' ([]) ([]) ([]) rfl (List.Perm.refl _) ?_ ?_
     · simp -implicitDefEqProofs (disch := first | omega | rfl) only [go_sem, simprocAttr, subF_cons, subF_nil]
       exact ⟨(.keep _), (.keep _), (.keep _), (.keep _)⟩
     · exact .nil
   rintro ⟨x7, h⟩
   try dsimp only at h
   try dsimp only
   rcases cnd_some h with ⟨hc8, h⟩ | ⟨hc8, h⟩
   · repeat refine awp_seq ?_
     refine awp_then (by simp -implicitDefEqProofs (disch := first | omega | rfl) only [go_sem, simprocAttr, hc8]) ?_
     repeat refine awp_seq ?_
     refine rg (h := ?_)
     obtain rfl := som_inj h
     try dsimp only at hm3
     refine ⟨⟨⟨m3, IntKind.wrap .i64 (x2 + 1)⟩, hm3⟩, Nat.lt_succ_self _, ?_⟩
     refine ent_le' ([]) ([]) ([]) rfl (List.Perm.refl _) ?_ ?_
     · simp -implicitDefEqProofs (disch := first | omega | rfl) only [go_sem, simprocAttr, subF_cons, subF_nil]
       exact ⟨(.keep _), (.keep _)⟩
     · exact .nil
   repeat refine awp_seq ?_
   refine awp_else (by simp -implicitDefEqProofs (disch := first | omega | rfl) only [go_sem, simprocAttr, hc8]) ?_
   repeat refine awp_seq ?_
   refine rg (h := ?_)
   rcases ite_some h with ⟨hc9, h⟩ | ⟨hc9, h⟩
   · repeat refine awp_seq ?_
     refine awp_then (by simp -implicitDefEqProofs (disch := first | omega | rfl) only [go_sem, simprocAttr, eq_true hc9]) ?_
     repeat refine awp_seq ?_
     refine awp_reg fun K Q hK hQ => ?_
     simp -implicitDefEqProofs (disch := first | omega | rfl) only [go_sem, simprocAttr, zr19_8]
     have hh := bnd_some h; clear h; obtain ⟨x10, hx11, h⟩ := hh
     refine call_pure hP (c23 N p1 x2 p1 x10 hx11) ?_
     simp -implicitDefEqProofs (disch := first | omega | rfl) only [go_sem, simprocAttr]
     refine hK _ _ ?_; clear hK hQ K Q
     obtain rfl := som_inj h
     try dsimp only at hm3
     refine ⟨⟨⟨m3, x10⟩, hm3⟩, Nat.lt_succ_self _, ?_⟩
     refine ent_le' ([]) ([]) ([]) rfl (List.Perm.refl _) ?_ ?_
     · simp -implicitDefEqProofs (disch := first | omega | rfl) only [go_sem, simprocAttr, subF_cons, subF_nil]
       exact ⟨(.keep _), (.keep _)⟩
     · exact .nil
   repeat refine awp_seq ?_
   refine awp_else (by simp -implicitDefEqProofs (disch := first | omega | rfl) only [go_sem, simprocAttr, eq_false hc9]) ?_
   repeat refine awp_seq ?_
   refine rg (h := ?_)
   obtain rfl := som_inj h
   try dsimp only at hm3
   subst hm3
   simp only [Ou.on_ret] at hO3
   obtain rfl := som_inj hO3
   repeat refine awp_seq ?_
   refine awp_ret ?_
   repeat first | refine then_ret ?_ | refine blk_ret ?_
   exact rtp
 repeat refine awp_seq ?_
 refine awp_else (by simp -implicitDefEqProofs (disch := first | omega | rfl) only [go_sem, simprocAttr, eq_false hc5]) ?_
 repeat refine awp_seq ?_
 refine awp_exit ?_
 repeat' (first | refine then_exit ?_ | refine exit_here ?_ | refine exit_on rfl ?_)
 obtain rfl := som_inj h
 try dsimp only at hm3
 subst hm3
 simp only [Ou.on_brk] at hO3
 repeat refine awp_seq ?_
 refine rg (h := ?_)
 obtain rfl := som_inj hO3
 repeat refine awp_seq ?_
 refine awp_ret ?_
 repeat first | refine then_ret ?_ | refine blk_ret ?_
 exact rtp
structure LexerFault where
  err_ : Int
  at_ : Int
  deriving Inhabited, DecidableEq
def LexerFault.cs (x : LexerFault) : List AV := [.int .i64 x.err_, .int .i64 x.at_]
def LexerFault.av (x : LexerFault) : AV := .agg x.cs
theorem LexerFault.cs_eq (x : LexerFault) : LexerFault.cs x = [.int .i64 x.err_, .int .i64 x.at_] := rfl
theorem LexerFault.len {x : LexerFault} : (LexerFault.cs x).length = 2 := by rw [LexerFault.cs_eq]; rfl
theorem LexerFault.all {x : LexerFault} : List.take 2 (LexerFault.cs x) = LexerFault.cs x := by rw [LexerFault.cs_eq]; rfl
theorem LexerFault.dropn {x : LexerFault} : List.drop 2 (LexerFault.cs x) = [] := by rw [LexerFault.cs_eq]; rfl
theorem LexerFault.av_eq {x : LexerFault} : LexerFault.av x = .agg (LexerFault.cs x) := by rfl
theorem LexerFault.g0_1 {x : LexerFault} : List.take 1 (LexerFault.cs x) = [.int .i64 x.err_] := by rw [LexerFault.cs_eq]; rfl
theorem LexerFault.s0_1 {x : LexerFault} {v : Int} : .int .i64 v :: List.drop 1 (LexerFault.cs x) = LexerFault.cs { x with err_ := v } := by first | (rw [LexerFault.cs_eq, LexerFault.cs_eq]; rfl) | (rw [LexerFault.cs_eq]; rfl) | rw [LexerFault.cs_eq]
theorem LexerFault.g1_1 {x : LexerFault} : List.take 1 (List.drop 1 (LexerFault.cs x)) = [.int .i64 x.at_] := by rw [LexerFault.cs_eq]; rfl
theorem LexerFault.s1_1 {x : LexerFault} {v : Int} : [.int .i64 x.err_, .int .i64 v] = LexerFault.cs { x with at_ := v } := by first | (rw [LexerFault.cs_eq, LexerFault.cs_eq]; rfl) | (rw [LexerFault.cs_eq]; rfl) | rw [LexerFault.cs_eq]
theorem LexerFault.avl {x : LexerFault} : (LexerFault.av x).cells.length = 2 := by exact LexerFault.len
theorem LexerFault.flen {l : List LexerFault} : (flt LexerFault.av l).length = l.length * 2 := by exact flt_len (fun _ => LexerFault.avl) l
theorem LexerFault.ftake {l : List LexerFault} : List.take (l.length * 2) (flt LexerFault.av l) = flt LexerFault.av l := by exact flt_take (fun _ => LexerFault.avl) l
theorem LexerFault.snoc {l : List LexerFault} {x : LexerFault} : flt LexerFault.av l ++ LexerFault.cs x = flt LexerFault.av (l ++ [x]) := by rw [flt_app, flt_one]; rfl
theorem LexerFault.snocx {l : List LexerFault} {v0 : Int} {v1 : Int} : flt LexerFault.av l ++ [.int .i64 v0, .int .i64 v1] = flt LexerFault.av (l ++ [({ err_ := v0, at_ := v1 } : LexerFault)]) := by rw [flt_app, flt_one]; show _ = _ ++ LexerFault.cs _; rw [LexerFault.cs_eq]
theorem LexerFault.app {l m : List LexerFault} : flt LexerFault.av l ++ flt LexerFault.av m = flt LexerFault.av (l ++ m) := by exact flt_app.symm
theorem LexerFault.allm {l : List LexerFault} : (∀ x, x ∈ List.map LexerFault.av l → x.cells.length = 2) = True := by exact eq_true (fun x hx => by obtain ⟨a, _, rfl⟩ := List.mem_map.1 hx; exact LexerFault.avl)
theorem LexerFault.fget0 {l : List LexerFault} {i c : Nat} (h : i < l.length) (hc : c ≤ 2) : List.take c (List.drop (i * 2) (flt LexerFault.av l)) = List.take c (LexerFault.cs l[i]!) := by exact flt_get (fun _ => LexerFault.avl) l i 0 c h (by omega)
theorem LexerFault.fget {l : List LexerFault} {i o c : Nat} (h : i < l.length) (hc : o + c ≤ 2) : List.take c (List.drop (i * 2 + o) (flt LexerFault.av l)) = List.take c (List.drop o (LexerFault.cs l[i]!)) := by exact flt_get (fun _ => LexerFault.avl) l i o c h hc
theorem LexerFault.fset {l : List LexerFault} {i : Nat} {v : LexerFault} (h : i < l.length) : List.take (i * 2) (flt LexerFault.av l) ++ LexerFault.cs v ++ List.drop (i * 2 + 2) (flt LexerFault.av l) = flt LexerFault.av (l.set i v) := by have := flt_set (f := LexerFault.av) (fun _ => LexerFault.avl) l i 0 2 (LexerFault.cs v) v h (by show List.take 0 (LexerFault.cs _) ++ LexerFault.cs v ++ List.drop (0 + 2) (LexerFault.cs _) = LexerFault.cs v; rw [Nat.zero_add, LexerFault.dropn]; simp) (by omega); exact this
theorem LexerFault.fs0_1 {l : List LexerFault} {i : Nat} {v : Int} (h : i < l.length) : List.take (i * 2) (flt LexerFault.av l) ++ [.int .i64 v] ++ List.drop (i * 2 + 1) (flt LexerFault.av l) = flt LexerFault.av (l.set i { (l[i]!) with err_ := v }) := by exact flt_set (f := LexerFault.av) (fun _ => LexerFault.avl) l i 0 1 _ { (l[i]!) with err_ := v } h (by show List.take 0 (LexerFault.cs l[i]!) ++ _ ++ List.drop (0 + 1) (LexerFault.cs l[i]!) = LexerFault.cs _; rw [LexerFault.cs_eq, LexerFault.cs_eq]; rfl) (by omega)
theorem LexerFault.fs1_1 {l : List LexerFault} {i : Nat} {v : Int} (h : i < l.length) : List.take (i * 2 + 1) (flt LexerFault.av l) ++ [.int .i64 v] ++ List.drop (i * 2 + 1 + 1) (flt LexerFault.av l) = flt LexerFault.av (l.set i { (l[i]!) with at_ := v }) := by exact flt_set (f := LexerFault.av) (fun _ => LexerFault.avl) l i 1 1 _ { (l[i]!) with at_ := v } h (by show List.take 1 (LexerFault.cs l[i]!) ++ _ ++ List.drop (1 + 1) (LexerFault.cs l[i]!) = LexerFault.cs _; rw [LexerFault.cs_eq, LexerFault.cs_eq]; rfl) (by omega)
theorem LexerFault.eqc {a b : LexerFault} : eqCells [.i, .i] (LexerFault.cs a) (LexerFault.cs b) = some (decide (a = b)) := by cases a; cases b; simp only [eqC_nil, eqC_cons, bndO_some, same_i, same_s, same_b, LexerFault.cs_eq]; rw [Option.some.injEq, Bool.eq_iff_iff]; simp
attribute [go_sem] LexerFault.len LexerFault.all LexerFault.dropn LexerFault.av_eq LexerFault.g0_1 LexerFault.s0_1 LexerFault.g1_1 LexerFault.flen LexerFault.ftake LexerFault.snoc LexerFault.snocx LexerFault.app LexerFault.allm LexerFault.fget0 LexerFault.fget LexerFault.fset LexerFault.fs0_1 LexerFault.fs1_1 LexerFault.eqc
def zr25_0 : List AO := [⟨some 2, none, .mov (.c (.bool false))⟩]
def zr25_1 : List AO := [⟨some 3, none, .mov (.t 0)⟩,
  ⟨some 4, none, .bin .or (.t 3) (.c (.int .u8 32))⟩,
  ⟨some 5, none, .bin .leq (.c (.int .u8 97)) (.t 4)⟩,
  ⟨some 6, none, .mov (.t 5)⟩,
  ⟨some 7, some (6, true), .mov (.t 0)⟩,
  ⟨some 8, some (6, true), .bin .or (.t 7) (.c (.int .u8 32))⟩,
  ⟨some 9, some (6, true), .bin .leq (.t 8) (.c (.int .u8 122))⟩,
  ⟨some 10, none, .pick (.t 6) (.t 9) (.c (.bool false))⟩,
  ⟨some 2, none, .mov (.t 10)⟩]
def zc25_0 : AC := .seq (.reg zr25_1) .ret
def zc25_1 : AC := .seq (.reg zr25_0) zc25_0
def zc25 : AC := zc25_1
theorem ok25 : Tryd.f25.body.bind (compCode Tryd.prog 11) = some zc25 := by kernel_rfl
theorem nt25 : Tryd.f25.ntmps = 11 := by kernel_rfl
theorem res25 : compRes Tryd.prog Tryd.f25.results.toList = some [.tmp 2] := by kernel_rfl
attribute [go_sem] zr25_0 zr25_1
def s25 (N : Nat) (p1 : Int) : Option Bool :=
  if 97 ≤ bitI .or .u8 p1 32 then
    some (decide (bitI .or .u8 p1 32 ≤ 122))
  else
    some false
set_option maxHeartbeats 4000000 in
theorem c25 (N : Nat) (p1 : Int) (r : Bool) (h : s25 N p1 = some r) : PureC Tryd.prog 25 [.int .u8 p1] (.bool r) := by
 refine fn_intro' 11 Tryd.func25 nt25 ok25 res25 (by simp) fun X hP hn hd hr => ?_
 unfold s25 at h
 repeat refine awp_seq ?_
 refine rg (h := ?_)
 repeat refine awp_seq ?_
 rcases ite_some h with ⟨hc1, h⟩ | ⟨hc1, h⟩
 · refine rgf (eq_true hc1) ?_
   obtain rfl := som_inj h
   repeat refine awp_seq ?_
   refine awp_ret ?_
   repeat first | refine then_ret ?_ | refine blk_ret ?_
   exact rtp
 refine rgf (eq_false hc1) ?_
 obtain rfl := som_inj h
 repeat refine awp_seq ?_
 refine awp_ret ?_
 repeat first | refine then_ret ?_ | refine blk_ret ?_
 exact rtp
def zr28_0 : List AO := [⟨some 2, none, .mov (.c (.bool false))⟩]
def zr28_1 : List AO := [⟨some 3, none, .mov (.t 0)⟩,
  ⟨some 4, none, .bin .leq (.c (.int .u8 48)) (.t 3)⟩,
  ⟨some 5, none, .mov (.t 4)⟩,
  ⟨some 6, some (5, true), .mov (.t 0)⟩,
  ⟨some 7, some (5, true), .bin .leq (.t 6) (.c (.int .u8 57))⟩,
  ⟨some 8, none, .pick (.t 5) (.t 7) (.c (.bool false))⟩,
  ⟨some 2, none, .mov (.t 8)⟩]
def zc28_0 : AC := .seq (.reg zr28_1) .ret
def zc28_1 : AC := .seq (.reg zr28_0) zc28_0
def zc28 : AC := zc28_1
theorem ok28 : Tryd.f28.body.bind (compCode Tryd.prog 9) = some zc28 := by kernel_rfl
theorem nt28 : Tryd.f28.ntmps = 9 := by kernel_rfl
theorem res28 : compRes Tryd.prog Tryd.f28.results.toList = some [.tmp 2] := by kernel_rfl
attribute [go_sem] zr28_0 zr28_1
def s28 (N : Nat) (p1 : Int) : Option Bool :=
  if 48 ≤ p1 then
    some (decide (p1 ≤ 57))
  else
    some false
set_option maxHeartbeats 4000000 in
theorem c28 (N : Nat) (p1 : Int) (r : Bool) (h : s28 N p1 = some r) : PureC Tryd.prog 28 [.int .u8 p1] (.bool r) := by
 refine fn_intro' 9 Tryd.func28 nt28 ok28 res28 (by simp) fun X hP hn hd hr => ?_
 unfold s28 at h
 repeat refine awp_seq ?_
 refine rg (h := ?_)
 repeat refine awp_seq ?_
 rcases ite_some h with ⟨hc1, h⟩ | ⟨hc1, h⟩
 · refine rgf (eq_true hc1) ?_
   obtain rfl := som_inj h
   repeat refine awp_seq ?_
   refine awp_ret ?_
   repeat first | refine then_ret ?_ | refine blk_ret ?_
   exact rtp
 refine rgf (eq_false hc1) ?_
 obtain rfl := som_inj h
 repeat refine awp_seq ?_
 refine awp_ret ?_
 repeat first | refine then_ret ?_ | refine blk_ret ?_
 exact rtp
def zr27_0 : List AO := [⟨some 2, none, .mov (.c (.bool false))⟩]
def zr27_1 : List AO := [⟨some 3, none, .mov (.t 0)⟩,
  ⟨some 4, none, .callF 25 [(.t 3)]⟩,
  ⟨some 5, none, .mov (.t 4)⟩,
  ⟨some 6, some (5, false), .mov (.t 0)⟩,
  ⟨some 7, some (5, false), .callF 28 [(.t 6)]⟩,
  ⟨some 8, none, .pick (.t 5) (.c (.bool true)) (.t 7)⟩,
  ⟨some 9, none, .mov (.t 8)⟩,
  ⟨some 10, some (9, false), .mov (.t 0)⟩,
  ⟨some 11, some (9, false), .bin .eql (.t 10) (.c (.int .u8 95))⟩,
  ⟨some 12, none, .pick (.t 9) (.c (.bool true)) (.t 11)⟩,
  ⟨some 2, none, .mov (.t 12)⟩]
def zc27_0 : AC := .seq (.reg zr27_1) .ret
def zc27_1 : AC := .seq (.reg zr27_0) zc27_0
def zc27 : AC := zc27_1
theorem ok27 : Tryd.f27.body.bind (compCode Tryd.prog 13) = some zc27 := by kernel_rfl
theorem nt27 : Tryd.f27.ntmps = 13 := by kernel_rfl
theorem res27 : compRes Tryd.prog Tryd.f27.results.toList = some [.tmp 2] := by kernel_rfl
attribute [go_sem] zr27_0
def s27 (N : Nat) (p1 : Int) : Option Bool :=
  (s25 N p1).bind fun x1 =>
  bif x1 then
    some true
  else
    (s28 N p1).bind fun x4 =>
    bif x4 then
      some true
    else
      some (decide (p1 = 95))
set_option maxHeartbeats 4000000 in
theorem c27 (N : Nat) (p1 : Int) (r : Bool) (h : s27 N p1 = some r) : PureC Tryd.prog 27 [.int .u8 p1] (.bool r) := by
 refine fn_intro' 13 Tryd.func27 nt27 ok27 res27 (by simp) fun X hP hn hd hr => ?_
 unfold s27 at h
 repeat refine awp_seq ?_
 refine rg (h := ?_)
 repeat refine awp_seq ?_
 refine awp_reg fun K Q hK hQ => ?_
 simp -implicitDefEqProofs (disch := first | omega | rfl) only [go_sem, simprocAttr, zr27_1]
 have hh := bnd_some h; clear h; obtain ⟨x1, hx2, h⟩ := hh
 refine call_pure hP (c25 N p1 x1 hx2) ?_
 rcases cnd_some h with ⟨hc3, h⟩ | ⟨hc3, h⟩
 · simp -implicitDefEqProofs (disch := first | omega | rfl) only [go_sem, simprocAttr, hc3]
   refine hK _ _ ?_; clear hK hQ K Q
   obtain rfl := som_inj h
   repeat refine awp_seq ?_
   refine awp_ret ?_
   repeat first | refine then_ret ?_ | refine blk_ret ?_
   exact rtp
 simp -implicitDefEqProofs (disch := first | omega | rfl) only [go_sem, simprocAttr, hc3]
 have hh := bnd_some h; clear h; obtain ⟨x4, hx5, h⟩ := hh
 refine call_pure hP (c28 N p1 x4 hx5) ?_
 rcases cnd_some h with ⟨hc6, h⟩ | ⟨hc6, h⟩
 · simp -implicitDefEqProofs (disch := first | omega | rfl) only [go_sem, simprocAttr, hc6]
   refine hK _ _ ?_; clear hK hQ K Q
   obtain rfl := som_inj h
   repeat refine awp_seq ?_
   refine awp_ret ?_
   repeat first | refine then_ret ?_ | refine blk_ret ?_
   exact rtp
 simp -implicitDefEqProofs (disch := first | omega | rfl) only [go_sem, simprocAttr, hc6]
 refine hK _ _ ?_; clear hK hQ K Q
 obtain rfl := som_inj h
 repeat refine awp_seq ?_
 refine awp_ret ?_
 repeat first | refine then_ret ?_ | refine blk_ret ?_
 exact rtp
def zr26_0 : List AO := [⟨some 3, none, .mov (.c (.bool false))⟩]
def zr26_1 : List AO := [⟨some 4, none, .load false 1 (.t 1)⟩,
  ⟨some 5, none, .mov (.t 0)⟩,
  ⟨some 6, none, .idxS (.t 4) (.t 5)⟩,
  ⟨some 7, none, .callF 27 [(.t 6)]⟩,
  ⟨some 8, none, .mov (.t 7)⟩,
  ⟨some 9, some (8, false), .load false 1 (.t 1)⟩,
  ⟨some 10, some (8, false), .mov (.t 0)⟩,
  ⟨some 11, some (8, false), .idxS (.t 9) (.t 10)⟩,
  ⟨some 12, some (8, false), .bin .eql (.t 11) (.c (.int .u8 46))⟩,
  ⟨some 13, some (8, false), .mov (.t 12)⟩,
  ⟨some 14, some (13, true), .mov (.t 0)⟩,
  ⟨some 15, some (13, true), .bin .add (.t 14) (.c (.int .i64 1))⟩,
  ⟨some 16, some (13, true), .load false 1 (.t 1)⟩,
  ⟨some 17, some (13, true), .lenS (.t 16)⟩,
  ⟨some 18, some (13, true), .bin .lss (.t 15) (.t 17)⟩,
  ⟨some 19, some (8, false), .pick (.t 13) (.t 18) (.c (.bool false))⟩,
  ⟨some 20, some (8, false), .mov (.t 19)⟩,
  ⟨some 21, some (20, true), .load false 1 (.t 1)⟩,
  ⟨some 22, some (20, true), .mov (.t 0)⟩,
  ⟨some 23, some (20, true), .bin .add (.t 22) (.c (.int .i64 1))⟩,
  ⟨some 24, some (20, true), .idxS (.t 21) (.t 23)⟩,
  ⟨some 25, some (20, true), .callF 27 [(.t 24)]⟩,
  ⟨some 26, some (8, false), .pick (.t 20) (.t 25) (.c (.bool false))⟩,
  ⟨some 27, none, .pick (.t 8) (.c (.bool true)) (.t 26)⟩,
  ⟨some 3, none, .mov (.t 27)⟩]
def zc26_0 : AC := .seq (.reg zr26_1) .ret
def zc26_1 : AC := .seq (.reg zr26_0) zc26_0
def zc26 : AC := zc26_1
theorem ok26 : Tryd.f26.body.bind (compCode Tryd.prog 28) = some zc26 := by kernel_rfl
theorem nt26 : Tryd.f26.ntmps = 28 := by kernel_rfl
theorem res26 : compRes Tryd.prog Tryd.f26.results.toList = some [.tmp 3] := by kernel_rfl
attribute [go_sem] zr26_0
def s26 (N : Nat) (p1 : Int) (p2 : List UInt8) : Option Bool :=
  grd (0 ≤ p1 ∧ p1 < (List.length p2 : Int)) <|
  (s27 N ((List.getD p2 p1.toNat 0).toNat : Int)).bind fun x3 =>
  bif x3 then
    some true
  else
    if ((List.getD p2 p1.toNat 0).toNat : Int) = 46 then
      if IntKind.wrap .i64 (p1 + 1) < (List.length p2 : Int) then
        grd (0 ≤ IntKind.wrap .i64 (p1 + 1)) <|
        (s27 N (((List.getD p2 (IntKind.wrap .i64 (p1 + 1)).toNat 0).toNat : Int))).bind fun x9 =>
        some x9
      else
        some false
    else
      some false
set_option maxHeartbeats 4000000 in
theorem c26 (N : Nat) (p1 : Int) (p2 : List UInt8) (r : Bool) (h : s26 N p1 p2 = some r) : PureC Tryd.prog 26 [.int .i64 p1, .ref ([.str p2])] (.bool r) := by
 refine fn_intro' 28 Tryd.func26 nt26 ok26 res26 (by simp) fun X hP hn hd hr => ?_
 unfold s26 at h
 repeat refine awp_seq ?_
 refine rg (h := ?_)
 repeat refine awp_seq ?_
 refine awp_reg fun K Q hK hQ => ?_
 obtain ⟨⟨hg1, hg2⟩, h⟩ := grd_some h
 simp -implicitDefEqProofs (disch := first | omega | rfl) only [go_sem, simprocAttr, zr26_1, eq_true hg1, eq_true hg2]
 have hh := bnd_some h; clear h; obtain ⟨x3, hx4, h⟩ := hh
 refine call_pure hP (c27 N ((List.getD p2 p1.toNat 0).toNat : Int) x3 hx4) ?_
 rcases cnd_some h with ⟨hc5, h⟩ | ⟨hc5, h⟩
 · simp -implicitDefEqProofs (disch := first | omega | rfl) only [go_sem, simprocAttr, hc5]
   refine hK _ _ ?_; clear hK hQ K Q
   obtain rfl := som_inj h
   repeat refine awp_seq ?_
   refine awp_ret ?_
   repeat first | refine then_ret ?_ | refine blk_ret ?_
   exact rtp
 rcases ite_some h with ⟨hc6, h⟩ | ⟨hc6, h⟩
 · rcases ite_some h with ⟨hc7, h⟩ | ⟨hc7, h⟩
   · obtain ⟨hg8, h⟩ := grd_some h
     simp -implicitDefEqProofs (disch := first | omega | rfl) only [go_sem, simprocAttr, hc5, eq_true hg1, eq_true hg2, eq_true hc6, eq_true hc7, eq_true hg8]
     have hh := bnd_some h; clear h; obtain ⟨x9, hx10, h⟩ := hh
     refine call_pure hP (c27 N (((List.getD p2 (IntKind.wrap .i64 (p1 + 1)).toNat 0).toNat : Int)) x9 hx10) ?_
     simp -implicitDefEqProofs (disch := first | omega | rfl) only [go_sem, simprocAttr]
     refine hK _ _ ?_; clear hK hQ K Q
     obtain rfl := som_inj h
     repeat refine awp_seq ?_
     refine awp_ret ?_
     repeat first | refine then_ret ?_ | refine blk_ret ?_
     exact rtp
   simp -implicitDefEqProofs (disch := first | omega | rfl) only [go_sem, simprocAttr, hc5, eq_true hg1, eq_true hg2, eq_true hc6, eq_false hc7]
   refine hK _ _ ?_; clear hK hQ K Q
   obtain rfl := som_inj h
   repeat refine awp_seq ?_
   refine awp_ret ?_
   repeat first | refine then_ret ?_ | refine blk_ret ?_
   exact rtp
 simp -implicitDefEqProofs (disch := first | omega | rfl) only [go_sem, simprocAttr, hc5, eq_true hg1, eq_true hg2, eq_false hc6]
 refine hK _ _ ?_; clear hK hQ K Q
 obtain rfl := som_inj h
 repeat refine awp_seq ?_
 refine awp_ret ?_
 repeat first | refine then_ret ?_ | refine blk_ret ?_
 exact rtp
theorem okf26 : okF Tryd.prog 26 = true := by kernel_rfl
def s23_2_b1 (N : Nat) (p1 : List UInt8) (p3 : List UInt8) (x1 : Int) : Option (((Int) ⊕ (Int))) :=
  if x1 < (List.length p1 : Int) then
    (s26 N x1 p3).bind fun x5 =>
    bif x5 then
      some (.inl (IntKind.wrap .i64 (x1 + 1)))
    else
      some (.inr x1)
  else
    some (.inr x1)
def s23_2 (N : Nat) (p1 : List UInt8) (p2 : Int) (p3 : List UInt8) : Option Int :=
  (iter (fun p => s23_2_b1 N p1 p3 p) N p2).bind fun a2 =>
  some a2
set_option maxHeartbeats 4000000 in
theorem c23_2 (N : Nat) (p1 : List UInt8) (p2 : Int) (p3 : List UInt8) (r : Int) (h : s23_2 N p1 p2 p3 = some r) : PureC Tryd.prog 23 [.str p1, .int .i64 p2, .fn (.func 26) [] [.ref ([.str p3])]] (.int .i64 r) := by
 refine fn_intro' 19 Tryd.func23 nt23 ok23 res23 (by simp) fun X hP hn hd hr => ?_
 unfold s23_2 at h
 repeat refine awp_seq ?_
 refine rg (h := ?_)
 repeat refine awp_seq ?_
 refine awp_block ?_
 obtain ⟨o2, ho2, hO2⟩ := bnd_some h
 repeat refine awp_seq ?_
 refine awp_loop (ι := {p : Nat × Int // iter (fun p => s23_2_b1 N p1 p3 p) p.1 p.2 = some o2}) (fun p => [(0, .str p1), (1, .int .i64 p.1.2), (2, .fn (.func 26) [] [.ref ([.str p3])])]) (fun p => []) (fun p => p.1.1) ⟨⟨N, p2⟩, ho2⟩ ?_ ?_
 · refine ent_le' ([]) ([]) ([]) rfl (List.Perm.refl _) ?_ ?_
   · simp -implicitDefEqProofs (disch := first | omega | rfl) only [go_sem, simprocAttr, subF_cons, subF_nil]
     exact ⟨(.keep _), (.keep _), (.fnL .nil (.cons (.keep _) .nil))⟩
   · exact .nil
 rintro ⟨⟨n2, x1⟩, hi2⟩
 obtain ⟨m2, q2, rfl, h, hm2⟩ := iter_some hi2
 try dsimp only at h
 try dsimp only
 unfold s23_2_b1 at h
 repeat refine awp_seq ?_
 refine awp_reg fun K Q hK hQ => ?_
 rcases ite_some h with ⟨hc4, h⟩ | ⟨hc4, h⟩
 · simp -implicitDefEqProofs (disch := first | omega | rfl) only [go_sem, simprocAttr, zr23_1, hP, hide_P, okf26, eq_true hc4]
   have hh := bnd_some h; clear h; obtain ⟨x5, hx6, h⟩ := hh
   refine call_pure hP (c26 N x1 p3 x5 hx6) ?_
   simp -implicitDefEqProofs (disch := first | omega | rfl) only [go_sem, simprocAttr]
   refine hK _ _ ?_; clear hK hQ K Q
   rcases cnd_some h with ⟨hc7, h⟩ | ⟨hc7, h⟩
   · repeat refine awp_seq ?_
     refine awp_then (by simp -implicitDefEqProofs (disch := first | omega | rfl) only [go_sem, simprocAttr, hc7]) ?_
     repeat refine awp_seq ?_
     refine awp_skip ?_
     repeat refine awp_seq ?_
     refine awp_block ?_
     repeat refine awp_seq ?_
     refine rg (h := ?_)
     obtain rfl := som_inj h
     try dsimp only at hm2
     refine ⟨⟨⟨m2, IntKind.wrap .i64 (x1 + 1)⟩, hm2⟩, Nat.lt_succ_self _, ?_⟩
     refine ent_le' ([]) ([]) ([]) rfl (List.Perm.refl _) ?_ ?_
     · simp -implicitDefEqProofs (disch := first | omega | rfl) only [go_sem, simprocAttr, subF_cons, subF_nil]
       exact ⟨(.keep _), (.keep _), (.fnL .nil (.cons (.keep _) .nil))⟩
     · exact .nil
   repeat refine awp_seq ?_
   refine awp_else (by simp -implicitDefEqProofs (disch := first | omega | rfl) only [go_sem, simprocAttr, hc7]) ?_
   repeat refine awp_seq ?_
   refine awp_exit ?_
   repeat' (first | refine then_exit ?_ | refine exit_here ?_ | refine exit_on rfl ?_)
   obtain rfl := som_inj h
   try dsimp only at hm2
   subst hm2
   try dsimp only at hO2
   repeat refine awp_seq ?_
   refine rg (h := ?_)
   obtain rfl := som_inj hO2
   repeat refine awp_seq ?_
   refine awp_ret ?_
   repeat first | refine then_ret ?_ | refine blk_ret ?_
   exact rtp
 simp -implicitDefEqProofs (disch := first | omega | rfl) only [go_sem, simprocAttr, zr23_1, eq_false hc4]
 refine hK _ _ ?_; clear hK hQ K Q
 repeat refine awp_seq ?_
 refine awp_else (by rfl) ?_
 repeat refine awp_seq ?_
 refine awp_exit ?_
 repeat' (first | refine then_exit ?_ | refine exit_here ?_ | refine exit_on rfl ?_)
 obtain rfl := som_inj h
 try dsimp only at hm2
 subst hm2
 try dsimp only at hO2
 repeat refine awp_seq ?_
 refine rg (h := ?_)
 obtain rfl := som_inj hO2
 repeat refine awp_seq ?_
 refine awp_ret ?_
 repeat first | refine then_ret ?_ | refine blk_ret ?_
 exact rtp
def zr29_0 : List AO := [⟨some 3, none, .mov (.c (.bool false))⟩]
def zr29_1 : List AO := [⟨some 4, none, .load false 1 (.t 1)⟩,
  ⟨some 5, none, .mov (.t 0)⟩,
  ⟨some 6, none, .idxS (.t 4) (.t 5)⟩,
  ⟨some 7, none, .callF 28 [(.t 6)]⟩,
  ⟨some 3, none, .mov (.t 7)⟩]
def zc29_0 : AC := .seq (.reg zr29_1) .ret
def zc29_1 : AC := .seq (.reg zr29_0) zc29_0
def zc29 : AC := zc29_1
theorem ok29 : Tryd.f29.body.bind (compCode Tryd.prog 8) = some zc29 := by kernel_rfl
theorem nt29 : Tryd.f29.ntmps = 8 := by kernel_rfl
theorem res29 : compRes Tryd.prog Tryd.f29.results.toList = some [.tmp 3] := by kernel_rfl
attribute [go_sem] zr29_0
def s29 (N : Nat) (p1 : Int) (p2 : List UInt8) : Option Bool :=
  grd (0 ≤ p1 ∧ p1 < (List.length p2 : Int)) <|
  (s28 N ((List.getD p2 p1.toNat 0).toNat : Int)).bind fun x3 =>
  some x3
set_option maxHeartbeats 4000000 in
theorem c29 (N : Nat) (p1 : Int) (p2 : List UInt8) (r : Bool) (h : s29 N p1 p2 = some r) : PureC Tryd.prog 29 [.int .i64 p1, .ref ([.str p2])] (.bool r) := by
 refine fn_intro' 8 Tryd.func29 nt29 ok29 res29 (by simp) fun X hP hn hd hr => ?_
 unfold s29 at h
 repeat refine awp_seq ?_
 refine rg (h := ?_)
 repeat refine awp_seq ?_
 refine awp_reg fun K Q hK hQ => ?_
 obtain ⟨⟨hg1, hg2⟩, h⟩ := grd_some h
 simp -implicitDefEqProofs (disch := first | omega | rfl) only [go_sem, simprocAttr, zr29_1, eq_true hg1, eq_true hg2]
 have hh := bnd_some h; clear h; obtain ⟨x3, hx4, h⟩ := hh
 refine call_pure hP (c28 N ((List.getD p2 p1.toNat 0).toNat : Int) x3 hx4) ?_
 simp -implicitDefEqProofs (disch := first | omega | rfl) only [go_sem, simprocAttr]
 refine hK _ _ ?_; clear hK hQ K Q
 obtain rfl := som_inj h
 repeat refine awp_seq ?_
 refine awp_ret ?_
 repeat first | refine then_ret ?_ | refine blk_ret ?_
 exact rtp
theorem okf29 : okF Tryd.prog 29 = true := by kernel_rfl
def s23_3_b1 (N : Nat) (p1 : List UInt8) (p3 : List UInt8) (x1 : Int) : Option (((Int) ⊕ (Int))) :=
  if x1 < (List.length p1 : Int) then
    (s29 N x1 p3).bind fun x5 =>
    bif x5 then
      some (.inl (IntKind.wrap .i64 (x1 + 1)))
    else
      some (.inr x1)
  else
    some (.inr x1)
def s23_3 (N : Nat) (p1 : List UInt8) (p2 : Int) (p3 : List UInt8) : Option Int :=
  (iter (fun p => s23_3_b1 N p1 p3 p) N p2).bind fun a2 =>
  some a2
set_option maxHeartbeats 4000000 in
theorem c23_3 (N : Nat) (p1 : List UInt8) (p2 : Int) (p3 : List UInt8) (r : Int) (h : s23_3 N p1 p2 p3 = some r) : PureC Tryd.prog 23 [.str p1, .int .i64 p2, .fn (.func 29) [] [.ref ([.str p3])]] (.int .i64 r) := by
 refine fn_intro' 19 Tryd.func23 nt23 ok23 res23 (by simp) fun X hP hn hd hr => ?_
 unfold s23_3 at h
 repeat refine awp_seq ?_
 refine rg (h := ?_)
 repeat refine awp_seq ?_
 refine awp_block ?_
 obtain ⟨o2, ho2, hO2⟩ := bnd_some h
 repeat refine awp_seq ?_
 refine awp_loop (ι := {p : Nat × Int // iter (fun p => s23_3_b1 N p1 p3 p) p.1 p.2 = some o2}) (fun p => [(0, .str p1), (1, .int .i64 p.1.2), (2, .fn (.func 29) [] [.ref ([.str p3])])]) (fun p => []) (fun p => p.1.1) ⟨⟨N, p2⟩, ho2⟩ ?_ ?_
 · refine ent_le' ([]) ([]) ([]) rfl (List.Perm.refl _) ?_ ?_
   · simp -implicitDefEqProofs (disch := first | omega | rfl) only [go_sem, simprocAttr, subF_cons, subF_nil]
     exact ⟨(.keep _), (.keep _), (.fnL .nil (.cons (.keep _) .nil))⟩
   · exact .nil
 rintro ⟨⟨n2, x1⟩, hi2⟩
 obtain ⟨m2, q2, rfl, h, hm2⟩ := iter_some hi2
 try dsimp only at h
 try dsimp only
 unfold s23_3_b1 at h
 repeat refine awp_seq ?_
 refine awp_reg fun K Q hK hQ => ?_
 rcases ite_some h with ⟨hc4, h⟩ | ⟨hc4, h⟩
 · simp -implicitDefEqProofs (disch := first | omega | rfl) only [go_sem, simprocAttr, zr23_1, hP, hide_P, okf29, eq_true hc4]
   have hh := bnd_some h; clear h; obtain ⟨x5, hx6, h⟩ := hh
   refine call_pure hP (c29 N x1 p3 x5 hx6) ?_
   simp -implicitDefEqProofs (disch := first | omega | rfl) only [go_sem, simprocAttr]
   refine hK _ _ ?_; clear hK hQ K Q
   rcases cnd_some h with ⟨hc7, h⟩ | ⟨hc7, h⟩
   · repeat refine awp_seq ?_
     refine awp_then (by simp -implicitDefEqProofs (disch := first | omega | rfl) only [go_sem, simprocAttr, hc7]) ?_
     repeat refine awp_seq ?_
     refine awp_skip ?_
     repeat refine awp_seq ?_
     refine awp_block ?_
     repeat refine awp_seq ?_
     refine rg (h := ?_)
     obtain rfl := som_inj h
     try dsimp only at hm2
     refine ⟨⟨⟨m2, IntKind.wrap .i64 (x1 + 1)⟩, hm2⟩, Nat.lt_succ_self _, ?_⟩
     refine ent_le' ([]) ([]) ([]) rfl (List.Perm.refl _) ?_ ?_
     · simp -implicitDefEqProofs (disch := first | omega | rfl) only [go_sem, simprocAttr, subF_cons, subF_nil]
       exact ⟨(.keep _), (.keep _), (.fnL .nil (.cons (.keep _) .nil))⟩
     · exact .nil
   repeat refine awp_seq ?_
   refine awp_else (by simp -implicitDefEqProofs (disch := first | omega | rfl) only [go_sem, simprocAttr, hc7]) ?_
   repeat refine awp_seq ?_
   refine awp_exit ?_
   repeat' (first | refine then_exit ?_ | refine exit_here ?_ | refine exit_on rfl ?_)
   obtain rfl := som_inj h
   try dsimp only at hm2
   subst hm2
   try dsimp only at hO2
   repeat refine awp_seq ?_
   refine rg (h := ?_)
   obtain rfl := som_inj hO2
   repeat refine awp_seq ?_
   refine awp_ret ?_
   repeat first | refine then_ret ?_ | refine blk_ret ?_
   exact rtp
 simp -implicitDefEqProofs (disch := first | omega | rfl) only [go_sem, simprocAttr, zr23_1, eq_false hc4]
 refine hK _ _ ?_; clear hK hQ K Q
 repeat refine awp_seq ?_
 refine awp_else (by rfl) ?_
 repeat refine awp_seq ?_
 refine awp_exit ?_
 repeat' (first | refine then_exit ?_ | refine exit_here ?_ | refine exit_on rfl ?_)
 obtain rfl := som_inj h
 try dsimp only at hm2
 subst hm2
 try dsimp only at hO2
 repeat refine awp_seq ?_
 refine rg (h := ?_)
 obtain rfl := som_inj hO2
 repeat refine awp_seq ?_
 refine awp_ret ?_
 repeat first | refine then_ret ?_ | refine blk_ret ?_
 exact rtp
def zr37_0 : List AO := [⟨some 2, none, .mov (.c (.int .i64 0))⟩,
  ⟨some 3, none, .mov (.c (.lit .nilIface))⟩]
def zr37_1 : List AO := [⟨some 11, none, .mov (.t 0)⟩,
  ⟨some 12, none, .lenS (.t 11)⟩,
  ⟨some 4, none, .mov (.t 12)⟩]
def zr37_2 : List AO := [⟨some 13, none, .mov (.c (.bool false))⟩,
  ⟨some 14, some (13, true), .mov (.t 4)⟩,
  ⟨some 15, some (13, true), .bin .lss (.c (.int .i64 0)) (.t 14)⟩,
  ⟨some 16, some (13, true), .mov (.t 15)⟩,
  ⟨some 17, some (16, true), .mov (.t 4)⟩,
  ⟨some 18, some (16, true), .bin .lss (.t 17) (.c (.int .i64 10))⟩,
  ⟨some 19, some (13, true), .pick (.t 16) (.t 18) (.c (.bool false))⟩,
  ⟨some 20, none, .pick (.t 13) (.t 19) (.c (.bool false))⟩,
  ⟨some 21, none, .mov (.t 20)⟩,
  ⟨some 22, some (21, false), .mov (.c (.bool true))⟩,
  ⟨some 23, some (22, true), .mov (.t 4)⟩,
  ⟨some 24, some (22, true), .bin .lss (.c (.int .i64 0)) (.t 23)⟩,
  ⟨some 25, some (22, true), .mov (.t 24)⟩,
  ⟨some 26, some (25, true), .mov (.t 4)⟩,
  ⟨some 27, some (25, true), .bin .lss (.t 26) (.c (.int .i64 19))⟩,
  ⟨some 28, some (22, true), .pick (.t 25) (.t 27) (.c (.bool false))⟩,
  ⟨some 29, some (21, false), .pick (.t 22) (.t 28) (.c (.bool false))⟩,
  ⟨some 30, none, .pick (.t 21) (.c (.bool true)) (.t 29)⟩]
def zr37_3 : List AO := [⟨some 31, none, .mov (.t 0)⟩,
  ⟨some 5, none, .mov (.t 31)⟩]
def zr37_4 : List AO := [⟨some 32, none, .mov (.t 0)⟩,
  ⟨some 33, none, .idxS (.t 32) (.c (.int .i64 0))⟩,
  ⟨some 34, none, .bin .eql (.t 33) (.c (.int .u8 45))⟩,
  ⟨some 35, none, .mov (.t 34)⟩,
  ⟨some 36, some (35, false), .mov (.t 0)⟩,
  ⟨some 37, some (35, false), .idxS (.t 36) (.c (.int .i64 0))⟩,
  ⟨some 38, some (35, false), .bin .eql (.t 37) (.c (.int .u8 43))⟩,
  ⟨some 39, none, .pick (.t 35) (.c (.bool true)) (.t 38)⟩]
def zr37_5 : List AO := [⟨some 40, none, .mov (.t 0)⟩,
  ⟨some 41, none, .slcS (.t 40) (some (.c (.int .i64 1))) none⟩,
  ⟨some 0, none, .mov (.t 41)⟩]
def zr37_6 : List AO := [⟨some 42, none, .mov (.t 0)⟩,
  ⟨some 43, none, .lenS (.t 42)⟩,
  ⟨some 44, none, .bin .lss (.t 43) (.c (.int .i64 1))⟩]
def zr37_7 : List AO := [⟨some 45, none, .ifc 58 (.c (.int .i64 2))⟩,
  ⟨some 2, none, .mov (.c (.int .i64 0))⟩,
  ⟨some 3, none, .mov (.t 45)⟩]
def zc37_0 : AC := .seq (.reg zr37_7) .ret
def zc37_1 : AC := .cond (.t 44) zc37_0 .skip
def zc37_2 : AC := .seq (.reg zr37_6) zc37_1
def zc37_3 : AC := .seq (.reg zr37_5) zc37_2
def zc37_4 : AC := .cond (.t 39) zc37_3 .skip
def zr37_8 : List AO := [⟨some 6, none, .mov (.c (.int .i64 0))⟩]
def zr37_9 : List AO := [⟨some 46, none, .mov (.t 0)⟩,
  ⟨some 47, none, .s2b (.t 46)⟩,
  ⟨some 48, none, .len (.t 47)⟩,
  ⟨some 49, none, .mov (.c (.int .i64 0))⟩]
def zr37_10 : List AO := [⟨some 50, none, .bin .lss (.t 49) (.t 48)⟩]
def zr37_11 : List AO := [⟨some 51, none, .iadr 1 (.t 47) (.t 49)⟩,
  ⟨some 52, none, .load false 1 (.t 51)⟩,
  ⟨some 8, none, .mov (.t 52)⟩]
def zr37_12 : List AO := [⟨some 53, none, .mov (.t 8)⟩,
  ⟨some 54, none, .bin .sub (.t 53) (.c (.int .u8 48))⟩,
  ⟨some 8, none, .mov (.t 54)⟩]
def zr37_13 : List AO := [⟨some 55, none, .mov (.t 8)⟩,
  ⟨some 56, none, .bin .gtr (.t 55) (.c (.int .u8 9))⟩]
def zr37_14 : List AO := [⟨some 57, none, .ifc 58 (.c (.int .i64 2))⟩,
  ⟨some 2, none, .mov (.c (.int .i64 0))⟩,
  ⟨some 3, none, .mov (.t 57)⟩]
def zc37_5 : AC := .seq (.reg zr37_14) .ret
def zc37_6 : AC := .cond (.t 56) zc37_5 .skip
def zr37_15 : List AO := [⟨some 58, none, .mov (.t 6)⟩,
  ⟨some 59, none, .bin .mul (.t 58) (.c (.int .i64 10))⟩,
  ⟨some 60, none, .mov (.t 8)⟩,
  ⟨some 61, none, .conv .i64 (.t 60)⟩,
  ⟨some 62, none, .bin .add (.t 59) (.t 61)⟩,
  ⟨some 6, none, .mov (.t 62)⟩]
def zc37_7 : AC := .reg zr37_15
def zc37_8 : AC := .seq (.seq (.reg zr37_13) zc37_6) zc37_7
def zc37_9 : AC := .seq (.reg zr37_12) zc37_8
def zc37_10 : AC := .seq (.reg zr37_11) zc37_9
def zr37_16 : List AO := [⟨some 63, none, .bin .add (.t 49) (.c (.int .i64 1))⟩,
  ⟨some 49, none, .mov (.t 63)⟩]
def zc37_11 : AC := .reg zr37_16
def zc37_12 : AC := .seq (.block 1 zc37_10) zc37_11
def zc37_13 : AC := .seq (.cond (.t 50) .skip (.exit 0)) zc37_12
def zc37_14 : AC := .seq (.reg zr37_10) zc37_13
def zc37_15 : AC := .loop zc37_14
def zc37_16 : AC := .block 0 zc37_15
def zr37_17 : List AO := [⟨some 64, none, .mov (.t 5)⟩,
  ⟨some 65, none, .idxS (.t 64) (.c (.int .i64 0))⟩,
  ⟨some 66, none, .bin .eql (.t 65) (.c (.int .u8 45))⟩]
def zr37_18 : List AO := [⟨some 67, none, .mov (.t 6)⟩,
  ⟨some 68, none, .un .neg (.t 67)⟩,
  ⟨some 6, none, .mov (.t 68)⟩]
def zc37_17 : AC := .reg zr37_18
def zc37_18 : AC := .cond (.t 66) zc37_17 .skip
def zr37_19 : List AO := [⟨some 69, none, .mov (.t 6)⟩,
  ⟨some 2, none, .mov (.t 69)⟩,
  ⟨some 3, none, .mov (.c (.lit .nilIface))⟩]
def zc37_19 : AC := .seq (.reg zr37_19) .ret
def zc37_20 : AC := .seq (.seq (.reg zr37_17) zc37_18) zc37_19
def zc37_21 : AC := .seq (.seq (.reg zr37_9) zc37_16) zc37_20
def zc37_22 : AC := .seq (.reg zr37_8) zc37_21
def zc37_23 : AC := .seq (.seq (.reg zr37_4) zc37_4) zc37_22
def zc37_24 : AC := .seq (.reg zr37_3) zc37_23
def zc37_25 : AC := .cond (.t 30) zc37_24 .skip
def zr37_20 : List AO := [⟨some 71, none, .mov (.t 0)⟩,
  ⟨some 72, none, .callF 41 [(.t 71), (.c (.int .i64 10)), (.c (.int .i64 0))]⟩,
  ⟨some 70, none, .mov (.t 72)⟩,
  ⟨some 73, none, .ext 0 (.t 70)⟩,
  ⟨some 74, none, .ext 1 (.t 70)⟩,
  ⟨some 9, none, .mov (.t 73)⟩,
  ⟨some 10, none, .mov (.t 74)⟩]
def zr37_21 : List AO := [⟨some 75, none, .mov (.t 9)⟩,
  ⟨some 76, none, .mov (.t 10)⟩,
  ⟨some 2, none, .mov (.t 75)⟩,
  ⟨some 3, none, .mov (.t 76)⟩]
def zc37_26 : AC := .seq (.reg zr37_21) .ret
def zc37_27 : AC := .seq (.reg zr37_20) zc37_26
def zc37_28 : AC := .seq (.seq (.reg zr37_2) zc37_25) zc37_27
def zc37_29 : AC := .seq (.reg zr37_1) zc37_28
def zc37_30 : AC := .seq (.reg zr37_0) zc37_29
def zc37 : AC := zc37_30
theorem ok37 : Tryd.f37.body.bind (compCode Tryd.prog 77) = some zc37 := by kernel_rfl
theorem nt37 : Tryd.f37.ntmps = 77 := by kernel_rfl
theorem res37 : compRes Tryd.prog Tryd.f37.results.toList = some [.tmp 2, .tmp 3] := by kernel_rfl
attribute [go_sem] zr37_0 zr37_1 zr37_10 zr37_11 zr37_12 zr37_13 zr37_15 zr37_16 zr37_17 zr37_18 zr37_19 zr37_2 zr37_3 zr37_4 zr37_5 zr37_6 zr37_8
def s37_k1 (N : Nat) (p1 : List UInt8) (x5 : Int) : Option (Int × Unit) :=
  if ((List.getD p1 0 0).toNat : Int) = 45 then
    some (IntKind.wrap .i64 (0 - x5), ())
  else
    some (x5, ())
def s37_b2 (N : Nat) (x4 : List UInt8) (x7 : Int) (x8 : Int) : Option (((Int × Int) ⊕ (Ou (Int) (Int × Unit)))) :=
  if x8 < (List.length (byts x4) : Int) then
    grd (0 ≤ x8) <|
    if 9 < IntKind.wrap .u8 (((byts x4)[x8.toNat]!) - 48) then
      none
    else
      some (.inl (IntKind.wrap .i64 ((IntKind.wrap .i64 (x7 * 10)) + (IntKind.wrap .i64 (IntKind.wrap .u8 (((byts x4)[x8.toNat]!) - 48)))), IntKind.wrap .i64 (x8 + 1)))
  else
    some (.inr (.brk x7))
def s37_k3 (N : Nat) (p1 : List UInt8) (x4 : List UInt8) : Option (Int × Unit) :=
  (iter (fun p => s37_b2 N x4 p.1 p.2) N (0, 0)).bind fun o9 => o9.on (fun a9 =>
    s37_k1 N p1 a9)
    (fun a9r => some a9r)
def s37_k4 (N : Nat) (p1 : List UInt8) (x3 : Bool) : Option (Int × Unit) :=
  bif x3 then
    grd (1 ≤ (List.length p1 : Int)) <|
    if (List.length (List.drop 1 p1) : Int) < 1 then
      none
    else
      s37_k3 N p1 (List.drop 1 p1)
  else
    s37_k3 N p1 p1
def s37 (N : Nat) (p1 : List UInt8) : Option (Int × Unit) :=
  if 0 < (List.length p1 : Int) then
    if (List.length p1 : Int) < 19 then
      if ((List.getD p1 0 0).toNat : Int) = 45 then
        s37_k4 N p1 true
      else
        s37_k4 N p1 (decide (((List.getD p1 0 0).toNat : Int) = 43))
    else
      none
  else
    none
set_option maxHeartbeats 4000000 in
theorem c37 (N : Nat) (p1 : List UInt8) (r : Int × Unit) (h : s37 N p1 = some r) : PureC Tryd.prog 37 [.str p1] (.tup [.int .i64 r.1, .lit .nilIface]) := by
 refine fn_intro' 77 Tryd.func37 nt37 ok37 res37 (by simp) fun X hP hn hd hr => ?_
 unfold s37 at h
 repeat refine awp_seq ?_
 refine rg (h := ?_)
 repeat refine awp_seq ?_
 refine rg (h := ?_)
 repeat refine awp_seq ?_
 rcases ite_some h with ⟨hc1, h⟩ | ⟨hc1, h⟩
 · refine awp_reg fun K Q hK hQ => ?_
   simp -implicitDefEqProofs (disch := first | omega | rfl) only [go_sem, simprocAttr, zr37_2, eq_true hc1]
   first | refine hK _ _ ?_ | (refine ⟨by assumption, ?_⟩; refine hK _ _ ?_)
   clear hK hQ K Q
   rcases ite_some h with ⟨hc2, h⟩ | ⟨hc2, h⟩
   · repeat refine awp_seq ?_
     refine awp_then (by simp -implicitDefEqProofs (disch := first | omega | rfl) only [go_sem, simprocAttr, eq_true hc2]) ?_
     repeat refine awp_seq ?_
     refine rg (h := ?_)
     repeat refine awp_seq ?_
     refine awp_cut (ι := {p : Bool // s37_k4 N p1 p = some r}) (fun p => [(0, .str p1), (5, .str p1), (39, .bool p.1)]) (fun p => []) ?_ ?_
     · repeat refine awp_seq ?_
       rcases ite_some h with ⟨hc17, h⟩ | ⟨hc17, h⟩
       · refine awp_reg fun K Q hK hQ => ?_
         simp -implicitDefEqProofs (disch := first | omega | rfl) only [go_sem, simprocAttr, zr37_4, eq_true hc1, eq_true hc17]
         first | refine hK _ _ ?_ | (refine ⟨by assumption, ?_⟩; refine hK _ _ ?_)
         clear hK hQ K Q
         refine ⟨⟨true, h⟩, ?_⟩
         refine ent_le' ([]) ([]) ([]) rfl (List.Perm.refl _) ?_ ?_
         · simp -implicitDefEqProofs (disch := first | omega | rfl) only [go_sem, simprocAttr, subF_cons, subF_nil]
           exact ⟨(.keep _), (.keep _), (.keep _)⟩
         · exact .nil
       refine awp_reg fun K Q hK hQ => ?_
       simp -implicitDefEqProofs (disch := first | omega | rfl) only [go_sem, simprocAttr, zr37_4, eq_true hc1, eq_false hc17]
       first | refine hK _ _ ?_ | (refine ⟨by assumption, ?_⟩; refine hK _ _ ?_)
       clear hK hQ K Q
       refine ⟨⟨decide (((List.getD p1 0 0).toNat : Int) = 43), h⟩, ?_⟩
       refine ent_le' ([]) ([]) ([]) rfl (List.Perm.refl _) ?_ ?_
       · simp -implicitDefEqProofs (disch := first | omega | rfl) only [go_sem, simprocAttr, subF_cons, subF_nil]
         exact ⟨(.keep _), (.keep _), (.keep _)⟩
       · exact .nil
     rintro ⟨x3, h⟩
     try dsimp only at h
     try dsimp only
     repeat refine awp_seq ?_
     refine awp_cut (ι := {p : (List UInt8) // s37_k3 N p1 p = some r}) (fun p => [(0, .str p.1), (5, .str p1)]) (fun p => []) ?_ ?_
     · rcases cnd_some h with ⟨hc14, h⟩ | ⟨hc14, h⟩
       · repeat refine awp_seq ?_
         refine awp_then (by simp -implicitDefEqProofs (disch := first | omega | rfl) only [go_sem, simprocAttr, hc14]) ?_
         repeat refine awp_seq ?_
         obtain ⟨hg15, h⟩ := grd_some h
         refine rgf (eq_true hg15) ?_
         repeat refine awp_seq ?_
         refine rg (h := ?_)
         rcases ite_some h with ⟨hc16, h⟩ | ⟨hc16, h⟩
         · simp only [List.length_drop, List.cons_append, List.nil_append] at hc16
           cases h
         simp only [List.length_drop, List.cons_append, List.nil_append] at hc16
         repeat refine awp_seq ?_
         refine awp_else (by simp -implicitDefEqProofs (disch := first | omega | rfl) only [go_sem, simprocAttr, eq_false hc16]) ?_
         repeat refine awp_seq ?_
         refine awp_skip ?_
         refine ⟨⟨List.drop 1 p1, h⟩, ?_⟩
         refine ent_le' ([]) ([]) ([]) rfl (List.Perm.refl _) ?_ ?_
         · simp -implicitDefEqProofs (disch := first | omega | rfl) only [go_sem, simprocAttr, subF_cons, subF_nil]
           exact ⟨(.keep _), (.keep _)⟩
         · exact .nil
       repeat refine awp_seq ?_
       refine awp_else (by simp -implicitDefEqProofs (disch := first | omega | rfl) only [go_sem, simprocAttr, hc14]) ?_
       repeat refine awp_seq ?_
       refine awp_skip ?_
       refine ⟨⟨p1, h⟩, ?_⟩
       refine ent_le' ([]) ([]) ([]) rfl (List.Perm.refl _) ?_ ?_
       · simp -implicitDefEqProofs (disch := first | omega | rfl) only [go_sem, simprocAttr, subF_cons, subF_nil]
         exact ⟨(.keep _), (.keep _)⟩
       · exact .nil
     rintro ⟨x4, h⟩
     try dsimp only at h
     try dsimp only
     repeat refine awp_seq ?_
     refine rg (h := ?_)
     repeat refine awp_seq ?_
     refine awp_reg fun K Q hK hQ => ?_
     simp -implicitDefEqProofs (disch := first | omega | rfl) only [go_sem, simprocAttr, zr37_9]
     refine hK _ _ ?_; clear hK hQ K Q
     repeat refine awp_seq ?_
     refine awp_cut (ι := {p : Int // s37_k1 N p1 p = some r}) (fun p => [(5, .str p1), (6, .int .i64 p.1)]) (fun p => []) ?_ ?_
     · repeat refine awp_seq ?_
       refine awp_block ?_
       obtain ⟨o9, ho9, hO9⟩ := bnd_some h
       repeat refine awp_seq ?_
       refine awp_loop (ι := {p : Nat × Int × Int // iter (fun p => s37_b2 N x4 p.1 p.2) p.1 (p.2.1, p.2.2) = some o9}) (fun p => [(5, .str p1), (6, .int .i64 p.1.2.1), (47, .sl (List.map (AV.int .u8) (byts x4))), (48, .int .i64 (List.length (byts x4) : Int)), (49, .int .i64 p.1.2.2)]) (fun p => []) (fun p => p.1.1) ⟨⟨N, 0, 0⟩, ho9⟩ ?_ ?_
       · refine ent_le' ([]) ([]) ([]) rfl (List.Perm.refl _) ?_ ?_
         · simp -implicitDefEqProofs (disch := first | omega | rfl) only [go_sem, simprocAttr, subF_cons, subF_nil]
           exact ⟨(.keep _), (.keep _), (.keep _), (.keep _), (.keep _)⟩
         · exact .nil
       rintro ⟨⟨n9, x7, x8⟩, hi9⟩
       obtain ⟨m9, q9, rfl, h, hm9⟩ := iter_some hi9
       try dsimp only at h
       try dsimp only
       unfold s37_b2 at h
       repeat refine awp_seq ?_
       refine rg (h := ?_)
       rcases ite_some h with ⟨hc11, h⟩ | ⟨hc11, h⟩
       · repeat refine awp_seq ?_
         refine awp_then (by simp -implicitDefEqProofs (disch := first | omega | rfl) only [go_sem, simprocAttr, eq_true hc11]) ?_
         repeat refine awp_seq ?_
         refine awp_skip ?_
         repeat refine awp_seq ?_
         refine awp_block ?_
         repeat refine awp_seq ?_
         obtain ⟨hg12, h⟩ := grd_some h
         refine rgf (And.intro (eq_true hc11) (eq_true hg12)) ?_
         repeat refine awp_seq ?_
         refine rg (h := ?_)
         repeat refine awp_seq ?_
         refine rg (h := ?_)
         rcases ite_some h with ⟨hc13, h⟩ | ⟨hc13, h⟩
         · cases h
         repeat refine awp_seq ?_
         refine awp_else (by simp -implicitDefEqProofs (disch := first | omega | rfl) only [go_sem, simprocAttr, eq_false hc13]) ?_
         repeat refine awp_seq ?_
         refine awp_skip ?_
         repeat refine awp_seq ?_
         refine rg (h := ?_)
         repeat refine awp_seq ?_
         refine rg (h := ?_)
         obtain rfl := som_inj h
         try dsimp only at hm9
         refine ⟨⟨⟨m9, IntKind.wrap .i64 ((IntKind.wrap .i64 (x7 * 10)) + (IntKind.wrap .i64 (IntKind.wrap .u8 (((byts x4)[x8.toNat]!) - 48)))), IntKind.wrap .i64 (x8 + 1)⟩, hm9⟩, Nat.lt_succ_self _, ?_⟩
         refine ent_le' ([]) ([]) ([]) rfl (List.Perm.refl _) ?_ ?_
         · simp -implicitDefEqProofs (disch := first | omega | rfl) only [go_sem, simprocAttr, subF_cons, subF_nil]
           exact ⟨(.keep _), (.keep _), (.keep _), (.keep _), (.keep _)⟩
         · exact .nil
       repeat refine awp_seq ?_
       refine awp_else (by simp -implicitDefEqProofs (disch := first | omega | rfl) only [go_sem, simprocAttr, eq_false hc11]) ?_
       repeat refine awp_seq ?_
       refine awp_exit ?_
       repeat' (first | refine then_exit ?_ | refine exit_here ?_ | refine exit_on rfl ?_)
       obtain rfl := som_inj h
       try dsimp only at hm9
       subst hm9
       simp only [Ou.on_brk] at hO9
       refine ⟨⟨x7, hO9⟩, ?_⟩
       refine ent_le' ([]) ([]) ([]) rfl (List.Perm.refl _) ?_ ?_
       · simp -implicitDefEqProofs (disch := first | omega | rfl) only [go_sem, simprocAttr, subF_cons, subF_nil]
         exact ⟨(.keep _), (.keep _)⟩
       · exact .nil
     rintro ⟨x5, h⟩
     try dsimp only at h
     try dsimp only
     repeat refine awp_seq ?_
     refine awp_reg fun K Q hK hQ => ?_
     simp -implicitDefEqProofs (disch := first | omega | rfl) only [go_sem, simprocAttr, zr37_17, eq_true hc1]
     first | refine hK _ _ ?_ | (refine ⟨by assumption, ?_⟩; refine hK _ _ ?_)
     clear hK hQ K Q
     rcases ite_some h with ⟨hc6, h⟩ | ⟨hc6, h⟩
     · repeat refine awp_seq ?_
       refine awp_then (by simp -implicitDefEqProofs (disch := first | omega | rfl) only [go_sem, simprocAttr, eq_true hc6]) ?_
       repeat refine awp_seq ?_
       refine rg (h := ?_)
       repeat refine awp_seq ?_
       refine rg (h := ?_)
       obtain rfl := som_inj h
       repeat refine awp_seq ?_
       refine awp_ret ?_
       repeat first | refine then_ret ?_ | refine blk_ret ?_
       exact rtp
     repeat refine awp_seq ?_
     refine awp_else (by simp -implicitDefEqProofs (disch := first | omega | rfl) only [go_sem, simprocAttr, eq_false hc6]) ?_
     repeat refine awp_seq ?_
     refine awp_skip ?_
     repeat refine awp_seq ?_
     refine rg (h := ?_)
     obtain rfl := som_inj h
     repeat refine awp_seq ?_
     refine awp_ret ?_
     repeat first | refine then_ret ?_ | refine blk_ret ?_
     exact rtp
   cases h
 cases h
def zr30_0 : List AO := [⟨some 2, none, .mov (.c (.int .i64 0))⟩,
  ⟨some 3, none, .mov (.c (.lit .nilIface))⟩]
def zr30_1 : List AO := [⟨some 7, none, .mov (.t 0)⟩,
  ⟨some 8, none, .callF 37 [(.t 7)]⟩,
  ⟨some 6, none, .mov (.t 8)⟩,
  ⟨some 9, none, .ext 0 (.t 6)⟩,
  ⟨some 10, none, .ext 1 (.t 6)⟩,
  ⟨some 4, none, .mov (.t 9)⟩,
  ⟨some 5, none, .mov (.t 10)⟩]
def zr30_2 : List AO := [⟨some 11, none, .mov (.t 5)⟩,
  ⟨some 12, none, .nilI true (.t 11)⟩]
def zr30_3 : List AO := [⟨some 13, none, .mov (.t 4)⟩,
  ⟨some 14, none, .mov (.t 0)⟩,
  ⟨some 15, none, .mov (.t 5)⟩,
  ⟨some 16, none, .callF 38 [(.c (.str [65, 116, 111, 105])), (.t 14), (.c (.int .i64 0)), (.c (.int .i64 0)), (.t 15)]⟩,
  ⟨some 2, none, .mov (.t 13)⟩,
  ⟨some 3, none, .mov (.t 16)⟩]
def zc30_0 : AC := .seq (.reg zr30_3) .ret
def zc30_1 : AC := .cond (.t 12) zc30_0 .skip
def zr30_4 : List AO := [⟨some 17, none, .mov (.t 4)⟩,
  ⟨some 2, none, .mov (.t 17)⟩,
  ⟨some 3, none, .mov (.c (.lit .nilIface))⟩]
def zc30_2 : AC := .seq (.reg zr30_4) .ret
def zc30_3 : AC := .seq (.seq (.reg zr30_2) zc30_1) zc30_2
def zc30_4 : AC := .seq (.reg zr30_1) zc30_3
def zc30_5 : AC := .seq (.reg zr30_0) zc30_4
def zc30 : AC := zc30_5
theorem ok30 : Tryd.f30.body.bind (compCode Tryd.prog 18) = some zc30 := by kernel_rfl
theorem nt30 : Tryd.f30.ntmps = 18 := by kernel_rfl
theorem res30 : compRes Tryd.prog Tryd.f30.results.toList = some [.tmp 2, .tmp 3] := by kernel_rfl
attribute [go_sem] zr30_0 zr30_4
def s30 (N : Nat) (p1 : List UInt8) : Option (Int × Unit) :=
  (s37 N p1).bind fun x1 =>
  some (x1.1, ())
set_option maxHeartbeats 4000000 in
theorem c30 (N : Nat) (p1 : List UInt8) (r : Int × Unit) (h : s30 N p1 = some r) : PureC Tryd.prog 30 [.str p1] (.tup [.int .i64 r.1, .lit .nilIface]) := by
 refine fn_intro' 18 Tryd.func30 nt30 ok30 res30 (by simp) fun X hP hn hd hr => ?_
 unfold s30 at h
 repeat refine awp_seq ?_
 refine rg (h := ?_)
 repeat refine awp_seq ?_
 refine awp_reg fun K Q hK hQ => ?_
 simp -implicitDefEqProofs (disch := first | omega | rfl) only [go_sem, simprocAttr, zr30_1]
 have hh := bnd_some h; clear h; obtain ⟨x1, hx2, h⟩ := hh
 refine call_pure hP (c37 N p1 x1 hx2) ?_
 simp -implicitDefEqProofs (disch := first | omega | rfl) only [go_sem, simprocAttr]
 refine hK _ _ ?_; clear hK hQ K Q
 repeat refine awp_seq ?_
 refine awp_reg fun K Q hK hQ => ?_
 simp -implicitDefEqProofs (disch := first | omega | rfl) only [go_sem, simprocAttr, zr30_2]
 refine hK _ _ ?_; clear hK hQ K Q
 repeat refine awp_seq ?_
 refine awp_else (by rfl) ?_
 repeat refine awp_seq ?_
 refine awp_skip ?_
 repeat refine awp_seq ?_
 refine rg (h := ?_)
 obtain rfl := som_inj h
 repeat refine awp_seq ?_
 refine awp_ret ?_
 repeat first | refine then_ret ?_ | refine blk_ret ?_
 exact rtp
def lit2 : List UInt8 := [59, 58, 44, 61, 47, 45, 40, 41, 123, 125]
def zr31_0 : List AO := [⟨some 4, none, .mov (.c (.int .i64 0))⟩]
def zr31_1 : List AO := [⟨some 5, none, .mov (.t 0)⟩,
  ⟨some 6, none, .mov (.t 1)⟩,
  ⟨some 7, none, .callF 39 [(.t 5), (.t 6)]⟩,
  ⟨some 4, none, .mov (.t 7)⟩]
def zc31_0 : AC := .seq (.reg zr31_1) .ret
def zc31_1 : AC := .seq (.reg zr31_0) zc31_0
def zc31 : AC := zc31_1
theorem ok31 : Tryd.f31.body.bind (compCode Tryd.prog 8) = some zc31 := by kernel_rfl
theorem nt31 : Tryd.f31.ntmps = 8 := by kernel_rfl
theorem res31 : compRes Tryd.prog Tryd.f31.results.toList = some [.tmp 4] := by kernel_rfl
attribute [go_sem] zr31_0
def s31 (N : Nat) (p1 : List UInt8) (p2 : Int) : Option Int :=
  (some (Lib.indexByte p1 (Int.toNat p2).toUInt8)).bind fun x1 =>
  some x1
set_option maxHeartbeats 4000000 in
theorem c31 (N : Nat) (p1 : List UInt8) (p2 : Int) (r : Int) (h : s31 N p1 p2 = some r) : PureC Tryd.prog 31 [.str p1, .int .u8 p2] (.int .i64 r) := by
 refine fn_intro' 8 Tryd.func31 nt31 ok31 res31 (by simp) fun X hP hn hd hr => ?_
 unfold s31 at h
 repeat refine awp_seq ?_
 refine rg (h := ?_)
 repeat refine awp_seq ?_
 refine awp_reg fun K Q hK hQ => ?_
 simp -implicitDefEqProofs (disch := first | omega | rfl) only [go_sem, simprocAttr, zr31_1]
 have hh := bnd_some h; clear h; obtain ⟨x1, hx2, h⟩ := hh
 refine call_pure hP (c39o p1 p2 x1 hx2) ?_
 simp -implicitDefEqProofs (disch := first | omega | rfl) only [go_sem, simprocAttr]
 refine hK _ _ ?_; clear hK hQ K Q
 obtain rfl := som_inj h
 repeat refine awp_seq ?_
 refine awp_ret ?_
 repeat first | refine then_ret ?_ | refine blk_ret ?_
 exact rtp
def zr20_0 : List AO := [⟨some 2, none, .box (.t 0)⟩,
  ⟨some 4, none, .alloc [.int .i64 0, .str [], .int .i64 0, .int .i64 0]⟩]
def zr20_1 : List AO := [⟨some 10, none, .load false 1 (.t 2)⟩,
  ⟨some 11, none, .mov (.t 1)⟩,
  ⟨some 12, none, .idxS (.t 10) (.t 11)⟩,
  ⟨some 5, none, .mov (.t 12)⟩]
def zr20_2 : List AO := [⟨some 14, none, .mov (.t 5)⟩,
  ⟨some 15, none, .callF 25 [(.t 14)]⟩,
  ⟨some 13, none, .mov (.t 15)⟩]
def zr20_3 : List AO := [⟨some 16, none, .load false 1 (.t 2)⟩,
  ⟨some 17, none, .mov (.t 1)⟩,
  ⟨some 18, none, .mkfn (.func 26) [] [(.t 2)]⟩,
  ⟨some 19, none, .callF 23 [(.t 16), (.t 17), (.t 18)]⟩,
  ⟨some 6, none, .mov (.t 19)⟩]
def zr20_4 : List AO := [⟨some 20, none, .mov (.t 6)⟩,
  ⟨some 21, none, .mov (.t 1)⟩,
  ⟨some 22, none, .bin .sub (.t 20) (.t 21)⟩,
  ⟨some 23, none, .bin .gtr (.t 22) (.c (.int .i64 24))⟩]
def zr20_5 : List AO := [⟨some 24, none, .mov (.t 1)⟩,
  ⟨some 25, none, .bld [.int .i64 0, .int .i64 0] [(0, 1, (.c (.int .i64 3))), (1, 1, (.t 24))]⟩,
  ⟨some 26, none, .ifc 41 (.t 25)⟩,
  ⟨none, none, .pan (.t 26)⟩]
def zc20_0 : AC := .reg zr20_5
def zc20_1 : AC := .cond (.t 23) zc20_0 .skip
def zr20_6 : List AO := [⟨some 27, none, .load false 1 (.t 2)⟩,
  ⟨some 28, none, .mov (.t 1)⟩,
  ⟨some 29, none, .mov (.t 6)⟩,
  ⟨some 30, none, .slcS (.t 27) (some (.t 28)) (some (.t 29))⟩,
  ⟨some 31, none, .mov (.t 1)⟩,
  ⟨some 32, none, .bld [.int .i64 0, .str [], .int .i64 0, .int .i64 0] [(0, 1, (.c (.int .i64 1))), (1, 1, (.t 30)), (3, 1, (.t 31))]⟩,
  ⟨none, none, .store 4 (.t 4) (.t 32)⟩]
def zc20_2 : AC := .seq (.reg zr20_6) .ret
def zc20_3 : AC := .seq (.seq (.reg zr20_4) zc20_1) zc20_2
def zc20_4 : AC := .seq (.reg zr20_3) zc20_3
def zr20_7 : List AO := [⟨some 34, none, .mov (.t 5)⟩,
  ⟨some 35, none, .callF 28 [(.t 34)]⟩,
  ⟨some 33, none, .mov (.t 35)⟩]
def zr20_8 : List AO := [⟨some 36, none, .load false 1 (.t 2)⟩,
  ⟨some 37, none, .mov (.t 1)⟩,
  ⟨some 38, none, .mkfn (.func 29) [] [(.t 2)]⟩,
  ⟨some 39, none, .callF 23 [(.t 36), (.t 37), (.t 38)]⟩,
  ⟨some 7, none, .mov (.t 39)⟩]
def zr20_9 : List AO := [⟨some 40, none, .mov (.t 7)⟩,
  ⟨some 41, none, .mov (.t 1)⟩,
  ⟨some 42, none, .bin .sub (.t 40) (.t 41)⟩,
  ⟨some 43, none, .bin .gtr (.t 42) (.c (.int .i64 12))⟩,
  ⟨some 44, none, .mov (.t 43)⟩,
  ⟨some 45, some (44, false), .mov (.t 7)⟩,
  ⟨some 46, some (44, false), .load false 1 (.t 2)⟩,
  ⟨some 47, some (44, false), .lenS (.t 46)⟩,
  ⟨some 48, some (44, false), .bin .lss (.t 45) (.t 47)⟩,
  ⟨some 49, some (44, false), .mov (.t 48)⟩,
  ⟨some 50, some (49, true), .load false 1 (.t 2)⟩,
  ⟨some 51, some (49, true), .mov (.t 7)⟩,
  ⟨some 52, some (49, true), .idxS (.t 50) (.t 51)⟩,
  ⟨some 53, some (49, true), .callF 27 [(.t 52)]⟩,
  ⟨some 54, some (44, false), .pick (.t 49) (.t 53) (.c (.bool false))⟩,
  ⟨some 55, none, .pick (.t 44) (.c (.bool true)) (.t 54)⟩]
def zr20_10 : List AO := [⟨some 56, none, .mov (.t 1)⟩,
  ⟨some 57, none, .bld [.int .i64 0, .int .i64 0] [(0, 1, (.c (.int .i64 5))), (1, 1, (.t 56))]⟩,
  ⟨some 58, none, .ifc 41 (.t 57)⟩,
  ⟨none, none, .pan (.t 58)⟩]
def zc20_5 : AC := .reg zr20_10
def zc20_6 : AC := .cond (.t 55) zc20_5 .skip
def zr20_11 : List AO := [⟨some 60, none, .load false 1 (.t 2)⟩,
  ⟨some 61, none, .mov (.t 1)⟩,
  ⟨some 62, none, .mov (.t 7)⟩,
  ⟨some 63, none, .slcS (.t 60) (some (.t 61)) (some (.t 62))⟩,
  ⟨some 64, none, .callF 30 [(.t 63)]⟩,
  ⟨some 59, none, .mov (.t 64)⟩,
  ⟨some 65, none, .ext 0 (.t 59)⟩,
  ⟨some 66, none, .ext 1 (.t 59)⟩,
  ⟨some 8, none, .mov (.t 65)⟩,
  ⟨some 9, none, .mov (.t 66)⟩]
def zr20_12 : List AO := [⟨some 67, none, .load false 1 (.t 2)⟩,
  ⟨some 68, none, .mov (.t 1)⟩,
  ⟨some 69, none, .mov (.t 7)⟩,
  ⟨some 70, none, .slcS (.t 67) (some (.t 68)) (some (.t 69))⟩,
  ⟨some 71, none, .mov (.t 8)⟩,
  ⟨some 72, none, .mov (.t 1)⟩,
  ⟨some 73, none, .bld [.int .i64 0, .str [], .int .i64 0, .int .i64 0] [(0, 1, (.c (.int .i64 2))), (1, 1, (.t 70)), (2, 1, (.t 71)), (3, 1, (.t 72))]⟩,
  ⟨none, none, .store 4 (.t 4) (.t 73)⟩]
def zc20_7 : AC := .seq (.reg zr20_12) .ret
def zc20_8 : AC := .seq (.reg zr20_11) zc20_7
def zc20_9 : AC := .seq (.seq (.reg zr20_9) zc20_6) zc20_8
def zc20_10 : AC := .seq (.reg zr20_8) zc20_9
def zr20_13 : List AO := [⟨some 75, none, .mov (.t 5)⟩,
  ⟨some 76, none, .callF 31 [(.c (.str lit2)), (.t 75)]⟩,
  ⟨some 77, none, .bin .geq (.t 76) (.c (.int .i64 0))⟩,
  ⟨some 74, none, .mov (.t 77)⟩]
def zr20_14 : List AO := [⟨some 78, none, .load false 1 (.t 2)⟩,
  ⟨some 79, none, .mov (.t 1)⟩,
  ⟨some 80, none, .mov (.t 1)⟩,
  ⟨some 81, none, .bin .add (.t 80) (.c (.int .i64 1))⟩,
  ⟨some 82, none, .slcS (.t 78) (some (.t 79)) (some (.t 81))⟩,
  ⟨some 83, none, .mov (.t 1)⟩,
  ⟨some 84, none, .bld [.int .i64 0, .str [], .int .i64 0, .int .i64 0] [(0, 1, (.c (.int .i64 3))), (1, 1, (.t 82)), (3, 1, (.t 83))]⟩,
  ⟨none, none, .store 4 (.t 4) (.t 84)⟩]
def zc20_11 : AC := .seq (.reg zr20_14) .ret
def zc20_12 : AC := .cond (.t 74) zc20_11 .skip
def zc20_13 : AC := .seq (.reg zr20_13) zc20_12
def zc20_14 : AC := .cond (.t 33) zc20_10 zc20_13
def zc20_15 : AC := .seq (.reg zr20_7) zc20_14
def zc20_16 : AC := .cond (.t 13) zc20_4 zc20_15
def zc20_17 : AC := .seq (.reg zr20_2) zc20_16
def zc20_18 : AC := .block 0 zc20_17
def zr20_15 : List AO := [⟨some 85, none, .mov (.t 1)⟩,
  ⟨some 86, none, .bld [.int .i64 0, .int .i64 0] [(0, 1, (.c (.int .i64 4))), (1, 1, (.t 85))]⟩,
  ⟨some 87, none, .ifc 41 (.t 86)⟩,
  ⟨none, none, .pan (.t 87)⟩]
def zc20_19 : AC := .reg zr20_15
def zc20_20 : AC := .seq (.seq (.reg zr20_1) zc20_18) zc20_19
def zc20_21 : AC := .seq (.reg zr20_0) zc20_20
def zc20 : AC := zc20_21
theorem ok20 : Tryd.f20.body.bind (compCode Tryd.prog 88) = some zc20 := by kernel_rfl
theorem nt20 : Tryd.f20.ntmps = 88 := by kernel_rfl
theorem res20 : compRes Tryd.prog Tryd.f20.results.toList = some [.cell true 4 4] := by kernel_rfl
attribute [go_sem] zr20_1 zr20_12 zr20_14 zr20_4 zr20_6
def s20 (N : Nat) (p1 : List UInt8) (p2 : Int) : Option ((Token) ⊕ LexerFault) :=
  grd (0 ≤ p2 ∧ p2 < (List.length p1 : Int)) <|
  (s25 N ((List.getD p1 p2.toNat 0).toNat : Int)).bind fun x5 =>
  bif x5 then
    (s23_2 N p1 p2 p1).bind fun x8 =>
    if 24 < IntKind.wrap .i64 (x8 - p2) then
      some (.inr ({ err_ := 3, at_ := p2 } : LexerFault))
    else
      grd (p2 ≤ x8 ∧ x8 ≤ (List.length p1 : Int)) <|
      some (.inl ({ Kind := 1, Text := List.drop p2.toNat (List.take x8.toNat p1), N := 0, At := p2 } : Token))
  else
    (s28 N ((List.getD p1 p2.toNat 0).toNat : Int)).bind fun x13 =>
    bif x13 then
      (s23_3 N p1 p2 p1).bind fun x16 =>
      if 12 < IntKind.wrap .i64 (x16 - p2) then
        some (.inr ({ err_ := 5, at_ := p2 } : LexerFault))
      else
        if x16 < (List.length p1 : Int) then
          grd (0 ≤ x16) <|
          (s27 N ((List.getD p1 x16.toNat 0).toNat : Int)).bind fun x21 =>
          bif x21 then
            some (.inr ({ err_ := 5, at_ := p2 } : LexerFault))
          else
            grd (p2 ≤ x16 ∧ x16 ≤ (List.length p1 : Int)) <|
            (s30 N (List.drop p2.toNat (List.take x16.toNat p1))).bind fun x26 =>
            some (.inl ({ Kind := 2, Text := List.drop p2.toNat (List.take x16.toNat p1), N := x26.1, At := p2 } : Token))
        else
          grd (p2 ≤ x16 ∧ x16 ≤ (List.length p1 : Int)) <|
          (s30 N (List.drop p2.toNat (List.take x16.toNat p1))).bind fun x30 =>
          some (.inl ({ Kind := 2, Text := List.drop p2.toNat (List.take x16.toNat p1), N := x30.1, At := p2 } : Token))
    else
      (s31 N lit2 ((List.getD p1 p2.toNat 0).toNat : Int)).bind fun x32 =>
      if 0 ≤ x32 then
        grd (p2 ≤ IntKind.wrap .i64 (p2 + 1) ∧ IntKind.wrap .i64 (p2 + 1) ≤ (List.length p1 : Int)) <|
        some (.inl ((({ Kind := 3, Text := List.drop p2.toNat (List.take (IntKind.wrap .i64 (p2 + 1)).toNat p1), N := 0, At := p2 } : Token))))
      else
        some (.inr ({ err_ := 4, at_ := p2 } : LexerFault))
set_option maxHeartbeats 4000000 in
theorem c20 (N : Nat) (p1 : List UInt8) (p2 : Int) (r : (Token) ⊕ LexerFault) (h : s20 N p1 p2 = some r) : PanC Tryd.prog 20 [.str p1, .int .i64 p2] (resP 41 (fun r : Token => .agg (Token.cs r)) (fun y : LexerFault => .agg (LexerFault.cs y)) r) := by
 refine fn_intro' 88 Tryd.func20 nt20 ok20 res20 (by simp) fun X hP hn hd hr => ?_
 unfold s20 at h
 repeat refine awp_seq ?_
 refine awp_reg fun K Q hK hQ => ?_
 simp -implicitDefEqProofs (disch := first | omega | rfl) only [go_sem, simprocAttr, zr20_0, argS]
 intro b1 b2
 refine hK _ _ ?_; clear hK hQ K Q
 repeat refine awp_seq ?_
 refine awp_le' (s' := [(1, .int .i64 p2), (2, .ref ([.str p1])), (4, .ptr 4 b2 0)]) (own' := (4, b2, .cells ([.int .i64 0, .str [], .int .i64 0, .int .i64 0])) :: []) (_ :: []) (_ :: []) (_ :: _ :: []) rfl (List.Perm.trans perm_cc (List.Perm.refl _)) ?_ ?_ ?_
 · simp -implicitDefEqProofs (disch := first | omega | rfl) only [go_sem, simprocAttr, subF_cons, subF_nil]
   exact ⟨(.keep _), (frz_ptr (by simp -implicitDefEqProofs (disch := first | omega | rfl) only [go_sem, simprocAttr])), (.lptr ..)⟩
 · exact (.cell .nil)
 repeat refine awp_seq ?_
 obtain ⟨⟨hg3, hg4⟩, h⟩ := grd_some h
 refine rgf (And.intro (eq_true hg3) (eq_true hg4)) ?_
 repeat refine awp_seq ?_
 refine awp_block ?_
 repeat refine awp_seq ?_
 refine awp_reg fun K Q hK hQ => ?_
 simp -implicitDefEqProofs (disch := first | omega | rfl) only [go_sem, simprocAttr, zr20_2]
 have hh := bnd_some h; clear h; obtain ⟨x5, hx6, h⟩ := hh
 refine call_pure hP (c25 N ((List.getD p1 p2.toNat 0).toNat : Int) x5 hx6) ?_
 simp -implicitDefEqProofs (disch := first | omega | rfl) only [go_sem, simprocAttr]
 refine hK _ _ ?_; clear hK hQ K Q
 rcases cnd_some h with ⟨hc7, h⟩ | ⟨hc7, h⟩
 · repeat refine awp_seq ?_
   refine awp_then (by simp -implicitDefEqProofs (disch := first | omega | rfl) only [go_sem, simprocAttr, hc7]) ?_
   repeat refine awp_seq ?_
   refine awp_reg fun K Q hK hQ => ?_
   simp -implicitDefEqProofs (disch := first | omega | rfl) only [go_sem, simprocAttr, zr20_3]
   have hh := bnd_some h; clear h; obtain ⟨x8, hx9, h⟩ := hh
   refine call_pure hP (c23_2 N p1 p2 p1 x8 hx9) ?_
   simp -implicitDefEqProofs (disch := first | omega | rfl) only [go_sem, simprocAttr]
   refine hK _ _ ?_; clear hK hQ K Q
   repeat refine awp_seq ?_
   refine rg (h := ?_)
   rcases ite_some h with ⟨hc10, h⟩ | ⟨hc10, h⟩
   · repeat refine awp_seq ?_
     refine awp_then (by simp -implicitDefEqProofs (disch := first | omega | rfl) only [go_sem, simprocAttr, eq_true hc10]) ?_
     repeat refine awp_seq ?_
     refine awp_reg fun K Q hK hQ => ?_
     simp -implicitDefEqProofs (disch := first | omega | rfl) only [go_sem, simprocAttr, zr20_5]
     refine hQ _ _ _ ?_
     clear hK hQ K Q
     obtain rfl := som_inj h
     repeat first | refine then_pan ?_ | refine blk_pan ?_
     exact pnp
   repeat refine awp_seq ?_
   refine awp_else (by simp -implicitDefEqProofs (disch := first | omega | rfl) only [go_sem, simprocAttr, eq_false hc10]) ?_
   repeat refine awp_seq ?_
   refine awp_skip ?_
   repeat refine awp_seq ?_
   obtain ⟨⟨hg11, hg12⟩, h⟩ := grd_some h
   refine rgf (And.intro (eq_true hg3) (And.intro (eq_true hg11) (eq_true hg12))) ?_
   obtain rfl := som_inj h
   repeat refine awp_seq ?_
   refine awp_le' (s' := [(4, .ptr 4 b2 0)]) (own' := (4, b2, .cells (Token.cs ({ Kind := 1, Text := List.drop p2.toNat (List.take x8.toNat p1), N := 0, At := p2 } : Token))) :: []) ([]) (_ :: []) (_ :: []) rfl (List.Perm.refl _) ?_ ?_ ?_
   · simp -implicitDefEqProofs (disch := first | omega | rfl) only [go_sem, simprocAttr, subF_cons, subF_nil]
     exact (.lptr ..)
   · exact (.cells (by rw [Token.cs_eq]; exact (.cons (.keep _) (.cons (.keep _) (.cons (.keep _) (.cons (.keep _) (.nil _)))))) .nil)
   refine awp_ret ?_
   repeat first | refine then_ret ?_ | refine blk_ret ?_
   exact rtv
 repeat refine awp_seq ?_
 refine awp_else (by simp -implicitDefEqProofs (disch := first | omega | rfl) only [go_sem, simprocAttr, hc7]) ?_
 repeat refine awp_seq ?_
 refine awp_reg fun K Q hK hQ => ?_
 simp -implicitDefEqProofs (disch := first | omega | rfl) only [go_sem, simprocAttr, zr20_7]
 have hh := bnd_some h; clear h; obtain ⟨x13, hx14, h⟩ := hh
 refine call_pure hP (c28 N ((List.getD p1 p2.toNat 0).toNat : Int) x13 hx14) ?_
 simp -implicitDefEqProofs (disch := first | omega | rfl) only [go_sem, simprocAttr]
 refine hK _ _ ?_; clear hK hQ K Q
 rcases cnd_some h with ⟨hc15, h⟩ | ⟨hc15, h⟩
 · repeat refine awp_seq ?_
   refine awp_then (by simp -implicitDefEqProofs (disch := first | omega | rfl) only [go_sem, simprocAttr, hc15]) ?_
   repeat refine awp_seq ?_
   refine awp_reg fun K Q hK hQ => ?_
   simp -implicitDefEqProofs (disch := first | omega | rfl) only [go_sem, simprocAttr, zr20_8]
   have hh := bnd_some h; clear h; obtain ⟨x16, hx17, h⟩ := hh
   refine call_pure hP (c23_3 N p1 p2 p1 x16 hx17) ?_
   simp -implicitDefEqProofs (disch := first | omega | rfl) only [go_sem, simprocAttr]
   refine hK _ _ ?_; clear hK hQ K Q
   repeat refine awp_seq ?_
   refine awp_reg fun K Q hK hQ => ?_
   rcases ite_some h with ⟨hc18, h⟩ | ⟨hc18, h⟩
   · simp -implicitDefEqProofs (disch := first | omega | rfl) only [go_sem, simprocAttr, zr20_9, eq_true hc18]
     refine hK _ _ ?_; clear hK hQ K Q
     repeat refine awp_seq ?_
     refine awp_then (by rfl) ?_
     repeat refine awp_seq ?_
     refine awp_reg fun K Q hK hQ => ?_
     simp -implicitDefEqProofs (disch := first | omega | rfl) only [go_sem, simprocAttr, zr20_10]
     refine hQ _ _ _ ?_
     clear hK hQ K Q
     obtain rfl := som_inj h
     repeat first | refine then_pan ?_ | refine blk_pan ?_
     exact pnp
   rcases ite_some h with ⟨hc19, h⟩ | ⟨hc19, h⟩
   · obtain ⟨hg20, h⟩ := grd_some h
     simp -implicitDefEqProofs (disch := first | omega | rfl) only [go_sem, simprocAttr, zr20_9, eq_false hc18, eq_true hc19, eq_true hg20]
     have hh := bnd_some h; clear h; obtain ⟨x21, hx22, h⟩ := hh
     refine call_pure hP (c27 N ((List.getD p1 x16.toNat 0).toNat : Int) x21 hx22) ?_
     simp -implicitDefEqProofs (disch := first | omega | rfl) only [go_sem, simprocAttr]
     refine hK _ _ ?_; clear hK hQ K Q
     rcases cnd_some h with ⟨hc23, h⟩ | ⟨hc23, h⟩
     · repeat refine awp_seq ?_
       refine awp_then (by simp -implicitDefEqProofs (disch := first | omega | rfl) only [go_sem, simprocAttr, hc23]) ?_
       repeat refine awp_seq ?_
       refine awp_reg fun K Q hK hQ => ?_
       simp -implicitDefEqProofs (disch := first | omega | rfl) only [go_sem, simprocAttr, zr20_10]
       refine hQ _ _ _ ?_
       clear hK hQ K Q
       obtain rfl := som_inj h
       repeat first | refine then_pan ?_ | refine blk_pan ?_
       exact pnp
     repeat refine awp_seq ?_
     refine awp_else (by simp -implicitDefEqProofs (disch := first | omega | rfl) only [go_sem, simprocAttr, hc23]) ?_
     repeat refine awp_seq ?_
     refine awp_skip ?_
     repeat refine awp_seq ?_
     refine awp_reg fun K Q hK hQ => ?_
     obtain ⟨⟨hg24, hg25⟩, h⟩ := grd_some h
     simp -implicitDefEqProofs (disch := first | omega | rfl) only [go_sem, simprocAttr, zr20_11, eq_true hg3, eq_true hg24, eq_true hg25]
     have hh := bnd_some h; clear h; obtain ⟨x26, hx27, h⟩ := hh
     refine call_pure hP (c30 N (List.drop p2.toNat (List.take x16.toNat p1)) x26 hx27) ?_
     simp -implicitDefEqProofs (disch := first | omega | rfl) only [go_sem, simprocAttr]
     refine hK _ _ ?_; clear hK hQ K Q
     repeat refine awp_seq ?_
     refine rgf (And.intro (eq_true hg3) (And.intro (eq_true hg24) (eq_true hg25))) ?_
     obtain rfl := som_inj h
     repeat refine awp_seq ?_
     refine awp_le' (s' := [(4, .ptr 4 b2 0)]) (own' := (4, b2, .cells (Token.cs ({ Kind := 2, Text := List.drop p2.toNat (List.take x16.toNat p1), N := x26.1, At := p2 } : Token))) :: []) ([]) (_ :: []) (_ :: []) rfl (List.Perm.refl _) ?_ ?_ ?_
     · simp -implicitDefEqProofs (disch := first | omega | rfl) only [go_sem, simprocAttr, subF_cons, subF_nil]
       exact (.lptr ..)
     · exact (.cells (by rw [Token.cs_eq]; exact (.cons (.keep _) (.cons (.keep _) (.cons (.keep _) (.cons (.keep _) (.nil _)))))) .nil)
     refine awp_ret ?_
     repeat first | refine then_ret ?_ | refine blk_ret ?_
     exact rtv
   simp -implicitDefEqProofs (disch := first | omega | rfl) only [go_sem, simprocAttr, zr20_9, eq_false hc18, eq_false hc19]
   refine hK _ _ ?_; clear hK hQ K Q
   repeat refine awp_seq ?_
   refine awp_else (by rfl) ?_
   repeat refine awp_seq ?_
   refine awp_skip ?_
   repeat refine awp_seq ?_
   refine awp_reg fun K Q hK hQ => ?_
   obtain ⟨⟨hg28, hg29⟩, h⟩ := grd_some h
   simp -implicitDefEqProofs (disch := first | omega | rfl) only [go_sem, simprocAttr, zr20_11, eq_true hg3, eq_true hg28, eq_true hg29]
   have hh := bnd_some h; clear h; obtain ⟨x30, hx31, h⟩ := hh
   refine call_pure hP (c30 N (List.drop p2.toNat (List.take x16.toNat p1)) x30 hx31) ?_
   simp -implicitDefEqProofs (disch := first | omega | rfl) only [go_sem, simprocAttr]
   refine hK _ _ ?_; clear hK hQ K Q
   repeat refine awp_seq ?_
   refine rgf (And.intro (eq_true hg3) (And.intro (eq_true hg28) (eq_true hg29))) ?_
   obtain rfl := som_inj h
   repeat refine awp_seq ?_
   refine awp_le' (s' := [(4, .ptr 4 b2 0)]) (own' := (4, b2, .cells (Token.cs ({ Kind := 2, Text := List.drop p2.toNat (List.take x16.toNat p1), N := x30.1, At := p2 } : Token))) :: []) ([]) (_ :: []) (_ :: []) rfl (List.Perm.refl _) ?_ ?_ ?_
   · simp -implicitDefEqProofs (disch := first | omega | rfl) only [go_sem, simprocAttr, subF_cons, subF_nil]
     exact (.lptr ..)
   · exact (.cells (by rw [Token.cs_eq]; exact (.cons (.keep _) (.cons (.keep _) (.cons (.keep _) (.cons (.keep _) (.nil _)))))) .nil)
   refine awp_ret ?_
   repeat first | refine then_ret ?_ | refine blk_ret ?_
   exact rtv
 repeat refine awp_seq ?_
 refine awp_else (by simp -implicitDefEqProofs (disch := first | omega | rfl) only [go_sem, simprocAttr, hc15]) ?_
 repeat refine awp_seq ?_
 refine awp_reg fun K Q hK hQ => ?_
 simp -implicitDefEqProofs (disch := first | omega | rfl) only [go_sem, simprocAttr, zr20_13]
 have hh := bnd_some h; clear h; obtain ⟨x32, hx33, h⟩ := hh
 refine call_pure hP (c31 N lit2 ((List.getD p1 p2.toNat 0).toNat : Int) x32 hx33) ?_
 simp -implicitDefEqProofs (disch := first | omega | rfl) only [go_sem, simprocAttr]
 refine hK _ _ ?_; clear hK hQ K Q
 rcases ite_some h with ⟨hc34, h⟩ | ⟨hc34, h⟩
 · repeat refine awp_seq ?_
   refine awp_then (by simp -implicitDefEqProofs (disch := first | omega | rfl) only [go_sem, simprocAttr, eq_true hc34]) ?_
   repeat refine awp_seq ?_
   obtain ⟨⟨hg35, hg36⟩, h⟩ := grd_some h
   refine rgf (And.intro (eq_true hg3) (And.intro (eq_true hg35) (eq_true hg36))) ?_
   obtain rfl := som_inj h
   repeat refine awp_seq ?_
   refine awp_le' (s' := [(4, .ptr 4 b2 0)]) (own' := (4, b2, .cells (Token.cs (({ Kind := 3, Text := List.drop p2.toNat (List.take (IntKind.wrap .i64 (p2 + 1)).toNat p1), N := 0, At := p2 } : Token)))) :: []) ([]) (_ :: []) (_ :: []) rfl (List.Perm.refl _) ?_ ?_ ?_
   · simp -implicitDefEqProofs (disch := first | omega | rfl) only [go_sem, simprocAttr, subF_cons, subF_nil]
     exact (.lptr ..)
   · exact (.cells (by rw [Token.cs_eq]; exact (.cons (.keep _) (.cons (.keep _) (.cons (.keep _) (.cons (.keep _) (.nil _)))))) .nil)
   refine awp_ret ?_
   repeat first | refine then_ret ?_ | refine blk_ret ?_
   exact rtv
 repeat refine awp_seq ?_
 refine awp_else (by simp -implicitDefEqProofs (disch := first | omega | rfl) only [go_sem, simprocAttr, eq_false hc34]) ?_
 repeat refine awp_seq ?_
 refine awp_skip ?_
 repeat refine awp_seq ?_
 refine awp_reg fun K Q hK hQ => ?_
 simp -implicitDefEqProofs (disch := first | omega | rfl) only [go_sem, simprocAttr, zr20_15]
 refine hQ _ _ _ ?_
 clear hK hQ K Q
 obtain rfl := som_inj h
 repeat first | refine then_pan ?_ | refine blk_pan ?_
 exact pnp
def zr18_0 : List AO := [⟨some 7, none, .asrt 41 (.agg [.int .i64 0, .int .i64 0]) (.t 6)⟩,
  ⟨some 5, none, .mov (.t 7)⟩,
  ⟨some 8, none, .ext 0 (.t 5)⟩,
  ⟨some 9, none, .ext 1 (.t 5)⟩,
  ⟨some 3, none, .alloc [.int .i64 0, .int .i64 0]⟩,
  ⟨none, none, .store 2 (.t 3) (.t 8)⟩,
  ⟨some 4, none, .mov (.t 9)⟩]
def zr18_1 : List AO := [⟨some 10, none, .mov (.t 4)⟩]
def zr18_2 : DT := (.pur ⟨some 11, none, .fadr 0 (.t 3)⟩ (.pur ⟨some 12, none, .load false 1 (.t 11)⟩ (.pur ⟨some 13, none, .fadr 1 (.t 3)⟩ (.pur ⟨some 14, none, .load false 1 (.t 13)⟩ (.alt false ⟨none, none, .store 1 (.t 0) (.c (.nil))⟩ (.alt false ⟨none, none, .store 1 (.t 1) (.t 12)⟩ (.alt true ⟨none, none, .store 1 (.t 2) (.t 14)⟩ .done .stop) .stop) .stop)))))
def zc18_0 : AC := .regD zr18_2
def zc18_1 : AC := .cond (.t 10) zc18_0 .skip
def zc18_2 : AC := .seq (.reg zr18_1) zc18_1
theorem rec18 : Tryd.f18.body.bind (compR Tryd.prog 15) = some (6, zr18_0, zc18_2) := by kernel_rfl
theorem nt18 : Tryd.f18.ntmps = 15 := by kernel_rfl
theorem rs18 : Tryd.f18.results.toList = [] := by kernel_rfl
def zr11_0 : List AO := [⟨some 2, none, .alloc [.nil]⟩,
  ⟨some 3, none, .alloc [.int .i64 0]⟩,
  ⟨some 4, none, .alloc [.int .i64 0]⟩]
def zr11_1 : List AO := [⟨some 7, none, .mov (.t 0)⟩,
  ⟨some 8, none, .lenS (.t 7)⟩,
  ⟨some 9, none, .bin .gtr (.t 8) (.c (.int .i64 20000))⟩]
def zr11_2 : List AO := [⟨none, none, .store 1 (.t 2) (.c (.nil))⟩,
  ⟨none, none, .store 1 (.t 3) (.c (.int .i64 3))⟩,
  ⟨none, none, .store 1 (.t 4) (.c (.int .i64 (-1)))⟩]
def zc11_0 : AC := .seq (.reg zr11_2) .ret
def zc11_1 : AC := .cond (.t 9) zc11_0 .skip
def zr11_3 : List AO := [⟨some 10, none, .mkfn (.func 18) [] [(.t 2), (.t 3), (.t 4)]⟩]
def zr11_4 : List AO := [⟨some 11, none, .mov (.t 0)⟩,
  ⟨some 12, none, .callF 19 [(.t 11), (.c (.int .i64 0))]⟩,
  ⟨some 5, none, .mov (.t 12)⟩]
def zr11_5 : List AO := [⟨some 13, none, .mov (.t 5)⟩,
  ⟨some 14, none, .mov (.t 0)⟩,
  ⟨some 15, none, .lenS (.t 14)⟩,
  ⟨some 16, none, .bin .lss (.t 13) (.t 15)⟩]
def zc11_2 : AC := .cond (.t 16) .skip (.exit 0)
def zr11_6 : List AO := [⟨some 20, none, .mov (.t 0)⟩,
  ⟨some 21, none, .mov (.t 5)⟩,
  ⟨some 22, none, .callF 20 [(.t 20), (.t 21)]⟩,
  ⟨some 6, none, .alloc [.int .i64 0, .str [], .int .i64 0, .int .i64 0]⟩,
  ⟨none, none, .store 4 (.t 6) (.t 22)⟩]
def zr11_7 : List AO := [⟨some 23, none, .load false 1 (.t 2)⟩,
  ⟨some 24, none, .len (.t 23)⟩,
  ⟨some 25, none, .bin .eql (.t 24) (.c (.int .i64 5000))⟩]
def zr11_8 : List AO := [⟨some 26, none, .mov (.t 5)⟩,
  ⟨some 27, none, .bld [.int .i64 0, .int .i64 0] [(0, 1, (.c (.int .i64 3))), (1, 1, (.t 26))]⟩,
  ⟨some 28, none, .ifc 41 (.t 27)⟩,
  ⟨none, none, .pan (.t 28)⟩]
def zc11_3 : AC := .reg zr11_8
def zc11_4 : AC := .cond (.t 25) zc11_3 .skip
def zr11_9 : List AO := [⟨some 29, none, .load false 1 (.t 2)⟩,
  ⟨some 30, none, .load true 4 (.t 6)⟩,
  ⟨some 31, none, .mkrow 4 1 [.int .i64 0, .str [], .int .i64 0, .int .i64 0] [(0, 4, (.t 30))]⟩,
  ⟨some 32, none, .app 4 40 (.t 29) (.t 31)⟩,
  ⟨none, none, .store 1 (.t 2) (.t 32)⟩]
def zr11_10 : List AO := [⟨some 33, none, .mov (.t 5)⟩,
  ⟨some 34, none, .fadr 1 (.t 6)⟩,
  ⟨some 35, none, .load false 1 (.t 34)⟩,
  ⟨some 36, none, .lenS (.t 35)⟩,
  ⟨some 37, none, .bin .add (.t 33) (.t 36)⟩,
  ⟨some 5, none, .mov (.t 37)⟩]
def zc11_5 : AC := .reg zr11_10
def zc11_6 : AC := .seq (.reg zr11_9) zc11_5
def zc11_7 : AC := .seq (.seq (.reg zr11_7) zc11_4) zc11_6
def zc11_8 : AC := .seq (.reg zr11_6) zc11_7
def zr11_11 : List AO := [⟨some 17, none, .mov (.t 0)⟩,
  ⟨some 18, none, .mov (.t 5)⟩,
  ⟨some 19, none, .callF 19 [(.t 17), (.t 18)]⟩,
  ⟨some 5, none, .mov (.t 19)⟩]
def zc11_9 : AC := .reg zr11_11
def zc11_10 : AC := .seq (.block 1 zc11_8) zc11_9
def zc11_11 : AC := .seq (.seq (.reg zr11_5) zc11_2) zc11_10
def zc11_12 : AC := .loop zc11_11
def zc11_13 : AC := .block 0 zc11_12
def zr11_12 : List AO := [⟨some 38, none, .load false 1 (.t 2)⟩,
  ⟨none, none, .store 1 (.t 2) (.t 38)⟩,
  ⟨none, none, .store 1 (.t 3) (.c (.int .i64 0))⟩,
  ⟨none, none, .store 1 (.t 4) (.c (.int .i64 0))⟩]
def zc11 : CD := .seq (.reg zr11_0) (.seq (.seq (.reg zr11_1) zc11_1) (.dfr zr11_3 (.t 10) (.seq (.seq (.reg zr11_4) zc11_13) (.seq (.reg zr11_12) (.last (.ret))))))
theorem ok11 : Tryd.f11.body.bind (compD Tryd.prog 39) = some zc11 := by kernel_rfl
theorem nt11 : Tryd.f11.ntmps = 39 := by kernel_rfl
theorem res11 : compRes Tryd.prog Tryd.f11.results.toList = some [.cell false 1 2, .cell false 1 3, .cell false 1 4] := by kernel_rfl
theorem okf18 : okF Tryd.prog 18 = true := by kernel_rfl
attribute [go_sem] zr11_1 zr11_10 zr11_12 zr11_2 zr11_5 zr11_7 zr18_1
def s11_b1 (N : Nat) (p1 : List UInt8) (l7 : List Token) (x10 : Int) : Option ((((List Token) × Int) ⊕ (Ou ((List Token)) ((List Token) × Int × Int)))) :=
  if x10 < (List.length p1 : Int) then
    (s20 N p1 x10).bind fun x16 => Sum.elim (fun x18 =>
      if (List.length l7 : Int) = 5000 then
        some (.inr (.ret ([], 3, x10)))
      else
        grd ((List.length l7 + 1) * 40 ≤ 140737488355328 ∧ List.length l7 + 1 ≤ 140737488355328) <|
        (s19 N p1 (IntKind.wrap .i64 (x10 + (List.length x18.Text : Int)))).bind fun x29 =>
        some (.inl (l7 ++ [x18], x29))) (fun x19 =>
      some (.inr (.ret ([], x19.err_, x19.at_)))) x16
  else
    some (.inr (.brk l7))
def s11 (N : Nat) (p1 : List UInt8) : Option ((List Token) × Int × Int) :=
  if 20000 < (List.length p1 : Int) then
    some ([], 3, (-1))
  else
    (s19 N p1 0).bind fun x5 =>
    (iter (fun p => s11_b1 N p1 p.1 p.2) N ([], x5)).bind fun o11 => o11.on (fun a11 =>
      some (a11, 0, 0))
      (fun a11r => some a11r)
set_option maxHeartbeats 4000000 in
theorem c11 (N : Nat) (p1 : List UInt8) (r : (List Token) × Int × Int) (h : s11 N p1 = some r) : PureC Tryd.prog 11 [.str p1] (.tup [.sl (List.map Token.av r.1), .int .i64 r.2.1, .int .i64 r.2.2]) := by
 refine fn_introD 39 Tryd.func11 nt11 ok11 res11 (by simp) fun X hP hn hd hr hz => ?_
 unfold s11 at h
 repeat first | refine awp_seq ?_ | refine dwp_seq hz ?_ | refine dwp_last hz ?_
 refine awp_reg fun K Q hK hQ => ?_
 simp -implicitDefEqProofs (disch := first | omega | rfl) only [go_sem, simprocAttr, zr11_0, argS]
 intro b1 b2 b3
 refine hK _ _ ?_; clear hK hQ K Q
 repeat first | refine awp_seq ?_ | refine dwp_seq hz ?_ | refine dwp_last hz ?_
 refine rg (h := ?_)
 rcases ite_some h with ⟨hc4, h⟩ | ⟨hc4, h⟩
 · repeat first | refine awp_seq ?_ | refine dwp_seq hz ?_ | refine dwp_last hz ?_
   refine awp_then (by simp -implicitDefEqProofs (disch := first | omega | rfl) only [go_sem, simprocAttr, eq_true hc4]) ?_
   repeat first | refine awp_seq ?_ | refine dwp_seq hz ?_ | refine dwp_last hz ?_
   refine rg (h := ?_)
   obtain rfl := som_inj h
   repeat first | refine awp_seq ?_ | refine dwp_seq hz ?_ | refine dwp_last hz ?_
   refine awp_le' (s' := [(2, .ptr 2 b1 0), (3, .ptr 3 b2 0), (4, .ptr 4 b3 0)]) (own' := (2, b1, .cells ([.sl (List.map Token.av [])])) :: (3, b2, .cells ([.int .i64 3])) :: (4, b3, .cells ([.int .i64 (-1)])) :: []) ([]) (_ :: _ :: _ :: []) (_ :: _ :: _ :: []) rfl (List.Perm.trans (List.Perm.cons _ perm_cc) (List.Perm.trans perm_cc ((List.Perm.cons _ (List.Perm.trans perm_cc (List.Perm.refl _)))))) ?_ ?_ ?_
   · simp -implicitDefEqProofs (disch := first | omega | rfl) only [go_sem, simprocAttr, subF_cons, subF_nil]
     exact ⟨(.lptr ..), (.lptr ..), (.lptr ..)⟩
   · exact (.cells (.cons .nil (.nil _)) (.cell (.cell .nil)))
   refine awp_ret ?_
   repeat first | refine then_ret ?_ | refine blk_ret ?_
   refine dend_no hd ?_
   exact rtp
 repeat first | refine awp_seq ?_ | refine dwp_seq hz ?_ | refine dwp_last hz ?_
 refine awp_else (by simp -implicitDefEqProofs (disch := first | omega | rfl) only [go_sem, simprocAttr, eq_false hc4]) ?_
 repeat first | refine awp_seq ?_ | refine dwp_seq hz ?_ | refine dwp_last hz ?_
 refine awp_skip ?_
 repeat first | refine awp_seq ?_ | refine dwp_seq hz ?_ | refine dwp_last hz ?_
 refine dwp_dfr hz hd hr fun K Q hK => ?_
 simp -implicitDefEqProofs (disch := first | omega | rfl) only [go_sem, simprocAttr, zr11_3]
 refine hK _ _ ⟨18, [], [.ptr 2 b1 0, .ptr 3 b2 0, .ptr 4 b3 0], rfl, by rw [hP]; exact okf18, rfl, fun X e1 e2 hr hz hD => ?_⟩
 have hP := e1.trans hP; have hn := e2.trans hn; clear e1 e2 hK K Q
 repeat first | refine awp_seq ?_ | refine dwp_seq hz ?_ | refine dwp_last hz ?_
 refine awp_reg fun K Q hK hQ => ?_
 simp -implicitDefEqProofs (disch := first | omega | rfl) only [go_sem, simprocAttr, zr11_4]
 have hh := bnd_some h; clear h; obtain ⟨x5, hx6, h⟩ := hh
 refine call_pure hP (c19 N p1 0 x5 hx6) ?_
 simp -implicitDefEqProofs (disch := first | omega | rfl) only [go_sem, simprocAttr]
 refine hK _ _ ?_; clear hK hQ K Q
 repeat first | refine awp_seq ?_ | refine dwp_seq hz ?_ | refine dwp_last hz ?_
 refine awp_block ?_
 obtain ⟨o11, ho11, hO11⟩ := bnd_some h
 repeat first | refine awp_seq ?_ | refine dwp_seq hz ?_ | refine dwp_last hz ?_
 refine awp_loop (ι := {p : Nat × (List Token) × (Option Nat) × Int // iter (fun p => s11_b1 N p1 p.1 p.2) p.1 (p.2.1, p.2.2.2) = some o11 ∧ (p.2.2.1 = none → p.2.1 = [])}) (fun p => [(0, .str p1), (2, .ptr 2 b1 0), (3, .ptr 3 b2 0), (4, .ptr 4 b3 0), (5, .int .i64 p.1.2.2.2)]) (fun p => (2, b1, .cells ([accV 501 p.1.2.2.1 (List.length p.1.2.1) 4])) :: accO 501 p.1.2.2.1 (flt Token.av p.1.2.1) ((3, b2, .cells ([.int .i64 0])) :: (4, b3, .cells ([.int .i64 0])) :: [])) (fun p => p.1.1) ⟨⟨N, [], none, x5⟩, ho11, (fun _ => rfl)⟩ ?_ ?_
 · refine ent_le' ([]) (_ :: _ :: _ :: []) (_ :: _ :: _ :: []) rfl (List.Perm.trans (List.Perm.cons _ perm_cc) (List.Perm.trans perm_cc ((List.Perm.cons _ (List.Perm.trans perm_cc (List.Perm.refl _)))))) ?_ ?_
   · simp -implicitDefEqProofs (disch := first | omega | rfl) only [go_sem, simprocAttr, subF_cons, subF_nil]
     exact ⟨(.keep _), (.lptr ..), (.lptr ..), (.lptr ..), (.keep _)⟩
   · exact (.cells (.cons (.keep _) (.nil _)) (.cell (.cell .nil)))
 rintro ⟨⟨n11, l7, bo8, x10⟩, hi11, hb9⟩
 obtain ⟨m11, q11, rfl, h, hm11⟩ := iter_some hi11
 try dsimp only at h
 try dsimp only
 unfold s11_b1 at h
 repeat first | refine awp_seq ?_ | refine dwp_seq hz ?_ | refine dwp_last hz ?_
 refine rg (h := ?_)
 rcases ite_some h with ⟨hc15, h⟩ | ⟨hc15, h⟩
 · repeat first | refine awp_seq ?_ | refine dwp_seq hz ?_ | refine dwp_last hz ?_
   refine awp_then (by simp -implicitDefEqProofs (disch := first | omega | rfl) only [go_sem, simprocAttr, eq_true hc15]) ?_
   repeat first | refine awp_seq ?_ | refine dwp_seq hz ?_ | refine dwp_last hz ?_
   refine awp_skip ?_
   repeat first | refine awp_seq ?_ | refine dwp_seq hz ?_ | refine dwp_last hz ?_
   refine awp_block ?_
   repeat first | refine awp_seq ?_ | refine dwp_seq hz ?_ | refine dwp_last hz ?_
   refine awp_reg fun K Q hK hQ => ?_
   simp -implicitDefEqProofs (disch := first | omega | rfl) only [go_sem, simprocAttr, zr11_6]
   have hh := bnd_some h; clear h; obtain ⟨x16, hx17, h⟩ := hh
   rcases x16 with x18 | x19
   · replace h := sum_l h
     refine call_pure hP (c20 N p1 x10 (.inl x18) hx17) ?_
     simp -implicitDefEqProofs (disch := first | omega | rfl) only [go_sem, simprocAttr]
     intro b21
     refine hK _ _ ?_; clear hK hQ K Q
     repeat first | refine awp_seq ?_ | refine dwp_seq hz ?_ | refine dwp_last hz ?_
     refine rg (by intro K Q; simp -implicitDefEqProofs (disch := first | omega | rfl) only [go_sem, simprocAttr, lenA_acc (acc_len hb9)] <;> rfl) ?_
     rcases ite_some h with ⟨hc22, h⟩ | ⟨hc22, h⟩
     · repeat first | refine awp_seq ?_ | refine dwp_seq hz ?_ | refine dwp_last hz ?_
       refine awp_then (by simp -implicitDefEqProofs (disch := first | omega | rfl) only [go_sem, simprocAttr, eq_true hc22]) ?_
       repeat first | refine awp_seq ?_ | refine dwp_seq hz ?_ | refine dwp_last hz ?_
       refine awp_reg fun K Q hK hQ => ?_
       simp -implicitDefEqProofs (disch := first | omega | rfl) only [go_sem, simprocAttr, zr11_8]
       refine hQ _ _ _ ?_
       clear hK hQ K Q
       obtain rfl := som_inj h
       try dsimp only at hm11
       subst hm11
       simp only [Ou.on_ret] at hO11
       obtain rfl := som_inj hO11
       repeat first | refine then_pan ?_ | refine blk_pan ?_
       refine dend_pan hP hD ?_
       refine def_intro 15 Tryd.func18 nt18 rec18 rs18 (by simp) (.inr ⟨41, (.agg [.int .i64 3, .int .i64 x10]), _, rfl, rfl, rfl, rfl⟩) fun X hP hn hd hr K Q hK => ?_
       simp -implicitDefEqProofs (disch := first | omega | rfl) only [go_sem, simprocAttr, zr18_0, argS]
       intro b23
       refine hK _ _ ?_; clear hK K Q
       repeat first | refine awp_seq ?_ | refine dwp_seq hz ?_ | refine dwp_last hz ?_
       refine rg (h := ?_)
       repeat first | refine awp_seq ?_ | refine dwp_seq hz ?_ | refine dwp_last hz ?_
       refine awp_then (by rfl) ?_
       repeat first | refine awp_seq ?_ | refine dwp_seq hz ?_ | refine dwp_last hz ?_
       refine awp_regD' (_ :: _ :: accO _ _ _ (_ :: [])) (_ :: _ :: []) (_ :: _ :: accO _ _ _ (_ :: _ :: _ :: [])) (by rw [hP]; exact mixed) (by first | rfl | (simp only [accO_app, List.cons_append, List.nil_append]; rfl) | simp only [accO_app, List.cons_append, List.nil_append]) ((List.Perm.cons _ ((List.Perm.cons _ (List.Perm.trans perm_ca ((perm_ha (List.Perm.trans (List.Perm.cons _ perm_cc) (List.Perm.trans perm_cc (List.Perm.refl _)))))))))) fun K hK => ?_
       simp -implicitDefEqProofs (disch := first | omega | rfl) only [go_sem, simprocAttr, zr18_2]
       refine hK _ _ ?_; clear hK K
       repeat' (first | refine then_normal ?_ | refine blk_normal ?_)
       refine dfr_end [] ((2, b1, .cells ([.sl (List.map Token.av [])])) :: (3, b2, .cells ([.int .i64 3])) :: (4, b3, .cells ([.int .i64 x10])) :: []) ?_ ⟨?_, ?_⟩
       · refine ent_le' ([]) (_ :: _ :: _ :: _ :: _ :: accO _ _ _ []) (_ :: _ :: _ :: _ :: _ :: accO _ _ _ []) rfl (List.Perm.trans ((List.Perm.cons _ (List.Perm.cons _ (perm_ha perm_cc)))) (List.Perm.trans (List.Perm.cons _ (List.Perm.cons _ perm_ac)) (List.Perm.trans (List.Perm.cons _ perm_cc) (List.Perm.trans perm_cc ((List.Perm.cons _ (List.Perm.trans ((List.Perm.cons _ (List.Perm.cons _ (perm_ha perm_cc)))) (List.Perm.trans (List.Perm.cons _ (List.Perm.cons _ perm_ac)) (List.Perm.trans (List.Perm.cons _ perm_cc) (List.Perm.trans perm_cc ((List.Perm.cons _ (List.Perm.trans (List.Perm.cons _ (List.Perm.cons _ perm_ac)) (List.Perm.trans (List.Perm.cons _ perm_cc) (List.Perm.trans perm_cc (List.Perm.refl _)))))))))))))))) ?_ ?_
         · exact trivial
         · exact (.cells (.cons .nil (.nil _)) (.cell (.cell (.drop (.drop (.accDrop .nil))))))
       · rfl
       simp -implicitDefEqProofs (disch := first | omega | rfl) only [go_sem, simprocAttr]
       first | exact leaves_none (by first | rfl | simp) | exact leaves_nil
     repeat first | refine awp_seq ?_ | refine dwp_seq hz ?_ | refine dwp_last hz ?_
     refine awp_else (by simp -implicitDefEqProofs (disch := first | omega | rfl) only [go_sem, simprocAttr, eq_false hc22]) ?_
     repeat first | refine awp_seq ?_ | refine dwp_seq hz ?_ | refine dwp_last hz ?_
     refine awp_skip ?_
     repeat first | refine awp_seq ?_ | refine dwp_seq hz ?_ | refine dwp_last hz ?_
     refine awp_reg fun K Q hK hQ => ?_
     obtain ⟨⟨hg25, hg26⟩, h⟩ := grd_some h
     simp -implicitDefEqProofs (disch := first | omega | rfl) only [go_sem, simprocAttr, zr11_9, eq_true hg25, eq_true hg26]
     intro b24
     refine app_acc (f := Token.av) (l := l7) ((31, b24, .cells (Token.cs x18)) :: (6, b21, .cells (Token.cs x18)) :: (2, b1, .cells ([accV 501 bo8 (List.length l7) 4])) :: (3, b2, .cells ([.int .i64 0])) :: (4, b3, .cells ([.int .i64 0])) :: []) hb9 (by first | rfl | simp) (fun _ => Token.avl) (by intro b hb; subst hb; simp -implicitDefEqProofs (disch := first | omega | rfl) only [go_sem, simprocAttr]) (by intro b hb; subst hb; simp -implicitDefEqProofs (disch := first | omega | rfl) only [go_sem, simprocAttr]) (by intro hb; subst hb; simp -implicitDefEqProofs (disch := first | omega | rfl) only [go_sem, simprocAttr]) ?_
     simp -implicitDefEqProofs (disch := first | omega | rfl) only [go_sem, simprocAttr, eq_true hg25, eq_true hg26]
     intro bo27 hb28
     try simp -implicitDefEqProofs (disch := first | omega | rfl) only [go_sem, simprocAttr]
     refine hK _ _ ?_; clear hK hQ K Q
     repeat first | refine awp_seq ?_ | refine dwp_seq hz ?_ | refine dwp_last hz ?_
     refine rg (h := ?_)
     repeat first | refine awp_seq ?_ | refine dwp_seq hz ?_ | refine dwp_last hz ?_
     refine awp_reg fun K Q hK hQ => ?_
     simp -implicitDefEqProofs (disch := first | omega | rfl) only [go_sem, simprocAttr, zr11_11]
     have hh := bnd_some h; clear h; obtain ⟨x29, hx30, h⟩ := hh
     refine call_pure hP (c19 N p1 (IntKind.wrap .i64 (x10 + (List.length x18.Text : Int))) x29 hx30) ?_
     simp -implicitDefEqProofs (disch := first | omega | rfl) only [go_sem, simprocAttr]
     refine hK _ _ ?_; clear hK hQ K Q
     obtain rfl := som_inj h
     try dsimp only at hm11
     refine ⟨⟨⟨m11, l7 ++ [x18], bo27, x29⟩, hm11, (fun h => List.length_eq_zero_iff.1 (by simpa using hb28 h))⟩, Nat.lt_succ_self _, ?_⟩
     refine ent_le' ([]) (_ :: accO _ _ _ (_ :: _ :: _ :: _ :: [])) (_ :: accO _ _ _ (_ :: _ :: _ :: _ :: [])) rfl (List.Perm.trans (perm_ha (List.Perm.cons _ perm_cc)) (List.Perm.trans (perm_ha perm_cc) (List.Perm.trans perm_ac ((List.Perm.cons _ ((perm_ha (List.Perm.trans (List.Perm.cons _ perm_cc) (List.Perm.trans perm_cc ((List.Perm.cons _ (List.Perm.trans (List.Perm.cons _ perm_cc) (List.Perm.trans perm_cc (List.Perm.refl _)))))))))))))) ?_ ?_
     · simp -implicitDefEqProofs (disch := first | omega | rfl) only [go_sem, simprocAttr, subF_cons, subF_nil]
       exact ⟨(.keep _), (.lptr ..), (.lptr ..), (.lptr ..), (.keep _)⟩
     · exact (.cells (.cons (frz_lacc (by first | rfl | (simp; done) | ((try simp only [List.length_set, List.length_take]); omega))) (.nil _)) (.acc (FrzP.of_eq (by first | rfl | simp only [flt_app, flt_one, List.append_assoc])) (.cell (.cell (.drop (.drop .nil))))))
   replace h := sum_r h
   refine call_pan hP (c20 N p1 x10 (.inr x19) hx17) ?_
   refine hQ _ _ _ ?_
   clear hK hQ K Q
   obtain rfl := som_inj h
   try dsimp only at hm11
   subst hm11
   simp only [Ou.on_ret] at hO11
   obtain rfl := som_inj hO11
   repeat first | refine then_pan ?_ | refine blk_pan ?_
   refine dend_pan hP hD ?_
   refine def_intro 15 Tryd.func18 nt18 rec18 rs18 (by simp) (.inr ⟨41, (.agg (LexerFault.cs x19)), _, rfl, rfl, rfl, rfl⟩) fun X hP hn hd hr K Q hK => ?_
   simp -implicitDefEqProofs (disch := first | omega | rfl) only [go_sem, simprocAttr, zr18_0, argS]
   intro b20
   refine hK _ _ ?_; clear hK K Q
   repeat first | refine awp_seq ?_ | refine dwp_seq hz ?_ | refine dwp_last hz ?_
   refine rg (h := ?_)
   repeat first | refine awp_seq ?_ | refine dwp_seq hz ?_ | refine dwp_last hz ?_
   refine awp_then (by rfl) ?_
   repeat first | refine awp_seq ?_ | refine dwp_seq hz ?_ | refine dwp_last hz ?_
   refine awp_regD' (_ :: accO _ _ _ (_ :: [])) (_ :: _ :: []) (_ :: accO _ _ _ (_ :: _ :: _ :: [])) (by rw [hP]; exact mixed) (by first | rfl | (simp only [accO_app, List.cons_append, List.nil_append]; rfl) | simp only [accO_app, List.cons_append, List.nil_append]) ((List.Perm.cons _ (List.Perm.trans perm_ca ((perm_ha (List.Perm.trans (List.Perm.cons _ perm_cc) (List.Perm.trans perm_cc (List.Perm.refl _)))))))) fun K hK => ?_
   simp -implicitDefEqProofs (disch := first | omega | rfl) only [go_sem, simprocAttr, zr18_2]
   refine hK _ _ ?_; clear hK K
   repeat' (first | refine then_normal ?_ | refine blk_normal ?_)
   refine dfr_end [] ((2, b1, .cells ([.sl (List.map Token.av [])])) :: (3, b2, .cells ([.int .i64 x19.err_])) :: (4, b3, .cells ([.int .i64 x19.at_])) :: []) ?_ ⟨?_, ?_⟩
   · refine ent_le' ([]) (_ :: _ :: _ :: _ :: accO _ _ _ []) (_ :: _ :: _ :: _ :: accO _ _ _ []) rfl (List.Perm.trans (List.Perm.cons _ (perm_ha perm_cc)) (List.Perm.trans (List.Perm.cons _ perm_ac) (List.Perm.trans perm_cc ((List.Perm.cons _ (List.Perm.trans (List.Perm.cons _ (perm_ha perm_cc)) (List.Perm.trans (List.Perm.cons _ perm_ac) (List.Perm.trans perm_cc ((List.Perm.cons _ (List.Perm.trans (List.Perm.cons _ perm_ac) (List.Perm.trans perm_cc (List.Perm.refl _))))))))))))) ?_ ?_
     · exact trivial
     · exact (.cells (.cons .nil (.nil _)) (.cell (.cell (.drop (.accDrop .nil)))))
   · rfl
   simp -implicitDefEqProofs (disch := first | omega | rfl) only [go_sem, simprocAttr]
   first | exact leaves_none (by first | rfl | simp) | exact leaves_nil
 repeat first | refine awp_seq ?_ | refine dwp_seq hz ?_ | refine dwp_last hz ?_
 refine awp_else (by simp -implicitDefEqProofs (disch := first | omega | rfl) only [go_sem, simprocAttr, eq_false hc15]) ?_
 repeat first | refine awp_seq ?_ | refine dwp_seq hz ?_ | refine dwp_last hz ?_
 refine awp_exit ?_
 repeat' (first | refine then_exit ?_ | refine exit_here ?_ | refine exit_on rfl ?_)
 obtain rfl := som_inj h
 try dsimp only at hm11
 subst hm11
 simp only [Ou.on_brk] at hO11
 repeat first | refine awp_seq ?_ | refine dwp_seq hz ?_ | refine dwp_last hz ?_
 refine rg (h := ?_)
 obtain rfl := som_inj hO11
 repeat first | refine awp_seq ?_ | refine dwp_seq hz ?_ | refine dwp_last hz ?_
 refine awp_ret ?_
 repeat first | refine then_ret ?_ | refine blk_ret ?_
 refine dend_ret hP hD ?_
 refine def_intro 15 Tryd.func18 nt18 rec18 rs18 (by simp) (.inl ⟨rfl, rfl, rfl⟩) fun X hP hn hd hr K Q hK => ?_
 simp -implicitDefEqProofs (disch := first | omega | rfl) only [go_sem, simprocAttr, zr18_0, argS]
 intro b31
 refine hK _ _ ?_; clear hK K Q
 repeat first | refine awp_seq ?_ | refine dwp_seq hz ?_ | refine dwp_last hz ?_
 refine rg (h := ?_)
 repeat first | refine awp_seq ?_ | refine dwp_seq hz ?_ | refine dwp_last hz ?_
 refine awp_else (by rfl) ?_
 repeat first | refine awp_seq ?_ | refine dwp_seq hz ?_ | refine dwp_last hz ?_
 refine awp_skip ?_
 repeat' (first | refine then_normal ?_ | refine blk_normal ?_)
 refine dfr_end [] ((2, b1, .cells ([.sl (List.map Token.av l7)])) :: (3, b2, .cells ([.int .i64 0])) :: (4, b3, .cells ([.int .i64 0])) :: []) ?_ ⟨?_, ?_⟩
 · refine ent_le' (accO _ _ _ []) (_ :: _ :: _ :: _ :: []) (accO _ _ _ (_ :: _ :: _ :: _ :: [])) (by first | rfl | (simp only [accO_app, List.cons_append, List.nil_append]; rfl) | simp only [accO_app, List.cons_append, List.nil_append]) (List.Perm.trans (List.Perm.cons _ perm_ca) (List.Perm.trans perm_ca ((perm_ha (List.Perm.trans perm_cc ((List.Perm.cons _ (List.Perm.trans perm_cc ((List.Perm.cons _ (List.Perm.trans perm_cc (List.Perm.refl _)))))))))))) ?_ ?_
   · exact trivial
   · exact (.cells (.cons (frz_acc (fun _ => Token.avl) hb9 (by intro b hb; subst hb; simp -implicitDefEqProofs (disch := first | omega | rfl) only [go_sem, simprocAttr]) (by first | rfl | (simp; done) | ((try simp only [List.length_set, List.length_take]); omega))) (.nil _)) (.cell (.cell (.drop .nil))))
 · rfl
 simp -implicitDefEqProofs (disch := first | omega | rfl) only [go_sem, simprocAttr]
 first | exact leaves_none (by first | rfl | simp) | exact leaves_nil
end Go.Proofs.Lex
namespace Go.Proofs.Lex
open Go.Aw
set_option maxRecDepth 100000
attribute [-go_sem] nisA_sl appA_nil
def zr10_0 : List AO := [⟨some 0, none, .mov (.c (.bool false))⟩]
def zr10_1 : List AO := [⟨some 15, none, .callF 11 [(.c (.str lit1))]⟩,
  ⟨some 14, none, .mov (.t 15)⟩,
  ⟨some 16, none, .ext 0 (.t 14)⟩,
  ⟨some 17, none, .ext 1 (.t 14)⟩,
  ⟨some 18, none, .ext 2 (.t 14)⟩,
  ⟨some 1, none, .mov (.t 16)⟩,
  ⟨some 2, none, .mov (.t 17)⟩,
  ⟨some 3, none, .mov (.t 18)⟩]
def zr10_2 : List AO := [⟨some 20, none, .callF 11 [(.c (.str [49, 50, 32, 35, 32, 51]))]⟩,
  ⟨some 19, none, .mov (.t 20)⟩,
  ⟨some 21, none, .ext 0 (.t 19)⟩,
  ⟨some 22, none, .ext 1 (.t 19)⟩,
  ⟨some 23, none, .ext 2 (.t 19)⟩,
  ⟨some 4, none, .mov (.t 21)⟩,
  ⟨some 5, none, .mov (.t 22)⟩,
  ⟨some 6, none, .mov (.t 23)⟩]
def zr10_3 : List AO := [⟨some 25, none, .callF 11 [(.c (.str [97, 46]))]⟩,
  ⟨some 24, none, .mov (.t 25)⟩,
  ⟨some 26, none, .ext 0 (.t 24)⟩,
  ⟨some 27, none, .ext 1 (.t 24)⟩,
  ⟨some 28, none, .ext 2 (.t 24)⟩,
  ⟨some 7, none, .mov (.t 26)⟩,
  ⟨some 8, none, .mov (.t 27)⟩,
  ⟨some 9, none, .mov (.t 28)⟩]
def zr10_4 : List AO := [⟨some 30, none, .callF 11 [(.c (.str [55, 120]))]⟩,
  ⟨some 29, none, .mov (.t 30)⟩,
  ⟨some 31, none, .ext 0 (.t 29)⟩,
  ⟨some 32, none, .ext 1 (.t 29)⟩,
  ⟨some 33, none, .ext 2 (.t 29)⟩,
  ⟨some 10, none, .mov (.t 31)⟩,
  ⟨some 11, none, .mov (.t 32)⟩,
  ⟨some 12, none, .mov (.t 33)⟩]
def zr10_5 : List AO := [⟨some 34, none, .mov (.t 2)⟩,
  ⟨some 35, none, .bin .neq (.t 34) (.c (.int .i64 0))⟩,
  ⟨some 36, none, .mov (.t 35)⟩,
  ⟨some 37, some (36, false), .mov (.t 1)⟩,
  ⟨some 38, some (36, false), .len (.t 37)⟩,
  ⟨some 39, some (36, false), .bin .neq (.t 38) (.c (.int .i64 5))⟩,
  ⟨some 40, none, .pick (.t 36) (.c (.bool true)) (.t 39)⟩,
  ⟨some 41, none, .mov (.t 40)⟩,
  ⟨some 42, some (41, false), .mov (.t 5)⟩,
  ⟨some 43, some (41, false), .bin .neq (.t 42) (.c (.int .i64 0))⟩,
  ⟨some 44, none, .pick (.t 41) (.c (.bool true)) (.t 43)⟩,
  ⟨some 45, none, .mov (.t 44)⟩,
  ⟨some 46, some (45, false), .mov (.t 4)⟩,
  ⟨some 47, some (45, false), .len (.t 46)⟩,
  ⟨some 48, some (45, false), .bin .neq (.t 47) (.c (.int .i64 1))⟩,
  ⟨some 49, none, .pick (.t 45) (.c (.bool true)) (.t 48)⟩]
def zr10_6 : List AO := [⟨some 0, none, .mov (.c (.bool false))⟩]
def zc10_0 : AC := .seq (.reg zr10_6) .ret
def zc10_1 : AC := .cond (.t 49) zc10_0 .skip
def zr10_7 : List AO := [⟨some 50, none, .mov (.t 1)⟩,
  ⟨some 51, none, .iadr 4 (.t 50) (.c (.int .i64 1))⟩,
  ⟨some 52, none, .load true 4 (.t 51)⟩,
  ⟨some 53, none, .bld [.int .i64 0, .str [], .int .i64 0, .int .i64 0] [(0, 1, (.c (.int .i64 1))), (1, 1, (.c (.str [97, 46, 98]))), (3, 1, (.c (.int .i64 5)))]⟩,
  ⟨some 54, none, .eqS false [.i, .s, .i, .i] (.t 52) (.t 53)⟩,
  ⟨some 55, none, .mov (.t 54)⟩,
  ⟨some 56, some (55, true), .mov (.t 1)⟩,
  ⟨some 57, some (55, true), .iadr 4 (.t 56) (.c (.int .i64 4))⟩,
  ⟨some 58, some (55, true), .load true 4 (.t 57)⟩,
  ⟨some 59, some (55, true), .bld [.int .i64 0, .str [], .int .i64 0, .int .i64 0] [(0, 1, (.c (.int .i64 3))), (1, 1, (.c (.str [58]))), (3, 1, (.c (.int .i64 13)))]⟩,
  ⟨some 60, some (55, true), .eqS false [.i, .s, .i, .i] (.t 58) (.t 59)⟩,
  ⟨some 61, none, .pick (.t 55) (.t 60) (.c (.bool false))⟩,
  ⟨some 13, none, .mov (.t 61)⟩]
def zr10_8 : List AO := [⟨some 62, none, .mov (.t 13)⟩,
  ⟨some 63, none, .mov (.t 62)⟩,
  ⟨some 64, some (63, true), .mov (.t 4)⟩,
  ⟨some 65, some (63, true), .iadr 4 (.t 64) (.c (.int .i64 0))⟩,
  ⟨some 66, some (63, true), .load true 4 (.t 65)⟩,
  ⟨some 67, some (63, true), .bld [.int .i64 0, .str [], .int .i64 0, .int .i64 0] [(0, 1, (.c (.int .i64 2))), (1, 1, (.c (.str [49, 50]))), (2, 1, (.c (.int .i64 12)))]⟩,
  ⟨some 68, some (63, true), .eqS false [.i, .s, .i, .i] (.t 66) (.t 67)⟩,
  ⟨some 69, none, .pick (.t 63) (.t 68) (.c (.bool false))⟩,
  ⟨some 70, none, .mov (.t 69)⟩,
  ⟨some 71, some (70, true), .mov (.t 8)⟩,
  ⟨some 72, some (70, true), .bin .eql (.t 71) (.c (.int .i64 4))⟩,
  ⟨some 73, none, .pick (.t 70) (.t 72) (.c (.bool false))⟩,
  ⟨some 74, none, .mov (.t 73)⟩,
  ⟨some 75, some (74, true), .mov (.t 9)⟩,
  ⟨some 76, some (74, true), .bin .eql (.t 75) (.c (.int .i64 1))⟩,
  ⟨some 77, none, .pick (.t 74) (.t 76) (.c (.bool false))⟩,
  ⟨some 78, none, .mov (.t 77)⟩,
  ⟨some 79, some (78, true), .mov (.t 11)⟩,
  ⟨some 80, some (78, true), .bin .eql (.t 79) (.c (.int .i64 5))⟩,
  ⟨some 81, none, .pick (.t 78) (.t 80) (.c (.bool false))⟩,
  ⟨some 82, none, .mov (.t 81)⟩,
  ⟨some 83, some (82, true), .mov (.t 12)⟩,
  ⟨some 84, some (82, true), .bin .eql (.t 83) (.c (.int .i64 0))⟩,
  ⟨some 85, none, .pick (.t 82) (.t 84) (.c (.bool false))⟩,
  ⟨some 0, none, .mov (.t 85)⟩]
def zc10_2 : AC := .seq (.reg zr10_8) .ret
def zc10_3 : AC := .seq (.reg zr10_7) zc10_2
def zc10_4 : AC := .seq (.seq (.reg zr10_5) zc10_1) zc10_3
def zc10_5 : AC := .seq (.reg zr10_4) zc10_4
def zc10_6 : AC := .seq (.reg zr10_3) zc10_5
def zc10_7 : AC := .seq (.reg zr10_2) zc10_6
def zc10_8 : AC := .seq (.reg zr10_1) zc10_7
def zc10_9 : AC := .seq (.reg zr10_0) zc10_8
def zc10 : AC := zc10_9
theorem ok10 : Tryd.f10.body.bind (compCode Tryd.prog 86) = some zc10 := by kernel_rfl
theorem nt10 : Tryd.f10.ntmps = 86 := by kernel_rfl
theorem res10 : compRes Tryd.prog Tryd.f10.results.toList = some [.tmp 0] := by kernel_rfl
attribute [go_sem] zr10_0 zr10_5 zr10_6 zr10_7 zr10_8
def s10_k1 (N : Nat) (x3 : (List Token) × Int × Int) (x5 : (List Token) × Int × Int) (x7 : (List Token) × Int × Int) (x13 : Bool) : Option Bool :=
  bif x13 then
    grd (0 < (List.length x3.1 : Int)) <|
    bif (decide ((x3.1[0]!).Kind = 2) && (decide ((x3.1[0]!).Text = [49, 50]) && (decide ((x3.1[0]!).N = 12) && (decide ((x3.1[0]!).At = 0) && true)))) then
      if x5.2.1 = 4 then
        if x5.2.2 = 1 then
          if x7.2.1 = 5 then
            some (decide (x7.2.2 = 0))
          else
            some false
        else
          some false
      else
        some false
    else
      some false
  else
    some false
def s10 (N : Nat) : Option Bool :=
  (s11 N lit1).bind fun x1 =>
  (s11 N [49, 50, 32, 35, 32, 51]).bind fun x3 =>
  (s11 N [97, 46]).bind fun x5 =>
  (s11 N [55, 120]).bind fun x7 =>
  if x1.2.1 = 0 then
    if (List.length x1.1 : Int) = 5 then
      if x3.2.1 = 0 then
        if (List.length x3.1 : Int) = 1 then
          grd (1 < (List.length x1.1 : Int)) <|
          bif (decide ((x1.1[1]!).Kind = 1) && (decide ((x1.1[1]!).Text = [97, 46, 98]) && (decide ((x1.1[1]!).N = 0) && (decide ((x1.1[1]!).At = 5) && true)))) then
            grd (4 < (List.length x1.1 : Int)) <|
            s10_k1 N x3 x5 x7 ((decide ((x1.1[4]!).Kind = 3) && (decide ((x1.1[4]!).Text = [58]) && (decide ((x1.1[4]!).N = 0) && (decide ((x1.1[4]!).At = 13) && true)))))
          else
            s10_k1 N x3 x5 x7 false
        else
          some false
      else
        some false
    else
      some false
  else
    some false
set_option maxHeartbeats 4000000 in
theorem c10 (N : Nat) (r : Bool) (h : s10 N  = some r) : PureC Tryd.prog 10 [] (.bool r) := by
 refine fn_intro' 86 Tryd.func10 nt10 ok10 res10 (by simp) fun X hP hn hd hr => ?_
 unfold s10 at h
 repeat refine awp_seq ?_
 refine rg (h := ?_)
 repeat refine awp_seq ?_
 refine awp_reg fun K Q hK hQ => ?_
 simp -implicitDefEqProofs (disch := first | omega | rfl) only [go_sem, simprocAttr, zr10_1]
 have hh := bnd_some h; clear h; obtain ⟨x1, hx2, h⟩ := hh
 refine call_pure hP (c11 N lit1 x1 hx2) ?_
 simp -implicitDefEqProofs (disch := first | omega | rfl) only [go_sem, simprocAttr]
 refine hK _ _ ?_; clear hK hQ K Q
 repeat refine awp_seq ?_
 refine awp_reg fun K Q hK hQ => ?_
 simp -implicitDefEqProofs (disch := first | omega | rfl) only [go_sem, simprocAttr, zr10_2]
 have hh := bnd_some h; clear h; obtain ⟨x3, hx4, h⟩ := hh
 refine call_pure hP (c11 N [49, 50, 32, 35, 32, 51] x3 hx4) ?_
 simp -implicitDefEqProofs (disch := first | omega | rfl) only [go_sem, simprocAttr]
 refine hK _ _ ?_; clear hK hQ K Q
 repeat refine awp_seq ?_
 refine awp_reg fun K Q hK hQ => ?_
 simp -implicitDefEqProofs (disch := first | omega | rfl) only [go_sem, simprocAttr, zr10_3]
 have hh := bnd_some h; clear h; obtain ⟨x5, hx6, h⟩ := hh
 refine call_pure hP (c11 N [97, 46] x5 hx6) ?_
 simp -implicitDefEqProofs (disch := first | omega | rfl) only [go_sem, simprocAttr]
 refine hK _ _ ?_; clear hK hQ K Q
 repeat refine awp_seq ?_
 refine awp_reg fun K Q hK hQ => ?_
 simp -implicitDefEqProofs (disch := first | omega | rfl) only [go_sem, simprocAttr, zr10_4]
 have hh := bnd_some h; clear h; obtain ⟨x7, hx8, h⟩ := hh
 refine call_pure hP (c11 N [55, 120] x7 hx8) ?_
 simp -implicitDefEqProofs (disch := first | omega | rfl) only [go_sem, simprocAttr]
 refine hK _ _ ?_; clear hK hQ K Q
 repeat refine awp_seq ?_
 rcases ite_some h with ⟨hc9, h⟩ | ⟨hc9, h⟩
 · rcases ite_some h with ⟨hc10, h⟩ | ⟨hc10, h⟩
   · rcases ite_some h with ⟨hc11, h⟩ | ⟨hc11, h⟩
     · refine rgf (And.intro (eq_true hc9) (And.intro (eq_true hc10) (eq_true hc11))) ?_
       rcases ite_some h with ⟨hc12, h⟩ | ⟨hc12, h⟩
       · repeat refine awp_seq ?_
         refine awp_else (by simp -implicitDefEqProofs (disch := first | omega | rfl) only [go_sem, simprocAttr, eq_true hc12]) ?_
         repeat refine awp_seq ?_
         refine awp_skip ?_
         repeat refine awp_seq ?_
         refine awp_cut (ι := {p : Bool // s10_k1 N x3 x5 x7 p = some r}) (fun p => [(4, .sl (List.map Token.av x3.1)), (8, .int .i64 x5.2.1), (9, .int .i64 x5.2.2), (11, .int .i64 x7.2.1), (12, .int .i64 x7.2.2), (13, .bool p.1)]) (fun p => []) ?_ ?_
         · repeat refine awp_seq ?_
           obtain ⟨hg20, h⟩ := grd_some h
           rcases cnd_some h with ⟨hc21, h⟩ | ⟨hc21, h⟩
           · obtain ⟨hg22, h⟩ := grd_some h
             refine rg (by intro K Q; simp -implicitDefEqProofs (disch := first | omega | rfl) only [go_sem, simprocAttr, Token.cs_eq, eq_true hg20, hc21, eq_true hg22] <;> rfl) ?_
             refine ⟨⟨(decide ((x1.1[4]!).Kind = 3) && (decide ((x1.1[4]!).Text = [58]) && (decide ((x1.1[4]!).N = 0) && (decide ((x1.1[4]!).At = 13) && true)))), h⟩, ?_⟩
             refine ent_le' ([]) ([]) ([]) rfl (List.Perm.refl _) ?_ ?_
             · simp -implicitDefEqProofs (disch := first | omega | rfl) only [go_sem, simprocAttr, subF_cons, subF_nil]
               exact ⟨(.keep _), (.keep _), (.keep _), (.keep _), (.keep _), (.keep _)⟩
             · exact .nil
           refine rg (by intro K Q; simp -implicitDefEqProofs (disch := first | omega | rfl) only [go_sem, simprocAttr, Token.cs_eq, eq_true hg20, hc21] <;> rfl) ?_
           refine ⟨⟨false, h⟩, ?_⟩
           refine ent_le' ([]) ([]) ([]) rfl (List.Perm.refl _) ?_ ?_
           · simp -implicitDefEqProofs (disch := first | omega | rfl) only [go_sem, simprocAttr, subF_cons, subF_nil]
             exact ⟨(.keep _), (.keep _), (.keep _), (.keep _), (.keep _), (.keep _)⟩
           · exact .nil
         rintro ⟨x13, h⟩
         try dsimp only at h
         try dsimp only
         repeat refine awp_seq ?_
         rcases cnd_some h with ⟨hc14, h⟩ | ⟨hc14, h⟩
         · obtain ⟨hg15, h⟩ := grd_some h
           rcases cnd_some h with ⟨hc16, h⟩ | ⟨hc16, h⟩
           · rcases ite_some h with ⟨hc17, h⟩ | ⟨hc17, h⟩
             · rcases ite_some h with ⟨hc18, h⟩ | ⟨hc18, h⟩
               · rcases ite_some h with ⟨hc19, h⟩ | ⟨hc19, h⟩
                 · refine awp_reg fun K Q hK hQ => ?_
                   simp -implicitDefEqProofs (disch := first | omega | rfl) only [go_sem, simprocAttr, zr10_8, Token.cs_eq, hc14, eq_true hg15, hc16, eq_true hc17, eq_true hc18, eq_true hc19]
                   first | refine hK _ _ ?_ | (refine ⟨by assumption, ?_⟩; refine hK _ _ ?_)
                   clear hK hQ K Q
                   obtain rfl := som_inj h
                   repeat refine awp_seq ?_
                   refine awp_ret ?_
                   repeat first | refine then_ret ?_ | refine blk_ret ?_
                   exact rtp
                 refine awp_reg fun K Q hK hQ => ?_
                 simp -implicitDefEqProofs (disch := first | omega | rfl) only [go_sem, simprocAttr, zr10_8, Token.cs_eq, hc14, eq_true hg15, hc16, eq_true hc17, eq_true hc18, eq_false hc19]
                 first | refine hK _ _ ?_ | (refine ⟨by assumption, ?_⟩; refine hK _ _ ?_)
                 clear hK hQ K Q
                 obtain rfl := som_inj h
                 repeat refine awp_seq ?_
                 refine awp_ret ?_
                 repeat first | refine then_ret ?_ | refine blk_ret ?_
                 exact rtp
               refine awp_reg fun K Q hK hQ => ?_
               simp -implicitDefEqProofs (disch := first | omega | rfl) only [go_sem, simprocAttr, zr10_8, Token.cs_eq, hc14, eq_true hg15, hc16, eq_true hc17, eq_false hc18]
               first | refine hK _ _ ?_ | (refine ⟨by assumption, ?_⟩; refine hK _ _ ?_)
               clear hK hQ K Q
               obtain rfl := som_inj h
               repeat refine awp_seq ?_
               refine awp_ret ?_
               repeat first | refine then_ret ?_ | refine blk_ret ?_
               exact rtp
             refine awp_reg fun K Q hK hQ => ?_
             simp -implicitDefEqProofs (disch := first | omega | rfl) only [go_sem, simprocAttr, zr10_8, Token.cs_eq, hc14, eq_true hg15, hc16, eq_false hc17]
             first | refine hK _ _ ?_ | (refine ⟨by assumption, ?_⟩; refine hK _ _ ?_)
             clear hK hQ K Q
             obtain rfl := som_inj h
             repeat refine awp_seq ?_
             refine awp_ret ?_
             repeat first | refine then_ret ?_ | refine blk_ret ?_
             exact rtp
           refine awp_reg fun K Q hK hQ => ?_
           simp -implicitDefEqProofs (disch := first | omega | rfl) only [go_sem, simprocAttr, zr10_8, Token.cs_eq, hc14, eq_true hg15, hc16]
           first | refine hK _ _ ?_ | (refine ⟨by assumption, ?_⟩; refine hK _ _ ?_)
           clear hK hQ K Q
           obtain rfl := som_inj h
           repeat refine awp_seq ?_
           refine awp_ret ?_
           repeat first | refine then_ret ?_ | refine blk_ret ?_
           exact rtp
         refine rg (by intro K Q; simp -implicitDefEqProofs (disch := first | omega | rfl) only [go_sem, simprocAttr, Token.cs_eq, hc14] <;> rfl) ?_
         obtain rfl := som_inj h
         repeat refine awp_seq ?_
         refine awp_ret ?_
         repeat first | refine then_ret ?_ | refine blk_ret ?_
         exact rtp
       repeat refine awp_seq ?_
       refine awp_then (by simp -implicitDefEqProofs (disch := first | omega | rfl) only [go_sem, simprocAttr, eq_false hc12]) ?_
       repeat refine awp_seq ?_
       refine rg (h := ?_)
       obtain rfl := som_inj h
       repeat refine awp_seq ?_
       refine awp_ret ?_
       repeat first | refine then_ret ?_ | refine blk_ret ?_
       exact rtp
     refine rgf (And.intro (eq_true hc9) (And.intro (eq_true hc10) (eq_false hc11))) ?_
     repeat refine awp_seq ?_
     refine awp_then (by rfl) ?_
     repeat refine awp_seq ?_
     refine rg (h := ?_)
     obtain rfl := som_inj h
     repeat refine awp_seq ?_
     refine awp_ret ?_
     repeat first | refine then_ret ?_ | refine blk_ret ?_
     exact rtp
   refine rgf (And.intro (eq_true hc9) (eq_false hc10)) ?_
   repeat refine awp_seq ?_
   refine awp_then (by rfl) ?_
   repeat refine awp_seq ?_
   refine rg (h := ?_)
   obtain rfl := som_inj h
   repeat refine awp_seq ?_
   refine awp_ret ?_
   repeat first | refine then_ret ?_ | refine blk_ret ?_
   exact rtp
 refine rgf (eq_false hc9) ?_
 repeat refine awp_seq ?_
 refine awp_then (by rfl) ?_
 repeat refine awp_seq ?_
 refine rg (h := ?_)
 obtain rfl := som_inj h
 repeat refine awp_seq ?_
 refine awp_ret ?_
 repeat first | refine then_ret ?_ | refine blk_ret ?_
 exact rtp
def zr21_0 : List AO := [⟨some 4, none, .mov (.c (.int .i64 0))⟩]
def zr21_1 : List AO := [⟨some 5, none, .mov (.c (.int .i64 0))⟩]
def zr21_2 : List AO := [⟨some 6, none, .mov (.c (.bool false))⟩]
def zr21_3 : List AO := [⟨some 8, none, .mov (.t 1)⟩,
  ⟨some 9, none, .mov (.t 5)⟩,
  ⟨some 10, none, .bin .add (.t 8) (.t 9)⟩,
  ⟨some 11, none, .mov (.t 0)⟩,
  ⟨some 12, none, .lenS (.t 11)⟩,
  ⟨some 13, none, .bin .lss (.t 10) (.t 12)⟩]
def zc21_0 : AC := .cond (.t 13) .skip (.exit 0)
def zr21_4 : List AO := [⟨some 14, none, .mov (.t 0)⟩,
  ⟨some 15, none, .mov (.t 1)⟩,
  ⟨some 16, none, .mov (.t 5)⟩,
  ⟨some 17, none, .bin .add (.t 15) (.t 16)⟩,
  ⟨some 18, none, .idxS (.t 14) (.t 17)⟩,
  ⟨some 7, none, .mov (.t 18)⟩]
def zr21_5 : List AO := [⟨some 19, none, .mov (.t 7)⟩,
  ⟨some 20, none, .bin .eql (.t 19) (.c (.int .u8 10))⟩]
def zr21_6 : List AO := [⟨some 6, none, .mov (.c (.bool false))⟩]
def zc21_1 : AC := .reg zr21_6
def zr21_7 : List AO := [⟨some 21, none, .mov (.t 7)⟩,
  ⟨some 22, none, .bin .eql (.t 21) (.c (.int .u8 35))⟩]
def zr21_8 : List AO := [⟨some 6, none, .mov (.c (.bool true))⟩]
def zc21_2 : AC := .reg zr21_8
def zr21_9 : List AO := [⟨some 23, none, .mov (.t 6)⟩,
  ⟨some 24, none, .un .not (.t 23)⟩,
  ⟨some 25, none, .mov (.t 24)⟩,
  ⟨some 26, some (25, true), .mov (.t 7)⟩,
  ⟨some 27, some (25, true), .bin .neq (.t 26) (.c (.int .u8 32))⟩,
  ⟨some 28, none, .pick (.t 25) (.t 27) (.c (.bool false))⟩,
  ⟨some 29, none, .mov (.t 28)⟩,
  ⟨some 30, some (29, true), .mov (.t 7)⟩,
  ⟨some 31, some (29, true), .bin .neq (.t 30) (.c (.int .u8 9))⟩,
  ⟨some 32, none, .pick (.t 29) (.t 31) (.c (.bool false))⟩]
def zr21_10 : List AO := [⟨some 33, none, .mov (.t 5)⟩,
  ⟨some 4, none, .mov (.t 33)⟩]
def zc21_3 : AC := .seq (.reg zr21_10) .ret
def zc21_4 : AC := .cond (.t 32) zc21_3 .skip
def zc21_5 : AC := .seq (.reg zr21_9) zc21_4
def zc21_6 : AC := .cond (.t 22) zc21_2 zc21_5
def zc21_7 : AC := .seq (.reg zr21_7) zc21_6
def zc21_8 : AC := .cond (.t 20) zc21_1 zc21_7
def zr21_11 : List AO := [⟨some 34, none, .mov (.t 5)⟩,
  ⟨some 35, none, .bin .add (.t 34) (.c (.int .i64 1))⟩,
  ⟨some 5, none, .mov (.t 35)⟩]
def zc21_9 : AC := .reg zr21_11
def zc21_10 : AC := .seq (.seq (.reg zr21_5) zc21_8) zc21_9
def zc21_11 : AC := .seq (.reg zr21_4) zc21_10
def zc21_12 : AC := .block 1 zc21_11
def zc21_13 : AC := .seq (.seq (.reg zr21_3) zc21_0) zc21_12
def zc21_14 : AC := .loop zc21_13
def zr21_12 : List AO := [⟨some 36, none, .mov (.t 5)⟩,
  ⟨some 4, none, .mov (.t 36)⟩]
def zc21_15 : AC := .seq (.reg zr21_12) .ret
def zc21_16 : AC := .seq (.block 0 zc21_14) zc21_15
def zc21_17 : AC := .seq (.reg zr21_2) zc21_16
def zc21_18 : AC := .seq (.reg zr21_1) zc21_17
def zc21_19 : AC := .seq (.reg zr21_0) zc21_18
def zc21 : AC := zc21_19
theorem ok21 : Tryd.f21.body.bind (compCode Tryd.prog 37) = some zc21 := by kernel_rfl
theorem nt21 : Tryd.f21.ntmps = 37 := by kernel_rfl
theorem res21 : compRes Tryd.prog Tryd.f21.results.toList = some [.tmp 4] := by kernel_rfl
attribute [go_sem] zr21_0 zr21_1 zr21_10 zr21_11 zr21_12 zr21_2 zr21_3 zr21_4 zr21_5 zr21_6 zr21_7 zr21_8 zr21_9
def s21_b1 (N : Nat) (p1 : List UInt8) (p2 : Int) (x1 : Int) (x2 : Bool) : Option (((Int × Bool) ⊕ (Ou (Int) (Int)))) :=
  if IntKind.wrap .i64 (p2 + x1) < (List.length p1 : Int) then
    grd (0 ≤ IntKind.wrap .i64 (p2 + x1)) <|
    if ((List.getD p1 (IntKind.wrap .i64 (p2 + x1)).toNat 0).toNat : Int) = 10 then
      some (.inl (IntKind.wrap .i64 (x1 + 1), false))
    else
      if ((List.getD p1 (IntKind.wrap .i64 (p2 + x1)).toNat 0).toNat : Int) = 35 then
        some (.inl (IntKind.wrap .i64 (x1 + 1), true))
      else
        bif x2 then
          some (.inl (IntKind.wrap .i64 (x1 + 1), true))
        else
          if ((List.getD p1 (IntKind.wrap .i64 (p2 + x1)).toNat 0).toNat : Int) = 32 then
            some (.inl (IntKind.wrap .i64 (x1 + 1), false))
          else
            if ((List.getD p1 (IntKind.wrap .i64 (p2 + x1)).toNat 0).toNat : Int) = 9 then
              some (.inl (IntKind.wrap .i64 (x1 + 1), false))
            else
              some (.inr (.ret x1))
  else
    some (.inr (.brk x1))
def s21 (N : Nat) (p1 : List UInt8) (p2 : Int) : Option Int :=
  (iter (fun p => s21_b1 N p1 p2 p.1 p.2) N (0, false)).bind fun o3 => o3.on (fun a3 =>
    some a3)
    (fun a3r => some a3r)
set_option maxHeartbeats 4000000 in
theorem c21 (N : Nat) (p1 : List UInt8) (p2 : Int) (r : Int) (h : s21 N p1 p2 = some r) : PureC Tryd.prog 21 [.str p1, .int .i64 p2] (.int .i64 r) := by
 refine fn_intro' 37 Tryd.func21 nt21 ok21 res21 (by simp) fun X hP hn hd hr => ?_
 unfold s21 at h
 repeat refine awp_seq ?_
 refine rg (h := ?_)
 repeat refine awp_seq ?_
 refine rg (h := ?_)
 repeat refine awp_seq ?_
 refine rg (h := ?_)
 repeat refine awp_seq ?_
 refine awp_block ?_
 obtain ⟨o3, ho3, hO3⟩ := bnd_some h
 repeat refine awp_seq ?_
 refine awp_loop (ι := {p : Nat × Int × Bool // iter (fun p => s21_b1 N p1 p2 p.1 p.2) p.1 (p.2.1, p.2.2) = some o3}) (fun p => [(0, .str p1), (1, .int .i64 p2), (5, .int .i64 p.1.2.1), (6, .bool p.1.2.2)]) (fun p => []) (fun p => p.1.1) ⟨⟨N, 0, false⟩, ho3⟩ ?_ ?_
 · refine ent_le' ([]) ([]) ([]) rfl (List.Perm.refl _) ?_ ?_
   · simp -implicitDefEqProofs (disch := first | omega | rfl) only [go_sem, simprocAttr, subF_cons, subF_nil]
     exact ⟨(.keep _), (.keep _), (.keep _), (.keep _)⟩
   · exact .nil
 rintro ⟨⟨n3, x1, x2⟩, hi3⟩
 obtain ⟨m3, q3, rfl, h, hm3⟩ := iter_some hi3
 try dsimp only at h
 try dsimp only
 unfold s21_b1 at h
 repeat refine awp_seq ?_
 refine rg (h := ?_)
 rcases ite_some h with ⟨hc5, h⟩ | ⟨hc5, h⟩
 · repeat refine awp_seq ?_
   refine awp_then (by simp -implicitDefEqProofs (disch := first | omega | rfl) only [go_sem, simprocAttr, eq_true hc5]) ?_
   repeat refine awp_seq ?_
   refine awp_skip ?_
   repeat refine awp_seq ?_
   refine awp_block ?_
   repeat refine awp_seq ?_
   obtain ⟨hg6, h⟩ := grd_some h
   refine rgf (And.intro (eq_true hc5) (eq_true hg6)) ?_
   repeat refine awp_seq ?_
   refine rg (h := ?_)
   rcases ite_some h with ⟨hc7, h⟩ | ⟨hc7, h⟩
   · repeat refine awp_seq ?_
     refine awp_then (by simp -implicitDefEqProofs (disch := first | omega | rfl) only [go_sem, simprocAttr, eq_true hc7]) ?_
     repeat refine awp_seq ?_
     refine rg (h := ?_)
     repeat refine awp_seq ?_
     refine rg (h := ?_)
     obtain rfl := som_inj h
     try dsimp only at hm3
     refine ⟨⟨⟨m3, IntKind.wrap .i64 (x1 + 1), false⟩, hm3⟩, Nat.lt_succ_self _, ?_⟩
     refine ent_le' ([]) ([]) ([]) rfl (List.Perm.refl _) ?_ ?_
     · simp -implicitDefEqProofs (disch := first | omega | rfl) only [go_sem, simprocAttr, subF_cons, subF_nil]
       exact ⟨(.keep _), (.keep _), (.keep _), (.keep _)⟩
     · exact .nil
   repeat refine awp_seq ?_
   refine awp_else (by simp -implicitDefEqProofs (disch := first | omega | rfl) only [go_sem, simprocAttr, eq_false hc7]) ?_
   repeat refine awp_seq ?_
   refine rg (h := ?_)
   rcases ite_some h with ⟨hc8, h⟩ | ⟨hc8, h⟩
   · repeat refine awp_seq ?_
     refine awp_then (by simp -implicitDefEqProofs (disch := first | omega | rfl) only [go_sem, simprocAttr, eq_true hc8]) ?_
     repeat refine awp_seq ?_
     refine rg (h := ?_)
     repeat refine awp_seq ?_
     refine rg (h := ?_)
     obtain rfl := som_inj h
     try dsimp only at hm3
     refine ⟨⟨⟨m3, IntKind.wrap .i64 (x1 + 1), true⟩, hm3⟩, Nat.lt_succ_self _, ?_⟩
     refine ent_le' ([]) ([]) ([]) rfl (List.Perm.refl _) ?_ ?_
     · simp -implicitDefEqProofs (disch := first | omega | rfl) only [go_sem, simprocAttr, subF_cons, subF_nil]
       exact ⟨(.keep _), (.keep _), (.keep _), (.keep _)⟩
     · exact .nil
   repeat refine awp_seq ?_
   refine awp_else (by simp -implicitDefEqProofs (disch := first | omega | rfl) only [go_sem, simprocAttr, eq_false hc8]) ?_
   repeat refine awp_seq ?_
   rcases cnd_some h with ⟨hc9, h⟩ | ⟨hc9, h⟩
   · refine rgf (hc9) ?_
     repeat refine awp_seq ?_
     refine awp_else (by rfl) ?_
     repeat refine awp_seq ?_
     refine awp_skip ?_
     repeat refine awp_seq ?_
     refine rg (h := ?_)
     obtain rfl := som_inj h
     try dsimp only at hm3
     refine ⟨⟨⟨m3, IntKind.wrap .i64 (x1 + 1), true⟩, hm3⟩, Nat.lt_succ_self _, ?_⟩
     refine ent_le' ([]) ([]) ([]) rfl (List.Perm.refl _) ?_ ?_
     · simp -implicitDefEqProofs (disch := first | omega | rfl) only [go_sem, simprocAttr, subF_cons, subF_nil]
       exact ⟨(.keep _), (.keep _), (.keep _), (.keep _)⟩
     · exact .nil
   rcases ite_some h with ⟨hc10, h⟩ | ⟨hc10, h⟩
   · refine rgf (And.intro hc9 (eq_true hc10)) ?_
     repeat refine awp_seq ?_
     refine awp_else (by rfl) ?_
     repeat refine awp_seq ?_
     refine awp_skip ?_
     repeat refine awp_seq ?_
     refine rg (h := ?_)
     obtain rfl := som_inj h
     try dsimp only at hm3
     refine ⟨⟨⟨m3, IntKind.wrap .i64 (x1 + 1), false⟩, hm3⟩, Nat.lt_succ_self _, ?_⟩
     refine ent_le' ([]) ([]) ([]) rfl (List.Perm.refl _) ?_ ?_
     · simp -implicitDefEqProofs (disch := first | omega | rfl) only [go_sem, simprocAttr, subF_cons, subF_nil]
       exact ⟨(.keep _), (.keep _), (.keep _), (.keep _)⟩
     · exact .nil
   refine rgf (And.intro hc9 (eq_false hc10)) ?_
   rcases ite_some h with ⟨hc11, h⟩ | ⟨hc11, h⟩
   · repeat refine awp_seq ?_
     refine awp_else (by simp -implicitDefEqProofs (disch := first | omega | rfl) only [go_sem, simprocAttr, eq_true hc11]) ?_
     repeat refine awp_seq ?_
     refine awp_skip ?_
     repeat refine awp_seq ?_
     refine rg (h := ?_)
     obtain rfl := som_inj h
     try dsimp only at hm3
     refine ⟨⟨⟨m3, IntKind.wrap .i64 (x1 + 1), false⟩, hm3⟩, Nat.lt_succ_self _, ?_⟩
     refine ent_le' ([]) ([]) ([]) rfl (List.Perm.refl _) ?_ ?_
     · simp -implicitDefEqProofs (disch := first | omega | rfl) only [go_sem, simprocAttr, subF_cons, subF_nil]
       exact ⟨(.keep _), (.keep _), (.keep _), (.keep _)⟩
     · exact .nil
   repeat refine awp_seq ?_
   refine awp_then (by simp -implicitDefEqProofs (disch := first | omega | rfl) only [go_sem, simprocAttr, eq_false hc11]) ?_
   repeat refine awp_seq ?_
   refine rg (h := ?_)
   obtain rfl := som_inj h
   try dsimp only at hm3
   subst hm3
   simp only [Ou.on_ret] at hO3
   obtain rfl := som_inj hO3
   repeat refine awp_seq ?_
   refine awp_ret ?_
   repeat first | refine then_ret ?_ | refine blk_ret ?_
   exact rtp
 repeat refine awp_seq ?_
 refine awp_else (by simp -implicitDefEqProofs (disch := first | omega | rfl) only [go_sem, simprocAttr, eq_false hc5]) ?_
 repeat refine awp_seq ?_
 refine awp_exit ?_
 repeat' (first | refine then_exit ?_ | refine exit_here ?_ | refine exit_on rfl ?_)
 obtain rfl := som_inj h
 try dsimp only at hm3
 subst hm3
 simp only [Ou.on_brk] at hO3
 repeat refine awp_seq ?_
 refine rg (h := ?_)
 obtain rfl := som_inj hO3
 repeat refine awp_seq ?_
 refine awp_ret ?_
 repeat first | refine then_ret ?_ | refine blk_ret ?_
 exact rtp
def zr32_0 : List AO := [⟨some 2, none, .mov (.c (.bool false))⟩]
def zr32_1 : List AO := [⟨some 3, none, .mov (.t 0)⟩,
  ⟨some 4, none, .bin .geq (.t 3) (.c (.int .u8 97))⟩,
  ⟨some 5, none, .mov (.t 4)⟩,
  ⟨some 6, some (5, true), .mov (.t 0)⟩,
  ⟨some 7, some (5, true), .bin .leq (.t 6) (.c (.int .u8 122))⟩,
  ⟨some 8, none, .pick (.t 5) (.t 7) (.c (.bool false))⟩,
  ⟨some 9, none, .mov (.t 8)⟩,
  ⟨some 10, some (9, false), .mov (.t 0)⟩,
  ⟨some 11, some (9, false), .bin .geq (.t 10) (.c (.int .u8 65))⟩,
  ⟨some 12, some (9, false), .mov (.t 11)⟩,
  ⟨some 13, some (12, true), .mov (.t 0)⟩,
  ⟨some 14, some (12, true), .bin .leq (.t 13) (.c (.int .u8 90))⟩,
  ⟨some 15, some (9, false), .pick (.t 12) (.t 14) (.c (.bool false))⟩,
  ⟨some 16, none, .pick (.t 9) (.c (.bool true)) (.t 15)⟩,
  ⟨some 2, none, .mov (.t 16)⟩]
def zc32_0 : AC := .seq (.reg zr32_1) .ret
def zc32_1 : AC := .seq (.reg zr32_0) zc32_0
def zc32 : AC := zc32_1
theorem ok32 : Tryd.f32.body.bind (compCode Tryd.prog 17) = some zc32 := by kernel_rfl
theorem nt32 : Tryd.f32.ntmps = 17 := by kernel_rfl
theorem res32 : compRes Tryd.prog Tryd.f32.results.toList = some [.tmp 2] := by kernel_rfl
attribute [go_sem] zr32_0 zr32_1
def s32 (N : Nat) (p1 : Int) : Option Bool :=
  if 97 ≤ p1 then
    if p1 ≤ 122 then
      some true
    else
      if 65 ≤ p1 then
        some (decide (p1 ≤ 90))
      else
        some false
  else
    if 65 ≤ p1 then
      some (decide (p1 ≤ 90))
    else
      some false
set_option maxHeartbeats 4000000 in
theorem c32 (N : Nat) (p1 : Int) (r : Bool) (h : s32 N p1 = some r) : PureC Tryd.prog 32 [.int .u8 p1] (.bool r) := by
 refine fn_intro' 17 Tryd.func32 nt32 ok32 res32 (by simp) fun X hP hn hd hr => ?_
 unfold s32 at h
 repeat refine awp_seq ?_
 refine rg (h := ?_)
 repeat refine awp_seq ?_
 rcases ite_some h with ⟨hc1, h⟩ | ⟨hc1, h⟩
 · rcases ite_some h with ⟨hc2, h⟩ | ⟨hc2, h⟩
   · refine rgf (And.intro (eq_true hc1) (eq_true hc2)) ?_
     obtain rfl := som_inj h
     repeat refine awp_seq ?_
     refine awp_ret ?_
     repeat first | refine then_ret ?_ | refine blk_ret ?_
     exact rtp
   rcases ite_some h with ⟨hc3, h⟩ | ⟨hc3, h⟩
   · refine rgf (And.intro (eq_true hc1) (And.intro (eq_false hc2) (eq_true hc3))) ?_
     obtain rfl := som_inj h
     repeat refine awp_seq ?_
     refine awp_ret ?_
     repeat first | refine then_ret ?_ | refine blk_ret ?_
     exact rtp
   refine rgf (And.intro (eq_true hc1) (And.intro (eq_false hc2) (eq_false hc3))) ?_
   obtain rfl := som_inj h
   repeat refine awp_seq ?_
   refine awp_ret ?_
   repeat first | refine then_ret ?_ | refine blk_ret ?_
   exact rtp
 rcases ite_some h with ⟨hc4, h⟩ | ⟨hc4, h⟩
 · refine rgf (And.intro (eq_false hc1) (eq_true hc4)) ?_
   obtain rfl := som_inj h
   repeat refine awp_seq ?_
   refine awp_ret ?_
   repeat first | refine then_ret ?_ | refine blk_ret ?_
   exact rtp
 refine rgf (And.intro (eq_false hc1) (eq_false hc4)) ?_
 obtain rfl := som_inj h
 repeat refine awp_seq ?_
 refine awp_ret ?_
 repeat first | refine then_ret ?_ | refine blk_ret ?_
 exact rtp
def zr34_0 : List AO := [⟨some 2, none, .mov (.c (.bool false))⟩]
def zr34_1 : List AO := [⟨some 3, none, .mov (.t 0)⟩,
  ⟨some 4, none, .bin .geq (.t 3) (.c (.int .u8 48))⟩,
  ⟨some 5, none, .mov (.t 4)⟩,
  ⟨some 6, some (5, true), .mov (.t 0)⟩,
  ⟨some 7, some (5, true), .bin .leq (.t 6) (.c (.int .u8 57))⟩,
  ⟨some 8, none, .pick (.t 5) (.t 7) (.c (.bool false))⟩,
  ⟨some 2, none, .mov (.t 8)⟩]
def zc34_0 : AC := .seq (.reg zr34_1) .ret
def zc34_1 : AC := .seq (.reg zr34_0) zc34_0
def zc34 : AC := zc34_1
theorem ok34 : Tryd.f34.body.bind (compCode Tryd.prog 9) = some zc34 := by kernel_rfl
theorem nt34 : Tryd.f34.ntmps = 9 := by kernel_rfl
theorem res34 : compRes Tryd.prog Tryd.f34.results.toList = some [.tmp 2] := by kernel_rfl
attribute [go_sem] zr34_0 zr34_1
def s34 (N : Nat) (p1 : Int) : Option Bool :=
  if 48 ≤ p1 then
    some (decide (p1 ≤ 57))
  else
    some false
set_option maxHeartbeats 4000000 in
theorem c34 (N : Nat) (p1 : Int) (r : Bool) (h : s34 N p1 = some r) : PureC Tryd.prog 34 [.int .u8 p1] (.bool r) := by
 refine fn_intro' 9 Tryd.func34 nt34 ok34 res34 (by simp) fun X hP hn hd hr => ?_
 unfold s34 at h
 repeat refine awp_seq ?_
 refine rg (h := ?_)
 repeat refine awp_seq ?_
 rcases ite_some h with ⟨hc1, h⟩ | ⟨hc1, h⟩
 · refine rgf (eq_true hc1) ?_
   obtain rfl := som_inj h
   repeat refine awp_seq ?_
   refine awp_ret ?_
   repeat first | refine then_ret ?_ | refine blk_ret ?_
   exact rtp
 refine rgf (eq_false hc1) ?_
 obtain rfl := som_inj h
 repeat refine awp_seq ?_
 refine awp_ret ?_
 repeat first | refine then_ret ?_ | refine blk_ret ?_
 exact rtp
def zr40_0 : List AO := [⟨some 2, none, .mov (.c (.bool false))⟩]
def zr40_1 : List AO := [⟨some 3, none, .mov (.t 0)⟩,
  ⟨some 4, none, .callF 32 [(.t 3)]⟩,
  ⟨some 5, none, .mov (.t 4)⟩,
  ⟨some 6, some (5, false), .mov (.t 0)⟩,
  ⟨some 7, some (5, false), .callF 34 [(.t 6)]⟩,
  ⟨some 8, none, .pick (.t 5) (.c (.bool true)) (.t 7)⟩,
  ⟨some 9, none, .mov (.t 8)⟩,
  ⟨some 10, some (9, false), .mov (.t 0)⟩,
  ⟨some 11, some (9, false), .bin .eql (.t 10) (.c (.int .u8 95))⟩,
  ⟨some 12, none, .pick (.t 9) (.c (.bool true)) (.t 11)⟩,
  ⟨some 2, none, .mov (.t 12)⟩]
def zc40_0 : AC := .seq (.reg zr40_1) .ret
def zc40_1 : AC := .seq (.reg zr40_0) zc40_0
def zc40 : AC := zc40_1
theorem ok40 : Tryd.f40.body.bind (compCode Tryd.prog 13) = some zc40 := by kernel_rfl
theorem nt40 : Tryd.f40.ntmps = 13 := by kernel_rfl
theorem res40 : compRes Tryd.prog Tryd.f40.results.toList = some [.tmp 2] := by kernel_rfl
attribute [go_sem] zr40_0
def s40 (N : Nat) (p1 : Int) : Option Bool :=
  (s32 N p1).bind fun x1 =>
  bif x1 then
    some true
  else
    (s34 N p1).bind fun x4 =>
    bif x4 then
      some true
    else
      some (decide (p1 = 95))
set_option maxHeartbeats 4000000 in
theorem c40 (N : Nat) (p1 : Int) (r : Bool) (h : s40 N p1 = some r) : PureC Tryd.prog 40 [.int .u8 p1] (.bool r) := by
 refine fn_intro' 13 Tryd.func40 nt40 ok40 res40 (by simp) fun X hP hn hd hr => ?_
 unfold s40 at h
 repeat refine awp_seq ?_
 refine rg (h := ?_)
 repeat refine awp_seq ?_
 refine awp_reg fun K Q hK hQ => ?_
 simp -implicitDefEqProofs (disch := first | omega | rfl) only [go_sem, simprocAttr, zr40_1]
 have hh := bnd_some h; clear h; obtain ⟨x1, hx2, h⟩ := hh
 refine call_pure hP (c32 N p1 x1 hx2) ?_
 rcases cnd_some h with ⟨hc3, h⟩ | ⟨hc3, h⟩
 · simp -implicitDefEqProofs (disch := first | omega | rfl) only [go_sem, simprocAttr, hc3]
   refine hK _ _ ?_; clear hK hQ K Q
   obtain rfl := som_inj h
   repeat refine awp_seq ?_
   refine awp_ret ?_
   repeat first | refine then_ret ?_ | refine blk_ret ?_
   exact rtp
 simp -implicitDefEqProofs (disch := first | omega | rfl) only [go_sem, simprocAttr, hc3]
 have hh := bnd_some h; clear h; obtain ⟨x4, hx5, h⟩ := hh
 refine call_pure hP (c34 N p1 x4 hx5) ?_
 rcases cnd_some h with ⟨hc6, h⟩ | ⟨hc6, h⟩
 · simp -implicitDefEqProofs (disch := first | omega | rfl) only [go_sem, simprocAttr, hc6]
   refine hK _ _ ?_; clear hK hQ K Q
   obtain rfl := som_inj h
   repeat refine awp_seq ?_
   refine awp_ret ?_
   repeat first | refine then_ret ?_ | refine blk_ret ?_
   exact rtp
 simp -implicitDefEqProofs (disch := first | omega | rfl) only [go_sem, simprocAttr, hc6]
 refine hK _ _ ?_; clear hK hQ K Q
 obtain rfl := som_inj h
 repeat refine awp_seq ?_
 refine awp_ret ?_
 repeat first | refine then_ret ?_ | refine blk_ret ?_
 exact rtp
def zr33_0 : List AO := [⟨some 4, none, .mov (.c (.int .i64 0))⟩]
def zr33_1 : List AO := [⟨some 5, none, .mov (.c (.int .i64 0))⟩]
def zr33_2 : List AO := [⟨some 8, none, .mov (.t 1)⟩,
  ⟨some 9, none, .mov (.t 5)⟩,
  ⟨some 10, none, .bin .add (.t 8) (.t 9)⟩,
  ⟨some 11, none, .mov (.t 0)⟩,
  ⟨some 12, none, .lenS (.t 11)⟩,
  ⟨some 13, none, .bin .lss (.t 10) (.t 12)⟩]
def zc33_0 : AC := .cond (.t 13) .skip (.exit 0)
def zr33_3 : List AO := [⟨some 14, none, .mov (.t 0)⟩,
  ⟨some 15, none, .mov (.t 1)⟩,
  ⟨some 16, none, .mov (.t 5)⟩,
  ⟨some 17, none, .bin .add (.t 15) (.t 16)⟩,
  ⟨some 18, none, .idxS (.t 14) (.t 17)⟩,
  ⟨some 6, none, .mov (.t 18)⟩]
def zr33_4 : List AO := [⟨some 19, none, .mov (.t 6)⟩,
  ⟨some 20, none, .bin .eql (.t 19) (.c (.int .u8 46))⟩,
  ⟨some 21, none, .mov (.t 20)⟩,
  ⟨some 22, some (21, true), .mov (.t 1)⟩,
  ⟨some 23, some (21, true), .mov (.t 5)⟩,
  ⟨some 24, some (21, true), .bin .add (.t 22) (.t 23)⟩,
  ⟨some 25, some (21, true), .bin .add (.t 24) (.c (.int .i64 1))⟩,
  ⟨some 26, some (21, true), .mov (.t 0)⟩,
  ⟨some 27, some (21, true), .lenS (.t 26)⟩,
  ⟨some 28, some (21, true), .bin .lss (.t 25) (.t 27)⟩,
  ⟨some 29, none, .pick (.t 21) (.t 28) (.c (.bool false))⟩,
  ⟨some 30, none, .mov (.t 29)⟩,
  ⟨some 31, some (30, true), .mov (.t 0)⟩,
  ⟨some 32, some (30, true), .mov (.t 1)⟩,
  ⟨some 33, some (30, true), .mov (.t 5)⟩,
  ⟨some 34, some (30, true), .bin .add (.t 32) (.t 33)⟩,
  ⟨some 35, some (30, true), .bin .add (.t 34) (.c (.int .i64 1))⟩,
  ⟨some 36, some (30, true), .idxS (.t 31) (.t 35)⟩,
  ⟨some 37, some (30, true), .callF 40 [(.t 36)]⟩,
  ⟨some 38, none, .pick (.t 30) (.t 37) (.c (.bool false))⟩,
  ⟨some 7, none, .mov (.t 38)⟩]
def zr33_5 : List AO := [⟨some 39, none, .mov (.t 6)⟩,
  ⟨some 40, none, .callF 40 [(.t 39)]⟩,
  ⟨some 41, none, .un .not (.t 40)⟩,
  ⟨some 42, none, .mov (.t 41)⟩,
  ⟨some 43, some (42, true), .mov (.t 7)⟩,
  ⟨some 44, some (42, true), .un .not (.t 43)⟩,
  ⟨some 45, none, .pick (.t 42) (.t 44) (.c (.bool false))⟩]
def zr33_6 : List AO := [⟨some 46, none, .mov (.t 5)⟩,
  ⟨some 4, none, .mov (.t 46)⟩]
def zc33_1 : AC := .seq (.reg zr33_6) .ret
def zc33_2 : AC := .cond (.t 45) zc33_1 .skip
def zr33_7 : List AO := [⟨some 47, none, .mov (.t 5)⟩,
  ⟨some 48, none, .bin .add (.t 47) (.c (.int .i64 1))⟩,
  ⟨some 5, none, .mov (.t 48)⟩]
def zc33_3 : AC := .reg zr33_7
def zc33_4 : AC := .seq (.seq (.reg zr33_5) zc33_2) zc33_3
def zc33_5 : AC := .seq (.reg zr33_4) zc33_4
def zc33_6 : AC := .seq (.reg zr33_3) zc33_5
def zc33_7 : AC := .block 1 zc33_6
def zc33_8 : AC := .seq (.seq (.reg zr33_2) zc33_0) zc33_7
def zc33_9 : AC := .loop zc33_8
def zr33_8 : List AO := [⟨some 49, none, .mov (.t 5)⟩,
  ⟨some 4, none, .mov (.t 49)⟩]
def zc33_10 : AC := .seq (.reg zr33_8) .ret
def zc33_11 : AC := .seq (.block 0 zc33_9) zc33_10
def zc33_12 : AC := .seq (.reg zr33_1) zc33_11
def zc33_13 : AC := .seq (.reg zr33_0) zc33_12
def zc33 : AC := zc33_13
theorem ok33 : Tryd.f33.body.bind (compCode Tryd.prog 50) = some zc33 := by kernel_rfl
theorem nt33 : Tryd.f33.ntmps = 50 := by kernel_rfl
theorem res33 : compRes Tryd.prog Tryd.f33.results.toList = some [.tmp 4] := by kernel_rfl
attribute [go_sem] zr33_0 zr33_1 zr33_2 zr33_3 zr33_6 zr33_7 zr33_8
def s33_k1 (N : Nat) (p1 : List UInt8) (p2 : Int) (x1 : Int) (x6 : Bool) : Option (((Int) ⊕ (Ou (Int) (Int)))) :=
  (s40 N (((List.getD p1 (IntKind.wrap .i64 (p2 + x1)).toNat 0).toNat : Int))).bind fun x7 =>
  bif x7 then
    some (.inl (IntKind.wrap .i64 (x1 + 1)))
  else
    bif x6 then
      some (.inl (IntKind.wrap .i64 (x1 + 1)))
    else
      some (.inr (.ret x1))
def s33_b2 (N : Nat) (p1 : List UInt8) (p2 : Int) (x1 : Int) : Option (((Int) ⊕ (Ou (Int) (Int)))) :=
  if IntKind.wrap .i64 (p2 + x1) < (List.length p1 : Int) then
    grd (0 ≤ IntKind.wrap .i64 (p2 + x1)) <|
    if ((List.getD p1 (IntKind.wrap .i64 (p2 + x1)).toNat 0).toNat : Int) = 46 then
      if IntKind.wrap .i64 ((IntKind.wrap .i64 (p2 + x1)) + 1) < (List.length p1 : Int) then
        grd (0 ≤ IntKind.wrap .i64 ((IntKind.wrap .i64 (p2 + x1)) + 1)) <|
        (s40 N (((List.getD p1 (IntKind.wrap .i64 ((IntKind.wrap .i64 (p2 + x1)) + 1)).toNat 0).toNat : Int))).bind fun x14 =>
        s33_k1 N p1 p2 x1 x14
      else
        s33_k1 N p1 p2 x1 false
    else
      s33_k1 N p1 p2 x1 false
  else
    some (.inr (.brk x1))
def s33 (N : Nat) (p1 : List UInt8) (p2 : Int) : Option Int :=
  (iter (fun p => s33_b2 N p1 p2 p) N 0).bind fun o2 => o2.on (fun a2 =>
    some a2)
    (fun a2r => some a2r)
set_option maxHeartbeats 4000000 in
theorem c33 (N : Nat) (p1 : List UInt8) (p2 : Int) (r : Int) (h : s33 N p1 p2 = some r) : PureC Tryd.prog 33 [.str p1, .int .i64 p2] (.int .i64 r) := by
 refine fn_intro' 50 Tryd.func33 nt33 ok33 res33 (by simp) fun X hP hn hd hr => ?_
 unfold s33 at h
 repeat refine awp_seq ?_
 refine rg (h := ?_)
 repeat refine awp_seq ?_
 refine rg (h := ?_)
 repeat refine awp_seq ?_
 refine awp_block ?_
 obtain ⟨o2, ho2, hO2⟩ := bnd_some h
 repeat refine awp_seq ?_
 refine awp_loop (ι := {p : Nat × Int // iter (fun p => s33_b2 N p1 p2 p) p.1 p.2 = some o2}) (fun p => [(0, .str p1), (1, .int .i64 p2), (5, .int .i64 p.1.2)]) (fun p => []) (fun p => p.1.1) ⟨⟨N, 0⟩, ho2⟩ ?_ ?_
 · refine ent_le' ([]) ([]) ([]) rfl (List.Perm.refl _) ?_ ?_
   · simp -implicitDefEqProofs (disch := first | omega | rfl) only [go_sem, simprocAttr, subF_cons, subF_nil]
     exact ⟨(.keep _), (.keep _), (.keep _)⟩
   · exact .nil
 rintro ⟨⟨n2, x1⟩, hi2⟩
 obtain ⟨m2, q2, rfl, h, hm2⟩ := iter_some hi2
 try dsimp only at h
 try dsimp only
 unfold s33_b2 at h
 repeat refine awp_seq ?_
 refine rg (h := ?_)
 rcases ite_some h with ⟨hc4, h⟩ | ⟨hc4, h⟩
 · repeat refine awp_seq ?_
   refine awp_then (by simp -implicitDefEqProofs (disch := first | omega | rfl) only [go_sem, simprocAttr, eq_true hc4]) ?_
   repeat refine awp_seq ?_
   refine awp_skip ?_
   repeat refine awp_seq ?_
   refine awp_block ?_
   repeat refine awp_seq ?_
   obtain ⟨hg5, h⟩ := grd_some h
   refine rgf (And.intro (eq_true hc4) (eq_true hg5)) ?_
   repeat refine awp_seq ?_
   refine awp_cut (ι := {p : Bool // s33_k1 N p1 p2 x1 p = some q2}) (fun p => [(0, .str p1), (1, .int .i64 p2), (5, .int .i64 x1), (6, .int .u8 (((List.getD p1 (IntKind.wrap .i64 (p2 + x1)).toNat 0).toNat : Int))), (7, .bool p.1)]) (fun p => []) ?_ ?_
   · repeat refine awp_seq ?_
     refine awp_reg fun K Q hK hQ => ?_
     rcases ite_some h with ⟨hc11, h⟩ | ⟨hc11, h⟩
     · rcases ite_some h with ⟨hc12, h⟩ | ⟨hc12, h⟩
       · obtain ⟨hg13, h⟩ := grd_some h
         simp -implicitDefEqProofs (disch := first | omega | rfl) only [go_sem, simprocAttr, zr33_4, eq_true hc11, eq_true hc12, eq_true hg13]
         have hh := bnd_some h; clear h; obtain ⟨x14, hx15, h⟩ := hh
         refine call_pure hP (c40 N (((List.getD p1 (IntKind.wrap .i64 ((IntKind.wrap .i64 (p2 + x1)) + 1)).toNat 0).toNat : Int)) x14 hx15) ?_
         simp -implicitDefEqProofs (disch := first | omega | rfl) only [go_sem, simprocAttr]
         refine hK _ _ ?_; clear hK hQ K Q
         refine ⟨⟨x14, h⟩, ?_⟩
         refine ent_le' ([]) ([]) ([]) rfl (List.Perm.refl _) ?_ ?_
         · simp -implicitDefEqProofs (disch := first | omega | rfl) only [go_sem, simprocAttr, subF_cons, subF_nil]
           exact ⟨(.keep _), (.keep _), (.keep _), (.keep _), (.keep _)⟩
         · exact .nil
       simp -implicitDefEqProofs (disch := first | omega | rfl) only [go_sem, simprocAttr, zr33_4, eq_true hc11, eq_false hc12]
       refine hK _ _ ?_; clear hK hQ K Q
       refine ⟨⟨false, h⟩, ?_⟩
       refine ent_le' ([]) ([]) ([]) rfl (List.Perm.refl _) ?_ ?_
       · simp -implicitDefEqProofs (disch := first | omega | rfl) only [go_sem, simprocAttr, subF_cons, subF_nil]
         exact ⟨(.keep _), (.keep _), (.keep _), (.keep _), (.keep _)⟩
       · exact .nil
     simp -implicitDefEqProofs (disch := first | omega | rfl) only [go_sem, simprocAttr, zr33_4, eq_false hc11]
     refine hK _ _ ?_; clear hK hQ K Q
     refine ⟨⟨false, h⟩, ?_⟩
     refine ent_le' ([]) ([]) ([]) rfl (List.Perm.refl _) ?_ ?_
     · simp -implicitDefEqProofs (disch := first | omega | rfl) only [go_sem, simprocAttr, subF_cons, subF_nil]
       exact ⟨(.keep _), (.keep _), (.keep _), (.keep _), (.keep _)⟩
     · exact .nil
   rintro ⟨x6, h⟩
   try dsimp only at h
   try dsimp only
   repeat refine awp_seq ?_
   refine awp_reg fun K Q hK hQ => ?_
   simp -implicitDefEqProofs (disch := first | omega | rfl) only [go_sem, simprocAttr, zr33_5]
   have hh := bnd_some h; clear h; obtain ⟨x7, hx8, h⟩ := hh
   refine call_pure hP (c40 N (((List.getD p1 (IntKind.wrap .i64 (p2 + x1)).toNat 0).toNat : Int)) x7 hx8) ?_
   rcases cnd_some h with ⟨hc9, h⟩ | ⟨hc9, h⟩
   · simp -implicitDefEqProofs (disch := first | omega | rfl) only [go_sem, simprocAttr, hc9]
     refine hK _ _ ?_; clear hK hQ K Q
     repeat refine awp_seq ?_
     refine awp_else (by rfl) ?_
     repeat refine awp_seq ?_
     refine awp_skip ?_
     repeat refine awp_seq ?_
     refine rg (h := ?_)
     obtain rfl := som_inj h
     try dsimp only at hm2
     refine ⟨⟨⟨m2, IntKind.wrap .i64 (x1 + 1)⟩, hm2⟩, Nat.lt_succ_self _, ?_⟩
     refine ent_le' ([]) ([]) ([]) rfl (List.Perm.refl _) ?_ ?_
     · simp -implicitDefEqProofs (disch := first | omega | rfl) only [go_sem, simprocAttr, subF_cons, subF_nil]
       exact ⟨(.keep _), (.keep _), (.keep _)⟩
     · exact .nil
   simp -implicitDefEqProofs (disch := first | omega | rfl) only [go_sem, simprocAttr, hc9]
   refine hK _ _ ?_; clear hK hQ K Q
   rcases cnd_some h with ⟨hc10, h⟩ | ⟨hc10, h⟩
   · repeat refine awp_seq ?_
     refine awp_else (by simp -implicitDefEqProofs (disch := first | omega | rfl) only [go_sem, simprocAttr, hc10]) ?_
     repeat refine awp_seq ?_
     refine awp_skip ?_
     repeat refine awp_seq ?_
     refine rg (h := ?_)
     obtain rfl := som_inj h
     try dsimp only at hm2
     refine ⟨⟨⟨m2, IntKind.wrap .i64 (x1 + 1)⟩, hm2⟩, Nat.lt_succ_self _, ?_⟩
     refine ent_le' ([]) ([]) ([]) rfl (List.Perm.refl _) ?_ ?_
     · simp -implicitDefEqProofs (disch := first | omega | rfl) only [go_sem, simprocAttr, subF_cons, subF_nil]
       exact ⟨(.keep _), (.keep _), (.keep _)⟩
     · exact .nil
   repeat refine awp_seq ?_
   refine awp_then (by simp -implicitDefEqProofs (disch := first | omega | rfl) only [go_sem, simprocAttr, hc10]) ?_
   repeat refine awp_seq ?_
   refine rg (h := ?_)
   obtain rfl := som_inj h
   try dsimp only at hm2
   subst hm2
   simp only [Ou.on_ret] at hO2
   obtain rfl := som_inj hO2
   repeat refine awp_seq ?_
   refine awp_ret ?_
   repeat first | refine then_ret ?_ | refine blk_ret ?_
   exact rtp
 repeat refine awp_seq ?_
 refine awp_else (by simp -implicitDefEqProofs (disch := first | omega | rfl) only [go_sem, simprocAttr, eq_false hc4]) ?_
 repeat refine awp_seq ?_
 refine awp_exit ?_
 repeat' (first | refine then_exit ?_ | refine exit_here ?_ | refine exit_on rfl ?_)
 obtain rfl := som_inj h
 try dsimp only at hm2
 subst hm2
 simp only [Ou.on_brk] at hO2
 repeat refine awp_seq ?_
 refine rg (h := ?_)
 obtain rfl := som_inj hO2
 repeat refine awp_seq ?_
 refine awp_ret ?_
 repeat first | refine then_ret ?_ | refine blk_ret ?_
 exact rtp
def zr35_0 : List AO := [⟨some 4, none, .mov (.c (.int .i64 0))⟩,
  ⟨some 5, none, .mov (.c (.int .i64 0))⟩]
def zr35_1 : List AO := [⟨some 6, none, .mov (.c (.int .i64 0))⟩]
def zr35_2 : List AO := [⟨some 7, none, .mov (.c (.int .i64 0))⟩]
def zr35_3 : List AO := [⟨some 8, none, .mov (.t 1)⟩,
  ⟨some 9, none, .mov (.t 6)⟩,
  ⟨some 10, none, .bin .add (.t 8) (.t 9)⟩,
  ⟨some 11, none, .mov (.t 0)⟩,
  ⟨some 12, none, .lenS (.t 11)⟩,
  ⟨some 13, none, .bin .lss (.t 10) (.t 12)⟩,
  ⟨some 14, none, .mov (.t 13)⟩,
  ⟨some 15, some (14, true), .mov (.t 0)⟩,
  ⟨some 16, some (14, true), .mov (.t 1)⟩,
  ⟨some 17, some (14, true), .mov (.t 6)⟩,
  ⟨some 18, some (14, true), .bin .add (.t 16) (.t 17)⟩,
  ⟨some 19, some (14, true), .idxS (.t 15) (.t 18)⟩,
  ⟨some 20, some (14, true), .callF 34 [(.t 19)]⟩,
  ⟨some 21, none, .pick (.t 14) (.t 20) (.c (.bool false))⟩]
def zc35_0 : AC := .cond (.t 21) .skip (.exit 0)
def zr35_4 : List AO := [⟨some 22, none, .mov (.t 6)⟩,
  ⟨some 23, none, .bin .lss (.t 22) (.c (.int .i64 12))⟩]
def zr35_5 : List AO := [⟨some 24, none, .mov (.t 7)⟩,
  ⟨some 25, none, .bin .mul (.c (.int .i64 10)) (.t 24)⟩,
  ⟨some 26, none, .mov (.t 0)⟩,
  ⟨some 27, none, .mov (.t 1)⟩,
  ⟨some 28, none, .mov (.t 6)⟩,
  ⟨some 29, none, .bin .add (.t 27) (.t 28)⟩,
  ⟨some 30, none, .idxS (.t 26) (.t 29)⟩,
  ⟨some 31, none, .bin .sub (.t 30) (.c (.int .u8 48))⟩,
  ⟨some 32, none, .conv .i64 (.t 31)⟩,
  ⟨some 33, none, .bin .add (.t 25) (.t 32)⟩,
  ⟨some 7, none, .mov (.t 33)⟩]
def zc35_1 : AC := .reg zr35_5
def zc35_2 : AC := .cond (.t 23) zc35_1 .skip
def zr35_6 : List AO := [⟨some 34, none, .mov (.t 6)⟩,
  ⟨some 35, none, .bin .add (.t 34) (.c (.int .i64 1))⟩,
  ⟨some 6, none, .mov (.t 35)⟩]
def zc35_3 : AC := .reg zr35_6
def zc35_4 : AC := .seq (.seq (.reg zr35_4) zc35_2) zc35_3
def zc35_5 : AC := .block 1 zc35_4
def zc35_6 : AC := .seq (.seq (.reg zr35_3) zc35_0) zc35_5
def zc35_7 : AC := .loop zc35_6
def zr35_7 : List AO := [⟨some 36, none, .mov (.t 6)⟩,
  ⟨some 37, none, .mov (.t 7)⟩,
  ⟨some 4, none, .mov (.t 36)⟩,
  ⟨some 5, none, .mov (.t 37)⟩]
def zc35_8 : AC := .seq (.reg zr35_7) .ret
def zc35_9 : AC := .seq (.block 0 zc35_7) zc35_8
def zc35_10 : AC := .seq (.reg zr35_2) zc35_9
def zc35_11 : AC := .seq (.reg zr35_1) zc35_10
def zc35_12 : AC := .seq (.reg zr35_0) zc35_11
def zc35 : AC := zc35_12
theorem ok35 : Tryd.f35.body.bind (compCode Tryd.prog 38) = some zc35 := by kernel_rfl
theorem nt35 : Tryd.f35.ntmps = 38 := by kernel_rfl
theorem res35 : compRes Tryd.prog Tryd.f35.results.toList = some [.tmp 4, .tmp 5] := by kernel_rfl
attribute [go_sem] zr35_0 zr35_1 zr35_2 zr35_4 zr35_5 zr35_6 zr35_7
def s35_b1 (N : Nat) (p1 : List UInt8) (p2 : Int) (x1 : Int) (x2 : Int) : Option (((Int × Int) ⊕ (Int × Int))) :=
  if IntKind.wrap .i64 (p2 + x1) < (List.length p1 : Int) then
    grd (0 ≤ IntKind.wrap .i64 (p2 + x1)) <|
    (s34 N (((List.getD p1 (IntKind.wrap .i64 (p2 + x1)).toNat 0).toNat : Int))).bind fun x8 =>
    bif x8 then
      if x1 < 12 then
        some (.inl (IntKind.wrap .i64 (x1 + 1), IntKind.wrap .i64 ((IntKind.wrap .i64 (10 * x2)) + (IntKind.wrap .i64 (IntKind.wrap .u8 ((((List.getD p1 (IntKind.wrap .i64 (p2 + x1)).toNat 0).toNat : Int)) - 48))))))
      else
        some (.inl (IntKind.wrap .i64 (x1 + 1), x2))
    else
      some (.inr (x1, x2))
  else
    some (.inr (x1, x2))
def s35 (N : Nat) (p1 : List UInt8) (p2 : Int) : Option (Int × Int) :=
  (iter (fun p => s35_b1 N p1 p2 p.1 p.2) N (0, 0)).bind fun a3 =>
  some (a3.1, a3.2)
set_option maxHeartbeats 4000000 in
theorem c35 (N : Nat) (p1 : List UInt8) (p2 : Int) (r : Int × Int) (h : s35 N p1 p2 = some r) : PureC Tryd.prog 35 [.str p1, .int .i64 p2] (.tup [.int .i64 r.1, .int .i64 r.2]) := by
 refine fn_intro' 38 Tryd.func35 nt35 ok35 res35 (by simp) fun X hP hn hd hr => ?_
 unfold s35 at h
 repeat refine awp_seq ?_
 refine rg (h := ?_)
 repeat refine awp_seq ?_
 refine rg (h := ?_)
 repeat refine awp_seq ?_
 refine rg (h := ?_)
 repeat refine awp_seq ?_
 refine awp_block ?_
 obtain ⟨o3, ho3, hO3⟩ := bnd_some h
 repeat refine awp_seq ?_
 refine awp_loop (ι := {p : Nat × Int × Int // iter (fun p => s35_b1 N p1 p2 p.1 p.2) p.1 (p.2.1, p.2.2) = some o3}) (fun p => [(0, .str p1), (1, .int .i64 p2), (6, .int .i64 p.1.2.1), (7, .int .i64 p.1.2.2)]) (fun p => []) (fun p => p.1.1) ⟨⟨N, 0, 0⟩, ho3⟩ ?_ ?_
 · refine ent_le' ([]) ([]) ([]) rfl (List.Perm.refl _) ?_ ?_
   · simp -implicitDefEqProofs (disch := first | omega | rfl) only [go_sem, simprocAttr, subF_cons, subF_nil]
     exact ⟨(.keep _), (.keep _), (.keep _), (.keep _)⟩
   · exact .nil
 rintro ⟨⟨n3, x1, x2⟩, hi3⟩
 obtain ⟨m3, q3, rfl, h, hm3⟩ := iter_some hi3
 try dsimp only at h
 try dsimp only
 unfold s35_b1 at h
 repeat refine awp_seq ?_
 refine awp_reg fun K Q hK hQ => ?_
 rcases ite_some h with ⟨hc6, h⟩ | ⟨hc6, h⟩
 · obtain ⟨hg7, h⟩ := grd_some h
   simp -implicitDefEqProofs (disch := first | omega | rfl) only [go_sem, simprocAttr, zr35_3, eq_true hc6, eq_true hg7]
   have hh := bnd_some h; clear h; obtain ⟨x8, hx9, h⟩ := hh
   refine call_pure hP (c34 N (((List.getD p1 (IntKind.wrap .i64 (p2 + x1)).toNat 0).toNat : Int)) x8 hx9) ?_
   simp -implicitDefEqProofs (disch := first | omega | rfl) only [go_sem, simprocAttr]
   refine hK _ _ ?_; clear hK hQ K Q
   rcases cnd_some h with ⟨hc10, h⟩ | ⟨hc10, h⟩
   · repeat refine awp_seq ?_
     refine awp_then (by simp -implicitDefEqProofs (disch := first | omega | rfl) only [go_sem, simprocAttr, hc10]) ?_
     repeat refine awp_seq ?_
     refine awp_skip ?_
     repeat refine awp_seq ?_
     refine awp_block ?_
     repeat refine awp_seq ?_
     refine rg (h := ?_)
     rcases ite_some h with ⟨hc11, h⟩ | ⟨hc11, h⟩
     · repeat refine awp_seq ?_
       refine awp_then (by simp -implicitDefEqProofs (disch := first | omega | rfl) only [go_sem, simprocAttr, eq_true hc11]) ?_
       repeat refine awp_seq ?_
       refine rgf (And.intro (eq_true hg7) (eq_true hc6)) ?_
       repeat refine awp_seq ?_
       refine rg (h := ?_)
       obtain rfl := som_inj h
       try dsimp only at hm3
       refine ⟨⟨⟨m3, IntKind.wrap .i64 (x1 + 1), IntKind.wrap .i64 ((IntKind.wrap .i64 (10 * x2)) + (IntKind.wrap .i64 (IntKind.wrap .u8 ((((List.getD p1 (IntKind.wrap .i64 (p2 + x1)).toNat 0).toNat : Int)) - 48))))⟩, hm3⟩, Nat.lt_succ_self _, ?_⟩
       refine ent_le' ([]) ([]) ([]) rfl (List.Perm.refl _) ?_ ?_
       · simp -implicitDefEqProofs (disch := first | omega | rfl) only [go_sem, simprocAttr, subF_cons, subF_nil]
         exact ⟨(.keep _), (.keep _), (.keep _), (.keep _)⟩
       · exact .nil
     repeat refine awp_seq ?_
     refine awp_else (by simp -implicitDefEqProofs (disch := first | omega | rfl) only [go_sem, simprocAttr, eq_false hc11]) ?_
     repeat refine awp_seq ?_
     refine awp_skip ?_
     repeat refine awp_seq ?_
     refine rg (h := ?_)
     obtain rfl := som_inj h
     try dsimp only at hm3
     refine ⟨⟨⟨m3, IntKind.wrap .i64 (x1 + 1), x2⟩, hm3⟩, Nat.lt_succ_self _, ?_⟩
     refine ent_le' ([]) ([]) ([]) rfl (List.Perm.refl _) ?_ ?_
     · simp -implicitDefEqProofs (disch := first | omega | rfl) only [go_sem, simprocAttr, subF_cons, subF_nil]
       exact ⟨(.keep _), (.keep _), (.keep _), (.keep _)⟩
     · exact .nil
   repeat refine awp_seq ?_
   refine awp_else (by simp -implicitDefEqProofs (disch := first | omega | rfl) only [go_sem, simprocAttr, hc10]) ?_
   repeat refine awp_seq ?_
   refine awp_exit ?_
   repeat' (first | refine then_exit ?_ | refine exit_here ?_ | refine exit_on rfl ?_)
   obtain rfl := som_inj h
   try dsimp only at hm3
   subst hm3
   try dsimp only at hO3
   repeat refine awp_seq ?_
   refine rg (h := ?_)
   obtain rfl := som_inj hO3
   repeat refine awp_seq ?_
   refine awp_ret ?_
   repeat first | refine then_ret ?_ | refine blk_ret ?_
   exact rtp
 simp -implicitDefEqProofs (disch := first | omega | rfl) only [go_sem, simprocAttr, zr35_3, eq_false hc6]
 refine hK _ _ ?_; clear hK hQ K Q
 repeat refine awp_seq ?_
 refine awp_else (by rfl) ?_
 repeat refine awp_seq ?_
 refine awp_exit ?_
 repeat' (first | refine then_exit ?_ | refine exit_here ?_ | refine exit_on rfl ?_)
 obtain rfl := som_inj h
 try dsimp only at hm3
 subst hm3
 try dsimp only at hO3
 repeat refine awp_seq ?_
 refine rg (h := ?_)
 obtain rfl := som_inj hO3
 repeat refine awp_seq ?_
 refine awp_ret ?_
 repeat first | refine then_ret ?_ | refine blk_ret ?_
 exact rtp
def zr36_0 : List AO := [⟨some 2, none, .mov (.c (.bool false))⟩]
def zr36_1 : List AO := [⟨some 3, none, .mov (.c (.str lit2))⟩]
def zr36_2 : List AO := [⟨some 4, none, .mov (.c (.int .i64 0))⟩]
def zr36_3 : List AO := [⟨some 5, none, .mov (.t 4)⟩,
  ⟨some 6, none, .mov (.t 3)⟩,
  ⟨some 7, none, .lenS (.t 6)⟩,
  ⟨some 8, none, .bin .lss (.t 5) (.t 7)⟩]
def zc36_0 : AC := .cond (.t 8) .skip (.exit 0)
def zr36_4 : List AO := [⟨some 11, none, .mov (.t 3)⟩,
  ⟨some 12, none, .mov (.t 4)⟩,
  ⟨some 13, none, .idxS (.t 11) (.t 12)⟩,
  ⟨some 14, none, .mov (.t 0)⟩,
  ⟨some 15, none, .bin .eql (.t 13) (.t 14)⟩]
def zr36_5 : List AO := [⟨some 2, none, .mov (.c (.bool true))⟩]
def zc36_1 : AC := .seq (.reg zr36_5) .ret
def zc36_2 : AC := .cond (.t 15) zc36_1 .skip
def zc36_3 : AC := .seq (.reg zr36_4) zc36_2
def zr36_6 : List AO := [⟨some 9, none, .mov (.t 4)⟩,
  ⟨some 10, none, .bin .add (.t 9) (.c (.int .i64 1))⟩,
  ⟨some 4, none, .mov (.t 10)⟩]
def zc36_4 : AC := .reg zr36_6
def zc36_5 : AC := .seq (.block 1 zc36_3) zc36_4
def zc36_6 : AC := .seq (.seq (.reg zr36_3) zc36_0) zc36_5
def zc36_7 : AC := .loop zc36_6
def zc36_8 : AC := .block 0 zc36_7
def zr36_7 : List AO := [⟨some 2, none, .mov (.c (.bool false))⟩]
def zc36_9 : AC := .seq (.reg zr36_7) .ret
def zc36_10 : AC := .seq (.seq (.reg zr36_2) zc36_8) zc36_9
def zc36_11 : AC := .seq (.reg zr36_1) zc36_10
def zc36_12 : AC := .seq (.reg zr36_0) zc36_11
def zc36 : AC := zc36_12
theorem ok36 : Tryd.f36.body.bind (compCode Tryd.prog 16) = some zc36 := by kernel_rfl
theorem nt36 : Tryd.f36.ntmps = 16 := by kernel_rfl
theorem res36 : compRes Tryd.prog Tryd.f36.results.toList = some [.tmp 2] := by kernel_rfl
attribute [go_sem] zr36_0 zr36_1 zr36_2 zr36_3 zr36_4 zr36_5 zr36_6 zr36_7
def s36_b1 (N : Nat) (p1 : Int) (x1 : Int) : Option (((Int) ⊕ (Ou (Unit) (Bool)))) :=
  if x1 < (List.length lit2 : Int) then
    grd (0 ≤ x1) <|
    if ((List.getD lit2 x1.toNat 0).toNat : Int) = p1 then
      some (.inr (.ret true))
    else
      some (.inl (IntKind.wrap .i64 (x1 + 1)))
  else
    some (.inr (.brk ()))
def s36 (N : Nat) (p1 : Int) : Option Bool :=
  (iter (fun p => s36_b1 N p1 p) N 0).bind fun o2 => o2.on (fun a2 =>
    some false)
    (fun a2r => some a2r)
set_option maxHeartbeats 4000000 in
theorem c36 (N : Nat) (p1 : Int) (r : Bool) (h : s36 N p1 = some r) : PureC Tryd.prog 36 [.int .u8 p1] (.bool r) := by
 refine fn_intro' 16 Tryd.func36 nt36 ok36 res36 (by simp) fun X hP hn hd hr => ?_
 unfold s36 at h
 repeat refine awp_seq ?_
 refine rg (h := ?_)
 repeat refine awp_seq ?_
 refine rg (h := ?_)
 repeat refine awp_seq ?_
 refine rg (h := ?_)
 repeat refine awp_seq ?_
 refine awp_block ?_
 obtain ⟨o2, ho2, hO2⟩ := bnd_some h
 repeat refine awp_seq ?_
 refine awp_loop (ι := {p : Nat × Int // iter (fun p => s36_b1 N p1 p) p.1 p.2 = some o2}) (fun p => [(0, .int .u8 p1), (3, .str lit2), (4, .int .i64 p.1.2)]) (fun p => []) (fun p => p.1.1) ⟨⟨N, 0⟩, ho2⟩ ?_ ?_
 · refine ent_le' ([]) ([]) ([]) rfl (List.Perm.refl _) ?_ ?_
   · simp -implicitDefEqProofs (disch := first | omega | rfl) only [go_sem, simprocAttr, subF_cons, subF_nil]
     exact ⟨(.keep _), (.keep _), (.keep _)⟩
   · exact .nil
 rintro ⟨⟨n2, x1⟩, hi2⟩
 obtain ⟨m2, q2, rfl, h, hm2⟩ := iter_some hi2
 try dsimp only at h
 try dsimp only
 unfold s36_b1 at h
 repeat refine awp_seq ?_
 refine rg (h := ?_)
 rcases ite_some h with ⟨hc3, h⟩ | ⟨hc3, h⟩
 · repeat refine awp_seq ?_
   refine awp_then (by simp -implicitDefEqProofs (disch := first | omega | rfl) only [go_sem, simprocAttr, eq_true hc3]) ?_
   repeat refine awp_seq ?_
   refine awp_skip ?_
   repeat refine awp_seq ?_
   refine awp_block ?_
   repeat refine awp_seq ?_
   obtain ⟨hg4, h⟩ := grd_some h
   refine rgf (And.intro (eq_true hc3) (eq_true hg4)) ?_
   rcases ite_some h with ⟨hc5, h⟩ | ⟨hc5, h⟩
   · repeat refine awp_seq ?_
     refine awp_then (by simp -implicitDefEqProofs (disch := first | omega | rfl) only [go_sem, simprocAttr, eq_true hc5]) ?_
     repeat refine awp_seq ?_
     refine rg (h := ?_)
     obtain rfl := som_inj h
     try dsimp only at hm2
     subst hm2
     simp only [Ou.on_ret] at hO2
     obtain rfl := som_inj hO2
     repeat refine awp_seq ?_
     refine awp_ret ?_
     repeat first | refine then_ret ?_ | refine blk_ret ?_
     exact rtp
   repeat refine awp_seq ?_
   refine awp_else (by simp -implicitDefEqProofs (disch := first | omega | rfl) only [go_sem, simprocAttr, eq_false hc5]) ?_
   repeat refine awp_seq ?_
   refine awp_skip ?_
   repeat refine awp_seq ?_
   refine rg (h := ?_)
   obtain rfl := som_inj h
   try dsimp only at hm2
   refine ⟨⟨⟨m2, IntKind.wrap .i64 (x1 + 1)⟩, hm2⟩, Nat.lt_succ_self _, ?_⟩
   refine ent_le' ([]) ([]) ([]) rfl (List.Perm.refl _) ?_ ?_
   · simp -implicitDefEqProofs (disch := first | omega | rfl) only [go_sem, simprocAttr, subF_cons, subF_nil]
     exact ⟨(.keep _), (.keep _), (.keep _)⟩
   · exact .nil
 repeat refine awp_seq ?_
 refine awp_else (by simp -implicitDefEqProofs (disch := first | omega | rfl) only [go_sem, simprocAttr, eq_false hc3]) ?_
 repeat refine awp_seq ?_
 refine awp_exit ?_
 repeat' (first | refine then_exit ?_ | refine exit_here ?_ | refine exit_on rfl ?_)
 obtain rfl := som_inj h
 try dsimp only at hm2
 subst hm2
 simp only [Ou.on_brk] at hO2
 repeat refine awp_seq ?_
 refine rg (h := ?_)
 obtain rfl := som_inj hO2
 repeat refine awp_seq ?_
 refine awp_ret ?_
 repeat first | refine then_ret ?_ | refine blk_ret ?_
 exact rtp
def zr22_0 : List AO := [⟨some 4, none, .alloc [.int .i64 0, .str [], .int .i64 0, .int .i64 0]⟩,
  ⟨some 5, none, .mov (.c (.int .i64 0))⟩]
def zr22_1 : List AO := [⟨some 10, none, .mov (.t 0)⟩,
  ⟨some 11, none, .mov (.t 1)⟩,
  ⟨some 12, none, .idxS (.t 10) (.t 11)⟩,
  ⟨some 6, none, .mov (.t 12)⟩]
def zr22_2 : List AO := [⟨some 13, none, .mov (.t 6)⟩,
  ⟨some 14, none, .callF 32 [(.t 13)]⟩]
def zr22_3 : List AO := [⟨some 15, none, .mov (.t 0)⟩,
  ⟨some 16, none, .mov (.t 1)⟩,
  ⟨some 17, none, .callF 33 [(.t 15), (.t 16)]⟩,
  ⟨some 7, none, .mov (.t 17)⟩]
def zr22_4 : List AO := [⟨some 18, none, .mov (.t 7)⟩,
  ⟨some 19, none, .bin .gtr (.t 18) (.c (.int .i64 24))⟩]
def zr22_5 : List AO := [⟨some 20, none, .bld [.int .i64 0, .str [], .int .i64 0, .int .i64 0] []⟩,
  ⟨none, none, .store 4 (.t 4) (.t 20)⟩,
  ⟨some 5, none, .mov (.c (.int .i64 3))⟩]
def zc22_0 : AC := .seq (.reg zr22_5) .ret
def zc22_1 : AC := .cond (.t 19) zc22_0 .skip
def zr22_6 : List AO := [⟨some 21, none, .mov (.t 0)⟩,
  ⟨some 22, none, .mov (.t 1)⟩,
  ⟨some 23, none, .mov (.t 1)⟩,
  ⟨some 24, none, .mov (.t 7)⟩,
  ⟨some 25, none, .bin .add (.t 23) (.t 24)⟩,
  ⟨some 26, none, .slcS (.t 21) (some (.t 22)) (some (.t 25))⟩,
  ⟨some 27, none, .mov (.t 1)⟩,
  ⟨some 28, none, .bld [.int .i64 0, .str [], .int .i64 0, .int .i64 0] [(0, 1, (.c (.int .i64 1))), (1, 1, (.t 26)), (3, 1, (.t 27))]⟩,
  ⟨none, none, .store 4 (.t 4) (.t 28)⟩,
  ⟨some 5, none, .mov (.c (.int .i64 0))⟩]
def zc22_2 : AC := .seq (.reg zr22_6) .ret
def zc22_3 : AC := .seq (.seq (.reg zr22_4) zc22_1) zc22_2
def zc22_4 : AC := .seq (.reg zr22_3) zc22_3
def zc22_5 : AC := .cond (.t 14) zc22_4 .skip
def zr22_7 : List AO := [⟨some 29, none, .mov (.t 6)⟩,
  ⟨some 30, none, .callF 34 [(.t 29)]⟩]
def zr22_8 : List AO := [⟨some 32, none, .mov (.t 0)⟩,
  ⟨some 33, none, .mov (.t 1)⟩,
  ⟨some 34, none, .callF 35 [(.t 32), (.t 33)]⟩,
  ⟨some 31, none, .mov (.t 34)⟩,
  ⟨some 35, none, .ext 0 (.t 31)⟩,
  ⟨some 36, none, .ext 1 (.t 31)⟩,
  ⟨some 8, none, .mov (.t 35)⟩,
  ⟨some 9, none, .mov (.t 36)⟩]
def zr22_9 : List AO := [⟨some 37, none, .mov (.t 8)⟩,
  ⟨some 38, none, .bin .gtr (.t 37) (.c (.int .i64 12))⟩,
  ⟨some 39, none, .mov (.t 38)⟩,
  ⟨some 40, some (39, false), .mov (.t 1)⟩,
  ⟨some 41, some (39, false), .mov (.t 8)⟩,
  ⟨some 42, some (39, false), .bin .add (.t 40) (.t 41)⟩,
  ⟨some 43, some (39, false), .mov (.t 0)⟩,
  ⟨some 44, some (39, false), .lenS (.t 43)⟩,
  ⟨some 45, some (39, false), .bin .lss (.t 42) (.t 44)⟩,
  ⟨some 46, some (39, false), .mov (.t 45)⟩,
  ⟨some 47, some (46, true), .mov (.t 0)⟩,
  ⟨some 48, some (46, true), .mov (.t 1)⟩,
  ⟨some 49, some (46, true), .mov (.t 8)⟩,
  ⟨some 50, some (46, true), .bin .add (.t 48) (.t 49)⟩,
  ⟨some 51, some (46, true), .idxS (.t 47) (.t 50)⟩,
  ⟨some 52, some (46, true), .callF 32 [(.t 51)]⟩,
  ⟨some 53, some (46, true), .mov (.t 52)⟩,
  ⟨some 54, some (53, false), .mov (.t 0)⟩,
  ⟨some 55, some (53, false), .mov (.t 1)⟩,
  ⟨some 56, some (53, false), .mov (.t 8)⟩,
  ⟨some 57, some (53, false), .bin .add (.t 55) (.t 56)⟩,
  ⟨some 58, some (53, false), .idxS (.t 54) (.t 57)⟩,
  ⟨some 59, some (53, false), .bin .eql (.t 58) (.c (.int .u8 95))⟩,
  ⟨some 60, some (46, true), .pick (.t 53) (.c (.bool true)) (.t 59)⟩,
  ⟨some 61, some (39, false), .pick (.t 46) (.t 60) (.c (.bool false))⟩,
  ⟨some 62, none, .pick (.t 39) (.c (.bool true)) (.t 61)⟩]
def zr22_10 : List AO := [⟨some 63, none, .bld [.int .i64 0, .str [], .int .i64 0, .int .i64 0] []⟩,
  ⟨none, none, .store 4 (.t 4) (.t 63)⟩,
  ⟨some 5, none, .mov (.c (.int .i64 5))⟩]
def zc22_6 : AC := .seq (.reg zr22_10) .ret
def zc22_7 : AC := .cond (.t 62) zc22_6 .skip
def zr22_11 : List AO := [⟨some 64, none, .mov (.t 0)⟩,
  ⟨some 65, none, .mov (.t 1)⟩,
  ⟨some 66, none, .mov (.t 1)⟩,
  ⟨some 67, none, .mov (.t 8)⟩,
  ⟨some 68, none, .bin .add (.t 66) (.t 67)⟩,
  ⟨some 69, none, .slcS (.t 64) (some (.t 65)) (some (.t 68))⟩,
  ⟨some 70, none, .mov (.t 9)⟩,
  ⟨some 71, none, .mov (.t 1)⟩,
  ⟨some 72, none, .bld [.int .i64 0, .str [], .int .i64 0, .int .i64 0] [(0, 1, (.c (.int .i64 2))), (1, 1, (.t 69)), (2, 1, (.t 70)), (3, 1, (.t 71))]⟩,
  ⟨none, none, .store 4 (.t 4) (.t 72)⟩,
  ⟨some 5, none, .mov (.c (.int .i64 0))⟩]
def zc22_8 : AC := .seq (.reg zr22_11) .ret
def zc22_9 : AC := .seq (.seq (.reg zr22_9) zc22_7) zc22_8
def zc22_10 : AC := .seq (.reg zr22_8) zc22_9
def zc22_11 : AC := .cond (.t 30) zc22_10 .skip
def zr22_12 : List AO := [⟨some 73, none, .mov (.t 6)⟩,
  ⟨some 74, none, .callF 36 [(.t 73)]⟩]
def zr22_13 : List AO := [⟨some 75, none, .mov (.t 0)⟩,
  ⟨some 76, none, .mov (.t 1)⟩,
  ⟨some 77, none, .mov (.t 1)⟩,
  ⟨some 78, none, .bin .add (.t 77) (.c (.int .i64 1))⟩,
  ⟨some 79, none, .slcS (.t 75) (some (.t 76)) (some (.t 78))⟩,
  ⟨some 80, none, .mov (.t 1)⟩,
  ⟨some 81, none, .bld [.int .i64 0, .str [], .int .i64 0, .int .i64 0] [(0, 1, (.c (.int .i64 3))), (1, 1, (.t 79)), (3, 1, (.t 80))]⟩,
  ⟨none, none, .store 4 (.t 4) (.t 81)⟩,
  ⟨some 5, none, .mov (.c (.int .i64 0))⟩]
def zc22_12 : AC := .seq (.reg zr22_13) .ret
def zc22_13 : AC := .cond (.t 74) zc22_12 .skip
def zr22_14 : List AO := [⟨some 82, none, .bld [.int .i64 0, .str [], .int .i64 0, .int .i64 0] []⟩,
  ⟨none, none, .store 4 (.t 4) (.t 82)⟩,
  ⟨some 5, none, .mov (.c (.int .i64 4))⟩]
def zc22_14 : AC := .seq (.reg zr22_14) .ret
def zc22_15 : AC := .seq (.seq (.reg zr22_12) zc22_13) zc22_14
def zc22_16 : AC := .seq (.seq (.reg zr22_7) zc22_11) zc22_15
def zc22_17 : AC := .seq (.seq (.reg zr22_2) zc22_5) zc22_16
def zc22_18 : AC := .seq (.reg zr22_1) zc22_17
def zc22_19 : AC := .seq (.reg zr22_0) zc22_18
def zc22 : AC := zc22_19
theorem ok22 : Tryd.f22.body.bind (compCode Tryd.prog 83) = some zc22 := by kernel_rfl
theorem nt22 : Tryd.f22.ntmps = 83 := by kernel_rfl
theorem res22 : compRes Tryd.prog Tryd.f22.results.toList = some [.cell true 4 4, .tmp 5] := by kernel_rfl
attribute [go_sem] zr22_1 zr22_10 zr22_11 zr22_13 zr22_14 zr22_4 zr22_5 zr22_6
def s22 (N : Nat) (p1 : List UInt8) (p2 : Int) : Option (Token × Int) :=
  grd (0 ≤ p2 ∧ p2 < (List.length p1 : Int)) <|
  (s32 N ((List.getD p1 p2.toNat 0).toNat : Int)).bind fun x4 =>
  bif x4 then
    (s33 N p1 p2).bind fun x7 =>
    if 24 < x7 then
      some (({ Kind := 0, Text := [], N := 0, At := 0 } : Token), 3)
    else
      grd (p2 ≤ IntKind.wrap .i64 (p2 + x7) ∧ IntKind.wrap .i64 (p2 + x7) ≤ (List.length p1 : Int)) <|
      some (({ Kind := 1, Text := List.drop p2.toNat (List.take (IntKind.wrap .i64 (p2 + x7)).toNat p1), N := 0, At := p2 } : Token), 0)
  else
    (s34 N ((List.getD p1 p2.toNat 0).toNat : Int)).bind fun x12 =>
    bif x12 then
      (s35 N p1 p2).bind fun x15 =>
      if 12 < x15.1 then
        some (({ Kind := 0, Text := [], N := 0, At := 0 } : Token), 5)
      else
        if IntKind.wrap .i64 (p2 + x15.1) < (List.length p1 : Int) then
          grd (0 ≤ IntKind.wrap .i64 (p2 + x15.1)) <|
          (s32 N (((List.getD p1 (IntKind.wrap .i64 (p2 + x15.1)).toNat 0).toNat : Int))).bind fun x20 =>
          bif x20 then
            some (({ Kind := 0, Text := [], N := 0, At := 0 } : Token), 5)
          else
            if ((List.getD p1 (IntKind.wrap .i64 (p2 + x15.1)).toNat 0).toNat : Int) = 95 then
              some (({ Kind := 0, Text := [], N := 0, At := 0 } : Token), 5)
            else
              grd (p2 ≤ IntKind.wrap .i64 (p2 + x15.1) ∧ IntKind.wrap .i64 (p2 + x15.1) ≤ (List.length p1 : Int)) <|
              some (({ Kind := 2, Text := List.drop p2.toNat (List.take (IntKind.wrap .i64 (p2 + x15.1)).toNat p1), N := x15.2, At := p2 } : Token), 0)
        else
          grd (p2 ≤ IntKind.wrap .i64 (p2 + x15.1) ∧ IntKind.wrap .i64 (p2 + x15.1) ≤ (List.length p1 : Int)) <|
          some (({ Kind := 2, Text := List.drop p2.toNat (List.take (IntKind.wrap .i64 (p2 + x15.1)).toNat p1), N := x15.2, At := p2 } : Token), 0)
    else
      (s36 N ((List.getD p1 p2.toNat 0).toNat : Int)).bind fun x28 =>
      bif x28 then
        grd (p2 ≤ IntKind.wrap .i64 (p2 + 1) ∧ IntKind.wrap .i64 (p2 + 1) ≤ (List.length p1 : Int)) <|
        some (({ Kind := 3, Text := List.drop p2.toNat (List.take (IntKind.wrap .i64 (p2 + 1)).toNat p1), N := 0, At := p2 } : Token), 0)
      else
        some (({ Kind := 0, Text := [], N := 0, At := 0 } : Token), 4)
set_option maxHeartbeats 4000000 in
theorem c22 (N : Nat) (p1 : List UInt8) (p2 : Int) (r : Token × Int) (h : s22 N p1 p2 = some r) : PureC Tryd.prog 22 [.str p1, .int .i64 p2] (.tup [.agg (Token.cs r.1), .int .i64 r.2]) := by
 refine fn_intro' 83 Tryd.func22 nt22 ok22 res22 (by simp) fun X hP hn hd hr => ?_
 unfold s22 at h
 repeat refine awp_seq ?_
 refine awp_reg fun K Q hK hQ => ?_
 simp -implicitDefEqProofs (disch := first | omega | rfl) only [go_sem, simprocAttr, zr22_0, argS]
 intro b1
 refine hK _ _ ?_; clear hK hQ K Q
 repeat refine awp_seq ?_
 obtain ⟨⟨hg2, hg3⟩, h⟩ := grd_some h
 refine rgf (And.intro (eq_true hg2) (eq_true hg3)) ?_
 repeat refine awp_seq ?_
 refine awp_reg fun K Q hK hQ => ?_
 simp -implicitDefEqProofs (disch := first | omega | rfl) only [go_sem, simprocAttr, zr22_2]
 have hh := bnd_some h; clear h; obtain ⟨x4, hx5, h⟩ := hh
 refine call_pure hP (c32 N ((List.getD p1 p2.toNat 0).toNat : Int) x4 hx5) ?_
 simp -implicitDefEqProofs (disch := first | omega | rfl) only [go_sem, simprocAttr]
 refine hK _ _ ?_; clear hK hQ K Q
 rcases cnd_some h with ⟨hc6, h⟩ | ⟨hc6, h⟩
 · repeat refine awp_seq ?_
   refine awp_then (by simp -implicitDefEqProofs (disch := first | omega | rfl) only [go_sem, simprocAttr, hc6]) ?_
   repeat refine awp_seq ?_
   refine awp_reg fun K Q hK hQ => ?_
   simp -implicitDefEqProofs (disch := first | omega | rfl) only [go_sem, simprocAttr, zr22_3]
   have hh := bnd_some h; clear h; obtain ⟨x7, hx8, h⟩ := hh
   refine call_pure hP (c33 N p1 p2 x7 hx8) ?_
   simp -implicitDefEqProofs (disch := first | omega | rfl) only [go_sem, simprocAttr]
   refine hK _ _ ?_; clear hK hQ K Q
   repeat refine awp_seq ?_
   refine rg (h := ?_)
   rcases ite_some h with ⟨hc9, h⟩ | ⟨hc9, h⟩
   · repeat refine awp_seq ?_
     refine awp_then (by simp -implicitDefEqProofs (disch := first | omega | rfl) only [go_sem, simprocAttr, eq_true hc9]) ?_
     repeat refine awp_seq ?_
     refine rg (h := ?_)
     obtain rfl := som_inj h
     repeat refine awp_seq ?_
     refine awp_le' (s' := [(4, .ptr 4 b1 0), (5, .int .i64 3)]) (own' := (4, b1, .cells (Token.cs ({ Kind := 0, Text := [], N := 0, At := 0 } : Token))) :: []) ([]) (_ :: []) (_ :: []) rfl (List.Perm.refl _) ?_ ?_ ?_
     · simp -implicitDefEqProofs (disch := first | omega | rfl) only [go_sem, simprocAttr, subF_cons, subF_nil]
       exact ⟨(.lptr ..), (.keep _)⟩
     · exact (.cells (by rw [Token.cs_eq]; exact (.cons (.keep _) (.cons (.keep _) (.cons (.keep _) (.cons (.keep _) (.nil _)))))) .nil)
     refine awp_ret ?_
     repeat first | refine then_ret ?_ | refine blk_ret ?_
     exact rtp
   repeat refine awp_seq ?_
   refine awp_else (by simp -implicitDefEqProofs (disch := first | omega | rfl) only [go_sem, simprocAttr, eq_false hc9]) ?_
   repeat refine awp_seq ?_
   refine awp_skip ?_
   repeat refine awp_seq ?_
   obtain ⟨⟨hg10, hg11⟩, h⟩ := grd_some h
   refine rgf (And.intro (eq_true hg2) (And.intro (eq_true hg10) (eq_true hg11))) ?_
   obtain rfl := som_inj h
   repeat refine awp_seq ?_
   refine awp_le' (s' := [(4, .ptr 4 b1 0), (5, .int .i64 0)]) (own' := (4, b1, .cells (Token.cs (({ Kind := 1, Text := List.drop p2.toNat (List.take (IntKind.wrap .i64 (p2 + x7)).toNat p1), N := 0, At := p2 } : Token)))) :: []) ([]) (_ :: []) (_ :: []) rfl (List.Perm.refl _) ?_ ?_ ?_
   · simp -implicitDefEqProofs (disch := first | omega | rfl) only [go_sem, simprocAttr, subF_cons, subF_nil]
     exact ⟨(.lptr ..), (.keep _)⟩
   · exact (.cells (by rw [Token.cs_eq]; exact (.cons (.keep _) (.cons (.keep _) (.cons (.keep _) (.cons (.keep _) (.nil _)))))) .nil)
   refine awp_ret ?_
   repeat first | refine then_ret ?_ | refine blk_ret ?_
   exact rtp
 repeat refine awp_seq ?_
 refine awp_else (by simp -implicitDefEqProofs (disch := first | omega | rfl) only [go_sem, simprocAttr, hc6]) ?_
 repeat refine awp_seq ?_
 refine awp_skip ?_
 repeat refine awp_seq ?_
 refine awp_reg fun K Q hK hQ => ?_
 simp -implicitDefEqProofs (disch := first | omega | rfl) only [go_sem, simprocAttr, zr22_7]
 have hh := bnd_some h; clear h; obtain ⟨x12, hx13, h⟩ := hh
 refine call_pure hP (c34 N ((List.getD p1 p2.toNat 0).toNat : Int) x12 hx13) ?_
 simp -implicitDefEqProofs (disch := first | omega | rfl) only [go_sem, simprocAttr]
 refine hK _ _ ?_; clear hK hQ K Q
 rcases cnd_some h with ⟨hc14, h⟩ | ⟨hc14, h⟩
 · repeat refine awp_seq ?_
   refine awp_then (by simp -implicitDefEqProofs (disch := first | omega | rfl) only [go_sem, simprocAttr, hc14]) ?_
   repeat refine awp_seq ?_
   refine awp_reg fun K Q hK hQ => ?_
   simp -implicitDefEqProofs (disch := first | omega | rfl) only [go_sem, simprocAttr, zr22_8]
   have hh := bnd_some h; clear h; obtain ⟨x15, hx16, h⟩ := hh
   refine call_pure hP (c35 N p1 p2 x15 hx16) ?_
   simp -implicitDefEqProofs (disch := first | omega | rfl) only [go_sem, simprocAttr]
   refine hK _ _ ?_; clear hK hQ K Q
   repeat refine awp_seq ?_
   refine awp_reg fun K Q hK hQ => ?_
   rcases ite_some h with ⟨hc17, h⟩ | ⟨hc17, h⟩
   · simp -implicitDefEqProofs (disch := first | omega | rfl) only [go_sem, simprocAttr, zr22_9, eq_true hc17]
     refine hK _ _ ?_; clear hK hQ K Q
     repeat refine awp_seq ?_
     refine awp_then (by rfl) ?_
     repeat refine awp_seq ?_
     refine rg (h := ?_)
     obtain rfl := som_inj h
     repeat refine awp_seq ?_
     refine awp_le' (s' := [(4, .ptr 4 b1 0), (5, .int .i64 5)]) (own' := (4, b1, .cells (Token.cs ({ Kind := 0, Text := [], N := 0, At := 0 } : Token))) :: []) ([]) (_ :: []) (_ :: []) rfl (List.Perm.refl _) ?_ ?_ ?_
     · simp -implicitDefEqProofs (disch := first | omega | rfl) only [go_sem, simprocAttr, subF_cons, subF_nil]
       exact ⟨(.lptr ..), (.keep _)⟩
     · exact (.cells (by rw [Token.cs_eq]; exact (.cons (.keep _) (.cons (.keep _) (.cons (.keep _) (.cons (.keep _) (.nil _)))))) .nil)
     refine awp_ret ?_
     repeat first | refine then_ret ?_ | refine blk_ret ?_
     exact rtp
   rcases ite_some h with ⟨hc18, h⟩ | ⟨hc18, h⟩
   · obtain ⟨hg19, h⟩ := grd_some h
     simp -implicitDefEqProofs (disch := first | omega | rfl) only [go_sem, simprocAttr, zr22_9, eq_false hc17, eq_true hc18, eq_true hg19]
     have hh := bnd_some h; clear h; obtain ⟨x20, hx21, h⟩ := hh
     refine call_pure hP (c32 N (((List.getD p1 (IntKind.wrap .i64 (p2 + x15.1)).toNat 0).toNat : Int)) x20 hx21) ?_
     rcases cnd_some h with ⟨hc22, h⟩ | ⟨hc22, h⟩
     · simp -implicitDefEqProofs (disch := first | omega | rfl) only [go_sem, simprocAttr, hc22]
       refine hK _ _ ?_; clear hK hQ K Q
       repeat refine awp_seq ?_
       refine awp_then (by rfl) ?_
       repeat refine awp_seq ?_
       refine rg (h := ?_)
       obtain rfl := som_inj h
       repeat refine awp_seq ?_
       refine awp_le' (s' := [(4, .ptr 4 b1 0), (5, .int .i64 5)]) (own' := (4, b1, .cells (Token.cs ({ Kind := 0, Text := [], N := 0, At := 0 } : Token))) :: []) ([]) (_ :: []) (_ :: []) rfl (List.Perm.refl _) ?_ ?_ ?_
       · simp -implicitDefEqProofs (disch := first | omega | rfl) only [go_sem, simprocAttr, subF_cons, subF_nil]
         exact ⟨(.lptr ..), (.keep _)⟩
       · exact (.cells (by rw [Token.cs_eq]; exact (.cons (.keep _) (.cons (.keep _) (.cons (.keep _) (.cons (.keep _) (.nil _)))))) .nil)
       refine awp_ret ?_
       repeat first | refine then_ret ?_ | refine blk_ret ?_
       exact rtp
     simp -implicitDefEqProofs (disch := first | omega | rfl) only [go_sem, simprocAttr, hc22, eq_true hg19, eq_true hc18]
     refine hK _ _ ?_; clear hK hQ K Q
     rcases ite_some h with ⟨hc23, h⟩ | ⟨hc23, h⟩
     · repeat refine awp_seq ?_
       refine awp_then (by simp -implicitDefEqProofs (disch := first | omega | rfl) only [go_sem, simprocAttr, eq_true hc23]) ?_
       repeat refine awp_seq ?_
       refine rg (h := ?_)
       obtain rfl := som_inj h
       repeat refine awp_seq ?_
       refine awp_le' (s' := [(4, .ptr 4 b1 0), (5, .int .i64 5)]) (own' := (4, b1, .cells (Token.cs ({ Kind := 0, Text := [], N := 0, At := 0 } : Token))) :: []) ([]) (_ :: []) (_ :: []) rfl (List.Perm.refl _) ?_ ?_ ?_
       · simp -implicitDefEqProofs (disch := first | omega | rfl) only [go_sem, simprocAttr, subF_cons, subF_nil]
         exact ⟨(.lptr ..), (.keep _)⟩
       · exact (.cells (by rw [Token.cs_eq]; exact (.cons (.keep _) (.cons (.keep _) (.cons (.keep _) (.cons (.keep _) (.nil _)))))) .nil)
       refine awp_ret ?_
       repeat first | refine then_ret ?_ | refine blk_ret ?_
       exact rtp
     repeat refine awp_seq ?_
     refine awp_else (by simp -implicitDefEqProofs (disch := first | omega | rfl) only [go_sem, simprocAttr, eq_false hc23]) ?_
     repeat refine awp_seq ?_
     refine awp_skip ?_
     repeat refine awp_seq ?_
     obtain ⟨⟨hg24, hg25⟩, h⟩ := grd_some h
     refine rgf (And.intro (eq_true hg2) (And.intro (eq_true hg24) (eq_true hg25))) ?_
     obtain rfl := som_inj h
     repeat refine awp_seq ?_
     refine awp_le' (s' := [(4, .ptr 4 b1 0), (5, .int .i64 0)]) (own' := (4, b1, .cells (Token.cs (({ Kind := 2, Text := List.drop p2.toNat (List.take (IntKind.wrap .i64 (p2 + x15.1)).toNat p1), N := x15.2, At := p2 } : Token)))) :: []) ([]) (_ :: []) (_ :: []) rfl (List.Perm.refl _) ?_ ?_ ?_
     · simp -implicitDefEqProofs (disch := first | omega | rfl) only [go_sem, simprocAttr, subF_cons, subF_nil]
       exact ⟨(.lptr ..), (.keep _)⟩
     · exact (.cells (by rw [Token.cs_eq]; exact (.cons (.keep _) (.cons (.keep _) (.cons (.keep _) (.cons (.keep _) (.nil _)))))) .nil)
     refine awp_ret ?_
     repeat first | refine then_ret ?_ | refine blk_ret ?_
     exact rtp
   simp -implicitDefEqProofs (disch := first | omega | rfl) only [go_sem, simprocAttr, zr22_9, eq_false hc17, eq_false hc18]
   refine hK _ _ ?_; clear hK hQ K Q
   repeat refine awp_seq ?_
   refine awp_else (by rfl) ?_
   repeat refine awp_seq ?_
   refine awp_skip ?_
   repeat refine awp_seq ?_
   obtain ⟨⟨hg26, hg27⟩, h⟩ := grd_some h
   refine rgf (And.intro (eq_true hg2) (And.intro (eq_true hg26) (eq_true hg27))) ?_
   obtain rfl := som_inj h
   repeat refine awp_seq ?_
   refine awp_le' (s' := [(4, .ptr 4 b1 0), (5, .int .i64 0)]) (own' := (4, b1, .cells (Token.cs (({ Kind := 2, Text := List.drop p2.toNat (List.take (IntKind.wrap .i64 (p2 + x15.1)).toNat p1), N := x15.2, At := p2 } : Token)))) :: []) ([]) (_ :: []) (_ :: []) rfl (List.Perm.refl _) ?_ ?_ ?_
   · simp -implicitDefEqProofs (disch := first | omega | rfl) only [go_sem, simprocAttr, subF_cons, subF_nil]
     exact ⟨(.lptr ..), (.keep _)⟩
   · exact (.cells (by rw [Token.cs_eq]; exact (.cons (.keep _) (.cons (.keep _) (.cons (.keep _) (.cons (.keep _) (.nil _)))))) .nil)
   refine awp_ret ?_
   repeat first | refine then_ret ?_ | refine blk_ret ?_
   exact rtp
 repeat refine awp_seq ?_
 refine awp_else (by simp -implicitDefEqProofs (disch := first | omega | rfl) only [go_sem, simprocAttr, hc14]) ?_
 repeat refine awp_seq ?_
 refine awp_skip ?_
 repeat refine awp_seq ?_
 refine awp_reg fun K Q hK hQ => ?_
 simp -implicitDefEqProofs (disch := first | omega | rfl) only [go_sem, simprocAttr, zr22_12]
 have hh := bnd_some h; clear h; obtain ⟨x28, hx29, h⟩ := hh
 refine call_pure hP (c36 N ((List.getD p1 p2.toNat 0).toNat : Int) x28 hx29) ?_
 simp -implicitDefEqProofs (disch := first | omega | rfl) only [go_sem, simprocAttr]
 refine hK _ _ ?_; clear hK hQ K Q
 rcases cnd_some h with ⟨hc30, h⟩ | ⟨hc30, h⟩
 · repeat refine awp_seq ?_
   refine awp_then (by simp -implicitDefEqProofs (disch := first | omega | rfl) only [go_sem, simprocAttr, hc30]) ?_
   repeat refine awp_seq ?_
   obtain ⟨⟨hg31, hg32⟩, h⟩ := grd_some h
   refine rgf (And.intro (eq_true hg2) (And.intro (eq_true hg31) (eq_true hg32))) ?_
   obtain rfl := som_inj h
   repeat refine awp_seq ?_
   refine awp_le' (s' := [(4, .ptr 4 b1 0), (5, .int .i64 0)]) (own' := (4, b1, .cells (Token.cs (({ Kind := 3, Text := List.drop p2.toNat (List.take (IntKind.wrap .i64 (p2 + 1)).toNat p1), N := 0, At := p2 } : Token)))) :: []) ([]) (_ :: []) (_ :: []) rfl (List.Perm.refl _) ?_ ?_ ?_
   · simp -implicitDefEqProofs (disch := first | omega | rfl) only [go_sem, simprocAttr, subF_cons, subF_nil]
     exact ⟨(.lptr ..), (.keep _)⟩
   · exact (.cells (by rw [Token.cs_eq]; exact (.cons (.keep _) (.cons (.keep _) (.cons (.keep _) (.cons (.keep _) (.nil _)))))) .nil)
   refine awp_ret ?_
   repeat first | refine then_ret ?_ | refine blk_ret ?_
   exact rtp
 repeat refine awp_seq ?_
 refine awp_else (by simp -implicitDefEqProofs (disch := first | omega | rfl) only [go_sem, simprocAttr, hc30]) ?_
 repeat refine awp_seq ?_
 refine awp_skip ?_
 repeat refine awp_seq ?_
 refine rg (h := ?_)
 obtain rfl := som_inj h
 repeat refine awp_seq ?_
 refine awp_le' (s' := [(4, .ptr 4 b1 0), (5, .int .i64 4)]) (own' := (4, b1, .cells (Token.cs ({ Kind := 0, Text := [], N := 0, At := 0 } : Token))) :: []) ([]) (_ :: []) (_ :: []) rfl (List.Perm.refl _) ?_ ?_ ?_
 · simp -implicitDefEqProofs (disch := first | omega | rfl) only [go_sem, simprocAttr, subF_cons, subF_nil]
   exact ⟨(.lptr ..), (.keep _)⟩
 · exact (.cells (by rw [Token.cs_eq]; exact (.cons (.keep _) (.cons (.keep _) (.cons (.keep _) (.cons (.keep _) (.nil _)))))) .nil)
 refine awp_ret ?_
 repeat first | refine then_ret ?_ | refine blk_ret ?_
 exact rtp
def zr12_0 : List AO := [⟨some 2, none, .mov (.c (.nil))⟩,
  ⟨some 3, none, .mov (.c (.int .i64 0))⟩,
  ⟨some 4, none, .mov (.c (.int .i64 0))⟩]
def zr12_1 : List AO := [⟨some 9, none, .mov (.t 0)⟩,
  ⟨some 10, none, .lenS (.t 9)⟩,
  ⟨some 11, none, .bin .gtr (.t 10) (.c (.int .i64 20000))⟩]
def zr12_2 : List AO := [⟨some 2, none, .mov (.c (.nil))⟩,
  ⟨some 3, none, .mov (.c (.int .i64 3))⟩,
  ⟨some 4, none, .mov (.c (.int .i64 (-1)))⟩]
def zc12_0 : AC := .seq (.reg zr12_2) .ret
def zc12_1 : AC := .cond (.t 11) zc12_0 .skip
def zr12_3 : List AO := [⟨some 5, none, .mov (.c (.nil))⟩]
def zr12_4 : List AO := [⟨some 12, none, .mov (.t 0)⟩,
  ⟨some 13, none, .callF 21 [(.t 12), (.c (.int .i64 0))]⟩,
  ⟨some 6, none, .mov (.t 13)⟩]
def zr12_5 : List AO := [⟨some 14, none, .mov (.t 6)⟩,
  ⟨some 15, none, .mov (.t 0)⟩,
  ⟨some 16, none, .lenS (.t 15)⟩,
  ⟨some 17, none, .bin .lss (.t 14) (.t 16)⟩]
def zc12_2 : AC := .cond (.t 17) .skip (.exit 0)
def zr12_6 : List AO := [⟨some 19, none, .mov (.t 0)⟩,
  ⟨some 20, none, .mov (.t 6)⟩,
  ⟨some 21, none, .callF 22 [(.t 19), (.t 20)]⟩,
  ⟨some 18, none, .mov (.t 21)⟩,
  ⟨some 22, none, .ext 0 (.t 18)⟩,
  ⟨some 23, none, .ext 1 (.t 18)⟩,
  ⟨some 7, none, .alloc [.int .i64 0, .str [], .int .i64 0, .int .i64 0]⟩,
  ⟨none, none, .store 4 (.t 7) (.t 22)⟩,
  ⟨some 8, none, .mov (.t 23)⟩]
def zr12_7 : List AO := [⟨some 24, none, .mov (.t 8)⟩,
  ⟨some 25, none, .bin .neq (.t 24) (.c (.int .i64 0))⟩]
def zr12_8 : List AO := [⟨some 26, none, .mov (.t 8)⟩,
  ⟨some 27, none, .mov (.t 6)⟩,
  ⟨some 2, none, .mov (.c (.nil))⟩,
  ⟨some 3, none, .mov (.t 26)⟩,
  ⟨some 4, none, .mov (.t 27)⟩]
def zc12_3 : AC := .seq (.reg zr12_8) .ret
def zc12_4 : AC := .cond (.t 25) zc12_3 .skip
def zr12_9 : List AO := [⟨some 28, none, .mov (.t 5)⟩,
  ⟨some 29, none, .len (.t 28)⟩,
  ⟨some 30, none, .bin .eql (.t 29) (.c (.int .i64 5000))⟩]
def zr12_10 : List AO := [⟨some 31, none, .mov (.t 6)⟩,
  ⟨some 2, none, .mov (.c (.nil))⟩,
  ⟨some 3, none, .mov (.c (.int .i64 3))⟩,
  ⟨some 4, none, .mov (.t 31)⟩]
def zc12_5 : AC := .seq (.reg zr12_10) .ret
def zc12_6 : AC := .cond (.t 30) zc12_5 .skip
def zr12_11 : List AO := [⟨some 32, none, .mov (.t 5)⟩,
  ⟨some 33, none, .load true 4 (.t 7)⟩,
  ⟨some 34, none, .mkrow 4 1 [.int .i64 0, .str [], .int .i64 0, .int .i64 0] [(0, 4, (.t 33))]⟩,
  ⟨some 35, none, .app 4 40 (.t 32) (.t 34)⟩,
  ⟨some 5, none, .mov (.t 35)⟩]
def zr12_12 : List AO := [⟨some 36, none, .mov (.t 6)⟩,
  ⟨some 37, none, .fadr 1 (.t 7)⟩,
  ⟨some 38, none, .load false 1 (.t 37)⟩,
  ⟨some 39, none, .lenS (.t 38)⟩,
  ⟨some 40, none, .bin .add (.t 36) (.t 39)⟩,
  ⟨some 6, none, .mov (.t 40)⟩]
def zr12_13 : List AO := [⟨some 41, none, .mov (.t 6)⟩,
  ⟨some 42, none, .mov (.t 0)⟩,
  ⟨some 43, none, .mov (.t 6)⟩,
  ⟨some 44, none, .callF 21 [(.t 42), (.t 43)]⟩,
  ⟨some 45, none, .bin .add (.t 41) (.t 44)⟩,
  ⟨some 6, none, .mov (.t 45)⟩]
def zc12_7 : AC := .reg zr12_13
def zc12_8 : AC := .seq (.reg zr12_12) zc12_7
def zc12_9 : AC := .seq (.reg zr12_11) zc12_8
def zc12_10 : AC := .seq (.seq (.reg zr12_9) zc12_6) zc12_9
def zc12_11 : AC := .seq (.seq (.reg zr12_7) zc12_4) zc12_10
def zc12_12 : AC := .seq (.reg zr12_6) zc12_11
def zc12_13 : AC := .block 1 zc12_12
def zc12_14 : AC := .seq (.seq (.reg zr12_5) zc12_2) zc12_13
def zc12_15 : AC := .loop zc12_14
def zr12_14 : List AO := [⟨some 46, none, .mov (.t 5)⟩,
  ⟨some 2, none, .mov (.t 46)⟩,
  ⟨some 3, none, .mov (.c (.int .i64 0))⟩,
  ⟨some 4, none, .mov (.c (.int .i64 0))⟩]
def zc12_16 : AC := .seq (.reg zr12_14) .ret
def zc12_17 : AC := .seq (.block 0 zc12_15) zc12_16
def zc12_18 : AC := .seq (.reg zr12_4) zc12_17
def zc12_19 : AC := .seq (.reg zr12_3) zc12_18
def zc12_20 : AC := .seq (.seq (.reg zr12_1) zc12_1) zc12_19
def zc12_21 : AC := .seq (.reg zr12_0) zc12_20
def zc12 : AC := zc12_21
theorem ok12 : Tryd.f12.body.bind (compCode Tryd.prog 47) = some zc12 := by kernel_rfl
theorem nt12 : Tryd.f12.ntmps = 47 := by kernel_rfl
theorem res12 : compRes Tryd.prog Tryd.f12.results.toList = some [.tmp 2, .tmp 3, .tmp 4] := by kernel_rfl
attribute [go_sem] zr12_0 zr12_1 zr12_10 zr12_12 zr12_14 zr12_2 zr12_3 zr12_5 zr12_7 zr12_8 zr12_9
def s12_b1 (N : Nat) (p1 : List UInt8) (l4 : List Token) (x7 : Int) : Option ((((List Token) × Int) ⊕ (Ou ((List Token)) ((List Token) × Int × Int)))) :=
  if x7 < (List.length p1 : Int) then
    (s22 N p1 x7).bind fun x13 =>
    if x13.2 = 0 then
      if (List.length l4 : Int) = 5000 then
        some (.inr (.ret ([], 3, x7)))
      else
        grd ((List.length l4 + 1) * 40 ≤ 140737488355328 ∧ List.length l4 + 1 ≤ 140737488355328) <|
        (s21 N p1 (IntKind.wrap .i64 (x7 + (List.length x13.1.Text : Int)))).bind fun x23 =>
        some (.inl (l4 ++ [x13.1], IntKind.wrap .i64 ((IntKind.wrap .i64 (x7 + (List.length x13.1.Text : Int))) + x23)))
    else
      some (.inr (.ret ([], x13.2, x7)))
  else
    some (.inr (.brk l4))
def s12 (N : Nat) (p1 : List UInt8) : Option ((List Token) × Int × Int) :=
  if 20000 < (List.length p1 : Int) then
    some ([], 3, (-1))
  else
    (s21 N p1 0).bind fun x2 =>
    (iter (fun p => s12_b1 N p1 p.1 p.2) N ([], x2)).bind fun o8 => o8.on (fun a8 =>
      some (a8, 0, 0))
      (fun a8r => some a8r)
set_option maxHeartbeats 4000000 in
theorem c12 (N : Nat) (p1 : List UInt8) (r : (List Token) × Int × Int) (h : s12 N p1 = some r) : PureC Tryd.prog 12 [.str p1] (.tup [.sl (List.map Token.av r.1), .int .i64 r.2.1, .int .i64 r.2.2]) := by
 refine fn_intro' 47 Tryd.func12 nt12 ok12 res12 (by simp) fun X hP hn hd hr => ?_
 unfold s12 at h
 repeat refine awp_seq ?_
 refine rg (h := ?_)
 repeat refine awp_seq ?_
 refine rg (h := ?_)
 rcases ite_some h with ⟨hc1, h⟩ | ⟨hc1, h⟩
 · repeat refine awp_seq ?_
   refine awp_then (by simp -implicitDefEqProofs (disch := first | omega | rfl) only [go_sem, simprocAttr, eq_true hc1]) ?_
   repeat refine awp_seq ?_
   refine rg (h := ?_)
   obtain rfl := som_inj h
   repeat refine awp_seq ?_
   refine awp_le' (s' := [(2, .sl (List.map Token.av [])), (3, .int .i64 3), (4, .int .i64 (-1))]) (own' := []) ([]) ([]) ([]) rfl (List.Perm.refl _) ?_ ?_ ?_
   · simp -implicitDefEqProofs (disch := first | omega | rfl) only [go_sem, simprocAttr, subF_cons, subF_nil]
     exact ⟨.nil, (.keep _), (.keep _)⟩
   · exact .nil
   refine awp_ret ?_
   repeat first | refine then_ret ?_ | refine blk_ret ?_
   exact rtp
 repeat refine awp_seq ?_
 refine awp_else (by simp -implicitDefEqProofs (disch := first | omega | rfl) only [go_sem, simprocAttr, eq_false hc1]) ?_
 repeat refine awp_seq ?_
 refine awp_skip ?_
 repeat refine awp_seq ?_
 refine rg (h := ?_)
 repeat refine awp_seq ?_
 refine awp_reg fun K Q hK hQ => ?_
 simp -implicitDefEqProofs (disch := first | omega | rfl) only [go_sem, simprocAttr, zr12_4]
 have hh := bnd_some h; clear h; obtain ⟨x2, hx3, h⟩ := hh
 refine call_pure hP (c21 N p1 0 x2 hx3) ?_
 simp -implicitDefEqProofs (disch := first | omega | rfl) only [go_sem, simprocAttr]
 refine hK _ _ ?_; clear hK hQ K Q
 repeat refine awp_seq ?_
 refine awp_block ?_
 obtain ⟨o8, ho8, hO8⟩ := bnd_some h
 repeat refine awp_seq ?_
 refine awp_loop (ι := {p : Nat × (List Token) × (Option Nat) × Int // iter (fun p => s12_b1 N p1 p.1 p.2) p.1 (p.2.1, p.2.2.2) = some o8 ∧ (p.2.2.1 = none → p.2.1 = [])}) (fun p => [(0, .str p1), (5, accV 501 p.1.2.2.1 (List.length p.1.2.1) 4), (6, .int .i64 p.1.2.2.2)]) (fun p => accO 501 p.1.2.2.1 (flt Token.av p.1.2.1) []) (fun p => p.1.1) ⟨⟨N, [], none, x2⟩, ho8, (fun _ => rfl)⟩ ?_ ?_
 · refine ent_le' ([]) ([]) ([]) rfl (List.Perm.refl _) ?_ ?_
   · simp -implicitDefEqProofs (disch := first | omega | rfl) only [go_sem, simprocAttr, subF_cons, subF_nil]
     exact ⟨(.keep _), (.keep _), (.keep _)⟩
   · exact .nil
 rintro ⟨⟨n8, l4, bo5, x7⟩, hi8, hb6⟩
 obtain ⟨m8, q8, rfl, h, hm8⟩ := iter_some hi8
 try dsimp only at h
 try dsimp only
 unfold s12_b1 at h
 repeat refine awp_seq ?_
 refine rg (h := ?_)
 rcases ite_some h with ⟨hc12, h⟩ | ⟨hc12, h⟩
 · repeat refine awp_seq ?_
   refine awp_then (by simp -implicitDefEqProofs (disch := first | omega | rfl) only [go_sem, simprocAttr, eq_true hc12]) ?_
   repeat refine awp_seq ?_
   refine awp_skip ?_
   repeat refine awp_seq ?_
   refine awp_block ?_
   repeat refine awp_seq ?_
   refine awp_reg fun K Q hK hQ => ?_
   simp -implicitDefEqProofs (disch := first | omega | rfl) only [go_sem, simprocAttr, zr12_6]
   have hh := bnd_some h; clear h; obtain ⟨x13, hx14, h⟩ := hh
   refine call_pure hP (c22 N p1 x7 x13 hx14) ?_
   simp -implicitDefEqProofs (disch := first | omega | rfl) only [go_sem, simprocAttr]
   intro b15
   refine hK _ _ ?_; clear hK hQ K Q
   repeat refine awp_seq ?_
   refine rg (h := ?_)
   rcases ite_some h with ⟨hc16, h⟩ | ⟨hc16, h⟩
   · repeat refine awp_seq ?_
     refine awp_else (by simp -implicitDefEqProofs (disch := first | omega | rfl) only [go_sem, simprocAttr, eq_true hc16]) ?_
     repeat refine awp_seq ?_
     refine awp_skip ?_
     repeat refine awp_seq ?_
     refine rg (by intro K Q; simp -implicitDefEqProofs (disch := first | omega | rfl) only [go_sem, simprocAttr, lenA_acc (acc_len hb6)] <;> rfl) ?_
     rcases ite_some h with ⟨hc17, h⟩ | ⟨hc17, h⟩
     · repeat refine awp_seq ?_
       refine awp_then (by simp -implicitDefEqProofs (disch := first | omega | rfl) only [go_sem, simprocAttr, eq_true hc17]) ?_
       repeat refine awp_seq ?_
       refine rg (h := ?_)
       obtain rfl := som_inj h
       try dsimp only at hm8
       subst hm8
       simp only [Ou.on_ret] at hO8
       obtain rfl := som_inj hO8
       repeat refine awp_seq ?_
       refine awp_le' (s' := [(2, .sl (List.map Token.av [])), (3, .int .i64 3), (4, .int .i64 x7)]) (own' := []) ([]) (_ :: accO _ _ _ []) (_ :: accO _ _ _ []) rfl (List.Perm.refl _) ?_ ?_ ?_
       · simp -implicitDefEqProofs (disch := first | omega | rfl) only [go_sem, simprocAttr, subF_cons, subF_nil]
         exact ⟨.nil, (.keep _), (.keep _)⟩
       · exact (.drop (.accDrop .nil))
       refine awp_ret ?_
       repeat first | refine then_ret ?_ | refine blk_ret ?_
       exact rtp
     repeat refine awp_seq ?_
     refine awp_else (by simp -implicitDefEqProofs (disch := first | omega | rfl) only [go_sem, simprocAttr, eq_false hc17]) ?_
     repeat refine awp_seq ?_
     refine awp_skip ?_
     repeat refine awp_seq ?_
     refine awp_reg fun K Q hK hQ => ?_
     obtain ⟨⟨hg19, hg20⟩, h⟩ := grd_some h
     simp -implicitDefEqProofs (disch := first | omega | rfl) only [go_sem, simprocAttr, zr12_11, eq_true hg19, eq_true hg20]
     intro b18
     refine app_acc (f := Token.av) (l := l4) ((34, b18, .cells (Token.cs x13.1)) :: (7, b15, .cells (Token.cs x13.1)) :: []) hb6 (by first | rfl | simp) (fun _ => Token.avl) (by intro b hb; subst hb; simp -implicitDefEqProofs (disch := first | omega | rfl) only [go_sem, simprocAttr]) (by intro b hb; subst hb; simp -implicitDefEqProofs (disch := first | omega | rfl) only [go_sem, simprocAttr]) (by intro hb; subst hb; simp -implicitDefEqProofs (disch := first | omega | rfl) only [go_sem, simprocAttr]) ?_
     simp -implicitDefEqProofs (disch := first | omega | rfl) only [go_sem, simprocAttr, eq_true hg19, eq_true hg20]
     intro bo21 hb22
     try simp -implicitDefEqProofs (disch := first | omega | rfl) only [go_sem, simprocAttr]
     refine hK _ _ ?_; clear hK hQ K Q
     repeat refine awp_seq ?_
     refine rg (h := ?_)
     repeat refine awp_seq ?_
     refine awp_reg fun K Q hK hQ => ?_
     simp -implicitDefEqProofs (disch := first | omega | rfl) only [go_sem, simprocAttr, zr12_13]
     have hh := bnd_some h; clear h; obtain ⟨x23, hx24, h⟩ := hh
     refine call_pure hP (c21 N p1 (IntKind.wrap .i64 (x7 + (List.length x13.1.Text : Int))) x23 hx24) ?_
     simp -implicitDefEqProofs (disch := first | omega | rfl) only [go_sem, simprocAttr]
     refine hK _ _ ?_; clear hK hQ K Q
     obtain rfl := som_inj h
     try dsimp only at hm8
     refine ⟨⟨⟨m8, l4 ++ [x13.1], bo21, IntKind.wrap .i64 ((IntKind.wrap .i64 (x7 + (List.length x13.1.Text : Int))) + x23)⟩, hm8, (fun h => List.length_eq_zero_iff.1 (by simpa using hb22 h))⟩, Nat.lt_succ_self _, ?_⟩
     refine ent_le' ([]) (accO _ _ _ (_ :: _ :: [])) (accO _ _ _ (_ :: _ :: [])) rfl (List.Perm.refl _) ?_ ?_
     · simp -implicitDefEqProofs (disch := first | omega | rfl) only [go_sem, simprocAttr, subF_cons, subF_nil]
       exact ⟨(.keep _), (frz_lacc (by first | rfl | (simp; done) | ((try simp only [List.length_set, List.length_take]); omega))), (.keep _)⟩
     · exact (.acc (FrzP.of_eq (by first | rfl | simp only [flt_app, flt_one, List.append_assoc])) (.drop (.drop .nil)))
   repeat refine awp_seq ?_
   refine awp_then (by simp -implicitDefEqProofs (disch := first | omega | rfl) only [go_sem, simprocAttr, eq_false hc16]) ?_
   repeat refine awp_seq ?_
   refine rg (h := ?_)
   obtain rfl := som_inj h
   try dsimp only at hm8
   subst hm8
   simp only [Ou.on_ret] at hO8
   obtain rfl := som_inj hO8
   repeat refine awp_seq ?_
   refine awp_le' (s' := [(2, .sl (List.map Token.av [])), (3, .int .i64 x13.2), (4, .int .i64 x7)]) (own' := []) ([]) (_ :: accO _ _ _ []) (_ :: accO _ _ _ []) rfl (List.Perm.refl _) ?_ ?_ ?_
   · simp -implicitDefEqProofs (disch := first | omega | rfl) only [go_sem, simprocAttr, subF_cons, subF_nil]
     exact ⟨.nil, (.keep _), (.keep _)⟩
   · exact (.drop (.accDrop .nil))
   refine awp_ret ?_
   repeat first | refine then_ret ?_ | refine blk_ret ?_
   exact rtp
 repeat refine awp_seq ?_
 refine awp_else (by simp -implicitDefEqProofs (disch := first | omega | rfl) only [go_sem, simprocAttr, eq_false hc12]) ?_
 repeat refine awp_seq ?_
 refine awp_exit ?_
 repeat' (first | refine then_exit ?_ | refine exit_here ?_ | refine exit_on rfl ?_)
 obtain rfl := som_inj h
 try dsimp only at hm8
 subst hm8
 simp only [Ou.on_brk] at hO8
 repeat refine awp_seq ?_
 refine rg (h := ?_)
 obtain rfl := som_inj hO8
 repeat refine awp_seq ?_
 refine awp_le' (s' := [(2, .sl (List.map Token.av l4)), (3, .int .i64 0), (4, .int .i64 0)]) (own' := []) (accO _ _ _ []) ([]) (accO _ _ _ []) (by first | rfl | (simp only [accO_app, List.cons_append, List.nil_append]; rfl) | simp only [accO_app, List.cons_append, List.nil_append]) (List.Perm.refl _) ?_ ?_ ?_
 · simp -implicitDefEqProofs (disch := first | omega | rfl) only [go_sem, simprocAttr, subF_cons, subF_nil]
   exact ⟨(frz_acc (fun _ => Token.avl) hb6 (by intro b hb; subst hb; simp -implicitDefEqProofs (disch := first | omega | rfl) only [go_sem, simprocAttr]) (by first | rfl | (simp; done) | ((try simp only [List.length_set, List.length_take]); omega))), (.keep _), (.keep _)⟩
 · exact .nil
 refine awp_ret ?_
 repeat first | refine then_ret ?_ | refine blk_ret ?_
 exact rtp
def zr13_0 : List AO := [⟨some 6, none, .mov (.c (.bool false))⟩]
def zr13_1 : List AO := [⟨some 8, none, .mov (.t 0)⟩,
  ⟨some 9, none, .len (.t 8)⟩,
  ⟨some 10, none, .mov (.t 2)⟩,
  ⟨some 11, none, .len (.t 10)⟩,
  ⟨some 12, none, .bin .neq (.t 9) (.t 11)⟩]
def zr13_2 : List AO := [⟨some 6, none, .mov (.c (.bool false))⟩]
def zc13_0 : AC := .seq (.reg zr13_2) .ret
def zc13_1 : AC := .cond (.t 12) zc13_0 .skip
def zr13_3 : List AO := [⟨some 7, none, .mov (.c (.int .i64 0))⟩]
def zr13_4 : List AO := [⟨some 13, none, .mov (.t 7)⟩,
  ⟨some 14, none, .mov (.t 0)⟩,
  ⟨some 15, none, .len (.t 14)⟩,
  ⟨some 16, none, .bin .lss (.t 13) (.t 15)⟩]
def zc13_2 : AC := .cond (.t 16) .skip (.exit 0)
def zr13_5 : DT := (.pur ⟨some 19, none, .mov (.t 0)⟩ (.pur ⟨some 20, none, .mov (.t 7)⟩ (.pur ⟨some 21, none, .iadr 4 (.t 19) (.t 20)⟩ (.pur ⟨some 22, none, .fadr 0 (.t 21)⟩ (.pur ⟨some 23, none, .load false 1 (.t 22)⟩ (.pur ⟨some 24, none, .mov (.t 2)⟩ (.alt false ⟨some 25, none, .mov (.t 7)⟩ (.alt false ⟨some 26, none, .iadr 4 (.t 24) (.t 25)⟩ (.alt false ⟨some 27, none, .fadr 0 (.t 26)⟩ (.alt false ⟨some 28, none, .load false 1 (.t 27)⟩ (.alt false ⟨some 29, none, .bin .neq (.t 23) (.t 28)⟩ (.alt false ⟨some 30, none, .mov (.t 29)⟩ (.pur ⟨some 31, some (30, false), .mov (.t 0)⟩ (.pur ⟨some 32, some (30, false), .mov (.t 7)⟩ (.pur ⟨some 33, some (30, false), .iadr 4 (.t 31) (.t 32)⟩ (.pur ⟨some 34, some (30, false), .fadr 1 (.t 33)⟩ (.pur ⟨some 35, some (30, false), .load false 1 (.t 34)⟩ (.pur ⟨some 36, some (30, false), .mov (.t 2)⟩ (.alt false ⟨some 37, some (30, false), .mov (.t 7)⟩ (.alt false ⟨some 38, some (30, false), .iadr 4 (.t 36) (.t 37)⟩ (.alt false ⟨some 39, some (30, false), .fadr 1 (.t 38)⟩ (.alt false ⟨some 40, some (30, false), .load false 1 (.t 39)⟩ (.alt false ⟨some 41, some (30, false), .bin .neq (.t 35) (.t 40)⟩ (.alt false ⟨some 42, none, .pick (.t 30) (.c (.bool true)) (.t 41)⟩ (.alt false ⟨some 43, none, .mov (.t 42)⟩ (.pur ⟨some 44, some (43, false), .mov (.t 0)⟩ (.pur ⟨some 45, some (43, false), .mov (.t 7)⟩ (.pur ⟨some 46, some (43, false), .iadr 4 (.t 44) (.t 45)⟩ (.pur ⟨some 47, some (43, false), .fadr 2 (.t 46)⟩ (.pur ⟨some 48, some (43, false), .load false 1 (.t 47)⟩ (.pur ⟨some 49, some (43, false), .mov (.t 2)⟩ (.alt false ⟨some 50, some (43, false), .mov (.t 7)⟩ (.alt false ⟨some 51, some (43, false), .iadr 4 (.t 49) (.t 50)⟩ (.alt false ⟨some 52, some (43, false), .fadr 2 (.t 51)⟩ (.alt false ⟨some 53, some (43, false), .load false 1 (.t 52)⟩ (.alt false ⟨some 54, some (43, false), .bin .neq (.t 48) (.t 53)⟩ (.alt false ⟨some 55, none, .pick (.t 43) (.c (.bool true)) (.t 54)⟩ (.alt false ⟨some 56, none, .mov (.t 55)⟩ (.pur ⟨some 57, some (56, false), .mov (.t 0)⟩ (.pur ⟨some 58, some (56, false), .mov (.t 7)⟩ (.pur ⟨some 59, some (56, false), .iadr 4 (.t 57) (.t 58)⟩ (.pur ⟨some 60, some (56, false), .fadr 3 (.t 59)⟩ (.pur ⟨some 61, some (56, false), .load false 1 (.t 60)⟩ (.pur ⟨some 62, some (56, false), .mov (.t 1)⟩ (.pur ⟨some 63, some (56, false), .bin .add (.t 61) (.t 62)⟩ (.pur ⟨some 64, some (56, false), .mov (.t 2)⟩ (.alt false ⟨some 65, some (56, false), .mov (.t 7)⟩ (.alt false ⟨some 66, some (56, false), .iadr 4 (.t 64) (.t 65)⟩ (.alt false ⟨some 67, some (56, false), .fadr 3 (.t 66)⟩ (.alt false ⟨some 68, some (56, false), .load false 1 (.t 67)⟩ (.alt false ⟨some 69, some (56, false), .bin .neq (.t 63) (.t 68)⟩ (.alt true ⟨some 70, none, .pick (.t 56) (.c (.bool true)) (.t 69)⟩ .done .stop) .stop) .stop) .stop) .stop) .stop))))))))) .stop) .stop) .stop) .stop) .stop) .stop) .stop))))))) .stop) .stop) .stop) .stop) .stop) .stop) .stop))))))) .stop) .stop) .stop) .stop) .stop) .stop)))))))
def zr13_6 : List AO := [⟨some 6, none, .mov (.c (.bool false))⟩]
def zc13_3 : AC := .seq (.reg zr13_6) .ret
def zc13_4 : AC := .cond (.t 70) zc13_3 .skip
def zc13_5 : AC := .seq (.regD zr13_5) zc13_4
def zr13_7 : List AO := [⟨some 17, none, .mov (.t 7)⟩,
  ⟨some 18, none, .bin .add (.t 17) (.c (.int .i64 1))⟩,
  ⟨some 7, none, .mov (.t 18)⟩]
def zc13_6 : AC := .reg zr13_7
def zc13_7 : AC := .seq (.block 1 zc13_5) zc13_6
def zc13_8 : AC := .seq (.seq (.reg zr13_4) zc13_2) zc13_7
def zc13_9 : AC := .loop zc13_8
def zc13_10 : AC := .block 0 zc13_9
def zr13_8 : List AO := [⟨some 6, none, .mov (.c (.bool true))⟩]
def zc13_11 : AC := .seq (.reg zr13_8) .ret
def zc13_12 : AC := .seq (.seq (.reg zr13_3) zc13_10) zc13_11
def zc13_13 : AC := .seq (.seq (.reg zr13_1) zc13_1) zc13_12
def zc13_14 : AC := .seq (.reg zr13_0) zc13_13
def zc13 : AC := zc13_14
theorem ok13 : Tryd.f13.body.bind (compCode Tryd.prog 71) = some zc13 := by kernel_rfl
theorem nt13 : Tryd.f13.ntmps = 71 := by kernel_rfl
theorem res13 : compRes Tryd.prog Tryd.f13.results.toList = some [.tmp 6] := by kernel_rfl
attribute [go_sem] zr13_0 zr13_1 zr13_2 zr13_3 zr13_4 zr13_6 zr13_7 zr13_8
def s13_b1 (N : Nat) (p1 : List Token) (p2 : Int) (p3 : List Token) (x2 : Int) : Option (((Int) ⊕ (Ou (Unit) (Bool)))) :=
  if x2 < (List.length p1 : Int) then
    grd (0 ≤ x2) <|
    grd (x2 < (List.length p3 : Int)) <|
    if (p1[x2.toNat]!).Kind = (p3[x2.toNat]!).Kind then
      if (p1[x2.toNat]!).Text = (p3[x2.toNat]!).Text then
        if (p1[x2.toNat]!).N = (p3[x2.toNat]!).N then
          if IntKind.wrap .i64 (((p1[x2.toNat]!).At) + p2) = (p3[x2.toNat]!).At then
            some (.inl (IntKind.wrap .i64 (x2 + 1)))
          else
            some (.inr (.ret false))
        else
          some (.inr (.ret false))
      else
        some (.inr (.ret false))
    else
      some (.inr (.ret false))
  else
    some (.inr (.brk ()))
def s13 (N : Nat) (p1 : List Token) (p2 : Int) (p3 : List Token) : Option Bool :=
  if (List.length p1 : Int) = (List.length p3 : Int) then
    (iter (fun p => s13_b1 N p1 p2 p3 p) N 0).bind fun o3 => o3.on (fun a3 =>
      some true)
      (fun a3r => some a3r)
  else
    some false
set_option maxHeartbeats 4000000 in
theorem c13 (N : Nat) (p1 : List Token) (p2 : Int) (p3 : List Token) (r : Bool) (h : s13 N p1 p2 p3 = some r) : PureC Tryd.prog 13 [.sl (List.map Token.av p1), .int .i64 p2, .sl (List.map Token.av p3)] (.bool r) := by
 refine fn_intro' 71 Tryd.func13 nt13 ok13 res13 (by simp) fun X hP hn hd hr => ?_
 unfold s13 at h
 repeat refine awp_seq ?_
 refine rg (h := ?_)
 repeat refine awp_seq ?_
 refine rg (h := ?_)
 rcases ite_some h with ⟨hc1, h⟩ | ⟨hc1, h⟩
 · repeat refine awp_seq ?_
   refine awp_else (by simp -implicitDefEqProofs (disch := first | omega | rfl) only [go_sem, simprocAttr, eq_true hc1]) ?_
   repeat refine awp_seq ?_
   refine awp_skip ?_
   repeat refine awp_seq ?_
   refine rg (h := ?_)
   repeat refine awp_seq ?_
   refine awp_block ?_
   obtain ⟨o3, ho3, hO3⟩ := bnd_some h
   repeat refine awp_seq ?_
   refine awp_loop (ι := {p : Nat × Int // iter (fun p => s13_b1 N p1 p2 p3 p) p.1 p.2 = some o3}) (fun p => [(0, .sl (List.map Token.av p1)), (1, .int .i64 p2), (2, .sl (List.map Token.av p3)), (7, .int .i64 p.1.2)]) (fun p => []) (fun p => p.1.1) ⟨⟨N, 0⟩, ho3⟩ ?_ ?_
   · refine ent_le' ([]) ([]) ([]) rfl (List.Perm.refl _) ?_ ?_
     · simp -implicitDefEqProofs (disch := first | omega | rfl) only [go_sem, simprocAttr, subF_cons, subF_nil]
       exact ⟨(.keep _), (.keep _), (.keep _), (.keep _)⟩
     · exact .nil
   rintro ⟨⟨n3, x2⟩, hi3⟩
   obtain ⟨m3, q3, rfl, h, hm3⟩ := iter_some hi3
   try dsimp only at h
   try dsimp only
   unfold s13_b1 at h
   repeat refine awp_seq ?_
   refine rg (h := ?_)
   rcases ite_some h with ⟨hc4, h⟩ | ⟨hc4, h⟩
   · repeat refine awp_seq ?_
     refine awp_then (by simp -implicitDefEqProofs (disch := first | omega | rfl) only [go_sem, simprocAttr, eq_true hc4]) ?_
     repeat refine awp_seq ?_
     refine awp_skip ?_
     repeat refine awp_seq ?_
     refine awp_block ?_
     repeat refine awp_seq ?_
     refine awp_regD' ([]) ([]) ([]) (by rw [hP]; exact mixed) rfl (List.Perm.refl _) fun K hK => ?_
     obtain ⟨hg5, h⟩ := grd_some h
     obtain ⟨hg6, h⟩ := grd_some h
     rcases ite_some h with ⟨hc7, h⟩ | ⟨hc7, h⟩
     · rcases ite_some h with ⟨hc8, h⟩ | ⟨hc8, h⟩
       · rcases ite_some h with ⟨hc9, h⟩ | ⟨hc9, h⟩
         · simp -implicitDefEqProofs (disch := first | omega | rfl) only [go_sem, simprocAttr, zr13_5, eq_true hc4, eq_true hg5, eq_true hg6, eq_true hc7, eq_true hc8, eq_true hc9]
           refine hK _ _ ?_; clear hK K
           rcases ite_some h with ⟨hc10, h⟩ | ⟨hc10, h⟩
           · repeat refine awp_seq ?_
             refine awp_else (by simp -implicitDefEqProofs (disch := first | omega | rfl) only [go_sem, simprocAttr, eq_true hc10]) ?_
             repeat refine awp_seq ?_
             refine awp_skip ?_
             repeat refine awp_seq ?_
             refine rg (h := ?_)
             obtain rfl := som_inj h
             try dsimp only at hm3
             refine ⟨⟨⟨m3, IntKind.wrap .i64 (x2 + 1)⟩, hm3⟩, Nat.lt_succ_self _, ?_⟩
             refine ent_le' ([]) ([]) ([]) rfl (List.Perm.refl _) ?_ ?_
             · simp -implicitDefEqProofs (disch := first | omega | rfl) only [go_sem, simprocAttr, subF_cons, subF_nil]
               exact ⟨(.keep _), (.keep _), (.keep _), (.keep _)⟩
             · exact .nil
           repeat refine awp_seq ?_
           refine awp_then (by simp -implicitDefEqProofs (disch := first | omega | rfl) only [go_sem, simprocAttr, eq_false hc10]) ?_
           repeat refine awp_seq ?_
           refine rg (h := ?_)
           obtain rfl := som_inj h
           try dsimp only at hm3
           subst hm3
           simp only [Ou.on_ret] at hO3
           obtain rfl := som_inj hO3
           repeat refine awp_seq ?_
           refine awp_ret ?_
           repeat first | refine then_ret ?_ | refine blk_ret ?_
           exact rtp
         simp -implicitDefEqProofs (disch := first | omega | rfl) only [go_sem, simprocAttr, zr13_5, eq_true hc4, eq_true hg5, eq_true hg6, eq_true hc7, eq_true hc8, eq_false hc9]
         refine hK _ _ ?_; clear hK K
         repeat refine awp_seq ?_
         refine awp_then (by rfl) ?_
         repeat refine awp_seq ?_
         refine rg (h := ?_)
         obtain rfl := som_inj h
         try dsimp only at hm3
         subst hm3
         simp only [Ou.on_ret] at hO3
         obtain rfl := som_inj hO3
         repeat refine awp_seq ?_
         refine awp_ret ?_
         repeat first | refine then_ret ?_ | refine blk_ret ?_
         exact rtp
       simp -implicitDefEqProofs (disch := first | omega | rfl) only [go_sem, simprocAttr, zr13_5, eq_true hc4, eq_true hg5, eq_true hg6, eq_true hc7, eq_false hc8]
       refine hK _ _ ?_; clear hK K
       repeat refine awp_seq ?_
       refine awp_then (by rfl) ?_
       repeat refine awp_seq ?_
       refine rg (h := ?_)
       obtain rfl := som_inj h
       try dsimp only at hm3
       subst hm3
       simp only [Ou.on_ret] at hO3
       obtain rfl := som_inj hO3
       repeat refine awp_seq ?_
       refine awp_ret ?_
       repeat first | refine then_ret ?_ | refine blk_ret ?_
       exact rtp
     simp -implicitDefEqProofs (disch := first | omega | rfl) only [go_sem, simprocAttr, zr13_5, eq_true hc4, eq_true hg5, eq_true hg6, eq_false hc7]
     refine hK _ _ ?_; clear hK K
     repeat refine awp_seq ?_
     refine awp_then (by rfl) ?_
     repeat refine awp_seq ?_
     refine rg (h := ?_)
     obtain rfl := som_inj h
     try dsimp only at hm3
     subst hm3
     simp only [Ou.on_ret] at hO3
     obtain rfl := som_inj hO3
     repeat refine awp_seq ?_
     refine awp_ret ?_
     repeat first | refine then_ret ?_ | refine blk_ret ?_
     exact rtp
   repeat refine awp_seq ?_
   refine awp_else (by simp -implicitDefEqProofs (disch := first | omega | rfl) only [go_sem, simprocAttr, eq_false hc4]) ?_
   repeat refine awp_seq ?_
   refine awp_exit ?_
   repeat' (first | refine then_exit ?_ | refine exit_here ?_ | refine exit_on rfl ?_)
   obtain rfl := som_inj h
   try dsimp only at hm3
   subst hm3
   simp only [Ou.on_brk] at hO3
   repeat refine awp_seq ?_
   refine rg (h := ?_)
   obtain rfl := som_inj hO3
   repeat refine awp_seq ?_
   refine awp_ret ?_
   repeat first | refine then_ret ?_ | refine blk_ret ?_
   exact rtp
 repeat refine awp_seq ?_
 refine awp_then (by simp -implicitDefEqProofs (disch := first | omega | rfl) only [go_sem, simprocAttr, eq_false hc1]) ?_
 repeat refine awp_seq ?_
 refine rg (h := ?_)
 obtain rfl := som_inj h
 repeat refine awp_seq ?_
 refine awp_ret ?_
 repeat first | refine then_ret ?_ | refine blk_ret ?_
 exact rtp
def zr3_0 : List AO := [⟨some 2, none, .mov (.c (.bool false))⟩]
def zr3_1 : List AO := [⟨some 10, none, .callF 10 []⟩,
  ⟨some 3, none, .mov (.t 10)⟩]
def zr3_2 : List AO := [⟨some 11, none, .mov (.t 0)⟩,
  ⟨some 12, none, .lenS (.t 11)⟩,
  ⟨some 13, none, .bin .gtr (.t 12) (.c (.int .i64 3000))⟩]
def zr3_3 : List AO := [⟨some 14, none, .mov (.t 3)⟩,
  ⟨some 2, none, .mov (.t 14)⟩]
def zc3_0 : AC := .seq (.reg zr3_3) .ret
def zc3_1 : AC := .cond (.t 13) zc3_0 .skip
def zr3_4 : List AO := [⟨some 16, none, .mov (.t 0)⟩,
  ⟨some 17, none, .callF 11 [(.t 16)]⟩,
  ⟨some 15, none, .mov (.t 17)⟩,
  ⟨some 18, none, .ext 0 (.t 15)⟩,
  ⟨some 19, none, .ext 1 (.t 15)⟩,
  ⟨some 20, none, .ext 2 (.t 15)⟩,
  ⟨some 4, none, .mov (.t 18)⟩,
  ⟨some 5, none, .mov (.t 19)⟩,
  ⟨some 6, none, .mov (.t 20)⟩]
def zr3_5 : List AO := [⟨some 22, none, .mov (.t 0)⟩,
  ⟨some 23, none, .callF 12 [(.t 22)]⟩,
  ⟨some 21, none, .mov (.t 23)⟩,
  ⟨some 24, none, .ext 0 (.t 21)⟩,
  ⟨some 25, none, .ext 1 (.t 21)⟩,
  ⟨some 26, none, .ext 2 (.t 21)⟩,
  ⟨some 7, none, .mov (.t 24)⟩,
  ⟨some 8, none, .mov (.t 25)⟩,
  ⟨some 9, none, .mov (.t 26)⟩]
def zr3_6 : List AO := [⟨some 27, none, .mov (.t 3)⟩,
  ⟨some 28, none, .mov (.t 27)⟩,
  ⟨some 29, some (28, true), .mov (.t 5)⟩,
  ⟨some 30, some (28, true), .mov (.t 8)⟩,
  ⟨some 31, some (28, true), .bin .eql (.t 29) (.t 30)⟩,
  ⟨some 32, none, .pick (.t 28) (.t 31) (.c (.bool false))⟩,
  ⟨some 33, none, .mov (.t 32)⟩,
  ⟨some 34, some (33, true), .mov (.t 6)⟩,
  ⟨some 35, some (33, true), .mov (.t 9)⟩,
  ⟨some 36, some (33, true), .bin .eql (.t 34) (.t 35)⟩,
  ⟨some 37, none, .pick (.t 33) (.t 36) (.c (.bool false))⟩,
  ⟨some 38, none, .mov (.t 37)⟩,
  ⟨some 39, some (38, true), .mov (.t 4)⟩,
  ⟨some 40, some (38, true), .mov (.t 7)⟩,
  ⟨some 41, some (38, true), .callF 13 [(.t 39), (.c (.int .i64 0)), (.t 40)]⟩,
  ⟨some 42, none, .pick (.t 38) (.t 41) (.c (.bool false))⟩,
  ⟨some 2, none, .mov (.t 42)⟩]
def zc3_2 : AC := .seq (.reg zr3_6) .ret
def zc3_3 : AC := .seq (.reg zr3_5) zc3_2
def zc3_4 : AC := .seq (.reg zr3_4) zc3_3
def zc3_5 : AC := .seq (.seq (.reg zr3_2) zc3_1) zc3_4
def zc3_6 : AC := .seq (.reg zr3_1) zc3_5
def zc3_7 : AC := .seq (.reg zr3_0) zc3_6
def zc3 : AC := zc3_7
theorem ok3 : Tryd.f3.body.bind (compCode Tryd.prog 43) = some zc3 := by kernel_rfl
theorem nt3 : Tryd.f3.ntmps = 43 := by kernel_rfl
theorem res3 : compRes Tryd.prog Tryd.f3.results.toList = some [.tmp 2] := by kernel_rfl
attribute [go_sem] zr3_0 zr3_2 zr3_3
def s3 (N : Nat) (p1 : List UInt8) : Option Bool :=
  (s10 N).bind fun x1 =>
  if 3000 < (List.length p1 : Int) then
    some x1
  else
    (s11 N p1).bind fun x4 =>
    (s12 N p1).bind fun x6 =>
    bif x1 then
      if x4.2.1 = x6.2.1 then
        if x4.2.2 = x6.2.2 then
          (s13 N x4.1 0 x6.1).bind fun x11 =>
          some x11
        else
          some false
      else
        some false
    else
      some false
set_option maxHeartbeats 4000000 in
theorem c3 (N : Nat) (p1 : List UInt8) (r : Bool) (h : s3 N p1 = some r) : PureC Tryd.prog 3 [.str p1] (.bool r) := by
 refine fn_intro' 43 Tryd.func3 nt3 ok3 res3 (by simp) fun X hP hn hd hr => ?_
 unfold s3 at h
 repeat refine awp_seq ?_
 refine rg (h := ?_)
 repeat refine awp_seq ?_
 refine awp_reg fun K Q hK hQ => ?_
 simp -implicitDefEqProofs (disch := first | omega | rfl) only [go_sem, simprocAttr, zr3_1]
 have hh := bnd_some h; clear h; obtain ⟨x1, hx2, h⟩ := hh
 refine call_pure hP (c10 N  x1 hx2) ?_
 simp -implicitDefEqProofs (disch := first | omega | rfl) only [go_sem, simprocAttr]
 refine hK _ _ ?_; clear hK hQ K Q
 repeat refine awp_seq ?_
 refine rg (h := ?_)
 rcases ite_some h with ⟨hc3, h⟩ | ⟨hc3, h⟩
 · repeat refine awp_seq ?_
   refine awp_then (by simp -implicitDefEqProofs (disch := first | omega | rfl) only [go_sem, simprocAttr, eq_true hc3]) ?_
   repeat refine awp_seq ?_
   refine rg (h := ?_)
   obtain rfl := som_inj h
   repeat refine awp_seq ?_
   refine awp_ret ?_
   repeat first | refine then_ret ?_ | refine blk_ret ?_
   exact rtp
 repeat refine awp_seq ?_
 refine awp_else (by simp -implicitDefEqProofs (disch := first | omega | rfl) only [go_sem, simprocAttr, eq_false hc3]) ?_
 repeat refine awp_seq ?_
 refine awp_skip ?_
 repeat refine awp_seq ?_
 refine awp_reg fun K Q hK hQ => ?_
 simp -implicitDefEqProofs (disch := first | omega | rfl) only [go_sem, simprocAttr, zr3_4]
 have hh := bnd_some h; clear h; obtain ⟨x4, hx5, h⟩ := hh
 refine call_pure hP (c11 N p1 x4 hx5) ?_
 simp -implicitDefEqProofs (disch := first | omega | rfl) only [go_sem, simprocAttr]
 refine hK _ _ ?_; clear hK hQ K Q
 repeat refine awp_seq ?_
 refine awp_reg fun K Q hK hQ => ?_
 simp -implicitDefEqProofs (disch := first | omega | rfl) only [go_sem, simprocAttr, zr3_5]
 have hh := bnd_some h; clear h; obtain ⟨x6, hx7, h⟩ := hh
 refine call_pure hP (c12 N p1 x6 hx7) ?_
 simp -implicitDefEqProofs (disch := first | omega | rfl) only [go_sem, simprocAttr]
 refine hK _ _ ?_; clear hK hQ K Q
 repeat refine awp_seq ?_
 refine awp_reg fun K Q hK hQ => ?_
 rcases cnd_some h with ⟨hc8, h⟩ | ⟨hc8, h⟩
 · rcases ite_some h with ⟨hc9, h⟩ | ⟨hc9, h⟩
   · rcases ite_some h with ⟨hc10, h⟩ | ⟨hc10, h⟩
     · simp -implicitDefEqProofs (disch := first | omega | rfl) only [go_sem, simprocAttr, zr3_6, hc8, eq_true hc9, eq_true hc10]
       have hh := bnd_some h; clear h; obtain ⟨x11, hx12, h⟩ := hh
       refine call_pure hP (c13 N x4.1 0 x6.1 x11 hx12) ?_
       simp -implicitDefEqProofs (disch := first | omega | rfl) only [go_sem, simprocAttr]
       refine hK _ _ ?_; clear hK hQ K Q
       obtain rfl := som_inj h
       repeat refine awp_seq ?_
       refine awp_ret ?_
       repeat first | refine then_ret ?_ | refine blk_ret ?_
       exact rtp
     simp -implicitDefEqProofs (disch := first | omega | rfl) only [go_sem, simprocAttr, zr3_6, hc8, eq_true hc9, eq_false hc10]
     refine hK _ _ ?_; clear hK hQ K Q
     obtain rfl := som_inj h
     repeat refine awp_seq ?_
     refine awp_ret ?_
     repeat first | refine then_ret ?_ | refine blk_ret ?_
     exact rtp
   simp -implicitDefEqProofs (disch := first | omega | rfl) only [go_sem, simprocAttr, zr3_6, hc8, eq_false hc9]
   refine hK _ _ ?_; clear hK hQ K Q
   obtain rfl := som_inj h
   repeat refine awp_seq ?_
   refine awp_ret ?_
   repeat first | refine then_ret ?_ | refine blk_ret ?_
   exact rtp
 simp -implicitDefEqProofs (disch := first | omega | rfl) only [go_sem, simprocAttr, zr3_6, hc8]
 refine hK _ _ ?_; clear hK hQ K Q
 obtain rfl := som_inj h
 repeat refine awp_seq ?_
 refine awp_ret ?_
 repeat first | refine then_ret ?_ | refine blk_ret ?_
 exact rtp
end Go.Proofs.Lex
namespace Go.Aw
theorem wr {n : Int} (h1 : -9223372036854775808 ≤ n) (h2 : n ≤ 9223372036854775807) : IntKind.wrap .i64 n = n := w64 h1 h2
theorem wr_succ {i : Nat} (h : i < 9223372036854775807) : IntKind.wrap .i64 ((i : Int) + 1) = ((i + 1 : Nat) : Int) := by
  rw [wr (by omega) (by omega)]
  omega
section
variable {α σ ρ τ : Type}
def runL (f : Nat → σ → α → σ ⊕ ρ) (fin : σ → ρ) : Nat → σ → List α → ρ
  | _, s, [] => fin s
  | i, s, a :: l => match f i s a with | .inl s' => runL f fin (i + 1) s' l | .inr r => r
theorem iter_step {body : τ → Option (τ ⊕ ρ)} {N : Nat} {s s' : τ} (h : body s = some (.inl s')) : iter body (N + 1) s = iter body N s' := by
  rw [iter, h]; rfl
theorem iter_end {body : τ → Option (τ ⊕ ρ)} {N : Nat} {s : τ} {r : ρ} (h : body s = some (.inr r)) : iter body (N + 1) s = some r := by
  rw [iter, h]; rfl
theorem iter_from {body : τ → Option (τ ⊕ ρ)} (mk : σ → Int → τ) (f : Nat → σ → α → σ ⊕ ρ) (fin : σ → ρ) (Inv : Nat → σ → Prop) (L : Nat) :
    ∀ (l : List α) (i : Nat), i + l.length = L →
    (∀ (j : Nat) s a, l[j]? = some a → Inv (i + j) s → (body (mk s ((i + j : Nat) : Int)) = some (match f (i + j) s a with | .inl s' => .inl (mk s' ((i + j + 1 : Nat) : Int)) | .inr r => .inr r)) ∧ ∀ s', f (i + j) s a = .inl s' → Inv (i + j + 1) s') →
    (∀ s, Inv L s → body (mk s (L : Int)) = some (.inr (fin s))) → ∀ {N : Nat}, l.length < N → ∀ {s0 : σ}, Inv i s0 → iter body N (mk s0 (i : Int)) = some (runL f fin i s0 l)
  | [], i, hL, _, he, N, hN, s0, h0 => by
    obtain ⟨M, rfl⟩ : ∃ M, N = M + 1 := ⟨N - 1, by simp at hN; omega⟩
    simp only [List.length_nil, Nat.add_zero] at hL
    subst hL
    exact iter_end (he s0 h0)
  | a :: l, i, hL, hb, he, N, hN, s0, h0 => by
    obtain ⟨M, rfl⟩ : ∃ M, N = M + 1 := ⟨N - 1, by simp at hN; omega⟩
    obtain ⟨h1, h2⟩ := hb 0 s0 a rfl h0
    simp only [Nat.add_zero] at h1 h2
    rw [runL]
    cases hf : f i s0 a with
    | inl s' =>
      rw [hf] at h1
      rw [iter_step h1]
      refine iter_from mk f fin Inv L l (i + 1) (by simp only [List.length_cons] at hL; omega) (fun j s b hj hs => ?_) he (by simp only [List.length_cons] at hN; omega) (h2 s' hf)
      have := hb (j + 1) s b (by simpa using hj) (by rw [show i + (j + 1) = i + 1 + j by omega]; exact hs)
      rw [show i + (j + 1) = i + 1 + j by omega] at this
      exact this
    | inr r =>
      rw [hf] at h1
      exact iter_end h1
theorem iter_list {body : τ → Option (τ ⊕ ρ)} (mk : σ → Int → τ) (s0 : σ) (l : List α) (f : Nat → σ → α → σ ⊕ ρ) (fin : σ → ρ) (Inv : Nat → σ → Prop)
    (hb : ∀ (i : Nat) s a, l[i]? = some a → Inv i s → (body (mk s (i : Int)) = some (match f i s a with | .inl s' => .inl (mk s' ((i + 1 : Nat) : Int)) | .inr r => .inr r)) ∧ ∀ s', f i s a = .inl s' → Inv (i + 1) s')
    (he : ∀ s, Inv l.length s → body (mk s (l.length : Int)) = some (.inr (fin s))) {N : Nat} (hN : l.length < N) (h0 : Inv 0 s0) : iter body N (mk s0 0) = some (runL f fin 0 s0 l) := by
  have := iter_from (body := body) mk f fin Inv l.length l 0 (by simp) (fun j s a hj hs => by
    have := hb j s a hj (by simpa using hs)
    simpa using this) he hN h0
  simpa using this
theorem runL_fold {g : σ → α → σ} {fin : σ → ρ} : ∀ (l : List α) (i : Nat) (s : σ), runL (fun _ s a => .inl (g s a)) fin i s l = fin (l.foldl g s)
  | [], _, _ => rfl
  | a :: l, i, s => by rw [runL]; exact runL_fold l (i + 1) (g s a)
theorem runL_any {p : α → Bool} {x y : ρ} : ∀ (l : List α) (i : Nat), runL (fun _ (_ : Unit) a => if p a then .inr x else .inl ()) (fun _ => y) i () l = if l.any p then x else y
  | [], _ => rfl
  | a :: l, i => by
    rw [runL]
    cases hp : p a with
    | true => simp [hp]
    | false => simp only [hp, List.any_cons, Bool.false_or]; exact runL_any l (i + 1)
end
theorem getI {α : Type} [Inhabited α] {l : List α} {i : Nat} {a : α} (h : l[i]? = some a) : l[i]! = a ∧ i < l.length := by
  obtain ⟨h1, h2⟩ := List.getElem?_eq_some_iff.1 h
  exact ⟨by rw [getElem!_pos l i h1, h2], h1⟩
theorem toNat_nat {i : Nat} : ((i : Int)).toNat = i := rfl
end Go.Aw
namespace Go.Proofs.Lex
open Go.Aw
abbrev Str := List UInt8
def lett (c : UInt8) : Bool := (decide (97 ≤ c.toNat) && decide (c.toNat ≤ 122)) || (decide (65 ≤ c.toNat) && decide (c.toNat ≤ 90))
def digi (c : UInt8) : Bool := decide (48 ≤ c.toNat) && decide (c.toNat ≤ 57)
def word (c : UInt8) : Bool := lett c || digi c || decide (c.toNat = 95)
def lettN (n : Nat) : Bool := (decide (97 ≤ n) && decide (n ≤ 122)) || (decide (65 ≤ n) && decide (n ≤ 90))
theorem lett_or : ∀ n : Nat, n < 256 → (if 97 ≤ bitI .or .u8 (n : Int) 32 then decide (bitI .or .u8 (n : Int) 32 ≤ 122) else false) = lettN n := by decide +kernel
theorem s25_eq {N : Nat} {c : UInt8} : s25 N (c.toNat : Int) = some (lett c) := by
  have := lett_or c.toNat (by have := c.toNat_lt; omega)
  simp only [s25]
  show _ = some (lettN c.toNat)
  rw [← this]
  split <;> rfl
theorem s28_eq {N : Nat} {c : UInt8} : s28 N (c.toNat : Int) = some (digi c) := by
  simp only [s28, digi]
  by_cases h : (48 : Int) ≤ c.toNat
  · rw [if_pos h]; congr 1; rw [show decide (48 ≤ c.toNat) = true by simp; omega]; simp; omega
  · rw [if_neg h]; rw [show decide (48 ≤ c.toNat) = false by simp; omega]; rfl
theorem s27_eq {N : Nat} {c : UInt8} : s27 N (c.toNat : Int) = some (word c) := by
  simp only [s27, s25_eq, s28_eq, Option.bind_some, word]
  cases lett c <;> cases digi c <;> simp
  omega
theorem s32_eq {N : Nat} {c : UInt8} : s32 N (c.toNat : Int) = some (lett c) := by
  simp only [s32, lett]
  generalize c.toNat = n
  have i1 : ((97 : Int) ≤ n) ↔ 97 ≤ n := by omega
  have i2 : ((n : Int) ≤ 122) ↔ n ≤ 122 := by omega
  have i3 : ((65 : Int) ≤ n) ↔ 65 ≤ n := by omega
  have i4 : ((n : Int) ≤ 90) ↔ n ≤ 90 := by omega
  simp only [i1, i2, i3, i4]
  by_cases h1 : 97 ≤ n <;> by_cases h2 : n ≤ 122 <;> by_cases h3 : 65 ≤ n <;> simp [h1, h2, h3]
theorem s34_eq {N : Nat} {c : UInt8} : s34 N (c.toNat : Int) = some (digi c) := by
  simp only [s34, digi]
  by_cases h : (48 : Int) ≤ c.toNat
  · rw [if_pos h]; congr 1; rw [show decide (48 ≤ c.toNat) = true by simp; omega]; simp; omega
  · rw [if_neg h]; rw [show decide (48 ≤ c.toNat) = false by simp; omega]; rfl
theorem s40_eq {N : Nat} {c : UInt8} : s40 N (c.toNat : Int) = some (word c) := by
  simp only [s40, s32_eq, s34_eq, Option.bind_some, word]
  cases lett c <;> cases digi c <;> simp
  omega
def runN (f : Str → Bool) : Str → Nat
  | [] => 0
  | c :: l => if f (c :: l) then 1 + runN f l else 0
def headW : Str → Bool
  | [] => false
  | d :: _ => word d
def fName : Str → Bool
  | [] => false
  | c :: l => word c || (decide (c.toNat = 46) && headW l)
def fDig : Str → Bool
  | [] => false
  | c :: _ => digi c
def fCom : Str → Bool
  | [] => false
  | c :: _ => !decide (c.toNat = 10)
abbrev nameN := runN fName
abbrev digN := runN fDig
theorem runN_le (f : Str → Bool) : ∀ l, runN f l ≤ l.length
  | [] => Nat.le_refl _
  | c :: l => by
    have := runN_le f l
    rw [runN]; simp only [List.length_cons]; split <;> omega
theorem scan_run {body : Int → Option (Int ⊕ Int)} {p : Str} {f : Str → Bool} (hb : ∀ (i : Nat) c l, p.drop i = c :: l → body (i : Int) = some (if f (c :: l) then .inl ((i + 1 : Nat) : Int) else .inr (i : Int))) (he : body (p.length : Int) = some (.inr (p.length : Int))) :
    ∀ (l : Str) (i : Nat), p.drop i = l → i ≤ p.length → ∀ {N}, l.length < N → iter body N (i : Int) = some ((i + runN f l : Nat) : Int)
  | [], i, hd, hi, N, hN => by
    obtain ⟨M, rfl⟩ : ∃ M, N = M + 1 := ⟨N - 1, by simp at hN; omega⟩
    have : i = p.length := by have := List.drop_eq_nil_iff.1 hd; omega
    subst this
    exact iter_end he
  | c :: l, i, hd, hi, N, hN => by
    obtain ⟨M, rfl⟩ : ∃ M, N = M + 1 := ⟨N - 1, by simp at hN; omega⟩
    have h1 := hb i c l hd
    rw [runN]
    cases hf : f (c :: l) with
    | true =>
      rw [hf] at h1
      have hlt : i < p.length := by
        rcases Nat.lt_or_ge i p.length with h | h
        · exact h
        · rw [List.drop_eq_nil_iff.2 h] at hd; cases hd
      rw [iter_step h1, scan_run hb he l (i + 1) (by rw [← List.drop_drop, hd]; rfl) (by omega) (by simp at hN; omega)]
      simp only [if_true]; congr 2; omega
    | false =>
      rw [hf] at h1
      rw [iter_end h1]; rfl
theorem drop_get {p : Str} {i : Nat} {c : UInt8} {l : Str} (h : p.drop i = c :: l) : i < p.length ∧ p.getD i 0 = c ∧ p.drop (i + 1) = l := by
  have hlt : i < p.length := by
    rcases Nat.lt_or_ge i p.length with h1 | h1
    · exact h1
    · rw [List.drop_eq_nil_iff.2 h1] at h; cases h
  refine ⟨hlt, ?_, by rw [← List.drop_drop, h]; rfl⟩
  have : p[i]? = some c := by rw [← List.head?_drop, h]; rfl
  simp [List.getD, this]
theorem s23_eq {N : Nat} {p : Str} {i : Nat} (hi : i ≤ p.length) (hN : p.length < N) (hp : p.length ≤ 1000000) : s23 N p (i : Int) p = some ((i + runN fCom (p.drop i) : Nat) : Int) := by
  have hb : ∀ (i : Nat) (c : UInt8) (l : Str), p.drop i = c :: l → s23_b1 N p p (i : Int) = some (if fCom (c :: l) then .inl ((i + 1 : Nat) : Int) else .inr (i : Int)) := fun i c l hd => by
    obtain ⟨hlt, hg, _⟩ := drop_get hd
    simp only [s23_b1, s24]
    rw [if_pos (by omega), grd_pos (by omega), toNat_nat, hg, wr_succ (by omega)]
    simp only [Option.bind_some]
    by_cases h : (c.toNat : Int) = 10
    · rw [show fCom (c :: l) = false by simp only [fCom, Bool.not_eq_false', decide_eq_true_eq]; omega]; simp [h]
    · rw [show fCom (c :: l) = true by simp only [fCom, Bool.not_eq_true', decide_eq_false_iff_not]; omega]; simp [h]
  have he : s23_b1 N p p (p.length : Int) = some (.inr (p.length : Int)) := by simp only [s23_b1]; rw [if_neg (by omega)]
  simp only [s23]
  rw [scan_run (body := fun q => s23_b1 N p p q) hb he (p.drop i) i rfl hi (by simp; omega)]
  rfl
theorem s26_eq {N : Nat} {p : Str} {i : Nat} {c : UInt8} {l : Str} (hd : p.drop i = c :: l) (hp : p.length ≤ 1000000) : s26 N (i : Int) p = some (fName (c :: l)) := by
  obtain ⟨hlt, hg, hd2⟩ := drop_get hd
  simp only [s26]
  rw [grd_pos (by omega), toNat_nat, hg, s27_eq, wr_succ (by omega)]
  simp only [Option.bind_some, fName]
  cases hw : word c with
  | true => simp
  | false =>
    simp only [cond_false, Bool.false_or]
    by_cases h : (c.toNat : Int) = 46
    · rw [if_pos h, show decide (c.toNat = 46) = true by simp; omega]
      simp only [Bool.true_and]
      cases l with
      | nil =>
        have : p.length ≤ i + 1 := List.drop_eq_nil_iff.1 hd2
        rw [if_neg (by omega)]; rfl
      | cons d l =>
        obtain ⟨hlt2, hg2, _⟩ := drop_get hd2
        rw [if_pos (by omega), grd_pos (by omega), toNat_nat, hg2, s27_eq]; rfl
    · rw [if_neg h, show decide (c.toNat = 46) = false by simp; omega]; rfl
theorem s23_2_eq {N : Nat} {p : Str} {i : Nat} (hi : i ≤ p.length) (hN : p.length < N) (hp : p.length ≤ 1000000) : s23_2 N p (i : Int) p = some ((i + nameN (p.drop i) : Nat) : Int) := by
  have hb : ∀ (i : Nat) (c : UInt8) (l : Str), p.drop i = c :: l → s23_2_b1 N p p (i : Int) = some (if fName (c :: l) then .inl ((i + 1 : Nat) : Int) else .inr (i : Int)) := fun i c l hd => by
    obtain ⟨hlt, hg, _⟩ := drop_get hd
    simp only [s23_2_b1]
    rw [if_pos (by omega), s26_eq hd hp, wr_succ (by omega)]
    simp only [Option.bind_some]
    cases fName (c :: l) <;> rfl
  have he : s23_2_b1 N p p (p.length : Int) = some (.inr (p.length : Int)) := by simp only [s23_2_b1]; rw [if_neg (by omega)]
  simp only [s23_2]
  rw [scan_run (body := fun q => s23_2_b1 N p p q) hb he (p.drop i) i rfl hi (by simp; omega)]
  rfl
theorem s23_3_eq {N : Nat} {p : Str} {i : Nat} (hi : i ≤ p.length) (hN : p.length < N) (hp : p.length ≤ 1000000) : s23_3 N p (i : Int) p = some ((i + digN (p.drop i) : Nat) : Int) := by
  have hb : ∀ (i : Nat) (c : UInt8) (l : Str), p.drop i = c :: l → s23_3_b1 N p p (i : Int) = some (if fDig (c :: l) then .inl ((i + 1 : Nat) : Int) else .inr (i : Int)) := fun i c l hd => by
    obtain ⟨hlt, hg, _⟩ := drop_get hd
    simp only [s23_3_b1, s29]
    rw [if_pos (by omega), grd_pos (by omega), toNat_nat, hg, s28_eq, wr_succ (by omega)]
    simp only [Option.bind_some]
    show (bif fDig (c :: l) then _ else _) = _
    cases fDig (c :: l) <;> rfl
  have he : s23_3_b1 N p p (p.length : Int) = some (.inr (p.length : Int)) := by simp only [s23_3_b1]; rw [if_neg (by omega)]
  simp only [s23_3]
  rw [scan_run (body := fun q => s23_3_b1 N p p q) hb he (p.drop i) i rfl hi (by simp; omega)]
  rfl
def gapC : Bool → Str → Nat
  | _, [] => 0
  | b, c :: l => if c.toNat = 10 then 1 + gapC false l else if c.toNat = 35 then 1 + gapC true l else if b || decide (c.toNat = 32) || decide (c.toNat = 9) then 1 + gapC b l else 0
theorem gapC_le : ∀ b l, gapC b l ≤ l.length
  | _, [] => Nat.le_refl _
  | b, c :: l => by
    have h1 := gapC_le false l; have h2 := gapC_le true l; have h3 := gapC_le b l
    rw [gapC]; simp only [List.length_cons]; split
    · omega
    · split
      · omega
      · split <;> omega
theorem gapC_true : ∀ l, gapC true l = runN fCom l + gapC false (l.drop (runN fCom l))
  | [] => rfl
  | c :: l => by
    rw [gapC, runN]
    by_cases h : c.toNat = 10
    · rw [if_pos h, show fCom (c :: l) = false by simp [fCom, h]]
      simp only [Bool.false_eq_true, if_false, Nat.zero_add, List.drop_zero]
      rw [gapC, if_pos h]
    · rw [if_neg h, show fCom (c :: l) = true by simp [fCom, h]]
      simp only [if_true, Bool.true_or]
      have := gapC_true l
      rw [show 1 + runN fCom l = runN fCom l + 1 by omega, List.drop_succ_cons]
      split <;> omega
theorem s19_loop {N : Nat} {p : Str} (hN : p.length < N) (hp : p.length ≤ 1000000) : ∀ (n : Nat) (l : Str) (i : Nat), l.length ≤ n → p.drop i = l → i ≤ p.length → ∀ {M}, l.length < M →
    ∃ o : Ou Int Int, iter (fun q => s19_b2 N p q) M (i : Int) = some o ∧ (o.on (fun a => some a) (fun a => some a) : Option Int) = some ((i + gapC false l : Nat) : Int) := by
  intro n
  induction n with
  | zero =>
    intro l i hl hd hi M hM
    obtain rfl : l = [] := List.length_eq_zero_iff.1 (by omega)
    obtain ⟨M, rfl⟩ : ∃ k, M = k + 1 := ⟨M - 1, by omega⟩
    have : p.length ≤ i := List.drop_eq_nil_iff.1 hd
    exact ⟨.brk i, iter_end (by simp only [s19_b2]; rw [if_neg (by omega)]), rfl⟩
  | succ n ih =>
    intro l i hl hd hi M hM
    obtain ⟨M, rfl⟩ : ∃ k, M = k + 1 := ⟨M - 1, by omega⟩
    cases l with
    | nil =>
      have : p.length ≤ i := List.drop_eq_nil_iff.1 hd
      exact ⟨.brk i, iter_end (by simp only [s19_b2]; rw [if_neg (by omega)]), rfl⟩
    | cons c l =>
      simp only [List.length_cons] at hl hM
      obtain ⟨hlt, hg, hd2⟩ := drop_get hd
      have hone : c.toNat = 10 ∨ c.toNat = 32 ∨ c.toNat = 9 → s19_b2 N p (i : Int) = some (.inl ((i + 1 : Nat) : Int)) := fun h => by
        simp only [s19_b2, s19_k1]
        rw [if_pos (by omega), grd_pos (by omega), toNat_nat, hg, wr_succ (by omega)]
        rcases h with h | h | h <;> simp [h]
      have hgo : c.toNat = 10 ∨ c.toNat = 32 ∨ c.toNat = 9 → ∃ o : Ou Int Int, iter (fun q => s19_b2 N p q) (M + 1) (i : Int) = some o ∧ (o.on (fun a => some a) (fun a => some a) : Option Int) = some ((i + 1 + gapC false l : Nat) : Int) := fun h => by
        rw [iter_step (hone h)]
        exact ih l (i + 1) (by omega) hd2 (by omega) (by omega)
      rw [gapC]
      by_cases h10 : c.toNat = 10
      · rw [if_pos h10]
        have := hgo (.inl h10)
        rwa [Nat.add_assoc] at this
      rw [if_neg h10]
      by_cases h35 : c.toNat = 35
      · rw [if_pos h35]
        have hr : runN fCom (c :: l) = 1 + runN fCom l := by rw [runN, if_pos (by simp [fCom, h35])]
        have hs : s19_b2 N p (i : Int) = some (.inl ((i + 1 + runN fCom l : Nat) : Int)) := by
          simp only [s19_b2, s19_k1]
          rw [if_pos (by omega), grd_pos (by omega), toNat_nat, hg, s23_eq (by omega) hN hp, hd, hr]
          simp [h35]; omega
        rw [iter_step hs]
        have hrl := runN_le fCom l
        have hll : (c :: l).length = p.length - i := by rw [← hd, List.length_drop]
        simp only [List.length_cons] at hll
        obtain ⟨o, e1, e2⟩ := ih (l.drop (runN fCom l)) (i + 1 + runN fCom l) (by simp; omega) (by rw [← List.drop_drop, hd2]) (by omega) (M := M) (by simp; omega)
        refine ⟨o, e1, ?_⟩
        rw [e2, gapC_true l]
        congr 2; omega
      rw [if_neg h35]
      by_cases h32 : c.toNat = 32 ∨ c.toNat = 9
      · have := hgo (.inr h32)
        rw [if_pos (by rcases h32 with h | h <;> simp [h])]
        rwa [Nat.add_assoc] at this
      · have hn32 : ¬ c.toNat = 32 := fun h => h32 (.inl h)
        have hn9 : ¬ c.toNat = 9 := fun h => h32 (.inr h)
        rw [if_neg (by simp [hn32, hn9])]
        refine ⟨.ret i, iter_end ?_, rfl⟩
        simp only [s19_b2, s19_k1]
        rw [if_pos (by omega), grd_pos (by omega), toNat_nat, hg]
        have a1 : ¬ ((c.toNat : Int) = 32) := by omega
        have a2 : ¬ ((c.toNat : Int) = 9) := by omega
        have a3 : ¬ ((c.toNat : Int) = 10) := by omega
        have a4 : ¬ ((c.toNat : Int) = 35) := by omega
        simp [a1, a2, a3, a4]
theorem s19_eq {N : Nat} {p : Str} {i : Nat} (hi : i ≤ p.length) (hN : p.length < N) (hp : p.length ≤ 1000000) : s19 N p (i : Int) = some ((i + gapC false (p.drop i) : Nat) : Int) := by
  obtain ⟨o, e1, e2⟩ := s19_loop hN hp _ (p.drop i) i (Nat.le_refl _) rfl hi (M := N) (by simp; omega)
  simp only [s19]
  rw [e1]
  exact e2
end Go.Proofs.Lex
namespace Go.Proofs.Lex
open Go.Aw
theorem wr8 {n : Int} (h1 : 0 ≤ n) (h2 : n ≤ 255) : IntKind.wrap .u8 n = n := by
  obtain ⟨m, rfl⟩ : ∃ m : Nat, n = m := ⟨n.toNat, by omega⟩
  have : ∀ m : Nat, m < 256 → IntKind.wrap .u8 (m : Int) = m := by decide +kernel
  exact this m (by omega)
def valN (l : Str) : Nat := l.foldl (fun v c => v * 10 + (c.toNat - 48)) 0
theorem byts_get {l : Str} {i : Nat} {c : UInt8} (h : l[i]? = some c) : (byts l)[i]! = (c.toNat : Int) := by
  have h1 : (byts l)[i]? = some (c.toNat : Int) := by simp [byts, h]
  exact (getI h1).1
theorem byts_len (l : Str) : (byts l).length = l.length := by simp [byts]
theorem s30_eq {N : Nat} {l : Str} (h0 : 0 < l.length) (h1 : l.length ≤ 12) (hd : ∀ c, c ∈ l → digi c = true) (hN : l.length < N) : s30 N l = some ((valN l : Int), ()) := by
  have dg : ∀ c, c ∈ l → 48 ≤ c.toNat ∧ c.toNat ≤ 57 := fun c hc => by
    have := hd c hc
    simpa [digi] using this
  have hloop : iter (fun p => s37_b2 N l p.1 p.2) N (((0 : Nat) : Int), 0) = some _ := iter_list (fun (v : Nat) i => ((v : Int), i)) 0 l (fun _ v c => .inl (v * 10 + (c.toNat - 48))) (fun v => .brk (v : Int)) (fun i v => v < 10 ^ i) (fun i v c hi hv => by
    obtain ⟨hg, hlt⟩ := getI hi
    obtain ⟨d1, d2⟩ := dg c (List.mem_of_getElem? hi)
    have hpow : 10 ^ i ≤ 10 ^ 12 := Nat.pow_le_pow_right (by omega) (by omega)
    have h12 : (10 : Nat) ^ 12 = 1000000000000 := by decide
    refine ⟨?_, fun s' e => by cases e; rw [Nat.pow_succ]; omega⟩
    simp only [s37_b2]
    rw [if_pos (by rw [byts_len]; omega), grd_pos (by omega), toNat_nat, byts_get hi, wr8 (by omega) (by omega), if_neg (by omega), wr_succ (by omega), wr (n := (c.toNat : Int) - 48) (by omega) (by omega), wr (n := (v : Int) * 10) (by omega) (by omega), wr (by omega) (by omega)]
    congr 3
    omega) (fun v hv => by
    simp only [s37_b2]
    rw [if_neg (by rw [byts_len]; omega)]) hN (by decide)
  have hf : ((l.getD 0 0).toNat : Int) ≠ 45 ∧ ((l.getD 0 0).toNat : Int) ≠ 43 := by
    obtain ⟨c, r, rfl⟩ : ∃ c r, l = c :: r := by cases l with | nil => simp at h0 | cons c r => exact ⟨c, r, rfl⟩
    have := dg c (List.mem_cons_self ..)
    show (c.toNat : Int) ≠ 45 ∧ (c.toNat : Int) ≠ 43
    omega
  simp only [s30, s37]
  rw [if_pos (by omega), if_pos (by omega), if_neg hf.1, decide_eq_false hf.2]
  simp only [s37_k4, cond_false, s37_k3]
  rw [show iter (fun p => s37_b2 N l p.1 p.2) N (0, 0) = _ from hloop, runL_fold]
  simp only [Option.bind_some, Ou.on, s37_k1]
  rw [if_neg hf.1]
  rfl
def symb (c : UInt8) : Bool := lit2.contains c
def tokR : Str → (Int × Nat × Nat) ⊕ Int
  | [] => .inr 4
  | c :: l =>
    if lett c then (if 24 < nameN (c :: l) then .inr 3 else .inl (1, nameN (c :: l), 0))
    else if digi c then (if 12 < digN (c :: l) then .inr 5 else if headW ((c :: l).drop (digN (c :: l))) then .inr 5 else .inl (2, digN (c :: l), valN ((c :: l).take (digN (c :: l)))))
    else if symb c then .inl (3, 1, 0) else .inr 4
def tokS (at_ : Nat) (l : Str) : Token ⊕ LexerFault :=
  match tokR l with
  | .inl (k, n, v) => .inl ⟨k, l.take n, v, at_⟩
  | .inr e => .inr ⟨e, at_⟩
theorem ib_symb : ∀ n : Nat, n < 256 → decide (0 ≤ Lib.indexByte lit2 (Int.toNat (n : Int)).toUInt8) = lit2.contains n.toUInt8 := by decide +kernel
theorem s31_eq {N : Nat} {c : UInt8} : ∃ x, s31 N lit2 (c.toNat : Int) = some x ∧ decide (0 ≤ x) = symb c := by
  refine ⟨_, rfl, ?_⟩
  have := ib_symb c.toNat (by have := c.toNat_lt; omega)
  rw [this]
  show lit2.contains c.toNat.toUInt8 = lit2.contains c
  congr 1
  simp
theorem digN_dig : ∀ (l : Str) c, c ∈ l.take (digN l) → digi c = true
  | [], c, h => by simp at h
  | d :: l, c, h => by
    rw [digN, runN] at h
    by_cases hd : digi d = true
    · rw [if_pos (by simpa [fDig] using hd), show 1 + runN fDig l = runN fDig l + 1 by omega, List.take_succ_cons] at h
      rcases List.mem_cons.1 h with h | h
      · rw [h]; exact hd
      · exact digN_dig l c h
    · rw [if_neg (by simpa [fDig] using hd)] at h
      simp at h
theorem s20_eq {N : Nat} {p : Str} {i : Nat} {c : UInt8} {l : Str} (hd : p.drop i = c :: l) (hp : p.length ≤ 1000000) (hN : p.length < N) : s20 N p (i : Int) = some (tokS i (c :: l)) := by
  obtain ⟨hlt, hg, hd2⟩ := drop_get hd
  have hll : (c :: l).length = p.length - i := by rw [← hd, List.length_drop]
  have cut : ∀ n, List.drop i (List.take (i + n) p) = (c :: l).take n := fun n => by
    rw [List.drop_take, hd, Nat.add_sub_cancel_left]
  simp only [s20]
  rw [grd_pos (by omega), toNat_nat, hg, s25_eq]
  simp only [Option.bind_some, tokS, tokR]
  cases hl : lett c with
  | true =>
    simp only [cond_true, if_true]
    have hn : nameN (c :: l) ≤ (c :: l).length := runN_le fName (c :: l)
    rw [s23_2_eq (by omega) hN hp, hd]
    simp only [Option.bind_some]
    generalize hnm : nameN (c :: l) = n at *
    rw [wr (by omega) (by omega)]
    by_cases h24 : 24 < n
    · rw [if_pos (by omega), if_pos h24]
    · rw [if_neg (by omega), if_neg h24, grd_pos (by omega)]
      simp only [toNat_nat, cut]
      rfl
  | false =>
    simp only [cond_false, Bool.false_eq_true, if_false]
    rw [s28_eq]
    simp only [Option.bind_some]
    cases hdg : digi c with
    | true =>
      simp only [cond_true, if_true]
      have hn : digN (c :: l) ≤ (c :: l).length := runN_le fDig (c :: l)
      have hn1 : 1 ≤ digN (c :: l) := by rw [digN, runN, if_pos (by simpa [fDig] using hdg)]; omega
      have hdd := digN_dig (c :: l)
      rw [s23_3_eq (by omega) hN hp, hd]
      simp only [Option.bind_some]
      generalize hnm : digN (c :: l) = n at *
      rw [wr (by omega) (by omega)]
      by_cases h12 : 12 < n
      · rw [if_pos (by omega), if_pos h12]
      · rw [if_neg (by omega), if_neg h12]
        have hdn : p.drop (i + n) = (c :: l).drop n := by rw [← List.drop_drop, hd]
        have hs30 : s30 N ((c :: l).take n) = some ((valN ((c :: l).take n) : Int), ()) := by
          exact s30_eq (by rw [List.length_take]; omega) (by rw [List.length_take]; omega) hdd (by rw [List.length_take]; omega)
        cases hr : (c :: l).drop n with
        | nil =>
          have : p.length ≤ i + n := List.drop_eq_nil_iff.1 (hdn.trans hr)
          rw [if_neg (by omega), grd_pos (by omega)]
          simp only [toNat_nat, cut, hs30, Option.bind_some]
          rfl
        | cons e r =>
          obtain ⟨hlt2, hg2, _⟩ := drop_get (hdn.trans hr)
          rw [if_pos (by omega), grd_pos (by omega), toNat_nat, hg2, s27_eq, show word e = headW (e :: r) from rfl]
          simp only [Option.bind_some]
          cases hw : headW (e :: r) with
          | true => simp
          | false =>
            simp only [cond_false, Bool.false_eq_true, if_false]
            rw [grd_pos (by omega)]
            simp only [toNat_nat, cut, hs30, Option.bind_some]
    | false =>
      simp only [cond_false, Bool.false_eq_true, if_false]
      obtain ⟨x, e1, e2⟩ := s31_eq (N := N) (c := c)
      rw [e1]
      simp only [Option.bind_some]
      by_cases h0 : 0 ≤ x
      · rw [if_pos h0, show symb c = true by rw [← e2]; simpa using h0]
        simp only [if_true]
        rw [wr_succ (by omega), grd_pos (by omega)]
        simp only [toNat_nat, cut]
        rfl
      · rw [if_neg h0, show symb c = false by rw [← e2]; simpa using h0]
        simp
inductive Lx : Nat → Str → List Token → Option (Int × Nat) → Prop
  | done {at_ l} : gapC false l = l.length → Lx at_ l [] none
  | bad {at_ l c r e} : l.drop (gapC false l) = c :: r → tokR (c :: r) = .inr e → Lx at_ l [] (some (e, at_ + gapC false l))
  | tok {at_ l c r k n v ts e} : l.drop (gapC false l) = c :: r → tokR (c :: r) = .inl (k, n, v) → Lx (at_ + gapC false l + n) ((c :: r).drop n) ts e → Lx at_ l (⟨k, (c :: r).take n, v, (at_ + gapC false l : Nat)⟩ :: ts) e
theorem tokR_len {c : UInt8} {r : Str} {k : Int} {n v : Nat} (h : tokR (c :: r) = .inl (k, n, v)) : 1 ≤ n ∧ n ≤ r.length + 1 := by
  have h1 := runN_le fName (c :: r); have h2 := runN_le fDig (c :: r)
  simp only [List.length_cons] at h1 h2
  rw [tokR] at h
  split at h
  · rename_i hl
    split at h
    · cases h
    · cases h
      refine ⟨?_, h1⟩
      show 1 ≤ runN fName (c :: r)
      rw [runN, if_pos (by simp [fName, word, hl])]; omega
  · split at h
    · rename_i hdg
      split at h
      · cases h
      · split at h
        · cases h
        · cases h
          refine ⟨?_, h2⟩
          show 1 ≤ runN fDig (c :: r)
          rw [runN, if_pos (by simpa [fDig] using hdg)]; omega
    · split at h
      · cases h; exact ⟨Nat.le_refl _, by omega⟩
      · cases h
theorem lx_total : ∀ (n : Nat) (l : Str) (at_ : Nat), l.length ≤ n → ∃ ts e, Lx at_ l ts e
  | n, l, at_, hl => by
    cases hr : l.drop (gapC false l) with
    | nil =>
      have := List.drop_eq_nil_iff.1 hr
      have := gapC_le false l
      exact ⟨[], none, .done (by omega)⟩
    | cons c r =>
      cases ht : tokR (c :: r) with
      | inr e => exact ⟨_, _, .bad hr ht⟩
      | inl q =>
        obtain ⟨k, m, v⟩ := q
        obtain ⟨h1, h2⟩ := tokR_len ht
        have hlen : r.length + 1 = l.length - gapC false l := by rw [← List.length_drop, hr, List.length_cons]
        match n with
        | 0 => omega
        | n + 1 =>
          obtain ⟨ts, e, h⟩ := lx_total n ((c :: r).drop m) (at_ + gapC false l + m) (by simp only [List.length_drop, List.length_cons]; omega)
          exact ⟨_, _, .tok hr ht h⟩
theorem lx_len {at_ : Nat} {l : Str} {ts : List Token} {e : Option (Int × Nat)} (h : Lx at_ l ts e) : ts.length ≤ l.length := by
  induction h with
  | done => simp
  | bad => simp
  | @tok at_ l c r k n v ts e hr ht _ ih =>
    obtain ⟨h1, h2⟩ := tokR_len ht
    have hlen : r.length + 1 = l.length - gapC false l := by rw [← List.length_drop, hr, List.length_cons]
    simp only [List.length_drop, List.length_cons] at ih ⊢
    omega
def ans (o ts : List Token) : Option (Int × Nat) → List Token × Int × Int
  | none => (o ++ ts, 0, 0)
  | some (e, a) => ([], e, (a : Int))
theorem tokR_err {l : Str} {e : Int} (h : tokR l = .inr e) : e = 3 ∨ e = 4 ∨ e = 5 := by
  unfold tokR at h
  split at h
  · cases h; simp
  · split at h
    · split at h
      · cases h; simp
      · cases h
    · split at h
      · split at h
        · cases h; simp
        · split at h
          · cases h; simp
          · cases h
      · split at h
        · cases h
        · cases h; simp
theorem s11_loop {N : Nat} {p : Str} (hN : p.length < N) (hp : p.length ≤ 1000000) {at_ : Nat} {l : Str} {ts : List Token} {e : Option (Int × Nat)} (h : Lx at_ l ts e) :
    ∀ (o : List Token), p.drop at_ = l → at_ ≤ p.length → o.length + ts.length < 5000 → ∀ {M}, ts.length + 1 < M →
    ∃ q, iter (fun q => s11_b1 N p q.1 q.2) M (o, ((at_ + gapC false l : Nat) : Int)) = some q ∧ (q.on (fun a => some (a, 0, 0)) (fun a => some a) : Option (List Token × Int × Int)) = some (ans o ts e) := by
  induction h with
  | @done at_ l hg =>
    intro o hd hi ho M hM
    obtain ⟨M, rfl⟩ : ∃ k, M = k + 1 := ⟨M - 1, by omega⟩
    have hll : l.length = p.length - at_ := by rw [← hd, List.length_drop]
    refine ⟨.brk o, iter_end ?_, by simp [ans, Ou.on]⟩
    simp only [s11_b1]
    rw [if_neg (by omega)]
  | @bad at_ l c r e hr ht =>
    intro o hd hi ho M hM
    obtain ⟨M, rfl⟩ : ∃ k, M = k + 1 := ⟨M - 1, by omega⟩
    have hd' : p.drop (at_ + gapC false l) = c :: r := by rw [← List.drop_drop, hd, hr]
    obtain ⟨hlt, _, _⟩ := drop_get hd'
    refine ⟨.ret ([], e, ((at_ + gapC false l : Nat) : Int)), iter_end ?_, rfl⟩
    simp only [s11_b1]
    rw [if_pos (by omega), s20_eq hd' hp hN]
    simp only [Option.bind_some, tokS, ht, Sum.elim_inr]
  | @tok at_ l c r k n v ts e hr ht hx ih =>
    intro o hd hi ho M hM
    obtain ⟨M, rfl⟩ : ∃ k, M = k + 1 := ⟨M - 1, by omega⟩
    obtain ⟨n1, n2⟩ := tokR_len ht
    have hd' : p.drop (at_ + gapC false l) = c :: r := by rw [← List.drop_drop, hd, hr]
    obtain ⟨hlt, _, _⟩ := drop_get hd'
    have hll : r.length + 1 = p.length - (at_ + gapC false l) := by rw [← List.length_drop, hd', List.length_cons]
    simp only [List.length_cons] at ho hM
    have hstep : s11_b1 N p o ((at_ + gapC false l : Nat) : Int) = some (.inl (o ++ [⟨k, (c :: r).take n, v, ((at_ + gapC false l : Nat) : Int)⟩], ((at_ + gapC false l + n + gapC false ((c :: r).drop n) : Nat) : Int))) := by
      simp only [s11_b1]
      rw [if_pos (by omega), s20_eq hd' hp hN]
      simp only [Option.bind_some, tokS, ht, Sum.elim_inl]
      rw [if_neg (by omega), grd_pos (by omega), List.length_take, List.length_cons, Nat.min_eq_left (by omega)]
      rw [wr (by omega) (by omega), show ((at_ + gapC false l : Nat) : Int) + (n : Int) = ((at_ + gapC false l + n : Nat) : Int) by omega, s19_eq (by omega) hN hp, ← List.drop_drop, hd']
      rfl
    rw [iter_step hstep]
    obtain ⟨q, e1, e2⟩ := ih (o ++ [⟨k, (c :: r).take n, v, ((at_ + gapC false l : Nat) : Int)⟩]) (by rw [← List.drop_drop, hd']) (by omega) (by simp; omega) (M := M) (by omega)
    refine ⟨q, e1, ?_⟩
    rw [e2]
    cases e <;> simp [ans]
theorem s11_of {N : Nat} {p : Str} (hN : 20000 < N) (hp : p.length ≤ 20000) {ts : List Token} {e : Option (Int × Nat)} (h : Lx 0 p ts e) (hc : ts.length < 5000) : s11 N p = some (ans [] ts e) := by
  simp only [s11]
  rw [if_neg (by omega), show s19 N p 0 = s19 N p ((0 : Nat) : Int) by rfl, s19_eq (by omega) (by omega) (by omega)]
  simp only [Option.bind_some, List.drop_zero]
  obtain ⟨q, e1, e2⟩ := s11_loop (N := N) (by omega) (by omega) h [] rfl (by omega) (by simpa using hc) (M := N) (by omega)
  rw [e1]
  exact e2
theorem s11_ok {N : Nat} {p : Str} (hN : 20000 < N) (hp : p.length ≤ 20000) {ts : List Token} (h : Lx 0 p ts none) (hc : ts.length < 5000) : s11 N p = some (ts, 0, 0) := s11_of hN hp h hc
theorem s11_bad {N : Nat} {p : Str} (hN : 20000 < N) (hp : p.length ≤ 20000) {ts : List Token} {k : Int} {a : Nat} (h : Lx 0 p ts (some (k, a))) (hc : ts.length < 5000) : s11 N p = some ([], k, (a : Int)) := s11_of hN hp h hc
end Go.Proofs.Lex
