/- For every argument of bulk at most 1048576, estoppellaw09.IncludeCopies returns true and leaves its arguments as they were. (Part 4 of what its proof rests on.) -/
import Derived.Test.YtpbhebjfblidlaaPc
set_option linter.unusedSimpArgs false
set_option linter.unusedVariables false
set_option linter.deprecated false
namespace Go.Proofs.Inc
open Go.Aw
set_option maxRecDepth 100000
attribute [-go_sem] nisA_sl appA_nil
def zr45_0 : List AO := [⟨some 4, none, .box (.t 0)⟩,
  ⟨some 5, none, .mov (.c (.bool false))⟩]
def zr45_1 : List AO := [⟨some 6, none, .fadr 0 (.t 4)⟩,
  ⟨some 7, none, .load false 1 (.t 6)⟩,
  ⟨some 8, none, .callF 35 [(.t 7)]⟩,
  ⟨some 9, none, .mov (.t 8)⟩,
  ⟨some 10, some (9, true), .fadr 1 (.t 4)⟩,
  ⟨some 11, some (9, true), .load false 1 (.t 10)⟩,
  ⟨some 12, some (9, true), .load false 1 (.t 1)⟩,
  ⟨some 13, some (9, true), .bin .eql (.t 11) (.t 12)⟩,
  ⟨some 14, none, .pick (.t 9) (.t 13) (.c (.bool false))⟩,
  ⟨some 15, none, .mov (.t 14)⟩,
  ⟨some 16, some (15, false), .fadr 0 (.t 4)⟩,
  ⟨some 17, some (15, false), .load false 1 (.t 16)⟩,
  ⟨some 18, some (15, false), .bin .eql (.t 17) (.c (.int .i64 14))⟩,
  ⟨some 19, some (15, false), .mov (.t 18)⟩,
  ⟨some 20, some (19, true), .load false 1 (.t 2)⟩,
  ⟨some 21, some (15, false), .pick (.t 19) (.t 20) (.c (.bool false))⟩,
  ⟨some 22, some (15, false), .mov (.t 21)⟩,
  ⟨some 23, some (22, true), .fadr 1 (.t 4)⟩,
  ⟨some 24, some (22, true), .load false 1 (.t 23)⟩,
  ⟨some 25, some (22, true), .load false 1 (.t 3)⟩,
  ⟨some 26, some (22, true), .bin .eql (.t 24) (.t 25)⟩,
  ⟨some 27, some (15, false), .pick (.t 22) (.t 26) (.c (.bool false))⟩,
  ⟨some 28, none, .pick (.t 15) (.c (.bool true)) (.t 27)⟩,
  ⟨some 5, none, .mov (.t 28)⟩]
def zc45_0 : AC := .seq (.reg zr45_1) .ret
def zc45_1 : AC := .seq (.reg zr45_0) zc45_0
def zc45 : AC := zc45_1
theorem ok45 : Try.f45.body.bind (compCode Try.prog 29) = some zc45 := by kernel_rfl
theorem nt45 : Try.f45.ntmps = 29 := by kernel_rfl
theorem res45 : compRes Try.prog Try.f45.results.toList = some [.tmp 5] := by kernel_rfl
def s45 (N : Nat) (p1 : Item) (p2 : List UInt8) (p3 : Bool) (p4 : List UInt8) : Option Bool :=
  (s35 N p1.Kind).bind fun x2 =>
  bif x2 then
    if p1.Name = p2 then
      some true
    else
      if p1.Kind = 14 then
        bif p3 then
          some (decide (p1.Name = p4))
        else
          some false
      else
        some false
  else
    if p1.Kind = 14 then
      bif p3 then
        some (decide (p1.Name = p4))
      else
        some false
    else
      some false
set_option maxHeartbeats 4000000 in
theorem c45 (N : Nat) (p1 : Item) (p2 : List UInt8) (p3 : Bool) (p4 : List UInt8) (r : Bool) (h : s45 N p1 p2 p3 p4 = some r) : PureC Try.prog 45 [.agg (Item.cs p1), .ref ([.str p2]), .ref ([.bool p3]), .ref ([.str p4])] (.bool r) := by
 refine fn_intro' 29 Try.func45 nt45 ok45 res45 (by simp) fun X hP hn hd hr => ?_
 unfold s45 at h
 repeat refine awp_seq ?_
 refine awp_reg fun K Q hK hQ => ?_
 simp -implicitDefEqProofs (disch := first | omega | rfl) only [go_sem, simprocAttr, zr45_0, argS]
 intro b1
 refine hK _ _ ?_; clear hK hQ K Q
 repeat refine awp_seq ?_
 refine awp_reg fun K Q hK hQ => ?_
 simp -implicitDefEqProofs (disch := first | omega | rfl) only [go_sem, simprocAttr, zr45_1]
 have hh := bnd_some h; clear h; obtain ⟨x2, hx3, h⟩ := hh
 refine call_pure hP (c35 N p1.Kind x2 hx3) ?_
 rcases cnd_some h with ⟨hc4, h⟩ | ⟨hc4, h⟩
 · rcases ite_some h with ⟨hc5, h⟩ | ⟨hc5, h⟩
   · simp -implicitDefEqProofs (disch := first | omega | rfl) only [go_sem, simprocAttr, hc4, eq_true hc5]
     refine hK _ _ ?_; clear hK hQ K Q
     obtain rfl := som_inj h
     repeat refine awp_seq ?_
     refine awp_ret ?_
     repeat first | refine then_ret ?_ | refine blk_ret ?_
     exact rtp
   rcases ite_some h with ⟨hc6, h⟩ | ⟨hc6, h⟩
   · rcases cnd_some h with ⟨hc7, h⟩ | ⟨hc7, h⟩
     · simp -implicitDefEqProofs (disch := first | omega | rfl) only [go_sem, simprocAttr, hc4, eq_false hc5, eq_true hc6, hc7]
       refine hK _ _ ?_; clear hK hQ K Q
       obtain rfl := som_inj h
       repeat refine awp_seq ?_
       refine awp_ret ?_
       repeat first | refine then_ret ?_ | refine blk_ret ?_
       exact rtp
     simp -implicitDefEqProofs (disch := first | omega | rfl) only [go_sem, simprocAttr, hc4, eq_false hc5, eq_true hc6, hc7]
     refine hK _ _ ?_; clear hK hQ K Q
     obtain rfl := som_inj h
     repeat refine awp_seq ?_
     refine awp_ret ?_
     repeat first | refine then_ret ?_ | refine blk_ret ?_
     exact rtp
   simp -implicitDefEqProofs (disch := first | omega | rfl) only [go_sem, simprocAttr, hc4, eq_false hc5, eq_false hc6]
   refine hK _ _ ?_; clear hK hQ K Q
   obtain rfl := som_inj h
   repeat refine awp_seq ?_
   refine awp_ret ?_
   repeat first | refine then_ret ?_ | refine blk_ret ?_
   exact rtp
 rcases ite_some h with ⟨hc8, h⟩ | ⟨hc8, h⟩
 · rcases cnd_some h with ⟨hc9, h⟩ | ⟨hc9, h⟩
   · simp -implicitDefEqProofs (disch := first | omega | rfl) only [go_sem, simprocAttr, hc4, eq_true hc8, hc9]
     refine hK _ _ ?_; clear hK hQ K Q
     obtain rfl := som_inj h
     repeat refine awp_seq ?_
     refine awp_ret ?_
     repeat first | refine then_ret ?_ | refine blk_ret ?_
     exact rtp
   simp -implicitDefEqProofs (disch := first | omega | rfl) only [go_sem, simprocAttr, hc4, eq_true hc8, hc9]
   refine hK _ _ ?_; clear hK hQ K Q
   obtain rfl := som_inj h
   repeat refine awp_seq ?_
   refine awp_ret ?_
   repeat first | refine then_ret ?_ | refine blk_ret ?_
   exact rtp
 simp -implicitDefEqProofs (disch := first | omega | rfl) only [go_sem, simprocAttr, hc4, eq_false hc8]
 refine hK _ _ ?_; clear hK hQ K Q
 obtain rfl := som_inj h
 repeat refine awp_seq ?_
 refine awp_ret ?_
 repeat first | refine then_ret ?_ | refine blk_ret ?_
 exact rtp
def zr47_0 : List AO := [⟨some 4, none, .mov (.c (.int .i64 0))⟩]
def zr47_1 : List AO := [⟨some 6, none, .mov (.t 0)⟩,
  ⟨some 7, none, .len (.t 6)⟩,
  ⟨some 8, none, .mov (.c (.int .i64 0))⟩]
def zr47_2 : List AO := [⟨some 9, none, .bin .lss (.t 8) (.t 7)⟩]
def zr47_3 : List AO := [⟨some 10, none, .mov (.t 8)⟩,
  ⟨some 5, none, .mov (.t 10)⟩]
def zr47_4 : List AO := [⟨some 11, none, .mov (.t 1)⟩,
  ⟨some 12, none, .mov (.t 0)⟩,
  ⟨some 13, none, .mov (.t 5)⟩,
  ⟨some 14, none, .iadr 33 (.t 12) (.t 13)⟩,
  ⟨some 15, none, .load true 33 (.t 14)⟩,
  ⟨some 16, none, .callV (.t 11) [(.t 15)]⟩]
def zr47_5 : List AO := [⟨some 17, none, .mov (.t 5)⟩,
  ⟨some 4, none, .mov (.t 17)⟩]
def zc47_0 : AC := .seq (.reg zr47_5) .ret
def zc47_1 : AC := .cond (.t 16) zc47_0 .skip
def zc47_2 : AC := .seq (.reg zr47_4) zc47_1
def zc47_3 : AC := .seq (.reg zr47_3) zc47_2
def zr47_6 : List AO := [⟨some 18, none, .bin .add (.t 8) (.c (.int .i64 1))⟩,
  ⟨some 8, none, .mov (.t 18)⟩]
def zc47_4 : AC := .reg zr47_6
def zc47_5 : AC := .seq (.block 1 zc47_3) zc47_4
def zc47_6 : AC := .seq (.cond (.t 9) .skip (.exit 0)) zc47_5
def zc47_7 : AC := .seq (.reg zr47_2) zc47_6
def zc47_8 : AC := .loop zc47_7
def zc47_9 : AC := .block 0 zc47_8
def zr47_7 : List AO := [⟨some 4, none, .mov (.c (.int .i64 (-1)))⟩]
def zc47_10 : AC := .seq (.reg zr47_7) .ret
def zc47_11 : AC := .seq (.seq (.reg zr47_1) zc47_9) zc47_10
def zc47_12 : AC := .seq (.reg zr47_0) zc47_11
def zc47 : AC := zc47_12
theorem ok47 : Try.f47.body.bind (compCode Try.prog 19) = some zc47 := by kernel_rfl
theorem nt47 : Try.f47.ntmps = 19 := by kernel_rfl
theorem res47 : compRes Try.prog Try.f47.results.toList = some [.tmp 4] := by kernel_rfl
theorem okf45 : okF Try.prog 45 = true := by kernel_rfl
attribute [go_sem] zr47_0 zr47_1 zr47_2 zr47_3 zr47_5 zr47_6 zr47_7
def s47_b1 (N : Nat) (p1 : List Item) (p2 : List UInt8) (p3 : Bool) (p4 : List UInt8) (x1 : Int) : Option (((Int) ⊕ (Ou (Unit) (Int)))) :=
  if x1 < (List.length p1 : Int) then
    grd (0 ≤ x1) <|
    (s45 N (p1[x1.toNat]!) p2 p3 p4).bind fun x5 =>
    bif x5 then
      some (.inr (.ret x1))
    else
      some (.inl (IntKind.wrap .i64 (x1 + 1)))
  else
    some (.inr (.brk ()))
def s47 (N : Nat) (p1 : List Item) (p2 : List UInt8) (p3 : Bool) (p4 : List UInt8) : Option Int :=
  (iter (fun p => s47_b1 N p1 p2 p3 p4 p) N 0).bind fun o2 => o2.on (fun a2 =>
    some (-1))
    (fun a2r => some a2r)
set_option maxHeartbeats 4000000 in
theorem c47 (N : Nat) (p1 : List Item) (p2 : List UInt8) (p3 : Bool) (p4 : List UInt8) (r : Int) (h : s47 N p1 p2 p3 p4 = some r) : PureC Try.prog 47 [.sl (List.map Item.av p1), .fn (.func 45) [] [.ref ([.str p2]), .ref ([.bool p3]), .ref ([.str p4])]] (.int .i64 r) := by
 refine fn_intro' 19 Try.func47 nt47 ok47 res47 (by simp) fun X hP hn hd hr => ?_
 unfold s47 at h
 repeat refine awp_seq ?_
 refine rg (h := ?_)
 repeat refine awp_seq ?_
 refine rg (h := ?_)
 repeat refine awp_seq ?_
 refine awp_block ?_
 obtain ⟨o2, ho2, hO2⟩ := bnd_some h
 repeat refine awp_seq ?_
 refine awp_loop (ι := {p : Nat × Int // iter (fun p => s47_b1 N p1 p2 p3 p4 p) p.1 p.2 = some o2}) (fun p => [(0, .sl (List.map Item.av p1)), (1, .fn (.func 45) [] [.ref ([.str p2]), .ref ([.bool p3]), .ref ([.str p4])]), (7, .int .i64 (List.length p1 : Int)), (8, .int .i64 p.1.2)]) (fun p => []) (fun p => p.1.1) ⟨⟨N, 0⟩, ho2⟩ ?_ ?_
 · refine ent_le' ([]) ([]) ([]) rfl (List.Perm.refl _) ?_ ?_
   · simp -implicitDefEqProofs (disch := first | omega | rfl) only [go_sem, simprocAttr, subF_cons, subF_nil]
     exact ⟨(.keep _), (.fnL .nil (.cons (.keep _) (.cons (.keep _) (.cons (.keep _) .nil)))), (.keep _), (.keep _)⟩
   · exact .nil
 rintro ⟨⟨n2, x1⟩, hi2⟩
 obtain ⟨m2, q2, rfl, h, hm2⟩ := iter_some hi2
 try dsimp only at h
 try dsimp only
 unfold s47_b1 at h
 repeat refine awp_seq ?_
 refine rg (h := ?_)
 rcases ite_some h with ⟨hc3, h⟩ | ⟨hc3, h⟩
 · repeat refine awp_seq ?_
   refine awp_then (by simp -implicitDefEqProofs (disch := first | omega | rfl) only [go_sem, simprocAttr, eq_true hc3]) ?_
   repeat refine awp_seq ?_
   refine awp_skip ?_
   repeat refine awp_seq ?_
   refine awp_block ?_
   repeat refine awp_seq ?_
   refine rg (h := ?_)
   repeat refine awp_seq ?_
   refine awp_reg fun K Q hK hQ => ?_
   obtain ⟨hg4, h⟩ := grd_some h
   simp -implicitDefEqProofs (disch := first | omega | rfl) only [go_sem, simprocAttr, zr47_4, hP, hide_P, okf45, eq_true hc3, eq_true hg4]
   have hh := bnd_some h; clear h; obtain ⟨x5, hx6, h⟩ := hh
   refine call_pure hP (c45 N (p1[x1.toNat]!) p2 p3 p4 x5 hx6) ?_
   simp -implicitDefEqProofs (disch := first | omega | rfl) only [go_sem, simprocAttr]
   refine hK _ _ ?_; clear hK hQ K Q
   rcases cnd_some h with ⟨hc7, h⟩ | ⟨hc7, h⟩
   · repeat refine awp_seq ?_
     refine awp_then (by simp -implicitDefEqProofs (disch := first | omega | rfl) only [go_sem, simprocAttr, hc7]) ?_
     repeat refine awp_seq ?_
     refine rg (h := ?_)
     obtain rfl := som_inj h
     try dsimp only at hm2
     subst hm2
     simp only [Ou.on_ret] at hO2
     obtain rfl := som_inj hO2
     repeat refine awp_seq ?_
     refine awp_ret ?_
     repeat first | refine then_ret ?_ | refine blk_ret ?_
     exact rtp
   repeat refine awp_seq ?_
   refine awp_else (by simp -implicitDefEqProofs (disch := first | omega | rfl) only [go_sem, simprocAttr, hc7]) ?_
   repeat refine awp_seq ?_
   refine awp_skip ?_
   repeat refine awp_seq ?_
   refine rg (h := ?_)
   obtain rfl := som_inj h
   try dsimp only at hm2
   refine ⟨⟨⟨m2, IntKind.wrap .i64 (x1 + 1)⟩, hm2⟩, Nat.lt_succ_self _, ?_⟩
   refine ent_le' ([]) ([]) ([]) rfl (List.Perm.refl _) ?_ ?_
   · simp -implicitDefEqProofs (disch := first | omega | rfl) only [go_sem, simprocAttr, subF_cons, subF_nil]
     exact ⟨(.keep _), (.fnL .nil (.cons (.keep _) (.cons (.keep _) (.cons (.keep _) .nil)))), (.keep _), (.keep _)⟩
   · exact .nil
 repeat refine awp_seq ?_
 refine awp_else (by simp -implicitDefEqProofs (disch := first | omega | rfl) only [go_sem, simprocAttr, eq_false hc3]) ?_
 repeat refine awp_seq ?_
 refine awp_exit ?_
 repeat' (first | refine then_exit ?_ | refine exit_here ?_ | refine exit_on rfl ?_)
 obtain rfl := som_inj h
 try dsimp only at hm2
 subst hm2
 simp only [Ou.on_brk] at hO2
 repeat refine awp_seq ?_
 refine rg (h := ?_)
 obtain rfl := som_inj hO2
 repeat refine awp_seq ?_
 refine awp_ret ?_
 repeat first | refine then_ret ?_ | refine blk_ret ?_
 exact rtp
def zr44_0 : List AO := [⟨some 4, none, .mov (.c (.bool false))⟩]
def zr44_1 : List AO := [⟨some 5, none, .mov (.t 0)⟩,
  ⟨some 6, none, .mov (.t 1)⟩,
  ⟨some 7, none, .callF 47 [(.t 5), (.t 6)]⟩,
  ⟨some 8, none, .bin .geq (.t 7) (.c (.int .i64 0))⟩,
  ⟨some 4, none, .mov (.t 8)⟩]
def zc44_0 : AC := .seq (.reg zr44_1) .ret
def zc44_1 : AC := .seq (.reg zr44_0) zc44_0
def zc44 : AC := zc44_1
theorem ok44 : Try.f44.body.bind (compCode Try.prog 9) = some zc44 := by kernel_rfl
theorem nt44 : Try.f44.ntmps = 9 := by kernel_rfl
theorem res44 : compRes Try.prog Try.f44.results.toList = some [.tmp 4] := by kernel_rfl
attribute [go_sem] zr44_0
def s44 (N : Nat) (p1 : List Item) (p2 : List UInt8) (p3 : Bool) (p4 : List UInt8) : Option Bool :=
  (s47 N p1 p2 p3 p4).bind fun x1 =>
  some (decide (0 ≤ x1))
set_option maxHeartbeats 4000000 in
theorem c44 (N : Nat) (p1 : List Item) (p2 : List UInt8) (p3 : Bool) (p4 : List UInt8) (r : Bool) (h : s44 N p1 p2 p3 p4 = some r) : PureC Try.prog 44 [.sl (List.map Item.av p1), .fn (.func 45) [] [.ref ([.str p2]), .ref ([.bool p3]), .ref ([.str p4])]] (.bool r) := by
 refine fn_intro' 9 Try.func44 nt44 ok44 res44 (by simp) fun X hP hn hd hr => ?_
 unfold s44 at h
 repeat refine awp_seq ?_
 refine rg (h := ?_)
 repeat refine awp_seq ?_
 refine awp_reg fun K Q hK hQ => ?_
 simp -implicitDefEqProofs (disch := first | omega | rfl) only [go_sem, simprocAttr, zr44_1]
 have hh := bnd_some h; clear h; obtain ⟨x1, hx2, h⟩ := hh
 refine call_pure hP (c47 N p1 p2 p3 p4 x1 hx2) ?_
 simp -implicitDefEqProofs (disch := first | omega | rfl) only [go_sem, simprocAttr]
 refine hK _ _ ?_; clear hK hQ K Q
 obtain rfl := som_inj h
 repeat refine awp_seq ?_
 refine awp_ret ?_
 repeat first | refine then_ret ?_ | refine blk_ret ?_
 exact rtp
def zr41_0 : List AO := [⟨some 2, none, .box (.t 0)⟩,
  ⟨some 3, none, .box (.t 1)⟩,
  ⟨some 4, none, .mov (.c (.bool false))⟩]
def zr41_1 : List AO := [⟨some 9, none, .load false 1 (.t 3)⟩,
  ⟨some 10, none, .callF 43 [(.t 9), (.c (.str [46]))]⟩,
  ⟨some 8, none, .mov (.t 10)⟩,
  ⟨some 11, none, .ext 0 (.t 8)⟩,
  ⟨some 12, none, .ext 1 (.t 8)⟩,
  ⟨some 13, none, .ext 2 (.t 8)⟩,
  ⟨some 5, none, .alloc [.str []]⟩,
  ⟨some 7, none, .alloc [.bool false]⟩,
  ⟨none, none, .store 1 (.t 5) (.t 11)⟩,
  ⟨some 6, none, .mov (.t 12)⟩,
  ⟨none, none, .store 1 (.t 7) (.t 13)⟩]
def zr41_2 : List AO := [⟨some 14, none, .fadr 32 (.t 2)⟩,
  ⟨some 15, none, .load false 1 (.t 14)⟩,
  ⟨some 16, none, .mkfn (.func 45) [] [(.t 3), (.t 7), (.t 5)]⟩,
  ⟨some 17, none, .callF 44 [(.t 15), (.t 16)]⟩,
  ⟨some 4, none, .mov (.t 17)⟩]
def zc41_0 : AC := .seq (.reg zr41_2) .ret
def zc41_1 : AC := .seq (.reg zr41_1) zc41_0
def zc41_2 : AC := .seq (.reg zr41_0) zc41_1
def zc41 : AC := zc41_2
theorem ok41 : Try.f41.body.bind (compCode Try.prog 18) = some zc41 := by kernel_rfl
theorem nt41 : Try.f41.ntmps = 18 := by kernel_rfl
theorem res41 : compRes Try.prog Try.f41.results.toList = some [.tmp 4] := by kernel_rfl
def s41 (N : Nat) (p1 : Item) (p2 : List UInt8) : Option Bool :=
  (s43 N p2).bind fun x3 =>
  (s44 N p1.Items p2 x3.2.2 x3.1).bind fun x7 =>
  some x7
set_option maxHeartbeats 4000000 in
theorem c41 (N : Nat) (p1 : Item) (p2 : List UInt8) (r : Bool) (h : s41 N p1 p2 = some r) : PureC Try.prog 41 [.agg (Item.cs p1), .str p2] (.bool r) := by
 refine fn_intro' 18 Try.func41 nt41 ok41 res41 (by simp) fun X hP hn hd hr => ?_
 unfold s41 at h
 repeat refine awp_seq ?_
 refine awp_reg fun K Q hK hQ => ?_
 simp -implicitDefEqProofs (disch := first | omega | rfl) only [go_sem, simprocAttr, zr41_0, argS]
 intro b1 b2
 refine hK _ _ ?_; clear hK hQ K Q
 repeat refine awp_seq ?_
 refine awp_le' (s' := [(2, .ptr 2 b1 0), (3, .ref ([.str p2]))]) (own' := (2, b1, .cells (Item.cs p1)) :: []) (_ :: []) (_ :: []) (_ :: _ :: []) rfl (List.Perm.refl _) ?_ ?_ ?_
 · simp -implicitDefEqProofs (disch := first | omega | rfl) only [go_sem, simprocAttr, subF_cons, subF_nil]
   exact ⟨(.lptr ..), (frz_ptr (by simp -implicitDefEqProofs (disch := first | omega | rfl) only [go_sem, simprocAttr]))⟩
 · exact (.cell .nil)
 repeat refine awp_seq ?_
 refine awp_reg fun K Q hK hQ => ?_
 simp -implicitDefEqProofs (disch := first | omega | rfl) only [go_sem, simprocAttr, zr41_1]
 have hh := bnd_some h; clear h; obtain ⟨x3, hx4, h⟩ := hh
 refine call_pure hP (c43 N p2 x3 hx4) ?_
 simp -implicitDefEqProofs (disch := first | omega | rfl) only [go_sem, simprocAttr]
 intro b5 b6
 refine hK _ _ ?_; clear hK hQ K Q
 repeat refine awp_seq ?_
 refine awp_le' (s' := [(2, .ptr 2 b1 0), (3, .ref ([.str p2])), (5, .ref ([.str x3.1])), (7, .ref ([.bool x3.2.2]))]) (own' := (2, b1, .cells (Item.cs p1)) :: []) (_ :: _ :: []) (_ :: []) (_ :: _ :: _ :: []) rfl (List.Perm.trans perm_cc (List.Perm.refl _)) ?_ ?_ ?_
 · simp -implicitDefEqProofs (disch := first | omega | rfl) only [go_sem, simprocAttr, subF_cons, subF_nil]
   exact ⟨(.lptr ..), (.keep _), (frz_ptr (by simp -implicitDefEqProofs (disch := first | omega | rfl) only [go_sem, simprocAttr])), (frz_ptr (by simp -implicitDefEqProofs (disch := first | omega | rfl) only [go_sem, simprocAttr]))⟩
 · exact (.cell .nil)
 repeat refine awp_seq ?_
 refine awp_reg fun K Q hK hQ => ?_
 simp -implicitDefEqProofs (disch := first | omega | rfl) only [go_sem, simprocAttr, zr41_2]
 have hh := bnd_some h; clear h; obtain ⟨x7, hx8, h⟩ := hh
 refine call_pure hP (c44 N p1.Items p2 x3.2.2 x3.1 x7 hx8) ?_
 simp -implicitDefEqProofs (disch := first | omega | rfl) only [go_sem, simprocAttr]
 refine hK _ _ ?_; clear hK hQ K Q
 obtain rfl := som_inj h
 repeat refine awp_seq ?_
 refine awp_ret ?_
 repeat first | refine then_ret ?_ | refine blk_ret ?_
 exact rtp
def zr42_0 : List AO := [⟨some 2, none, .mov (.c (.nil))⟩]
def zr42_1 : List AO := [⟨some 3, none, .mov (.t 0)⟩,
  ⟨some 4, none, .nilS false (.t 3)⟩]
def zr42_2 : List AO := [⟨some 2, none, .mov (.c (.nil))⟩]
def zc42_0 : AC := .seq (.reg zr42_2) .ret
def zc42_1 : AC := .cond (.t 4) zc42_0 .skip
def zr42_3 : List AO := [⟨some 5, none, .mkrow 1 0 [.str []] []⟩,
  ⟨some 6, none, .mov (.t 0)⟩,
  ⟨some 7, none, .app 1 16 (.t 5) (.t 6)⟩,
  ⟨some 2, none, .mov (.t 7)⟩]
def zc42_2 : AC := .seq (.reg zr42_3) .ret
def zc42_3 : AC := .seq (.seq (.reg zr42_1) zc42_1) zc42_2
def zc42_4 : AC := .seq (.reg zr42_0) zc42_3
def zc42 : AC := zc42_4
theorem ok42 : Try.f42.body.bind (compCode Try.prog 8) = some zc42 := by kernel_rfl
theorem nt42 : Try.f42.ntmps = 8 := by kernel_rfl
theorem res42 : compRes Try.prog Try.f42.results.toList = some [.tmp 2] := by kernel_rfl
attribute [go_sem] zr42_0 zr42_2
def o42 (p1 : List (List UInt8)) (r : (List (List UInt8))) : Res → Own → Prop := fun q o => ∃ (e0 : Option Nat), (e0 = none → r = []) ∧ q = .val (accV 990 e0 (List.length r) 1) ∧ o = accO 990 e0 (flt AV.str r) []
def s42 (N : Nat) (p1 : List (List UInt8)) : Option ((List (List UInt8))) :=
  grd (List.length p1 * 16 ≤ 140737488355328 ∧ List.length p1 ≤ 140737488355328) <|
  some p1
set_option maxHeartbeats 4000000 in
theorem c42 (N : Nat) (p1 : List (List UInt8)) (r : (List (List UInt8))) (h : s42 N p1 = some r) : FnC Try.prog 42 [.sl (List.map AV.str p1)] ([]) (o42 p1 r) := by
 refine fn_intro' 8 Try.func42 nt42 ok42 res42 (by simp) fun X hP hn hd hr => ?_
 unfold s42 at h
 repeat refine awp_seq ?_
 refine rg (h := ?_)
 repeat refine awp_seq ?_
 refine awp_reg fun K Q hK hQ => ?_
 simp -implicitDefEqProofs (disch := first | omega | rfl) only [go_sem, simprocAttr, zr42_1]
 refine nis_sl ?_ (fun hn1 => ?_)
 · simp -implicitDefEqProofs (disch := first | omega | rfl) only [go_sem, simprocAttr]
   refine hK _ _ ?_; clear hK hQ K Q
   repeat refine awp_seq ?_
   refine awp_else (by rfl) ?_
   repeat refine awp_seq ?_
   refine awp_skip ?_
   repeat refine awp_seq ?_
   refine awp_reg fun K Q hK hQ => ?_
   obtain ⟨⟨hg3, hg4⟩, h⟩ := grd_some h
   simp -implicitDefEqProofs (disch := first | omega | rfl) only [go_sem, simprocAttr, zr42_3, eq_true hg3, eq_true hg4]
   intro b2 b5
   refine hK _ _ ?_; clear hK hQ K Q
   obtain rfl := som_inj h
   repeat refine awp_seq ?_
   refine awp_le' (s' := [(2, accV 990 (some b5) (List.length p1) 1)]) (own' := accO 990 (some b5) (flt AV.str p1) []) ([]) (_ :: []) (_ :: []) rfl (List.Perm.refl _) ?_ ?_ ?_
   · simp -implicitDefEqProofs (disch := first | omega | rfl) only [go_sem, simprocAttr, subF_cons, subF_nil]
     exact (frz_lrow (by first | rfl | (simp; done) | ((try simp only [List.length_set, List.length_take]); omega)))
   · exact (.cell .nil)
   refine awp_ret ?_
   repeat' (first | refine then_ret ?_ | refine blk_ret ?_)
   refine ret_q ?_
   simp -implicitDefEqProofs (disch := first | omega | rfl) only [go_sem, simprocAttr]
   exact leaves_own (G := o42 p1 p1) ⟨(some b5), (fun h => by cases h), rfl, rfl⟩
 · replace h : (some []) = some r := by
     first | exact h | (try subst hn1); first | exact h | simpa [grd, hn1] using h
   simp -implicitDefEqProofs (disch := first | omega | rfl) only [go_sem, simprocAttr]
   refine hK _ _ ?_; clear hK hQ K Q
   repeat refine awp_seq ?_
   refine awp_then (by rfl) ?_
   repeat refine awp_seq ?_
   refine rg (h := ?_)
   obtain rfl := som_inj h
   repeat refine awp_seq ?_
   refine awp_le' (s' := [(2, accV 990 none (List.length ([] : List (List UInt8))) 1)]) (own' := accO 990 none (flt AV.str ([] : List (List UInt8))) []) ([]) ([]) ([]) rfl (List.Perm.refl _) ?_ ?_ ?_
   · simp -implicitDefEqProofs (disch := first | omega | rfl) only [go_sem, simprocAttr, subF_cons, subF_nil]
     exact (.keep _)
   · exact .nil
   refine awp_ret ?_
   repeat' (first | refine then_ret ?_ | refine blk_ret ?_)
   refine ret_q ?_
   simp -implicitDefEqProofs (disch := first | omega | rfl) only [go_sem, simprocAttr]
   exact leaves_own (G := o42 p1 []) ⟨none, (fun _ => rfl), rfl, rfl⟩
def o39_11 (p1 : List (List UInt8)) (p2 : Nat) (p3 : Item) (p4 : Item) (b900 : Nat) (r : Bool × (List (List UInt8))) : Res → Own → Prop := fun q o => List.length r.2 = List.length p1 ∧ q = .val (.bool r.1) ∧ o = (900, b900, .cells (flt AV.str r.2)) :: []
def s39_11 (N : Nat) (p1 : List (List UInt8)) (p2 : Nat) (p3 : Item) (p4 : Item) : Option (Bool × (List (List UInt8))) :=
  (s38 N p3.Names (p1[p2]!)).bind fun x1 =>
  if p1[p2]! = [] then
    some (false, p1)
  else
    if x1 < 0 then
      some (false, p1)
    else
      grd (0 ≤ x1 ∧ x1 < (List.length p4.Names : Int)) <|
      some (true, List.set p1 p2 (p4.Names[x1.toNat]!))
set_option maxHeartbeats 4000000 in
theorem c39_11 (N : Nat) (p1 : List (List UInt8)) (p2 : Nat) (p3 : Item) (p4 : Item) (b900 : Nat) (hip2 : p2 < List.length p1) (r : Bool × (List (List UInt8))) (h : s39_11 N p1 p2 p3 p4 = some r) : FnC Try.prog 39 [.ptr 900 b900 (p2), .ref (Item.cs p3), .ref (Item.cs p4)] ((900, b900, .cells (flt AV.str p1)) :: []) (o39_11 p1 p2 p3 p4 b900 r) := by
 refine fn_intro' 27 Try.func39 nt39 ok39 res39 (by simp) fun X hP hn hd hr => ?_
 unfold s39_11 at h
 repeat refine awp_seq ?_
 refine rg (h := ?_)
 repeat refine awp_seq ?_
 refine awp_regD' (_ :: []) ([]) (_ :: []) (by rw [hP]; exact mixed) rfl (List.Perm.refl _) fun K hK => ?_
 simp -implicitDefEqProofs (disch := first | omega | rfl) only [go_sem, simprocAttr, zr39_1, eq_true (show p2 + 1 ≤ List.length p1 by omega)]
 have hh := bnd_some h; clear h; obtain ⟨x1, hx2, h⟩ := hh
 refine call_pure hP (c38 N p3.Names (p1[p2]!) x1 hx2) ?_
 simp -implicitDefEqProofs (disch := first | omega | rfl) only [go_sem, simprocAttr]
 refine hK _ _ ?_; clear hK K
 repeat refine awp_seq ?_
 rcases ite_some h with ⟨hc3, h⟩ | ⟨hc3, h⟩
 · refine rg (by intro K Q; simp -implicitDefEqProofs (disch := first | omega | rfl) only [go_sem, simprocAttr, eq_true (show p2 + 1 ≤ List.length p1 by omega), eq_true hc3] <;> rfl) ?_
   repeat refine awp_seq ?_
   refine awp_then (by rfl) ?_
   repeat refine awp_seq ?_
   refine rg (h := ?_)
   obtain rfl := som_inj h
   repeat refine awp_seq ?_
   refine awp_le' (s' := [(4, .bool false)]) (own' := (900, b900, .cells (flt AV.str p1)) :: []) ([]) (_ :: []) (_ :: []) rfl (List.Perm.refl _) ?_ ?_ ?_
   · simp -implicitDefEqProofs (disch := first | omega | rfl) only [go_sem, simprocAttr, subF_cons, subF_nil]
     exact (.keep _)
   · exact (.cell .nil)
   refine awp_ret ?_
   repeat' (first | refine then_ret ?_ | refine blk_ret ?_)
   refine ret_q ?_
   simp -implicitDefEqProofs (disch := first | omega | rfl) only [go_sem, simprocAttr]
   exact leaves_own (G := o39_11 p1 p2 p3 p4 b900 (false, p1)) ⟨(by simp), rfl, rfl⟩
 refine rg (by intro K Q; simp -implicitDefEqProofs (disch := first | omega | rfl) only [go_sem, simprocAttr, eq_true (show p2 + 1 ≤ List.length p1 by omega), eq_false hc3] <;> rfl) ?_
 rcases ite_some h with ⟨hc4, h⟩ | ⟨hc4, h⟩
 · repeat refine awp_seq ?_
   refine awp_then (by simp -implicitDefEqProofs (disch := first | omega | rfl) only [go_sem, simprocAttr, eq_true hc4]) ?_
   repeat refine awp_seq ?_
   refine rg (h := ?_)
   obtain rfl := som_inj h
   repeat refine awp_seq ?_
   refine awp_le' (s' := [(4, .bool false)]) (own' := (900, b900, .cells (flt AV.str p1)) :: []) ([]) (_ :: []) (_ :: []) rfl (List.Perm.refl _) ?_ ?_ ?_
   · simp -implicitDefEqProofs (disch := first | omega | rfl) only [go_sem, simprocAttr, subF_cons, subF_nil]
     exact (.keep _)
   · exact (.cell .nil)
   refine awp_ret ?_
   repeat' (first | refine then_ret ?_ | refine blk_ret ?_)
   refine ret_q ?_
   simp -implicitDefEqProofs (disch := first | omega | rfl) only [go_sem, simprocAttr]
   exact leaves_own (G := o39_11 p1 p2 p3 p4 b900 (false, p1)) ⟨(by simp), rfl, rfl⟩
 repeat refine awp_seq ?_
 refine awp_else (by simp -implicitDefEqProofs (disch := first | omega | rfl) only [go_sem, simprocAttr, eq_false hc4]) ?_
 repeat refine awp_seq ?_
 refine awp_skip ?_
 repeat refine awp_seq ?_
 obtain ⟨⟨hg5, hg6⟩, h⟩ := grd_some h
 refine rg (by intro K Q; simp -implicitDefEqProofs (disch := first | omega | rfl) only [go_sem, simprocAttr, eq_true (show p2 + 1 ≤ List.length p1 by omega), eq_true hg5, eq_true hg6] <;> rfl) ?_
 repeat refine awp_seq ?_
 refine rg (h := ?_)
 obtain rfl := som_inj h
 repeat refine awp_seq ?_
 refine awp_le' (s' := [(4, .bool true)]) (own' := (900, b900, .cells (flt AV.str (List.set p1 p2 (p4.Names[x1.toNat]!)))) :: []) ([]) (_ :: []) (_ :: []) rfl (List.Perm.refl _) ?_ ?_ ?_
 · simp -implicitDefEqProofs (disch := first | omega | rfl) only [go_sem, simprocAttr, subF_cons, subF_nil]
   exact (.keep _)
 · exact (.cell .nil)
 refine awp_ret ?_
 repeat' (first | refine then_ret ?_ | refine blk_ret ?_)
 refine ret_q ?_
 simp -implicitDefEqProofs (disch := first | omega | rfl) only [go_sem, simprocAttr]
 exact leaves_own (G := o39_11 p1 p2 p3 p4 b900 (true, List.set p1 p2 (p4.Names[x1.toNat]!))) ⟨(by simp), rfl, rfl⟩
def zr34_0 : List AO := [⟨some 3, none, .box (.t 0)⟩,
  ⟨some 4, none, .box (.t 1)⟩,
  ⟨some 5, none, .box (.t 2)⟩,
  ⟨some 6, none, .alloc [.int .i64 0, .str [], .int .i64 0, .str [], .str [], .int .i64 0, .int .i64 0, .int .i64 0, .bool false, .str [], .int .i64 0, .bool false, .str [], .nil, .str [], .str [], .int .i64 0, .int .i64 0, .str [], .str [], .bool false, .str [], .str [], .bool false, .bool false, .bool false, .bool false, .bool false, .bool false, .bool false, .nil, .nil, .nil]⟩]
def zr34_1 : List AO := [⟨some 13, none, .mkfn (.func 39) [] [(.t 3), (.t 4)]⟩,
  ⟨some 7, none, .mov (.t 13)⟩]
def zr34_2 : List AO := [⟨some 15, none, .fadr 0 (.t 5)⟩,
  ⟨some 16, none, .load false 1 (.t 15)⟩,
  ⟨some 17, none, .callF 35 [(.t 16)]⟩,
  ⟨some 14, none, .mov (.t 17)⟩]
def zr34_3 : List AO := [⟨some 18, none, .fadr 3 (.t 5)⟩,
  ⟨some 19, none, .fadr 4 (.t 5)⟩,
  ⟨some 20, none, .fadr 14 (.t 5)⟩,
  ⟨some 21, none, .fadr 15 (.t 5)⟩,
  ⟨some 22, none, .fadr 18 (.t 5)⟩,
  ⟨some 23, none, .fadr 19 (.t 5)⟩,
  ⟨some 24, none, .fadr 22 (.t 5)⟩,
  ⟨some 25, none, .fadr 7 (.t 5)⟩,
  ⟨some 26, none, .fadr 2 (.t 25)⟩,
  ⟨some 27, none, .fadr 10 (.t 5)⟩,
  ⟨some 28, none, .fadr 2 (.t 27)⟩,
  ⟨some 29, none, .mkrow 1 9 [.lit (.pointer none)] [(0, 1, (.t 18)), (1, 1, (.t 19)), (2, 1, (.t 20)), (3, 1, (.t 21)), (4, 1, (.t 22)), (5, 1, (.t 23)), (6, 1, (.t 24)), (7, 1, (.t 26)), (8, 1, (.t 28))]⟩,
  ⟨some 30, none, .len (.t 29)⟩,
  ⟨some 31, none, .mov (.c (.int .i64 0))⟩]
def zr34_4 : List AO := [⟨some 32, none, .bin .lss (.t 31) (.t 30)⟩]
def zr34_5 : List AO := [⟨some 33, none, .iadr 1 (.t 29) (.t 31)⟩,
  ⟨some 34, none, .load false 1 (.t 33)⟩,
  ⟨some 9, none, .mov (.t 34)⟩]
def zr34_6 : List AO := [⟨some 35, none, .mov (.t 7)⟩,
  ⟨some 36, none, .mov (.t 9)⟩,
  ⟨some 37, none, .callV (.t 35) [(.t 36)]⟩]
def zc34_0 : AC := .reg zr34_6
def zc34_1 : AC := .seq (.reg zr34_5) zc34_0
def zr34_7 : List AO := [⟨some 38, none, .bin .add (.t 31) (.c (.int .i64 1))⟩,
  ⟨some 31, none, .mov (.t 38)⟩]
def zc34_2 : AC := .reg zr34_7
def zc34_3 : AC := .seq (.block 2 zc34_1) zc34_2
def zc34_4 : AC := .seq (.cond (.t 32) .skip (.exit 1)) zc34_3
def zc34_5 : AC := .seq (.reg zr34_4) zc34_4
def zc34_6 : AC := .loop zc34_5
def zc34_7 : AC := .block 1 zc34_6
def zr34_8 : List AO := [⟨some 39, none, .fadr 13 (.t 5)⟩,
  ⟨some 40, none, .load false 1 (.t 39)⟩,
  ⟨some 41, none, .callF 40 [(.t 40)]⟩,
  ⟨some 42, none, .fadr 13 (.t 5)⟩,
  ⟨none, none, .store 1 (.t 42) (.t 41)⟩]
def zr34_9 : List AO := [⟨some 43, none, .fadr 13 (.t 5)⟩,
  ⟨some 44, none, .load false 1 (.t 43)⟩,
  ⟨some 45, none, .len (.t 44)⟩,
  ⟨some 46, none, .mov (.c (.int .i64 0))⟩]
def zr34_10 : List AO := [⟨some 47, none, .bin .lss (.t 46) (.t 45)⟩]
def zr34_11 : List AO := [⟨some 48, none, .mov (.t 46)⟩,
  ⟨some 10, none, .mov (.t 48)⟩]
def zr34_12 : List AO := [⟨some 49, none, .fadr 13 (.t 5)⟩,
  ⟨some 50, none, .load false 1 (.t 49)⟩,
  ⟨some 51, none, .mov (.t 10)⟩,
  ⟨some 52, none, .iadr 2 (.t 50) (.t 51)⟩,
  ⟨some 53, none, .fadr 0 (.t 52)⟩,
  ⟨some 11, none, .mov (.t 53)⟩]
def zr34_13 : DT := (.pur ⟨some 54, none, .mov (.t 7)⟩ (.alt false ⟨some 55, none, .mov (.t 11)⟩ (.alt false ⟨some 56, none, .callV (.t 54) [(.t 55)]⟩ (.alt false ⟨some 57, none, .un .not (.t 56)⟩ (.alt false ⟨some 58, none, .mov (.t 57)⟩ (.pur ⟨some 59, some (58, true), .load true 33 (.t 3)⟩ (.alt false ⟨some 60, some (58, true), .mov (.t 11)⟩ (.alt false ⟨some 61, some (58, true), .nilc (.t 60)⟩ (.alt false ⟨some 62, some (58, true), .load false 1 (.t 61)⟩ (.alt false ⟨some 63, some (58, true), .callF 41 [(.t 59), (.t 62)]⟩ (.alt true ⟨some 64, none, .pick (.t 58) (.t 63) (.c (.bool false))⟩ .done .stop) .stop) .stop) .stop) .stop)) .stop) .stop) .stop) .stop))
def zr34_14 : DT := (.pur ⟨some 65, none, .mov (.t 11)⟩ (.pur ⟨some 66, none, .fadr 1 (.t 4)⟩ (.pur ⟨some 67, none, .load false 1 (.t 66)⟩ (.pur ⟨some 68, none, .bin .add (.t 67) (.c (.str [46]))⟩ (.alt false ⟨some 69, none, .mov (.t 11)⟩ (.alt false ⟨some 70, none, .nilc (.t 69)⟩ (.alt false ⟨some 71, none, .load false 1 (.t 70)⟩ (.alt false ⟨some 72, none, .bin .add (.t 68) (.t 71)⟩ (.alt false ⟨some 73, none, .nilc (.t 65)⟩ (.alt true ⟨none, none, .store 1 (.t 73) (.t 72)⟩ .done .stop) .stop) .stop) .stop) .stop) .stop)))))
def zc34_8 : AC := .regD zr34_14
def zc34_9 : AC := .cond (.t 64) zc34_8 .skip
def zc34_10 : AC := .seq (.regD zr34_13) zc34_9
def zc34_11 : AC := .seq (.reg zr34_12) zc34_10
def zc34_12 : AC := .seq (.reg zr34_11) zc34_11
def zr34_15 : List AO := [⟨some 74, none, .bin .add (.t 46) (.c (.int .i64 1))⟩,
  ⟨some 46, none, .mov (.t 74)⟩]
def zc34_13 : AC := .reg zr34_15
def zc34_14 : AC := .seq (.block 4 zc34_12) zc34_13
def zc34_15 : AC := .seq (.cond (.t 47) .skip (.exit 3)) zc34_14
def zc34_16 : AC := .seq (.reg zr34_10) zc34_15
def zc34_17 : AC := .loop zc34_16
def zc34_18 : AC := .block 3 zc34_17
def zc34_19 : AC := .seq (.reg zr34_9) zc34_18
def zc34_20 : AC := .seq (.reg zr34_8) zc34_19
def zc34_21 : AC := .seq (.seq (.reg zr34_3) zc34_7) zc34_20
def zr34_16 : List AO := [⟨some 76, none, .fadr 0 (.t 5)⟩,
  ⟨some 77, none, .load false 1 (.t 76)⟩,
  ⟨some 78, none, .bin .eql (.t 77) (.c (.int .i64 14))⟩,
  ⟨some 75, none, .mov (.t 78)⟩]
def zr34_17 : List AO := [⟨some 79, none, .fadr 31 (.t 5)⟩,
  ⟨some 80, none, .load false 1 (.t 79)⟩,
  ⟨some 81, none, .callF 42 [(.t 80)]⟩,
  ⟨some 82, none, .fadr 31 (.t 5)⟩,
  ⟨none, none, .store 1 (.t 82) (.t 81)⟩]
def zr34_18 : List AO := [⟨some 83, none, .fadr 31 (.t 5)⟩,
  ⟨some 84, none, .load false 1 (.t 83)⟩,
  ⟨some 85, none, .len (.t 84)⟩,
  ⟨some 86, none, .mov (.c (.int .i64 0))⟩]
def zr34_19 : List AO := [⟨some 87, none, .bin .lss (.t 86) (.t 85)⟩]
def zr34_20 : List AO := [⟨some 88, none, .mov (.t 86)⟩,
  ⟨some 12, none, .mov (.t 88)⟩]
def zr34_21 : List AO := [⟨some 89, none, .mov (.t 7)⟩,
  ⟨some 90, none, .fadr 31 (.t 5)⟩,
  ⟨some 91, none, .load false 1 (.t 90)⟩,
  ⟨some 92, none, .mov (.t 12)⟩,
  ⟨some 93, none, .iadr 1 (.t 91) (.t 92)⟩,
  ⟨some 94, none, .callV (.t 89) [(.t 93)]⟩]
def zc34_22 : AC := .reg zr34_21
def zc34_23 : AC := .seq (.reg zr34_20) zc34_22
def zr34_22 : List AO := [⟨some 95, none, .bin .add (.t 86) (.c (.int .i64 1))⟩,
  ⟨some 86, none, .mov (.t 95)⟩]
def zc34_24 : AC := .reg zr34_22
def zc34_25 : AC := .seq (.block 6 zc34_23) zc34_24
def zc34_26 : AC := .seq (.cond (.t 87) .skip (.exit 5)) zc34_25
def zc34_27 : AC := .seq (.reg zr34_19) zc34_26
def zc34_28 : AC := .loop zc34_27
def zc34_29 : AC := .block 5 zc34_28
def zc34_30 : AC := .seq (.reg zr34_18) zc34_29
def zc34_31 : AC := .seq (.reg zr34_17) zc34_30
def zc34_32 : AC := .cond (.t 75) zc34_31 .skip
def zc34_33 : AC := .seq (.reg zr34_16) zc34_32
def zc34_34 : AC := .cond (.t 14) zc34_21 zc34_33
def zc34_35 : AC := .seq (.reg zr34_2) zc34_34
def zr34_23 : DT := (.pur ⟨some 96, none, .fadr 1 (.t 4)⟩ (.pur ⟨some 97, none, .load false 1 (.t 96)⟩ (.pur ⟨some 98, none, .bin .add (.t 97) (.c (.str [46]))⟩ (.pur ⟨some 99, none, .fadr 1 (.t 5)⟩ (.pur ⟨some 102, none, .fadr 2 (.t 4)⟩ (.pur ⟨some 103, none, .load false 1 (.t 102)⟩ (.alt false ⟨some 100, none, .load false 1 (.t 99)⟩ (.alt false ⟨some 101, none, .bin .add (.t 98) (.t 100)⟩ (.alt false ⟨some 104, none, .fadr 1 (.t 5)⟩ (.alt false ⟨none, none, .store 1 (.t 104) (.t 101)⟩ (.alt false ⟨some 105, none, .fadr 2 (.t 5)⟩ (.alt true ⟨none, none, .store 1 (.t 105) (.t 103)⟩ .done .stop) .stop) .stop) .stop) .stop) .stop)))))))
def zr34_24 : List AO := [⟨some 106, none, .load true 33 (.t 5)⟩,
  ⟨none, none, .store 33 (.t 6) (.t 106)⟩]
def zc34_36 : AC := .seq (.reg zr34_24) .ret
def zc34_37 : AC := .seq (.regD zr34_23) zc34_36
def zc34_38 : AC := .seq (.block 0 zc34_35) zc34_37
def zc34_39 : AC := .seq (.reg zr34_1) zc34_38
def zc34_40 : AC := .seq (.reg zr34_0) zc34_39
def zc34 : AC := zc34_40
theorem ok34 : Try.f34.body.bind (compCode Try.prog 107) = some zc34 := by kernel_rfl
theorem nt34 : Try.f34.ntmps = 107 := by kernel_rfl
theorem res34 : compRes Try.prog Try.f34.results.toList = some [.cell true 33 6] := by kernel_rfl
theorem okf39 : okF Try.prog 39 = true := by kernel_rfl
attribute [go_sem] zr34_1 zr34_10 zr34_11 zr34_12 zr34_15 zr34_16 zr34_18 zr34_19 zr34_20 zr34_22 zr34_24 zr34_4 zr34_5 zr34_7 zr34_9
def s34_b1 (N : Nat) (p1 : Item) (p2 : Item) (x10 : (List Named)) (l14 : List Named) (x17 : Int) : Option ((((List Named) × Int) ⊕ ((List Named)))) :=
  if x17 < (List.length x10 : Int) then
    grd (0 ≤ x17 ∧ x17 < (List.length l14 : Int)) <|
    (s39_10 N l14 x17.toNat p1 p2).bind fun x27 =>
    bif x27.1 then
      some (.inl (x27.2, IntKind.wrap .i64 (x17 + 1)))
    else
      (s41 N p1 ((x27.2[x17.toNat]!).Name)).bind fun x31 =>
      bif x31 then
        grd (List.length p2.Name ≤ 9223372036854775806) <|
        grd (List.length (p2.Name ++ [46]) + List.length ((x27.2[x17.toNat]!).Name) ≤ 9223372036854775807) <|
        some (.inl (List.set x27.2 x17.toNat ({ x27.2[x17.toNat]! with Name := (p2.Name ++ [46]) ++ ((x27.2[x17.toNat]!).Name) }), IntKind.wrap .i64 (x17 + 1)))
      else
        some (.inl (x27.2, IntKind.wrap .i64 (x17 + 1)))
  else
    some (.inr l14)
def s34_k2 (N : Nat) (p1 : Item) (p2 : Item) (x9 : Item) : Option Item :=
  (s40 N x9.Conds).bind fun x10 =>
  (iter (fun p => s34_b1 N p1 p2 x10 p.1 p.2) N (x10, 0)).bind fun a18 =>
  grd (List.length p2.Name ≤ 9223372036854775806) <|
  grd (List.length (p2.Name ++ [46]) + List.length x9.Name ≤ 9223372036854775807) <|
  some ({ x9 with Name := (p2.Name ++ [46]) ++ x9.Name, At := p2.At, Conds := a18 })
def s34_b3 (N : Nat) (p1 : Item) (p2 : Item) (x59 : (List (List UInt8))) (l63 : List (List UInt8)) (x66 : Int) : Option ((((List (List UInt8)) × Int) ⊕ ((List (List UInt8))))) :=
  if x66 < (List.length x59 : Int) then
    grd (0 ≤ x66 ∧ x66 < (List.length l63 : Int)) <|
    (s39_11 N l63 x66.toNat p1 p2).bind fun x76 =>
    some (.inl (x76.2, IntKind.wrap .i64 (x66 + 1)))
  else
    some (.inr l63)
def s34 (N : Nat) (p1 : Item) (p2 : Item) (p3 : Item) : Option Item :=
  (s35 N p3.Kind).bind fun x5 =>
  bif x5 then
    (s39 N p3 p1 p2).bind fun x40 =>
    (s39_2 N x40.2 p1 p2).bind fun x42 =>
    (s39_3 N x42.2 p1 p2).bind fun x44 =>
    (s39_4 N x44.2 p1 p2).bind fun x46 =>
    (s39_5 N x46.2 p1 p2).bind fun x48 =>
    (s39_6 N x48.2 p1 p2).bind fun x50 =>
    (s39_7 N x50.2 p1 p2).bind fun x52 =>
    (s39_8 N x52.2 p1 p2).bind fun x54 =>
    (s39_9 N x54.2 p1 p2).bind fun x56 =>
    s34_k2 N p1 p2 x56.2
  else
    if p3.Kind = 14 then
      (s42 N p3.Names).bind fun x59 =>
      (iter (fun p => s34_b3 N p1 p2 x59 p.1 p.2) N (x59, 0)).bind fun a67 =>
      grd (List.length p2.Name ≤ 9223372036854775806) <|
      grd (List.length (p2.Name ++ [46]) + List.length p3.Name ≤ 9223372036854775807) <|
      some ({ p3 with Name := (p2.Name ++ [46]) ++ p3.Name, At := p2.At, Names := a67 })
    else
      grd (List.length p2.Name ≤ 9223372036854775806) <|
      grd (List.length (p2.Name ++ [46]) + List.length p3.Name ≤ 9223372036854775807) <|
      some ({ p3 with Name := (p2.Name ++ [46]) ++ p3.Name, At := p2.At })
set_option maxHeartbeats 4000000 in
theorem c34 (N : Nat) (p1 : Item) (p2 : Item) (p3 : Item) (r : Item) (h : s34 N p1 p2 p3 = some r) : PureC Try.prog 34 [.agg (Item.cs p1), .agg (Item.cs p2), .agg (Item.cs p3)] (.agg (Item.cs r)) := by
 refine fn_intro' 107 Try.func34 nt34 ok34 res34 (by simp) fun X hP hn hd hr => ?_
 unfold s34 at h
 repeat refine awp_seq ?_
 refine awp_reg fun K Q hK hQ => ?_
 simp -implicitDefEqProofs (disch := first | omega | rfl) only [go_sem, simprocAttr, zr34_0, argS]
 intro b1 b2 b3 b4
 refine hK _ _ ?_; clear hK hQ K Q
 repeat refine awp_seq ?_
 refine awp_le' (s' := [(3, .ref (Item.cs p1)), (4, .ref (Item.cs p2)), (5, .ptr 5 b3 0), (6, .ptr 6 b4 0)]) (own' := (6, b4, .cells ([.int .i64 0, .str [], .int .i64 0, .str [], .str [], .int .i64 0, .int .i64 0, .int .i64 0, .bool false, .str [], .int .i64 0, .bool false, .str [], .nil, .str [], .str [], .int .i64 0, .int .i64 0, .str [], .str [], .bool false, .str [], .str [], .bool false, .bool false, .bool false, .bool false, .bool false, .bool false, .bool false, .nil, .nil, .nil])) :: (5, b3, .cells (Item.cs p3)) :: []) (_ :: _ :: []) (_ :: _ :: []) (_ :: _ :: _ :: _ :: []) rfl (List.Perm.trans (List.Perm.cons _ (List.Perm.cons _ perm_cc)) (List.Perm.trans (List.Perm.cons _ perm_cc) (List.Perm.trans perm_cc ((List.Perm.cons _ (List.Perm.trans (List.Perm.cons _ perm_cc) (List.Perm.trans perm_cc (List.Perm.refl _)))))))) ?_ ?_ ?_
 · simp -implicitDefEqProofs (disch := first | omega | rfl) only [go_sem, simprocAttr, subF_cons, subF_nil]
   exact ⟨(frz_ptr (by simp -implicitDefEqProofs (disch := first | omega | rfl) only [go_sem, simprocAttr])), (frz_ptr (by simp -implicitDefEqProofs (disch := first | omega | rfl) only [go_sem, simprocAttr])), (.lptr ..), (.lptr ..)⟩
 · exact (.cell (.cell .nil))
 repeat refine awp_seq ?_
 refine rg (h := ?_)
 repeat refine awp_seq ?_
 refine awp_block ?_
 repeat refine awp_seq ?_
 refine awp_reg fun K Q hK hQ => ?_
 simp -implicitDefEqProofs (disch := first | omega | rfl) only [go_sem, simprocAttr, zr34_2]
 have hh := bnd_some h; clear h; obtain ⟨x5, hx6, h⟩ := hh
 refine call_pure hP (c35 N p3.Kind x5 hx6) ?_
 simp -implicitDefEqProofs (disch := first | omega | rfl) only [go_sem, simprocAttr]
 refine hK _ _ ?_; clear hK hQ K Q
 rcases cnd_some h with ⟨hc7, h⟩ | ⟨hc7, h⟩
 · repeat refine awp_seq ?_
   refine awp_then (by simp -implicitDefEqProofs (disch := first | omega | rfl) only [go_sem, simprocAttr, hc7]) ?_
   repeat refine awp_seq ?_
   refine awp_reg fun K Q hK hQ => ?_
   simp -implicitDefEqProofs (disch := first | omega | rfl) only [go_sem, simprocAttr, zr34_3]
   intro b8
   refine hK _ _ ?_; clear hK hQ K Q
   repeat refine awp_seq ?_
   refine awp_cut (ι := {p : Item // s34_k2 N p1 p2 p = some r}) (fun p => [(3, .ref (Item.cs p1)), (4, .ref (Item.cs p2)), (5, .ptr 5 b3 0), (6, .ptr 6 b4 0), (7, .fn (.func 39) [] [.ref (Item.cs p1), .ref (Item.cs p2)])]) (fun p => (5, b3, .cells (Item.cs p.1)) :: (6, b4, .cells ([.int .i64 0, .str [], .int .i64 0, .str [], .str [], .int .i64 0, .int .i64 0, .int .i64 0, .bool false, .str [], .int .i64 0, .bool false, .str [], .nil, .str [], .str [], .int .i64 0, .int .i64 0, .str [], .str [], .bool false, .str [], .str [], .bool false, .bool false, .bool false, .bool false, .bool false, .bool false, .bool false, .nil, .nil, .nil])) :: []) ?_ ?_
   · repeat refine awp_seq ?_
     refine awp_block ?_
     repeat refine awp_seq ?_
     refine awp_rounds 62 ?_
     refine Go.Aw.rounds_succ ?_
     repeat refine awp_seq ?_
     refine rg (h := ?_)
     repeat refine awp_seq ?_
     refine awp_then (by rfl) ?_
     repeat refine awp_seq ?_
     refine awp_skip ?_
     repeat refine awp_seq ?_
     refine awp_block ?_
     repeat refine awp_seq ?_
     refine rg (h := ?_)
     repeat refine awp_seq ?_
     refine awp_reg fun K Q hK hQ => ?_
     simp -implicitDefEqProofs (disch := first | omega | rfl) only [go_sem, simprocAttr, zr34_6, hP, hide_P, okf39]
     have hh := bnd_some h; clear h; obtain ⟨x40, hx41, h⟩ := hh
     refine call_own hP ([]) (_ :: _ :: _ :: []) (_ :: _ :: _ :: []) ((29, b8, .cells ([.ptr 5 b3 3, .ptr 5 b3 4, .ptr 5 b3 14, .ptr 5 b3 15, .ptr 5 b3 18, .ptr 5 b3 19, .ptr 5 b3 22, .ptr 5 b3 9, .ptr 5 b3 12])) :: (6, b4, .cells ([.int .i64 0, .str [], .int .i64 0, .str [], .str [], .int .i64 0, .int .i64 0, .int .i64 0, .bool false, .str [], .int .i64 0, .bool false, .str [], .nil, .str [], .str [], .int .i64 0, .int .i64 0, .str [], .str [], .bool false, .str [], .str [], .bool false, .bool false, .bool false, .bool false, .bool false, .bool false, .bool false, .nil, .nil, .nil])) :: []) (_ :: _ :: _ :: []) rfl (List.Perm.trans (List.Perm.cons _ perm_cc) (List.Perm.trans perm_cc (List.Perm.refl _))) (fun q o => q = .val (.bool x40.1) ∧ o = (5, b3, .cells (Item.cs x40.2)) :: []) (c39 N p3 p1 p2 b3 x40 hx41) (by rintro q o ⟨rfl, rfl⟩; exact ⟨_, _, .val (.keep _), (.cell .nil), rfl, rfl⟩) (by first | rfl | (simp only [accO_app, List.cons_append, List.nil_append]; rfl) | simp only [accO_app, List.cons_append, List.nil_append]) (.cell (.cell (.cell .nil))) (.cons (.lptr ..) (.cons (.keep _) (.cons (.keep _) .nil))) ?_
     rintro q o ⟨rfl, rfl⟩
     simp -implicitDefEqProofs (disch := first | omega | rfl) only [go_sem, simprocAttr]
     refine hK _ _ ?_; clear hK hQ K Q
     repeat refine awp_seq ?_
     refine rg (by intro K Q; simp -implicitDefEqProofs (disch := first | omega | rfl) only [go_sem, simprocAttr, w64_1] <;> rfl) ?_
     refine Go.Aw.rounds_succ ?_
     repeat refine awp_seq ?_
     refine rg (h := ?_)
     repeat refine awp_seq ?_
     refine awp_then (by rfl) ?_
     repeat refine awp_seq ?_
     refine awp_skip ?_
     repeat refine awp_seq ?_
     refine awp_block ?_
     repeat refine awp_seq ?_
     refine rg (h := ?_)
     repeat refine awp_seq ?_
     refine awp_reg fun K Q hK hQ => ?_
     simp -implicitDefEqProofs (disch := first | omega | rfl) only [go_sem, simprocAttr, zr34_6, hP, hide_P, okf39]
     have hh := bnd_some h; clear h; obtain ⟨x42, hx43, h⟩ := hh
     refine call_own hP ([]) (_ :: _ :: _ :: []) (_ :: _ :: _ :: []) ((29, b8, .cells ([.ptr 5 b3 3, .ptr 5 b3 4, .ptr 5 b3 14, .ptr 5 b3 15, .ptr 5 b3 18, .ptr 5 b3 19, .ptr 5 b3 22, .ptr 5 b3 9, .ptr 5 b3 12])) :: (6, b4, .cells ([.int .i64 0, .str [], .int .i64 0, .str [], .str [], .int .i64 0, .int .i64 0, .int .i64 0, .bool false, .str [], .int .i64 0, .bool false, .str [], .nil, .str [], .str [], .int .i64 0, .int .i64 0, .str [], .str [], .bool false, .str [], .str [], .bool false, .bool false, .bool false, .bool false, .bool false, .bool false, .bool false, .nil, .nil, .nil])) :: []) (_ :: _ :: _ :: []) rfl (List.Perm.refl _) (fun q o => q = .val (.bool x42.1) ∧ o = (5, b3, .cells (Item.cs x42.2)) :: []) (c39_2 N x40.2 p1 p2 b3 x42 hx43) (by rintro q o ⟨rfl, rfl⟩; exact ⟨_, _, .val (.keep _), (.cell .nil), rfl, rfl⟩) (by first | rfl | (simp only [accO_app, List.cons_append, List.nil_append]; rfl) | simp only [accO_app, List.cons_append, List.nil_append]) (.cell (.cell (.cell .nil))) (.cons (.lptr ..) (.cons (.keep _) (.cons (.keep _) .nil))) ?_
     rintro q o ⟨rfl, rfl⟩
     simp -implicitDefEqProofs (disch := first | omega | rfl) only [go_sem, simprocAttr]
     refine hK _ _ ?_; clear hK hQ K Q
     repeat refine awp_seq ?_
     refine rg (by intro K Q; simp -implicitDefEqProofs (disch := first | omega | rfl) only [go_sem, simprocAttr, @w64 2 (by decide) (by decide)] <;> rfl) ?_
     refine Go.Aw.rounds_succ ?_
     repeat refine awp_seq ?_
     refine rg (h := ?_)
     repeat refine awp_seq ?_
     refine awp_then (by rfl) ?_
     repeat refine awp_seq ?_
     refine awp_skip ?_
     repeat refine awp_seq ?_
     refine awp_block ?_
     repeat refine awp_seq ?_
     refine rg (h := ?_)
     repeat refine awp_seq ?_
     refine awp_reg fun K Q hK hQ => ?_
     simp -implicitDefEqProofs (disch := first | omega | rfl) only [go_sem, simprocAttr, zr34_6, hP, hide_P, okf39]
     have hh := bnd_some h; clear h; obtain ⟨x44, hx45, h⟩ := hh
     refine call_own hP ([]) (_ :: _ :: _ :: []) (_ :: _ :: _ :: []) ((29, b8, .cells ([.ptr 5 b3 3, .ptr 5 b3 4, .ptr 5 b3 14, .ptr 5 b3 15, .ptr 5 b3 18, .ptr 5 b3 19, .ptr 5 b3 22, .ptr 5 b3 9, .ptr 5 b3 12])) :: (6, b4, .cells ([.int .i64 0, .str [], .int .i64 0, .str [], .str [], .int .i64 0, .int .i64 0, .int .i64 0, .bool false, .str [], .int .i64 0, .bool false, .str [], .nil, .str [], .str [], .int .i64 0, .int .i64 0, .str [], .str [], .bool false, .str [], .str [], .bool false, .bool false, .bool false, .bool false, .bool false, .bool false, .bool false, .nil, .nil, .nil])) :: []) (_ :: _ :: _ :: []) rfl (List.Perm.refl _) (fun q o => q = .val (.bool x44.1) ∧ o = (5, b3, .cells (Item.cs x44.2)) :: []) (c39_3 N x42.2 p1 p2 b3 x44 hx45) (by rintro q o ⟨rfl, rfl⟩; exact ⟨_, _, .val (.keep _), (.cell .nil), rfl, rfl⟩) (by first | rfl | (simp only [accO_app, List.cons_append, List.nil_append]; rfl) | simp only [accO_app, List.cons_append, List.nil_append]) (.cell (.cell (.cell .nil))) (.cons (.lptr ..) (.cons (.keep _) (.cons (.keep _) .nil))) ?_
     rintro q o ⟨rfl, rfl⟩
     simp -implicitDefEqProofs (disch := first | omega | rfl) only [go_sem, simprocAttr]
     refine hK _ _ ?_; clear hK hQ K Q
     repeat refine awp_seq ?_
     refine rg (by intro K Q; simp -implicitDefEqProofs (disch := first | omega | rfl) only [go_sem, simprocAttr, @w64 3 (by decide) (by decide)] <;> rfl) ?_
     refine Go.Aw.rounds_succ ?_
     repeat refine awp_seq ?_
     refine rg (h := ?_)
     repeat refine awp_seq ?_
     refine awp_then (by rfl) ?_
     repeat refine awp_seq ?_
     refine awp_skip ?_
     repeat refine awp_seq ?_
     refine awp_block ?_
     repeat refine awp_seq ?_
     refine rg (h := ?_)
     repeat refine awp_seq ?_
     refine awp_reg fun K Q hK hQ => ?_
     simp -implicitDefEqProofs (disch := first | omega | rfl) only [go_sem, simprocAttr, zr34_6, hP, hide_P, okf39]
     have hh := bnd_some h; clear h; obtain ⟨x46, hx47, h⟩ := hh
     refine call_own hP ([]) (_ :: _ :: _ :: []) (_ :: _ :: _ :: []) ((29, b8, .cells ([.ptr 5 b3 3, .ptr 5 b3 4, .ptr 5 b3 14, .ptr 5 b3 15, .ptr 5 b3 18, .ptr 5 b3 19, .ptr 5 b3 22, .ptr 5 b3 9, .ptr 5 b3 12])) :: (6, b4, .cells ([.int .i64 0, .str [], .int .i64 0, .str [], .str [], .int .i64 0, .int .i64 0, .int .i64 0, .bool false, .str [], .int .i64 0, .bool false, .str [], .nil, .str [], .str [], .int .i64 0, .int .i64 0, .str [], .str [], .bool false, .str [], .str [], .bool false, .bool false, .bool false, .bool false, .bool false, .bool false, .bool false, .nil, .nil, .nil])) :: []) (_ :: _ :: _ :: []) rfl (List.Perm.refl _) (fun q o => q = .val (.bool x46.1) ∧ o = (5, b3, .cells (Item.cs x46.2)) :: []) (c39_4 N x44.2 p1 p2 b3 x46 hx47) (by rintro q o ⟨rfl, rfl⟩; exact ⟨_, _, .val (.keep _), (.cell .nil), rfl, rfl⟩) (by first | rfl | (simp only [accO_app, List.cons_append, List.nil_append]; rfl) | simp only [accO_app, List.cons_append, List.nil_append]) (.cell (.cell (.cell .nil))) (.cons (.lptr ..) (.cons (.keep _) (.cons (.keep _) .nil))) ?_
     rintro q o ⟨rfl, rfl⟩
     simp -implicitDefEqProofs (disch := first | omega | rfl) only [go_sem, simprocAttr]
     refine hK _ _ ?_; clear hK hQ K Q
     repeat refine awp_seq ?_
     refine rg (by intro K Q; simp -implicitDefEqProofs (disch := first | omega | rfl) only [go_sem, simprocAttr, @w64 4 (by decide) (by decide)] <;> rfl) ?_
     refine Go.Aw.rounds_succ ?_
     repeat refine awp_seq ?_
     refine rg (h := ?_)
     repeat refine awp_seq ?_
     refine awp_then (by rfl) ?_
     repeat refine awp_seq ?_
     refine awp_skip ?_
     repeat refine awp_seq ?_
     refine awp_block ?_
     repeat refine awp_seq ?_
     refine rg (h := ?_)
     repeat refine awp_seq ?_
     refine awp_reg fun K Q hK hQ => ?_
     simp -implicitDefEqProofs (disch := first | omega | rfl) only [go_sem, simprocAttr, zr34_6, hP, hide_P, okf39]
     have hh := bnd_some h; clear h; obtain ⟨x48, hx49, h⟩ := hh
     refine call_own hP ([]) (_ :: _ :: _ :: []) (_ :: _ :: _ :: []) ((29, b8, .cells ([.ptr 5 b3 3, .ptr 5 b3 4, .ptr 5 b3 14, .ptr 5 b3 15, .ptr 5 b3 18, .ptr 5 b3 19, .ptr 5 b3 22, .ptr 5 b3 9, .ptr 5 b3 12])) :: (6, b4, .cells ([.int .i64 0, .str [], .int .i64 0, .str [], .str [], .int .i64 0, .int .i64 0, .int .i64 0, .bool false, .str [], .int .i64 0, .bool false, .str [], .nil, .str [], .str [], .int .i64 0, .int .i64 0, .str [], .str [], .bool false, .str [], .str [], .bool false, .bool false, .bool false, .bool false, .bool false, .bool false, .bool false, .nil, .nil, .nil])) :: []) (_ :: _ :: _ :: []) rfl (List.Perm.refl _) (fun q o => q = .val (.bool x48.1) ∧ o = (5, b3, .cells (Item.cs x48.2)) :: []) (c39_5 N x46.2 p1 p2 b3 x48 hx49) (by rintro q o ⟨rfl, rfl⟩; exact ⟨_, _, .val (.keep _), (.cell .nil), rfl, rfl⟩) (by first | rfl | (simp only [accO_app, List.cons_append, List.nil_append]; rfl) | simp only [accO_app, List.cons_append, List.nil_append]) (.cell (.cell (.cell .nil))) (.cons (.lptr ..) (.cons (.keep _) (.cons (.keep _) .nil))) ?_
     rintro q o ⟨rfl, rfl⟩
     simp -implicitDefEqProofs (disch := first | omega | rfl) only [go_sem, simprocAttr]
     refine hK _ _ ?_; clear hK hQ K Q
     repeat refine awp_seq ?_
     refine rg (by intro K Q; simp -implicitDefEqProofs (disch := first | omega | rfl) only [go_sem, simprocAttr, @w64 5 (by decide) (by decide)] <;> rfl) ?_
     refine Go.Aw.rounds_succ ?_
     repeat refine awp_seq ?_
     refine rg (h := ?_)
     repeat refine awp_seq ?_
     refine awp_then (by rfl) ?_
     repeat refine awp_seq ?_
     refine awp_skip ?_
     repeat refine awp_seq ?_
     refine awp_block ?_
     repeat refine awp_seq ?_
     refine rg (h := ?_)
     repeat refine awp_seq ?_
     refine awp_reg fun K Q hK hQ => ?_
     simp -implicitDefEqProofs (disch := first | omega | rfl) only [go_sem, simprocAttr, zr34_6, hP, hide_P, okf39]
     have hh := bnd_some h; clear h; obtain ⟨x50, hx51, h⟩ := hh
     refine call_own hP ([]) (_ :: _ :: _ :: []) (_ :: _ :: _ :: []) ((29, b8, .cells ([.ptr 5 b3 3, .ptr 5 b3 4, .ptr 5 b3 14, .ptr 5 b3 15, .ptr 5 b3 18, .ptr 5 b3 19, .ptr 5 b3 22, .ptr 5 b3 9, .ptr 5 b3 12])) :: (6, b4, .cells ([.int .i64 0, .str [], .int .i64 0, .str [], .str [], .int .i64 0, .int .i64 0, .int .i64 0, .bool false, .str [], .int .i64 0, .bool false, .str [], .nil, .str [], .str [], .int .i64 0, .int .i64 0, .str [], .str [], .bool false, .str [], .str [], .bool false, .bool false, .bool false, .bool false, .bool false, .bool false, .bool false, .nil, .nil, .nil])) :: []) (_ :: _ :: _ :: []) rfl (List.Perm.refl _) (fun q o => q = .val (.bool x50.1) ∧ o = (5, b3, .cells (Item.cs x50.2)) :: []) (c39_6 N x48.2 p1 p2 b3 x50 hx51) (by rintro q o ⟨rfl, rfl⟩; exact ⟨_, _, .val (.keep _), (.cell .nil), rfl, rfl⟩) (by first | rfl | (simp only [accO_app, List.cons_append, List.nil_append]; rfl) | simp only [accO_app, List.cons_append, List.nil_append]) (.cell (.cell (.cell .nil))) (.cons (.lptr ..) (.cons (.keep _) (.cons (.keep _) .nil))) ?_
     rintro q o ⟨rfl, rfl⟩
     simp -implicitDefEqProofs (disch := first | omega | rfl) only [go_sem, simprocAttr]
     refine hK _ _ ?_; clear hK hQ K Q
     repeat refine awp_seq ?_
     refine rg (by intro K Q; simp -implicitDefEqProofs (disch := first | omega | rfl) only [go_sem, simprocAttr, @w64 6 (by decide) (by decide)] <;> rfl) ?_
     refine Go.Aw.rounds_succ ?_
     repeat refine awp_seq ?_
     refine rg (h := ?_)
     repeat refine awp_seq ?_
     refine awp_then (by rfl) ?_
     repeat refine awp_seq ?_
     refine awp_skip ?_
     repeat refine awp_seq ?_
     refine awp_block ?_
     repeat refine awp_seq ?_
     refine rg (h := ?_)
     repeat refine awp_seq ?_
     refine awp_reg fun K Q hK hQ => ?_
     simp -implicitDefEqProofs (disch := first | omega | rfl) only [go_sem, simprocAttr, zr34_6, hP, hide_P, okf39]
     have hh := bnd_some h; clear h; obtain ⟨x52, hx53, h⟩ := hh
     refine call_own hP ([]) (_ :: _ :: _ :: []) (_ :: _ :: _ :: []) ((29, b8, .cells ([.ptr 5 b3 3, .ptr 5 b3 4, .ptr 5 b3 14, .ptr 5 b3 15, .ptr 5 b3 18, .ptr 5 b3 19, .ptr 5 b3 22, .ptr 5 b3 9, .ptr 5 b3 12])) :: (6, b4, .cells ([.int .i64 0, .str [], .int .i64 0, .str [], .str [], .int .i64 0, .int .i64 0, .int .i64 0, .bool false, .str [], .int .i64 0, .bool false, .str [], .nil, .str [], .str [], .int .i64 0, .int .i64 0, .str [], .str [], .bool false, .str [], .str [], .bool false, .bool false, .bool false, .bool false, .bool false, .bool false, .bool false, .nil, .nil, .nil])) :: []) (_ :: _ :: _ :: []) rfl (List.Perm.refl _) (fun q o => q = .val (.bool x52.1) ∧ o = (5, b3, .cells (Item.cs x52.2)) :: []) (c39_7 N x50.2 p1 p2 b3 x52 hx53) (by rintro q o ⟨rfl, rfl⟩; exact ⟨_, _, .val (.keep _), (.cell .nil), rfl, rfl⟩) (by first | rfl | (simp only [accO_app, List.cons_append, List.nil_append]; rfl) | simp only [accO_app, List.cons_append, List.nil_append]) (.cell (.cell (.cell .nil))) (.cons (.lptr ..) (.cons (.keep _) (.cons (.keep _) .nil))) ?_
     rintro q o ⟨rfl, rfl⟩
     simp -implicitDefEqProofs (disch := first | omega | rfl) only [go_sem, simprocAttr]
     refine hK _ _ ?_; clear hK hQ K Q
     repeat refine awp_seq ?_
     refine rg (by intro K Q; simp -implicitDefEqProofs (disch := first | omega | rfl) only [go_sem, simprocAttr, @w64 7 (by decide) (by decide)] <;> rfl) ?_
     refine Go.Aw.rounds_succ ?_
     repeat refine awp_seq ?_
     refine rg (h := ?_)
     repeat refine awp_seq ?_
     refine awp_then (by rfl) ?_
     repeat refine awp_seq ?_
     refine awp_skip ?_
     repeat refine awp_seq ?_
     refine awp_block ?_
     repeat refine awp_seq ?_
     refine rg (h := ?_)
     repeat refine awp_seq ?_
     refine awp_reg fun K Q hK hQ => ?_
     simp -implicitDefEqProofs (disch := first | omega | rfl) only [go_sem, simprocAttr, zr34_6, hP, hide_P, okf39]
     have hh := bnd_some h; clear h; obtain ⟨x54, hx55, h⟩ := hh
     refine call_own hP ([]) (_ :: _ :: _ :: []) (_ :: _ :: _ :: []) ((29, b8, .cells ([.ptr 5 b3 3, .ptr 5 b3 4, .ptr 5 b3 14, .ptr 5 b3 15, .ptr 5 b3 18, .ptr 5 b3 19, .ptr 5 b3 22, .ptr 5 b3 9, .ptr 5 b3 12])) :: (6, b4, .cells ([.int .i64 0, .str [], .int .i64 0, .str [], .str [], .int .i64 0, .int .i64 0, .int .i64 0, .bool false, .str [], .int .i64 0, .bool false, .str [], .nil, .str [], .str [], .int .i64 0, .int .i64 0, .str [], .str [], .bool false, .str [], .str [], .bool false, .bool false, .bool false, .bool false, .bool false, .bool false, .bool false, .nil, .nil, .nil])) :: []) (_ :: _ :: _ :: []) rfl (List.Perm.refl _) (fun q o => q = .val (.bool x54.1) ∧ o = (5, b3, .cells (Item.cs x54.2)) :: []) (c39_8 N x52.2 p1 p2 b3 x54 hx55) (by rintro q o ⟨rfl, rfl⟩; exact ⟨_, _, .val (.keep _), (.cell .nil), rfl, rfl⟩) (by first | rfl | (simp only [accO_app, List.cons_append, List.nil_append]; rfl) | simp only [accO_app, List.cons_append, List.nil_append]) (.cell (.cell (.cell .nil))) (.cons (.lptr ..) (.cons (.keep _) (.cons (.keep _) .nil))) ?_
     rintro q o ⟨rfl, rfl⟩
     simp -implicitDefEqProofs (disch := first | omega | rfl) only [go_sem, simprocAttr]
     refine hK _ _ ?_; clear hK hQ K Q
     repeat refine awp_seq ?_
     refine rg (by intro K Q; simp -implicitDefEqProofs (disch := first | omega | rfl) only [go_sem, simprocAttr, @w64 8 (by decide) (by decide)] <;> rfl) ?_
     refine Go.Aw.rounds_succ ?_
     repeat refine awp_seq ?_
     refine rg (h := ?_)
     repeat refine awp_seq ?_
     refine awp_then (by rfl) ?_
     repeat refine awp_seq ?_
     refine awp_skip ?_
     repeat refine awp_seq ?_
     refine awp_block ?_
     repeat refine awp_seq ?_
     refine rg (h := ?_)
     repeat refine awp_seq ?_
     refine awp_reg fun K Q hK hQ => ?_
     simp -implicitDefEqProofs (disch := first | omega | rfl) only [go_sem, simprocAttr, zr34_6, hP, hide_P, okf39]
     have hh := bnd_some h; clear h; obtain ⟨x56, hx57, h⟩ := hh
     refine call_own hP ([]) (_ :: _ :: _ :: []) (_ :: _ :: _ :: []) ((29, b8, .cells ([.ptr 5 b3 3, .ptr 5 b3 4, .ptr 5 b3 14, .ptr 5 b3 15, .ptr 5 b3 18, .ptr 5 b3 19, .ptr 5 b3 22, .ptr 5 b3 9, .ptr 5 b3 12])) :: (6, b4, .cells ([.int .i64 0, .str [], .int .i64 0, .str [], .str [], .int .i64 0, .int .i64 0, .int .i64 0, .bool false, .str [], .int .i64 0, .bool false, .str [], .nil, .str [], .str [], .int .i64 0, .int .i64 0, .str [], .str [], .bool false, .str [], .str [], .bool false, .bool false, .bool false, .bool false, .bool false, .bool false, .bool false, .nil, .nil, .nil])) :: []) (_ :: _ :: _ :: []) rfl (List.Perm.refl _) (fun q o => q = .val (.bool x56.1) ∧ o = (5, b3, .cells (Item.cs x56.2)) :: []) (c39_9 N x54.2 p1 p2 b3 x56 hx57) (by rintro q o ⟨rfl, rfl⟩; exact ⟨_, _, .val (.keep _), (.cell .nil), rfl, rfl⟩) (by first | rfl | (simp only [accO_app, List.cons_append, List.nil_append]; rfl) | simp only [accO_app, List.cons_append, List.nil_append]) (.cell (.cell (.cell .nil))) (.cons (.lptr ..) (.cons (.keep _) (.cons (.keep _) .nil))) ?_
     rintro q o ⟨rfl, rfl⟩
     simp -implicitDefEqProofs (disch := first | omega | rfl) only [go_sem, simprocAttr]
     refine hK _ _ ?_; clear hK hQ K Q
     repeat refine awp_seq ?_
     refine rg (by intro K Q; simp -implicitDefEqProofs (disch := first | omega | rfl) only [go_sem, simprocAttr, @w64 9 (by decide) (by decide)] <;> rfl) ?_
     refine Go.Aw.rounds_succ ?_
     repeat refine awp_seq ?_
     refine rg (h := ?_)
     repeat refine awp_seq ?_
     refine awp_else (by rfl) ?_
     repeat refine awp_seq ?_
     refine awp_exit ?_
     repeat' (first | refine then_exit ?_ | refine exit_here ?_ | refine exit_on rfl ?_)
     refine ⟨⟨x56.2, h⟩, ?_⟩
     refine ent_le' ([]) (_ :: _ :: _ :: []) (_ :: _ :: _ :: []) rfl ((List.Perm.cons _ (List.Perm.trans perm_cc (List.Perm.refl _)))) ?_ ?_
     · simp -implicitDefEqProofs (disch := first | omega | rfl) only [go_sem, simprocAttr, subF_cons, subF_nil]
       exact ⟨(.keep _), (.keep _), (.lptr ..), (.lptr ..), (.fnL .nil (.cons (.keep _) (.cons (.keep _) .nil)))⟩
     · exact (.cells (FrzP.of_eq (by first | rfl | simp)) (.cell (.drop .nil)))
   rintro ⟨x9, h⟩
   try dsimp only at h
   try dsimp only
   repeat refine awp_seq ?_
   refine awp_reg fun K Q hK hQ => ?_
   simp -implicitDefEqProofs (disch := first | omega | rfl) only [go_sem, simprocAttr, zr34_8]
   have hh := bnd_some h; clear h; obtain ⟨x10, hx11, h⟩ := hh
   refine call_own hP ([]) (_ :: _ :: []) (_ :: _ :: []) ((5, b3, .cells (Item.cs x9)) :: (6, b4, .cells ([.int .i64 0, .str [], .int .i64 0, .str [], .str [], .int .i64 0, .int .i64 0, .int .i64 0, .bool false, .str [], .int .i64 0, .bool false, .str [], .nil, .str [], .str [], .int .i64 0, .int .i64 0, .str [], .str [], .bool false, .str [], .str [], .bool false, .bool false, .bool false, .bool false, .bool false, .bool false, .bool false, .nil, .nil, .nil])) :: []) (_ :: _ :: []) rfl (List.Perm.refl _) (fun q o => ∃ (bo12 : Option Nat), (bo12 = none → x10 = []) ∧ q = .val (accV 501 bo12 (List.length x10) 2) ∧ o = accO 501 bo12 (flt Named.av x10) []) (c40 N x9.Conds  x10 hx11) (by rintro q o ⟨bo12, hb13, rfl, rfl⟩; exact ⟨_, _, .val (frz_lacc (by first | rfl | (simp; done) | ((try simp only [List.length_set, List.length_take]); omega))), (.acc (FrzP.refl _ _) .nil), bo12, hb13, rfl, rfl⟩) (by first | rfl | (simp only [accO_app, List.cons_append, List.nil_append]; rfl) | simp only [accO_app, List.cons_append, List.nil_append]) (.cell (.cell .nil)) (.cons (.keep _) .nil) ?_
   rintro q o ⟨bo12, hb13, rfl, rfl⟩
   simp -implicitDefEqProofs (disch := first | omega | rfl) only [go_sem, simprocAttr, Item.cs_eq]
   refine hK _ _ ?_; clear hK hQ K Q
   repeat refine awp_seq ?_
   refine rg (by intro K Q; simp -implicitDefEqProofs (disch := first | omega | rfl) only [go_sem, simprocAttr, lenA_acc (acc_len hb13)] <;> rfl) ?_
   repeat refine awp_seq ?_
   refine awp_block ?_
   obtain ⟨o18, ho18, hO18⟩ := bnd_some h
   repeat refine awp_seq ?_
   refine awp_loop (ι := {p : Nat × (List Named) × (Option Nat) × Int // iter (fun p => s34_b1 N p1 p2 x10 p.1 p.2) p.1 (p.2.1, p.2.2.2) = some o18 ∧ (p.2.2.1 = none → p.2.1 = [])}) (fun p => [(3, .ref ([.int .i64 p1.Kind, .str p1.Name, .int .i64 p1.At, .str p1.Of, .str p1.Act, .int .i64 p1.Word, .int .i64 p1.Times, .int .i64 p1.Within.Days, .bool p1.Within.Business, .str p1.Within.Name, .int .i64 p1.Grace.Days, .bool p1.Grace.Business, .str p1.Grace.Name, .sl (List.map Named.av p1.Conds), .str p1.By, .str p1.Until, .int .i64 p1.Num.Num, .int .i64 p1.Num.Den, .str p1.Unit, .str p1.Sum, .bool p1.Final, .str p1.Give, .str p1.To, .bool p1.Days.e0, .bool p1.Days.e1, .bool p1.Days.e2, .bool p1.Days.e3, .bool p1.Days.e4, .bool p1.Days.e5, .bool p1.Days.e6, .sl (List.map Civil.av p1.Dates), .sl (List.map AV.str p1.Names), .sl (List.map Item.av p1.Items)])), (4, .ref ([.int .i64 p2.Kind, .str p2.Name, .int .i64 p2.At, .str p2.Of, .str p2.Act, .int .i64 p2.Word, .int .i64 p2.Times, .int .i64 p2.Within.Days, .bool p2.Within.Business, .str p2.Within.Name, .int .i64 p2.Grace.Days, .bool p2.Grace.Business, .str p2.Grace.Name, .sl (List.map Named.av p2.Conds), .str p2.By, .str p2.Until, .int .i64 p2.Num.Num, .int .i64 p2.Num.Den, .str p2.Unit, .str p2.Sum, .bool p2.Final, .str p2.Give, .str p2.To, .bool p2.Days.e0, .bool p2.Days.e1, .bool p2.Days.e2, .bool p2.Days.e3, .bool p2.Days.e4, .bool p2.Days.e5, .bool p2.Days.e6, .sl (List.map Civil.av p2.Dates), .sl (List.map AV.str p2.Names), .sl (List.map Item.av p2.Items)])), (5, .ptr 5 b3 0), (6, .ptr 6 b4 0), (7, .fn (.func 39) [] [.ref ([.int .i64 p1.Kind, .str p1.Name, .int .i64 p1.At, .str p1.Of, .str p1.Act, .int .i64 p1.Word, .int .i64 p1.Times, .int .i64 p1.Within.Days, .bool p1.Within.Business, .str p1.Within.Name, .int .i64 p1.Grace.Days, .bool p1.Grace.Business, .str p1.Grace.Name, .sl (List.map Named.av p1.Conds), .str p1.By, .str p1.Until, .int .i64 p1.Num.Num, .int .i64 p1.Num.Den, .str p1.Unit, .str p1.Sum, .bool p1.Final, .str p1.Give, .str p1.To, .bool p1.Days.e0, .bool p1.Days.e1, .bool p1.Days.e2, .bool p1.Days.e3, .bool p1.Days.e4, .bool p1.Days.e5, .bool p1.Days.e6, .sl (List.map Civil.av p1.Dates), .sl (List.map AV.str p1.Names), .sl (List.map Item.av p1.Items)]), .ref ([.int .i64 p2.Kind, .str p2.Name, .int .i64 p2.At, .str p2.Of, .str p2.Act, .int .i64 p2.Word, .int .i64 p2.Times, .int .i64 p2.Within.Days, .bool p2.Within.Business, .str p2.Within.Name, .int .i64 p2.Grace.Days, .bool p2.Grace.Business, .str p2.Grace.Name, .sl (List.map Named.av p2.Conds), .str p2.By, .str p2.Until, .int .i64 p2.Num.Num, .int .i64 p2.Num.Den, .str p2.Unit, .str p2.Sum, .bool p2.Final, .str p2.Give, .str p2.To, .bool p2.Days.e0, .bool p2.Days.e1, .bool p2.Days.e2, .bool p2.Days.e3, .bool p2.Days.e4, .bool p2.Days.e5, .bool p2.Days.e6, .sl (List.map Civil.av p2.Dates), .sl (List.map AV.str p2.Names), .sl (List.map Item.av p2.Items)])]), (45, .int .i64 (List.length x10 : Int)), (46, .int .i64 p.1.2.2.2)]) (fun p => (5, b3, .cells ([.int .i64 x9.Kind, .str x9.Name, .int .i64 x9.At, .str x9.Of, .str x9.Act, .int .i64 x9.Word, .int .i64 x9.Times, .int .i64 x9.Within.Days, .bool x9.Within.Business, .str x9.Within.Name, .int .i64 x9.Grace.Days, .bool x9.Grace.Business, .str x9.Grace.Name, accV 502 p.1.2.2.1 (List.length p.1.2.1) 2, .str x9.By, .str x9.Until, .int .i64 x9.Num.Num, .int .i64 x9.Num.Den, .str x9.Unit, .str x9.Sum, .bool x9.Final, .str x9.Give, .str x9.To, .bool x9.Days.e0, .bool x9.Days.e1, .bool x9.Days.e2, .bool x9.Days.e3, .bool x9.Days.e4, .bool x9.Days.e5, .bool x9.Days.e6, .sl (List.map Civil.av x9.Dates), .sl (List.map AV.str x9.Names), .sl (List.map Item.av x9.Items)])) :: accO 502 p.1.2.2.1 (flt Named.av p.1.2.1) ((6, b4, .cells ([.int .i64 0, .str [], .int .i64 0, .str [], .str [], .int .i64 0, .int .i64 0, .int .i64 0, .bool false, .str [], .int .i64 0, .bool false, .str [], .nil, .str [], .str [], .int .i64 0, .int .i64 0, .str [], .str [], .bool false, .str [], .str [], .bool false, .bool false, .bool false, .bool false, .bool false, .bool false, .bool false, .nil, .nil, .nil])) :: [])) (fun p => p.1.1) ⟨⟨N, x10, bo12, 0⟩, ho18, hb13⟩ ?_ ?_
   · refine ent_le' ([]) (_ :: accO _ _ _ (_ :: [])) (_ :: accO _ _ _ (_ :: [])) rfl (List.Perm.trans perm_ac (List.Perm.refl _)) ?_ ?_
     · simp -implicitDefEqProofs (disch := first | omega | rfl) only [go_sem, simprocAttr, subF_cons, subF_nil]
       exact ⟨(.keep _), (.keep _), (.lptr ..), (.lptr ..), (.fnL .nil (.cons (.keep _) (.cons (.keep _) .nil))), (.keep _), (.keep _)⟩
     · exact (.cells (.cons (.keep _) (.cons (.keep _) (.cons (.keep _) (.cons (.keep _) (.cons (.keep _) (.cons (.keep _) (.cons (.keep _) (.cons (.keep _) (.cons (.keep _) (.cons (.keep _) (.cons (.keep _) (.cons (.keep _) (.cons (.keep _) (.cons (frz_lacc (by first | rfl | (simp; done) | ((try simp only [List.length_set, List.length_take]); omega))) (.cons (.keep _) (.cons (.keep _) (.cons (.keep _) (.cons (.keep _) (.cons (.keep _) (.cons (.keep _) (.cons (.keep _) (.cons (.keep _) (.cons (.keep _) (.cons (.keep _) (.cons (.keep _) (.cons (.keep _) (.cons (.keep _) (.cons (.keep _) (.cons (.keep _) (.cons (.keep _) (.cons (.keep _) (.cons (.keep _) (.cons (.keep _) (.nil _)))))))))))))))))))))))))))))))))) (.acc (FrzP.of_eq (by first | rfl | simp only [flt_app, flt_one, List.append_assoc])) (.cell .nil)))
   rintro ⟨⟨n18, l14, bo15, x17⟩, hi18, hb16⟩
   obtain ⟨m18, q18, rfl, h, hm18⟩ := iter_some hi18
   try dsimp only at h
   try dsimp only
   unfold s34_b1 at h
   repeat refine awp_seq ?_
   refine rg (h := ?_)
   rcases ite_some h with ⟨hc22, h⟩ | ⟨hc22, h⟩
   · repeat refine awp_seq ?_
     refine awp_then (by simp -implicitDefEqProofs (disch := first | omega | rfl) only [go_sem, simprocAttr, eq_true hc22]) ?_
     repeat refine awp_seq ?_
     refine awp_skip ?_
     repeat refine awp_seq ?_
     refine awp_block ?_
     repeat refine awp_seq ?_
     refine rg (h := ?_)
     repeat refine awp_seq ?_
     obtain ⟨⟨hg23, hg24⟩, h⟩ := grd_some h
     obtain ⟨b25, hs26⟩ := acc_some (acc_len hb16) (show 0 < List.length l14 by first | omega | simp)
     subst hs26
     refine rg (by intro K Q; simp -implicitDefEqProofs (disch := first | omega | rfl) only [go_sem, simprocAttr, accV_some, accO_some, eq_true hg23, eq_true hg24] <;> rfl) ?_
     repeat refine awp_seq ?_
     refine awp_regD' (_ :: _ :: []) (_ :: []) (_ :: _ :: _ :: []) (by rw [hP]; exact mixed) rfl ((List.Perm.cons _ (List.Perm.trans perm_cc (List.Perm.refl _)))) fun K hK => ?_
     simp -implicitDefEqProofs (disch := first | omega | rfl) only [go_sem, simprocAttr, zr34_13, hP, hide_P, okf39]
     have hh := bnd_some h; clear h; obtain ⟨x27, hx28, h⟩ := hh
     refine call_own hP ([]) (_ :: []) (_ :: []) ([]) (_ :: []) rfl (List.Perm.refl _) (fun q o => List.length x27.2 = List.length l14 ∧ q = .val (.bool x27.1) ∧ o = (502, b25, .cells (flt Named.av x27.2)) :: []) (c39_10 N l14 x17.toNat p1 p2 b25 (by omega) x27 hx28) (by rintro q o ⟨hl29, rfl, rfl⟩; exact ⟨_, _, .val (.keep _), (.cell .nil), hl29, rfl, rfl⟩) (by first | rfl | (simp only [accO_app, List.cons_append, List.nil_append]; rfl) | simp only [accO_app, List.cons_append, List.nil_append]) (.cell .nil) (.cons (.lptr ..) (.cons (by rw [Item.cs_eq]; exact .keep _) (.cons (by rw [Item.cs_eq]; exact .keep _) .nil))) ?_
     rintro q o ⟨hl29, rfl, rfl⟩
     rcases cnd_some h with ⟨hc30, h⟩ | ⟨hc30, h⟩
     · simp -implicitDefEqProofs (disch := first | omega | rfl) only [go_sem, simprocAttr, hc30]
       refine hK _ _ ?_; clear hK K
       repeat refine awp_seq ?_
       refine awp_else (by rfl) ?_
       repeat refine awp_seq ?_
       refine awp_skip ?_
       repeat refine awp_seq ?_
       refine rg (h := ?_)
       obtain rfl := som_inj h
       try dsimp only at hm18
       refine ⟨⟨⟨m18, x27.2, (some b25), IntKind.wrap .i64 (x17 + 1)⟩, hm18, (fun h => by cases h)⟩, Nat.lt_succ_self _, ?_⟩
       refine ent_le' ([]) (_ :: _ :: _ :: []) (_ :: _ :: _ :: []) rfl ((List.Perm.cons _ (List.Perm.trans perm_cc (List.Perm.refl _)))) ?_ ?_
       · simp -implicitDefEqProofs (disch := first | omega | rfl) only [go_sem, simprocAttr, subF_cons, subF_nil]
         exact ⟨(.keep _), (.keep _), (.lptr ..), (.lptr ..), (.fnL .nil (.cons (.keep _) (.cons (.keep _) .nil))), (.keep _), (.keep _)⟩
       · exact (.cells (.cons (.keep _) (.cons (.keep _) (.cons (.keep _) (.cons (.keep _) (.cons (.keep _) (.cons (.keep _) (.cons (.keep _) (.cons (.keep _) (.cons (.keep _) (.cons (.keep _) (.cons (.keep _) (.cons (.keep _) (.cons (.keep _) (.cons (frz_lrow (by first | rfl | (simp; done) | ((try simp only [List.length_set, List.length_take]); omega))) (.cons (.keep _) (.cons (.keep _) (.cons (.keep _) (.cons (.keep _) (.cons (.keep _) (.cons (.keep _) (.cons (.keep _) (.cons (.keep _) (.cons (.keep _) (.cons (.keep _) (.cons (.keep _) (.cons (.keep _) (.cons (.keep _) (.cons (.keep _) (.cons (.keep _) (.cons (.keep _) (.cons (.keep _) (.cons (.keep _) (.cons (.keep _) (.nil _)))))))))))))))))))))))))))))))))) (.cells (FrzP.of_eq (by first | rfl | simp)) (.cell .nil)))
     simp -implicitDefEqProofs (disch := first | omega | rfl) only [go_sem, simprocAttr, eq_true (show x17.toNat * 2 + 1 ≤ List.length x27.2 * 2 by omega), hc30]
     have hh := bnd_some h; clear h; obtain ⟨x31, hx32, h⟩ := hh
     refine call_pureF' hP ([]) (_ :: []) (_ :: []) rfl (List.Perm.refl _) (.cons (by rw [Item.cs_eq]; exact .aggL (.cons (.keep _) (.cons (.keep _) (.cons (.keep _) (.cons (.keep _) (.cons (.keep _) (.cons (.keep _) (.cons (.keep _) (.cons (.keep _) (.cons (.keep _) (.cons (.keep _) (.cons (.keep _) (.cons (.keep _) (.cons (.keep _) (.cons (.keep _) (.cons (.keep _) (.cons (.keep _) (.cons (.keep _) (.cons (.keep _) (.cons (.keep _) (.cons (.keep _) (.cons (.keep _) (.cons (.keep _) (.cons (.keep _) (.cons (.keep _) (.cons (.keep _) (.cons (.keep _) (.cons (.keep _) (.cons (.keep _) (.cons (.keep _) (.cons (.keep _) (.cons (.keep _) (.cons (.keep _) (.cons (.keep _) .nil)))))))))))))))))))))))))))))))))) (.cons (.keep _) .nil)) (c41 N p1 ((x27.2[x17.toNat]!).Name) x31 hx32) ?_
     simp -implicitDefEqProofs (disch := first | omega | rfl) only [go_sem, simprocAttr]
     refine hK _ _ ?_; clear hK K
     rcases cnd_some h with ⟨hc33, h⟩ | ⟨hc33, h⟩
     · repeat refine awp_seq ?_
       refine awp_then (by simp -implicitDefEqProofs (disch := first | omega | rfl) only [go_sem, simprocAttr, hc33]) ?_
       repeat refine awp_seq ?_
       refine awp_regD' (_ :: _ :: _ :: []) ([]) (_ :: _ :: _ :: []) (by rw [hP]; exact mixed) rfl (List.Perm.refl _) fun K hK => ?_
       obtain ⟨hg34, h⟩ := grd_some h
       obtain ⟨hg35, h⟩ := grd_some h
       simp -implicitDefEqProofs (disch := first | omega | rfl) only [go_sem, simprocAttr, zr34_14, eq_true (show x17.toNat * 2 + 1 ≤ List.length x27.2 * 2 by omega), eq_true hg34, eq_true hg35]
       refine hK _ _ ?_; clear hK K
       repeat refine awp_seq ?_
       refine rg (h := ?_)
       obtain rfl := som_inj h
       try dsimp only at hm18
       refine ⟨⟨⟨m18, List.set x27.2 x17.toNat ({ x27.2[x17.toNat]! with Name := (p2.Name ++ [46]) ++ ((x27.2[x17.toNat]!).Name) }), (some b25), IntKind.wrap .i64 (x17 + 1)⟩, hm18, (fun h => by cases h)⟩, Nat.lt_succ_self _, ?_⟩
       refine ent_le' ([]) (_ :: _ :: _ :: []) (_ :: _ :: _ :: []) rfl ((List.Perm.cons _ (List.Perm.trans perm_cc (List.Perm.refl _)))) ?_ ?_
       · simp -implicitDefEqProofs (disch := first | omega | rfl) only [go_sem, simprocAttr, subF_cons, subF_nil]
         exact ⟨(.keep _), (.keep _), (.lptr ..), (.lptr ..), (.fnL .nil (.cons (.keep _) (.cons (.keep _) .nil))), (.keep _), (.keep _)⟩
       · exact (.cells (.cons (.keep _) (.cons (.keep _) (.cons (.keep _) (.cons (.keep _) (.cons (.keep _) (.cons (.keep _) (.cons (.keep _) (.cons (.keep _) (.cons (.keep _) (.cons (.keep _) (.cons (.keep _) (.cons (.keep _) (.cons (.keep _) (.cons (frz_lrow (by first | rfl | (simp; done) | ((try simp only [List.length_set, List.length_take]); omega))) (.cons (.keep _) (.cons (.keep _) (.cons (.keep _) (.cons (.keep _) (.cons (.keep _) (.cons (.keep _) (.cons (.keep _) (.cons (.keep _) (.cons (.keep _) (.cons (.keep _) (.cons (.keep _) (.cons (.keep _) (.cons (.keep _) (.cons (.keep _) (.cons (.keep _) (.cons (.keep _) (.cons (.keep _) (.cons (.keep _) (.cons (.keep _) (.nil _)))))))))))))))))))))))))))))))))) (.cells (FrzP.of_eq (by first | rfl | simp)) (.cell .nil)))
     repeat refine awp_seq ?_
     refine awp_else (by simp -implicitDefEqProofs (disch := first | omega | rfl) only [go_sem, simprocAttr, hc33]) ?_
     repeat refine awp_seq ?_
     refine awp_skip ?_
     repeat refine awp_seq ?_
     refine rg (h := ?_)
     obtain rfl := som_inj h
     try dsimp only at hm18
     refine ⟨⟨⟨m18, x27.2, (some b25), IntKind.wrap .i64 (x17 + 1)⟩, hm18, (fun h => by cases h)⟩, Nat.lt_succ_self _, ?_⟩
     refine ent_le' ([]) (_ :: _ :: _ :: []) (_ :: _ :: _ :: []) rfl ((List.Perm.cons _ (List.Perm.trans perm_cc (List.Perm.refl _)))) ?_ ?_
     · simp -implicitDefEqProofs (disch := first | omega | rfl) only [go_sem, simprocAttr, subF_cons, subF_nil]
       exact ⟨(.keep _), (.keep _), (.lptr ..), (.lptr ..), (.fnL .nil (.cons (.keep _) (.cons (.keep _) .nil))), (.keep _), (.keep _)⟩
     · exact (.cells (.cons (.keep _) (.cons (.keep _) (.cons (.keep _) (.cons (.keep _) (.cons (.keep _) (.cons (.keep _) (.cons (.keep _) (.cons (.keep _) (.cons (.keep _) (.cons (.keep _) (.cons (.keep _) (.cons (.keep _) (.cons (.keep _) (.cons (frz_lrow (by first | rfl | (simp; done) | ((try simp only [List.length_set, List.length_take]); omega))) (.cons (.keep _) (.cons (.keep _) (.cons (.keep _) (.cons (.keep _) (.cons (.keep _) (.cons (.keep _) (.cons (.keep _) (.cons (.keep _) (.cons (.keep _) (.cons (.keep _) (.cons (.keep _) (.cons (.keep _) (.cons (.keep _) (.cons (.keep _) (.cons (.keep _) (.cons (.keep _) (.cons (.keep _) (.cons (.keep _) (.cons (.keep _) (.nil _)))))))))))))))))))))))))))))))))) (.cells (FrzP.of_eq (by first | rfl | simp)) (.cell .nil)))
   repeat refine awp_seq ?_
   refine awp_else (by simp -implicitDefEqProofs (disch := first | omega | rfl) only [go_sem, simprocAttr, eq_false hc22]) ?_
   repeat refine awp_seq ?_
   refine awp_exit ?_
   repeat' (first | refine then_exit ?_ | refine exit_here ?_ | refine exit_on rfl ?_)
   obtain rfl := som_inj h
   try dsimp only at hm18
   subst hm18
   try dsimp only at hO18
   repeat refine awp_seq ?_
   refine awp_regD' (accO _ _ _ (_ :: [])) (_ :: []) (accO _ _ _ (_ :: _ :: [])) (by rw [hP]; exact mixed) (by first | rfl | (simp only [accO_app, List.cons_append, List.nil_append]; rfl) | simp only [accO_app, List.cons_append, List.nil_append]) (List.Perm.trans perm_ca ((perm_ha (List.Perm.trans perm_cc (List.Perm.refl _))))) fun K hK => ?_
   obtain ⟨hg36, hO18⟩ := grd_some hO18
   obtain ⟨hg37, hO18⟩ := grd_some hO18
   simp -implicitDefEqProofs (disch := first | omega | rfl) only [go_sem, simprocAttr, zr34_23, eq_true hg36, eq_true hg37]
   refine hK _ _ ?_; clear hK K
   repeat refine awp_seq ?_
   refine rg (h := ?_)
   obtain rfl := som_inj hO18
   repeat refine awp_seq ?_
   refine awp_le' (s' := [(6, .ptr 6 b4 0)]) (own' := (6, b4, .cells (Item.cs ({ x9 with Name := (p2.Name ++ [46]) ++ x9.Name, At := p2.At, Conds := l14 }))) :: []) (accO _ _ _ []) (_ :: _ :: []) (accO _ _ _ (_ :: _ :: [])) (by first | rfl | (simp only [accO_app, List.cons_append, List.nil_append]; rfl) | simp only [accO_app, List.cons_append, List.nil_append]) (List.Perm.refl _) ?_ ?_ ?_
   · simp -implicitDefEqProofs (disch := first | omega | rfl) only [go_sem, simprocAttr, subF_cons, subF_nil]
     exact (.lptr ..)
   · exact (.cells (by rw [Item.cs_eq]; exact (.cons (.keep _) (.cons (.keep _) (.cons (.keep _) (.cons (.keep _) (.cons (.keep _) (.cons (.keep _) (.cons (.keep _) (.cons (.keep _) (.cons (.keep _) (.cons (.keep _) (.cons (.keep _) (.cons (.keep _) (.cons (.keep _) (.cons (frz_acc (fun _ => Named.avl) hb16 (by intro b hb; subst hb; simp -implicitDefEqProofs (disch := first | omega | rfl) only [go_sem, simprocAttr]) (by first | rfl | (simp; done) | ((try simp only [List.length_set, List.length_take]); omega))) (.cons (.keep _) (.cons (.keep _) (.cons (.keep _) (.cons (.keep _) (.cons (.keep _) (.cons (.keep _) (.cons (.keep _) (.cons (.keep _) (.cons (.keep _) (.cons (.keep _) (.cons (.keep _) (.cons (.keep _) (.cons (.keep _) (.cons (.keep _) (.cons (.keep _) (.cons (.keep _) (.cons (.keep _) (.cons (.keep _) (.cons (.keep _) (.nil _))))))))))))))))))))))))))))))))))) (.drop .nil))
   refine awp_ret ?_
   repeat first | refine then_ret ?_ | refine blk_ret ?_
   exact rtp
 repeat refine awp_seq ?_
 refine awp_else (by simp -implicitDefEqProofs (disch := first | omega | rfl) only [go_sem, simprocAttr, hc7]) ?_
 repeat refine awp_seq ?_
 refine rg (h := ?_)
 rcases ite_some h with ⟨hc58, h⟩ | ⟨hc58, h⟩
 · repeat refine awp_seq ?_
   refine awp_then (by simp -implicitDefEqProofs (disch := first | omega | rfl) only [go_sem, simprocAttr, eq_true hc58]) ?_
   repeat refine awp_seq ?_
   refine awp_reg fun K Q hK hQ => ?_
   simp -implicitDefEqProofs (disch := first | omega | rfl) only [go_sem, simprocAttr, zr34_17]
   have hh := bnd_some h; clear h; obtain ⟨x59, hx60, h⟩ := hh
   refine call_own hP ([]) (_ :: _ :: []) (_ :: _ :: []) ((6, b4, .cells ([.int .i64 0, .str [], .int .i64 0, .str [], .str [], .int .i64 0, .int .i64 0, .int .i64 0, .bool false, .str [], .int .i64 0, .bool false, .str [], .nil, .str [], .str [], .int .i64 0, .int .i64 0, .str [], .str [], .bool false, .str [], .str [], .bool false, .bool false, .bool false, .bool false, .bool false, .bool false, .bool false, .nil, .nil, .nil])) :: (5, b3, .cells (Item.cs p3)) :: []) (_ :: _ :: []) rfl (List.Perm.refl _) (fun q o => ∃ (bo61 : Option Nat), (bo61 = none → x59 = []) ∧ q = .val (accV 504 bo61 (List.length x59) 1) ∧ o = accO 504 bo61 (flt AV.str x59) []) (c42 N p3.Names  x59 hx60) (by rintro q o ⟨bo61, hb62, rfl, rfl⟩; exact ⟨_, _, .val (frz_lacc (by first | rfl | (simp; done) | ((try simp only [List.length_set, List.length_take]); omega))), (.acc (FrzP.refl _ _) .nil), bo61, hb62, rfl, rfl⟩) (by first | rfl | (simp only [accO_app, List.cons_append, List.nil_append]; rfl) | simp only [accO_app, List.cons_append, List.nil_append]) (.cell (.cell .nil)) (.cons (.keep _) .nil) ?_
   rintro q o ⟨bo61, hb62, rfl, rfl⟩
   simp -implicitDefEqProofs (disch := first | omega | rfl) only [go_sem, simprocAttr, Item.cs_eq]
   refine hK _ _ ?_; clear hK hQ K Q
   repeat refine awp_seq ?_
   refine rg (by intro K Q; simp -implicitDefEqProofs (disch := first | omega | rfl) only [go_sem, simprocAttr, lenA_acc (acc_len hb62)] <;> rfl) ?_
   repeat refine awp_seq ?_
   refine awp_block ?_
   obtain ⟨o67, ho67, hO67⟩ := bnd_some h
   repeat refine awp_seq ?_
   refine awp_loop (ι := {p : Nat × (List (List UInt8)) × (Option Nat) × Int // iter (fun p => s34_b3 N p1 p2 x59 p.1 p.2) p.1 (p.2.1, p.2.2.2) = some o67 ∧ (p.2.2.1 = none → p.2.1 = [])}) (fun p => [(4, .ref ([.int .i64 p2.Kind, .str p2.Name, .int .i64 p2.At, .str p2.Of, .str p2.Act, .int .i64 p2.Word, .int .i64 p2.Times, .int .i64 p2.Within.Days, .bool p2.Within.Business, .str p2.Within.Name, .int .i64 p2.Grace.Days, .bool p2.Grace.Business, .str p2.Grace.Name, .sl (List.map Named.av p2.Conds), .str p2.By, .str p2.Until, .int .i64 p2.Num.Num, .int .i64 p2.Num.Den, .str p2.Unit, .str p2.Sum, .bool p2.Final, .str p2.Give, .str p2.To, .bool p2.Days.e0, .bool p2.Days.e1, .bool p2.Days.e2, .bool p2.Days.e3, .bool p2.Days.e4, .bool p2.Days.e5, .bool p2.Days.e6, .sl (List.map Civil.av p2.Dates), .sl (List.map AV.str p2.Names), .sl (List.map Item.av p2.Items)])), (5, .ptr 5 b3 0), (6, .ptr 6 b4 0), (7, .fn (.func 39) [] [.ref ([.int .i64 p1.Kind, .str p1.Name, .int .i64 p1.At, .str p1.Of, .str p1.Act, .int .i64 p1.Word, .int .i64 p1.Times, .int .i64 p1.Within.Days, .bool p1.Within.Business, .str p1.Within.Name, .int .i64 p1.Grace.Days, .bool p1.Grace.Business, .str p1.Grace.Name, .sl (List.map Named.av p1.Conds), .str p1.By, .str p1.Until, .int .i64 p1.Num.Num, .int .i64 p1.Num.Den, .str p1.Unit, .str p1.Sum, .bool p1.Final, .str p1.Give, .str p1.To, .bool p1.Days.e0, .bool p1.Days.e1, .bool p1.Days.e2, .bool p1.Days.e3, .bool p1.Days.e4, .bool p1.Days.e5, .bool p1.Days.e6, .sl (List.map Civil.av p1.Dates), .sl (List.map AV.str p1.Names), .sl (List.map Item.av p1.Items)]), .ref ([.int .i64 p2.Kind, .str p2.Name, .int .i64 p2.At, .str p2.Of, .str p2.Act, .int .i64 p2.Word, .int .i64 p2.Times, .int .i64 p2.Within.Days, .bool p2.Within.Business, .str p2.Within.Name, .int .i64 p2.Grace.Days, .bool p2.Grace.Business, .str p2.Grace.Name, .sl (List.map Named.av p2.Conds), .str p2.By, .str p2.Until, .int .i64 p2.Num.Num, .int .i64 p2.Num.Den, .str p2.Unit, .str p2.Sum, .bool p2.Final, .str p2.Give, .str p2.To, .bool p2.Days.e0, .bool p2.Days.e1, .bool p2.Days.e2, .bool p2.Days.e3, .bool p2.Days.e4, .bool p2.Days.e5, .bool p2.Days.e6, .sl (List.map Civil.av p2.Dates), .sl (List.map AV.str p2.Names), .sl (List.map Item.av p2.Items)])]), (85, .int .i64 (List.length x59 : Int)), (86, .int .i64 p.1.2.2.2)]) (fun p => (5, b3, .cells ([.int .i64 p3.Kind, .str p3.Name, .int .i64 p3.At, .str p3.Of, .str p3.Act, .int .i64 p3.Word, .int .i64 p3.Times, .int .i64 p3.Within.Days, .bool p3.Within.Business, .str p3.Within.Name, .int .i64 p3.Grace.Days, .bool p3.Grace.Business, .str p3.Grace.Name, .sl (List.map Named.av p3.Conds), .str p3.By, .str p3.Until, .int .i64 p3.Num.Num, .int .i64 p3.Num.Den, .str p3.Unit, .str p3.Sum, .bool p3.Final, .str p3.Give, .str p3.To, .bool p3.Days.e0, .bool p3.Days.e1, .bool p3.Days.e2, .bool p3.Days.e3, .bool p3.Days.e4, .bool p3.Days.e5, .bool p3.Days.e6, .sl (List.map Civil.av p3.Dates), accV 505 p.1.2.2.1 (List.length p.1.2.1) 1, .sl (List.map Item.av p3.Items)])) :: accO 505 p.1.2.2.1 (flt AV.str p.1.2.1) ((6, b4, .cells ([.int .i64 0, .str [], .int .i64 0, .str [], .str [], .int .i64 0, .int .i64 0, .int .i64 0, .bool false, .str [], .int .i64 0, .bool false, .str [], .nil, .str [], .str [], .int .i64 0, .int .i64 0, .str [], .str [], .bool false, .str [], .str [], .bool false, .bool false, .bool false, .bool false, .bool false, .bool false, .bool false, .nil, .nil, .nil])) :: [])) (fun p => p.1.1) ⟨⟨N, x59, bo61, 0⟩, ho67, hb62⟩ ?_ ?_
   · refine ent_le' ([]) (_ :: accO _ _ _ (_ :: [])) (_ :: accO _ _ _ (_ :: [])) rfl (List.Perm.trans (perm_ha perm_cc) (List.Perm.trans perm_ac (List.Perm.refl _))) ?_ ?_
     · simp -implicitDefEqProofs (disch := first | omega | rfl) only [go_sem, simprocAttr, subF_cons, subF_nil]
       exact ⟨(.keep _), (.lptr ..), (.lptr ..), (.fnL .nil (.cons (.keep _) (.cons (.keep _) .nil))), (.keep _), (.keep _)⟩
     · exact (.cells (.cons (.keep _) (.cons (.keep _) (.cons (.keep _) (.cons (.keep _) (.cons (.keep _) (.cons (.keep _) (.cons (.keep _) (.cons (.keep _) (.cons (.keep _) (.cons (.keep _) (.cons (.keep _) (.cons (.keep _) (.cons (.keep _) (.cons (.keep _) (.cons (.keep _) (.cons (.keep _) (.cons (.keep _) (.cons (.keep _) (.cons (.keep _) (.cons (.keep _) (.cons (.keep _) (.cons (.keep _) (.cons (.keep _) (.cons (.keep _) (.cons (.keep _) (.cons (.keep _) (.cons (.keep _) (.cons (.keep _) (.cons (.keep _) (.cons (.keep _) (.cons (.keep _) (.cons (frz_lacc (by first | rfl | (simp; done) | ((try simp only [List.length_set, List.length_take]); omega))) (.cons (.keep _) (.nil _)))))))))))))))))))))))))))))))))) (.acc (FrzP.of_eq (by first | rfl | simp only [flt_app, flt_one, List.append_assoc])) (.cell .nil)))
   rintro ⟨⟨n67, l63, bo64, x66⟩, hi67, hb65⟩
   obtain ⟨m67, q67, rfl, h, hm67⟩ := iter_some hi67
   try dsimp only at h
   try dsimp only
   unfold s34_b3 at h
   repeat refine awp_seq ?_
   refine rg (h := ?_)
   rcases ite_some h with ⟨hc71, h⟩ | ⟨hc71, h⟩
   · repeat refine awp_seq ?_
     refine awp_then (by simp -implicitDefEqProofs (disch := first | omega | rfl) only [go_sem, simprocAttr, eq_true hc71]) ?_
     repeat refine awp_seq ?_
     refine awp_skip ?_
     repeat refine awp_seq ?_
     refine awp_block ?_
     repeat refine awp_seq ?_
     refine rg (h := ?_)
     repeat refine awp_seq ?_
     refine awp_reg fun K Q hK hQ => ?_
     obtain ⟨⟨hg72, hg73⟩, h⟩ := grd_some h
     obtain ⟨b74, hs75⟩ := acc_some (acc_len hb65) (show 0 < List.length l63 by first | omega | simp)
     subst hs75
     simp -implicitDefEqProofs (disch := first | omega | rfl) only [go_sem, simprocAttr, zr34_21, accV_some, accO_some, hP, hide_P, okf39, eq_true hg72, eq_true hg73]
     have hh := bnd_some h; clear h; obtain ⟨x76, hx77, h⟩ := hh
     refine call_own hP ([]) (_ :: _ :: _ :: []) (_ :: _ :: _ :: []) ((5, b3, .cells ([.int .i64 p3.Kind, .str p3.Name, .int .i64 p3.At, .str p3.Of, .str p3.Act, .int .i64 p3.Word, .int .i64 p3.Times, .int .i64 p3.Within.Days, .bool p3.Within.Business, .str p3.Within.Name, .int .i64 p3.Grace.Days, .bool p3.Grace.Business, .str p3.Grace.Name, .sl (List.map Named.av p3.Conds), .str p3.By, .str p3.Until, .int .i64 p3.Num.Num, .int .i64 p3.Num.Den, .str p3.Unit, .str p3.Sum, .bool p3.Final, .str p3.Give, .str p3.To, .bool p3.Days.e0, .bool p3.Days.e1, .bool p3.Days.e2, .bool p3.Days.e3, .bool p3.Days.e4, .bool p3.Days.e5, .bool p3.Days.e6, .sl (List.map Civil.av p3.Dates), .row 505 b74 0 (List.length l63) 1, .sl (List.map Item.av p3.Items)])) :: (6, b4, .cells ([.int .i64 0, .str [], .int .i64 0, .str [], .str [], .int .i64 0, .int .i64 0, .int .i64 0, .bool false, .str [], .int .i64 0, .bool false, .str [], .nil, .str [], .str [], .int .i64 0, .int .i64 0, .str [], .str [], .bool false, .str [], .str [], .bool false, .bool false, .bool false, .bool false, .bool false, .bool false, .bool false, .nil, .nil, .nil])) :: []) (_ :: _ :: _ :: []) rfl (List.Perm.trans perm_cc (List.Perm.refl _)) (fun q o => List.length x76.2 = List.length l63 ∧ q = .val (.bool x76.1) ∧ o = (505, b74, .cells (flt AV.str x76.2)) :: []) (c39_11 N l63 x66.toNat p1 p2 b74 (by omega) x76 hx77) (by rintro q o ⟨hl78, rfl, rfl⟩; exact ⟨_, _, .val (.keep _), (.cell .nil), hl78, rfl, rfl⟩) (by first | rfl | (simp only [accO_app, List.cons_append, List.nil_append]; rfl) | simp only [accO_app, List.cons_append, List.nil_append]) (.cell (.cell (.cell .nil))) (.cons (.lptr ..) (.cons (by rw [Item.cs_eq]; exact .keep _) (.cons (by rw [Item.cs_eq]; exact .keep _) .nil))) ?_
     rintro q o ⟨hl78, rfl, rfl⟩
     simp -implicitDefEqProofs (disch := first | omega | rfl) only [go_sem, simprocAttr]
     refine hK _ _ ?_; clear hK hQ K Q
     repeat refine awp_seq ?_
     refine rg (h := ?_)
     obtain rfl := som_inj h
     try dsimp only at hm67
     refine ⟨⟨⟨m67, x76.2, (some b74), IntKind.wrap .i64 (x66 + 1)⟩, hm67, (fun h => by cases h)⟩, Nat.lt_succ_self _, ?_⟩
     refine ent_le' ([]) (_ :: _ :: _ :: []) (_ :: _ :: _ :: []) rfl (List.Perm.trans perm_cc (List.Perm.refl _)) ?_ ?_
     · simp -implicitDefEqProofs (disch := first | omega | rfl) only [go_sem, simprocAttr, subF_cons, subF_nil]
       exact ⟨(.keep _), (.lptr ..), (.lptr ..), (.fnL .nil (.cons (.keep _) (.cons (.keep _) .nil))), (.keep _), (.keep _)⟩
     · exact (.cells (.cons (.keep _) (.cons (.keep _) (.cons (.keep _) (.cons (.keep _) (.cons (.keep _) (.cons (.keep _) (.cons (.keep _) (.cons (.keep _) (.cons (.keep _) (.cons (.keep _) (.cons (.keep _) (.cons (.keep _) (.cons (.keep _) (.cons (.keep _) (.cons (.keep _) (.cons (.keep _) (.cons (.keep _) (.cons (.keep _) (.cons (.keep _) (.cons (.keep _) (.cons (.keep _) (.cons (.keep _) (.cons (.keep _) (.cons (.keep _) (.cons (.keep _) (.cons (.keep _) (.cons (.keep _) (.cons (.keep _) (.cons (.keep _) (.cons (.keep _) (.cons (.keep _) (.cons (frz_lrow (by first | rfl | (simp; done) | ((try simp only [List.length_set, List.length_take]); omega))) (.cons (.keep _) (.nil _)))))))))))))))))))))))))))))))))) (.cells (FrzP.of_eq (by first | rfl | simp)) (.cell .nil)))
   repeat refine awp_seq ?_
   refine awp_else (by simp -implicitDefEqProofs (disch := first | omega | rfl) only [go_sem, simprocAttr, eq_false hc71]) ?_
   repeat refine awp_seq ?_
   refine awp_exit ?_
   repeat' (first | refine then_exit ?_ | refine exit_here ?_ | refine exit_on rfl ?_)
   obtain rfl := som_inj h
   try dsimp only at hm67
   subst hm67
   try dsimp only at hO67
   repeat refine awp_seq ?_
   refine awp_regD' (accO _ _ _ (_ :: [])) (_ :: []) (accO _ _ _ (_ :: _ :: [])) (by rw [hP]; exact mixed) (by first | rfl | (simp only [accO_app, List.cons_append, List.nil_append]; rfl) | simp only [accO_app, List.cons_append, List.nil_append]) (List.Perm.trans perm_ca ((perm_ha (List.Perm.trans perm_cc (List.Perm.refl _))))) fun K hK => ?_
   obtain ⟨hg79, hO67⟩ := grd_some hO67
   obtain ⟨hg80, hO67⟩ := grd_some hO67
   simp -implicitDefEqProofs (disch := first | omega | rfl) only [go_sem, simprocAttr, zr34_23, eq_true hg79, eq_true hg80]
   refine hK _ _ ?_; clear hK K
   repeat refine awp_seq ?_
   refine rg (h := ?_)
   obtain rfl := som_inj hO67
   repeat refine awp_seq ?_
   refine awp_le' (s' := [(6, .ptr 6 b4 0)]) (own' := (6, b4, .cells (Item.cs ({ p3 with Name := (p2.Name ++ [46]) ++ p3.Name, At := p2.At, Names := l63 }))) :: []) (accO _ _ _ []) (_ :: _ :: []) (accO _ _ _ (_ :: _ :: [])) (by first | rfl | (simp only [accO_app, List.cons_append, List.nil_append]; rfl) | simp only [accO_app, List.cons_append, List.nil_append]) (List.Perm.refl _) ?_ ?_ ?_
   · simp -implicitDefEqProofs (disch := first | omega | rfl) only [go_sem, simprocAttr, subF_cons, subF_nil]
     exact (.lptr ..)
   · exact (.cells (by rw [Item.cs_eq]; exact (.cons (.keep _) (.cons (.keep _) (.cons (.keep _) (.cons (.keep _) (.cons (.keep _) (.cons (.keep _) (.cons (.keep _) (.cons (.keep _) (.cons (.keep _) (.cons (.keep _) (.cons (.keep _) (.cons (.keep _) (.cons (.keep _) (.cons (.keep _) (.cons (.keep _) (.cons (.keep _) (.cons (.keep _) (.cons (.keep _) (.cons (.keep _) (.cons (.keep _) (.cons (.keep _) (.cons (.keep _) (.cons (.keep _) (.cons (.keep _) (.cons (.keep _) (.cons (.keep _) (.cons (.keep _) (.cons (.keep _) (.cons (.keep _) (.cons (.keep _) (.cons (.keep _) (.cons (frz_acc (fun _ => rfl) hb65 (by intro b hb; subst hb; simp -implicitDefEqProofs (disch := first | omega | rfl) only [go_sem, simprocAttr]) (by first | rfl | (simp; done) | ((try simp only [List.length_set, List.length_take]); omega))) (.cons (.keep _) (.nil _))))))))))))))))))))))))))))))))))) (.drop .nil))
   refine awp_ret ?_
   repeat first | refine then_ret ?_ | refine blk_ret ?_
   exact rtp
 repeat refine awp_seq ?_
 refine awp_else (by simp -implicitDefEqProofs (disch := first | omega | rfl) only [go_sem, simprocAttr, eq_false hc58]) ?_
 repeat refine awp_seq ?_
 refine awp_skip ?_
 repeat refine awp_seq ?_
 refine awp_regD' (_ :: []) (_ :: []) (_ :: _ :: []) (by rw [hP]; exact mixed) rfl (List.Perm.refl _) fun K hK => ?_
 obtain ⟨hg83, h⟩ := grd_some h
 obtain ⟨hg84, h⟩ := grd_some h
 simp -implicitDefEqProofs (disch := first | omega | rfl) only [go_sem, simprocAttr, zr34_23, eq_true hg83, eq_true hg84]
 refine hK _ _ ?_; clear hK K
 repeat refine awp_seq ?_
 refine rg (h := ?_)
 obtain rfl := som_inj h
 repeat refine awp_seq ?_
 refine awp_ret ?_
 repeat first | refine then_ret ?_ | refine blk_ret ?_
 exact rtp
end Go.Proofs.Inc
namespace Go.Proofs.Inc
open Go.Aw
set_option maxRecDepth 100000
attribute [-go_sem] nisA_sl appA_nil
def zr36_0 : List AO := [⟨some 4, none, .mov (.c (.bool false))⟩]
def zr36_1 : DT := (.pur ⟨some 11, none, .mov (.t 1)⟩ (.pur ⟨some 12, none, .nilc (.t 11)⟩ (.pur ⟨some 13, none, .fadr 7 (.t 12)⟩ (.pur ⟨some 14, none, .mov (.t 1)⟩ (.pur ⟨some 15, none, .nilc (.t 14)⟩ (.pur ⟨some 16, none, .fadr 10 (.t 15)⟩ (.pur ⟨some 19, none, .mov (.c (.int .i64 0))⟩ (.alt false ⟨some 17, none, .mkrow 1 2 [.lit (.pointer none)] [(0, 1, (.t 13)), (1, 1, (.t 16))]⟩ (.alt false ⟨some 18, none, .len (.t 17)⟩ .done .stop) .stop))))))))
def zr36_2 : List AO := [⟨some 20, none, .bin .lss (.t 19) (.t 18)⟩]
def zr36_3 : List AO := [⟨some 21, none, .iadr 1 (.t 17) (.t 19)⟩,
  ⟨some 22, none, .load false 1 (.t 21)⟩,
  ⟨some 6, none, .mov (.t 22)⟩]
def zr36_4 : List AO := [⟨some 23, none, .mov (.t 6)⟩,
  ⟨some 24, none, .nilc (.t 23)⟩,
  ⟨some 25, none, .fadr 2 (.t 24)⟩,
  ⟨some 26, none, .load false 1 (.t 25)⟩,
  ⟨some 27, none, .bin .eql (.t 26) (.c (.str []))⟩]
def zc36_0 : AC := .cond (.t 27) (.exit 1) .skip
def zr36_5 : DT := (.pur ⟨some 29, none, .mov (.t 0)⟩ (.pur ⟨some 30, none, .nilc (.t 29)⟩ (.pur ⟨some 31, none, .fadr 1 (.t 30)⟩ (.pur ⟨some 32, none, .load false 1 (.t 31)⟩ (.pur ⟨some 33, none, .mov (.t 6)⟩ (.pur ⟨some 34, none, .nilc (.t 33)⟩ (.pur ⟨some 35, none, .fadr 2 (.t 34)⟩ (.pur ⟨some 36, none, .load false 1 (.t 35)⟩ (.pur ⟨some 37, none, .mlook true .s (.agg [.int .i64 0, .bool false, .str []]) (.t 32) (.t 36)⟩ (.pur ⟨some 28, none, .mov (.t 37)⟩ (.pur ⟨some 38, none, .ext 0 (.t 28)⟩ (.pur ⟨some 39, none, .ext 1 (.t 28)⟩ (.alt false ⟨some 7, none, .alloc [.int .i64 0, .bool false, .str []]⟩ (.alt false ⟨none, none, .store 3 (.t 7) (.t 38)⟩ (.alt true ⟨some 8, none, .mov (.t 39)⟩ .done .stop) .stop) .stop)))))))))))))
def zr36_6 : List AO := [⟨some 40, none, .mov (.t 8)⟩,
  ⟨some 41, none, .un .not (.t 40)⟩]
def zr36_7 : List AO := [⟨some 4, none, .mov (.c (.bool false))⟩]
def zc36_1 : AC := .seq (.reg zr36_7) .ret
def zc36_2 : AC := .cond (.t 41) zc36_1 .skip
def zr36_8 : List AO := [⟨some 42, none, .mov (.t 6)⟩,
  ⟨some 43, none, .load true 3 (.t 7)⟩,
  ⟨some 44, none, .nilc (.t 42)⟩,
  ⟨none, none, .store 3 (.t 44) (.t 43)⟩]
def zc36_3 : AC := .reg zr36_8
def zc36_4 : AC := .seq (.seq (.reg zr36_6) zc36_2) zc36_3
def zc36_5 : AC := .seq (.regD zr36_5) zc36_4
def zc36_6 : AC := .seq (.seq (.reg zr36_4) zc36_0) zc36_5
def zc36_7 : AC := .seq (.reg zr36_3) zc36_6
def zr36_9 : List AO := [⟨some 45, none, .bin .add (.t 19) (.c (.int .i64 1))⟩,
  ⟨some 19, none, .mov (.t 45)⟩]
def zc36_8 : AC := .reg zr36_9
def zc36_9 : AC := .seq (.block 1 zc36_7) zc36_8
def zc36_10 : AC := .seq (.cond (.t 20) .skip (.exit 0)) zc36_9
def zc36_11 : AC := .seq (.reg zr36_2) zc36_10
def zc36_12 : AC := .loop zc36_11
def zc36_13 : AC := .block 0 zc36_12
def zr36_10 : List AO := [⟨some 46, none, .mov (.t 1)⟩,
  ⟨some 47, none, .nilc (.t 46)⟩,
  ⟨some 48, none, .fadr 19 (.t 47)⟩,
  ⟨some 49, none, .load false 1 (.t 48)⟩,
  ⟨some 50, none, .bin .neq (.t 49) (.c (.str []))⟩]
def zr36_11 : DT := (.pur ⟨some 52, none, .mov (.t 0)⟩ (.pur ⟨some 53, none, .nilc (.t 52)⟩ (.pur ⟨some 54, none, .fadr 2 (.t 53)⟩ (.pur ⟨some 55, none, .load false 1 (.t 54)⟩ (.pur ⟨some 56, none, .mov (.t 1)⟩ (.pur ⟨some 57, none, .nilc (.t 56)⟩ (.pur ⟨some 58, none, .fadr 19 (.t 57)⟩ (.pur ⟨some 59, none, .load false 1 (.t 58)⟩ (.pur ⟨some 60, none, .mlook true .s (.agg [.int .i64 0, .str [], .int .i64 0, .str [], .str [], .int .i64 0, .int .i64 0, .int .i64 0, .bool false, .str [], .int .i64 0, .bool false, .str [], .nil, .str [], .str [], .int .i64 0, .int .i64 0, .str [], .str [], .bool false, .str [], .str [], .bool false, .bool false, .bool false, .bool false, .bool false, .bool false, .bool false, .nil, .nil, .nil]) (.t 55) (.t 59)⟩ (.pur ⟨some 51, none, .mov (.t 60)⟩ (.pur ⟨some 61, none, .ext 0 (.t 51)⟩ (.pur ⟨some 62, none, .ext 1 (.t 51)⟩ (.alt false ⟨some 9, none, .alloc [.int .i64 0, .str [], .int .i64 0, .str [], .str [], .int .i64 0, .int .i64 0, .int .i64 0, .bool false, .str [], .int .i64 0, .bool false, .str [], .nil, .str [], .str [], .int .i64 0, .int .i64 0, .str [], .str [], .bool false, .str [], .str [], .bool false, .bool false, .bool false, .bool false, .bool false, .bool false, .bool false, .nil, .nil, .nil]⟩ (.alt false ⟨none, none, .store 33 (.t 9) (.t 61)⟩ (.alt true ⟨some 10, none, .mov (.t 62)⟩ .done .stop) .stop) .stop)))))))))))))
def zr36_12 : List AO := [⟨some 63, none, .mov (.t 10)⟩,
  ⟨some 64, none, .un .not (.t 63)⟩]
def zr36_13 : List AO := [⟨some 4, none, .mov (.c (.bool false))⟩]
def zc36_14 : AC := .seq (.reg zr36_13) .ret
def zc36_15 : AC := .cond (.t 64) zc36_14 .skip
def zr36_14 : DT := (.pur ⟨some 65, none, .mov (.t 1)⟩ (.pur ⟨some 66, none, .mov (.t 1)⟩ (.pur ⟨some 67, none, .mov (.t 1)⟩ (.pur ⟨some 68, none, .fadr 16 (.t 9)⟩ (.pur ⟨some 69, none, .load true 2 (.t 68)⟩ (.pur ⟨some 70, none, .fadr 18 (.t 9)⟩ (.pur ⟨some 71, none, .load false 1 (.t 70)⟩ (.alt false ⟨some 72, none, .nilc (.t 65)⟩ (.alt false ⟨some 73, none, .fadr 16 (.t 72)⟩ (.alt false ⟨none, none, .store 2 (.t 73) (.t 69)⟩ (.alt false ⟨some 74, none, .nilc (.t 66)⟩ (.alt false ⟨some 75, none, .fadr 18 (.t 74)⟩ (.alt false ⟨none, none, .store 1 (.t 75) (.t 71)⟩ (.alt false ⟨some 76, none, .nilc (.t 67)⟩ (.alt false ⟨some 77, none, .fadr 19 (.t 76)⟩ (.alt true ⟨none, none, .store 1 (.t 77) (.c (.str []))⟩ .done .stop) .stop) .stop) .stop) .stop) .stop) .stop) .stop) .stop))))))))
def zc36_16 : AC := .regD zr36_14
def zc36_17 : AC := .seq (.seq (.reg zr36_12) zc36_15) zc36_16
def zc36_18 : AC := .seq (.regD zr36_11) zc36_17
def zc36_19 : AC := .cond (.t 50) zc36_18 .skip
def zr36_15 : List AO := [⟨some 4, none, .mov (.c (.bool true))⟩]
def zc36_20 : AC := .seq (.reg zr36_15) .ret
def zc36_21 : AC := .seq (.seq (.reg zr36_10) zc36_19) zc36_20
def zc36_22 : AC := .seq (.seq (.regD zr36_1) zc36_13) zc36_21
def zc36_23 : AC := .seq (.reg zr36_0) zc36_22
def zc36 : AC := zc36_23
theorem ok36 : Try.f36.body.bind (compCode Try.prog 78) = some zc36 := by kernel_rfl
theorem nt36 : Try.f36.ntmps = 78 := by kernel_rfl
theorem res36 : compRes Try.prog Try.f36.results.toList = some [.tmp 4] := by kernel_rfl
attribute [go_sem] zr36_0 zr36_10 zr36_12 zr36_13 zr36_15 zr36_2 zr36_3 zr36_4 zr36_6 zr36_7 zr36_8 zr36_9
def s36_k1 (N : Nat) (p3 : List (List UInt8 × Item)) (x2 : Item) : Option (Bool × Item) :=
  if x2.Sum = [] then
    some (true, x2)
  else
    (mlook x2.Sum p3).elim (
      some (false, x2)) fun v5 =>
    some (true, { x2 with Num := v5.Num, Unit := v5.Unit, Sum := [] })
def s36_k2 (N : Nat) (p3 : List (List UInt8 × Item)) (x9 : Item) : Option (Bool × Item) :=
  s36_k1 N p3 x9
def s36_k3 (N : Nat) (p2 : List (List UInt8 × Span)) (p3 : List (List UInt8 × Item)) (x8 : Item) : Option (Bool × Item) :=
  if x8.Grace.Name = [] then
    s36_k2 N p3 x8
  else
    (mlook x8.Grace.Name p2).elim (
      some (false, x8)) fun v12 =>
    s36_k2 N p3 ({ x8 with Grace := v12 })
def o36 (p1 : List (List UInt8 × Item)) (p2 : List (List UInt8 × Span)) (p3 : List (List UInt8 × Item)) (p4 : Int) (p5 : List Item) (p6 : List (List UInt8)) (p7 : Item) (b900 : Nat) (b901 : Nat) (b902 : Nat) (b903 : Nat) (o904 : Option Nat) (o905 : Option Nat) (b906 : Nat) (r : Bool × Item) : Res → Own → Prop := fun q o => q = .val (.bool r.1) ∧ o = (900, b900, .cells ([.mapv 901 b901, .mapv 902 b902, .mapv 903 b903, .int .i64 p4, accV 904 o904 (List.length p5) 33, accV 905 o905 (List.length p6) 1])) :: (901, b901, .map (List.map (fun p => (AV.str p.1, .agg (Item.cs p.2))) p1)) :: (902, b902, .map (List.map (fun p => (AV.str p.1, .agg (Span.cs p.2))) p2)) :: (903, b903, .map (List.map (fun p => (AV.str p.1, .agg (Item.cs p.2))) p3)) :: accO 904 o904 (flt Item.av p5) (accO 905 o905 (flt AV.str p6) ((906, b906, .cells (Item.cs r.2)) :: []))
def s36 (N : Nat) (p1 : List (List UInt8 × Item)) (p2 : List (List UInt8 × Span)) (p3 : List (List UInt8 × Item)) (p4 : Int) (p5 : List Item) (p6 : List (List UInt8)) (p7 : Item) : Option (Bool × Item) :=
  if p7.Within.Name = [] then
    s36_k3 N p2 p3 p7
  else
    (mlook p7.Within.Name p2).elim (
      some (false, p7)) fun v17 =>
    s36_k3 N p2 p3 ({ p7 with Within := v17 })
set_option maxHeartbeats 4000000 in
theorem c36 (N : Nat) (p1 : List (List UInt8 × Item)) (p2 : List (List UInt8 × Span)) (p3 : List (List UInt8 × Item)) (p4 : Int) (p5 : List Item) (p6 : List (List UInt8)) (p7 : Item) (b900 : Nat) (b901 : Nat) (b902 : Nat) (b903 : Nat) (o904 : Option Nat) (h904 : o904 = none → p5 = []) (o905 : Option Nat) (h905 : o905 = none → p6 = []) (b906 : Nat) (r : Bool × Item) (h : s36 N p1 p2 p3 p4 p5 p6 p7 = some r) : FnC Try.prog 36 [.ptr 900 b900 0, .ptr 906 b906 0] ((900, b900, .cells ([.mapv 901 b901, .mapv 902 b902, .mapv 903 b903, .int .i64 p4, accV 904 o904 (List.length p5) 33, accV 905 o905 (List.length p6) 1])) :: (901, b901, .map (List.map (fun p => (AV.str p.1, .agg (Item.cs p.2))) p1)) :: (902, b902, .map (List.map (fun p => (AV.str p.1, .agg (Span.cs p.2))) p2)) :: (903, b903, .map (List.map (fun p => (AV.str p.1, .agg (Item.cs p.2))) p3)) :: accO 904 o904 (flt Item.av p5) (accO 905 o905 (flt AV.str p6) ((906, b906, .cells (Item.cs p7)) :: []))) (o36 p1 p2 p3 p4 p5 p6 p7 b900 b901 b902 b903 o904 o905 b906 r) := by
 refine fn_intro' 78 Try.func36 nt36 ok36 res36 (by simp) fun X hP hn hd hr => ?_
 unfold s36 at h
 repeat refine awp_seq ?_
 refine rg (h := ?_)
 repeat refine awp_seq ?_
 refine awp_regD' (_ :: _ :: _ :: _ :: accO _ _ _ (accO _ _ _ (_ :: []))) ([]) (_ :: _ :: _ :: _ :: accO _ _ _ (accO _ _ _ (_ :: []))) (by rw [hP]; exact mixed) (by first | rfl | (simp only [accO_app, List.cons_append, List.nil_append]; rfl) | simp only [accO_app, List.cons_append, List.nil_append]) (List.Perm.refl _) fun K hK => ?_
 simp -implicitDefEqProofs (disch := first | omega | rfl) only [go_sem, simprocAttr, zr36_1]
 intro b1
 refine hK _ _ ?_; clear hK K
 repeat refine awp_seq ?_
 refine awp_cut (ι := {p : Item // s36_k1 N p3 p = some r}) (fun p => [(0, .ptr 900 b900 0), (1, .ptr 906 b906 0)]) (fun p => (900, b900, .cells ([.mapv 901 b901, .mapv 902 b902, .mapv 903 b903, .int .i64 p4, accV 904 o904 (List.length p5) 33, accV 905 o905 (List.length p6) 1])) :: (901, b901, .map (List.map (fun p => (AV.str p.1, .agg (Item.cs p.2))) p1)) :: (902, b902, .map (List.map (fun p => (AV.str p.1, .agg (Span.cs p.2))) p2)) :: (903, b903, .map (List.map (fun p => (AV.str p.1, .agg (Item.cs p.2))) p3)) :: accO 904 o904 (flt Item.av p5) (accO 905 o905 (flt AV.str p6) ((906, b906, .cells (Item.cs p.1)) :: []))) ?_ ?_
 · repeat refine awp_seq ?_
   refine awp_block ?_
   repeat refine awp_seq ?_
   refine awp_rounds 62 ?_
   refine Go.Aw.rounds_succ ?_
   repeat refine awp_seq ?_
   refine rg (h := ?_)
   repeat refine awp_seq ?_
   refine awp_then (by rfl) ?_
   repeat refine awp_seq ?_
   refine awp_skip ?_
   repeat refine awp_seq ?_
   refine awp_cut (ι := {p : Item // s36_k3 N p2 p3 p = some r}) (fun p => [(0, .ptr 900 b900 0), (1, .ptr 906 b906 0), (17, .row 17 b1 0 2 1), (18, .int .i64 2), (19, .int .i64 0)]) (fun p => (900, b900, .cells ([.mapv 901 b901, .mapv 902 b902, .mapv 903 b903, .int .i64 p4, accV 904 o904 (List.length p5) 33, accV 905 o905 (List.length p6) 1])) :: (901, b901, .map (List.map (fun p => (AV.str p.1, .agg (Item.cs p.2))) p1)) :: (902, b902, .map (List.map (fun p => (AV.str p.1, .agg (Span.cs p.2))) p2)) :: (903, b903, .map (List.map (fun p => (AV.str p.1, .agg (Item.cs p.2))) p3)) :: accO 904 o904 (flt Item.av p5) (accO 905 o905 (flt AV.str p6) ((906, b906, .cells (Item.cs p.1)) :: (17, b1, .cells ([.ptr 906 b906 7, .ptr 906 b906 10])) :: []))) ?_ ?_
   · repeat refine awp_seq ?_
     refine awp_block ?_
     repeat refine awp_seq ?_
     refine rg (h := ?_)
     repeat refine awp_seq ?_
     refine rg (h := ?_)
     rcases ite_some h with ⟨hc15, h⟩ | ⟨hc15, h⟩
     · repeat refine awp_seq ?_
       refine awp_then (by simp -implicitDefEqProofs (disch := first | omega | rfl) only [go_sem, simprocAttr, eq_true hc15]) ?_
       repeat refine awp_seq ?_
       refine awp_exit ?_
       repeat' (first | refine then_exit ?_ | refine exit_here ?_ | refine exit_on rfl ?_)
       refine ⟨⟨p7, h⟩, ?_⟩
       refine ent_le' ([]) (_ :: _ :: _ :: _ :: accO _ _ _ (accO _ _ _ (_ :: _ :: []))) (_ :: _ :: _ :: _ :: accO _ _ _ (accO _ _ _ (_ :: _ :: []))) rfl (List.Perm.refl _) ?_ ?_
       · simp -implicitDefEqProofs (disch := first | omega | rfl) only [go_sem, simprocAttr, subF_cons, subF_nil]
         exact ⟨(.lptr ..), (.lptr ..), (frz_lrow (by first | rfl | (simp; done) | ((try simp only [List.length_set, List.length_take]); omega))), (.keep _), (.keep _)⟩
       · exact (.cell (.map' (by first | rfl | simp) (.map' (by first | rfl | simp) (.map' (by first | rfl | simp) (.acc (FrzP.refl _ _) (.acc (FrzP.refl _ _) (.cells (FrzP.of_eq (by first | rfl | simp)) (.cell .nil))))))))
     repeat refine awp_seq ?_
     refine awp_else (by simp -implicitDefEqProofs (disch := first | omega | rfl) only [go_sem, simprocAttr, eq_false hc15]) ?_
     repeat refine awp_seq ?_
     refine awp_skip ?_
     repeat refine awp_seq ?_
     refine awp_regD' (_ :: _ :: _ :: _ :: accO _ _ _ (accO _ _ _ (_ :: _ :: []))) ([]) (_ :: _ :: _ :: _ :: accO _ _ _ (accO _ _ _ (_ :: _ :: []))) (by rw [hP]; exact mixed) (by first | rfl | (simp only [accO_app, List.cons_append, List.nil_append]; rfl) | simp only [accO_app, List.cons_append, List.nil_append]) (List.Perm.refl _) fun K hK => ?_
     have hh := elm_some h; clear h; rcases hh with ⟨hl16, h⟩ | ⟨v17, hl16, h⟩
     · simp -implicitDefEqProofs (disch := first | omega | rfl) only [go_sem, simprocAttr, zr36_5, mlk_str_none (f := (fun x => AV.agg (Span.cs x))) hl16]
       intro b18
       refine hK _ _ ?_; clear hK K
       repeat refine awp_seq ?_
       refine rg (h := ?_)
       repeat refine awp_seq ?_
       refine awp_then (by rfl) ?_
       repeat refine awp_seq ?_
       refine rg (h := ?_)
       obtain rfl := som_inj h
       repeat refine awp_seq ?_
       refine awp_le' (s' := [(4, .bool false)]) (own' := (900, b900, .cells ([.mapv 901 b901, .mapv 902 b902, .mapv 903 b903, .int .i64 p4, accV 904 o904 (List.length p5) 33, accV 905 o905 (List.length p6) 1])) :: (901, b901, .map (List.map (fun p => (AV.str p.1, .agg (Item.cs p.2))) p1)) :: (902, b902, .map (List.map (fun p => (AV.str p.1, .agg (Span.cs p.2))) p2)) :: (903, b903, .map (List.map (fun p => (AV.str p.1, .agg (Item.cs p.2))) p3)) :: accO 904 o904 (flt Item.av p5) (accO 905 o905 (flt AV.str p6) ((906, b906, .cells (Item.cs p7)) :: []))) ([]) (_ :: _ :: _ :: _ :: accO _ _ _ (accO _ _ _ (_ :: _ :: _ :: []))) (_ :: _ :: _ :: _ :: accO _ _ _ (accO _ _ _ (_ :: _ :: _ :: []))) rfl (List.Perm.refl _) ?_ ?_ ?_
       · simp -implicitDefEqProofs (disch := first | omega | rfl) only [go_sem, simprocAttr, subF_cons, subF_nil]
         exact (.keep _)
       · exact (.cell (.map' (by first | rfl | simp) (.map' (by first | rfl | simp) (.map' (by first | rfl | simp) (.acc (FrzP.refl _ _) (.acc (FrzP.refl _ _) (.cell (.drop (.drop .nil)))))))))
       refine awp_ret ?_
       repeat' (first | refine then_ret ?_ | refine blk_ret ?_)
       refine ret_q ?_
       simp -implicitDefEqProofs (disch := first | omega | rfl) only [go_sem, simprocAttr]
       exact leaves_own (G := o36 p1 p2 p3 p4 p5 p6 p7 b900 b901 b902 b903 o904 o905 b906 (false, p7)) ⟨rfl, rfl⟩
     simp -implicitDefEqProofs (disch := first | omega | rfl) only [go_sem, simprocAttr, zr36_5, mlk_str_some (f := (fun x => AV.agg (Span.cs x))) hl16]
     intro b19
     refine hK _ _ ?_; clear hK K
     repeat refine awp_seq ?_
     refine rg (h := ?_)
     repeat refine awp_seq ?_
     refine awp_else (by rfl) ?_
     repeat refine awp_seq ?_
     refine awp_skip ?_
     repeat refine awp_seq ?_
     refine rg (h := ?_)
     refine ⟨⟨{ p7 with Within := v17 }, h⟩, ?_⟩
     refine ent_le' ([]) (_ :: _ :: _ :: _ :: accO _ _ _ (accO _ _ _ (_ :: _ :: _ :: []))) (_ :: _ :: _ :: _ :: accO _ _ _ (accO _ _ _ (_ :: _ :: _ :: []))) rfl (List.Perm.refl _) ?_ ?_
     · simp -implicitDefEqProofs (disch := first | omega | rfl) only [go_sem, simprocAttr, subF_cons, subF_nil]
       exact ⟨(.lptr ..), (.lptr ..), (frz_lrow (by first | rfl | (simp; done) | ((try simp only [List.length_set, List.length_take]); omega))), (.keep _), (.keep _)⟩
     · exact (.cell (.map' (by first | rfl | simp) (.map' (by first | rfl | simp) (.map' (by first | rfl | simp) (.acc (FrzP.refl _ _) (.acc (FrzP.refl _ _) (.cells (FrzP.of_eq (by first | rfl | simp)) (.cell (.drop .nil)))))))))
   rintro ⟨x8, h⟩
   try dsimp only at h
   try dsimp only
   repeat refine awp_seq ?_
   refine rg (by intro K Q; simp -implicitDefEqProofs (disch := first | omega | rfl) only [go_sem, simprocAttr, w64_1] <;> rfl) ?_
   refine Go.Aw.rounds_succ ?_
   repeat refine awp_seq ?_
   refine rg (h := ?_)
   repeat refine awp_seq ?_
   refine awp_then (by rfl) ?_
   repeat refine awp_seq ?_
   refine awp_skip ?_
   repeat refine awp_seq ?_
   refine awp_cut (ι := {p : Item // s36_k2 N p3 p = some r}) (fun p => [(0, .ptr 900 b900 0), (1, .ptr 906 b906 0), (17, .row 17 b1 0 2 1), (18, .int .i64 2), (19, .int .i64 1)]) (fun p => (900, b900, .cells ([.mapv 901 b901, .mapv 902 b902, .mapv 903 b903, .int .i64 p4, accV 904 o904 (List.length p5) 33, accV 905 o905 (List.length p6) 1])) :: (901, b901, .map (List.map (fun p => (AV.str p.1, .agg (Item.cs p.2))) p1)) :: (902, b902, .map (List.map (fun p => (AV.str p.1, .agg (Span.cs p.2))) p2)) :: (903, b903, .map (List.map (fun p => (AV.str p.1, .agg (Item.cs p.2))) p3)) :: accO 904 o904 (flt Item.av p5) (accO 905 o905 (flt AV.str p6) ((906, b906, .cells (Item.cs p.1)) :: (17, b1, .cells ([.ptr 906 b906 7, .ptr 906 b906 10])) :: []))) ?_ ?_
   · repeat refine awp_seq ?_
     refine awp_block ?_
     repeat refine awp_seq ?_
     refine rg (h := ?_)
     repeat refine awp_seq ?_
     refine rg (h := ?_)
     rcases ite_some h with ⟨hc10, h⟩ | ⟨hc10, h⟩
     · repeat refine awp_seq ?_
       refine awp_then (by simp -implicitDefEqProofs (disch := first | omega | rfl) only [go_sem, simprocAttr, eq_true hc10]) ?_
       repeat refine awp_seq ?_
       refine awp_exit ?_
       repeat' (first | refine then_exit ?_ | refine exit_here ?_ | refine exit_on rfl ?_)
       refine ⟨⟨x8, h⟩, ?_⟩
       refine ent_le' ([]) (_ :: _ :: _ :: _ :: accO _ _ _ (accO _ _ _ (_ :: _ :: []))) (_ :: _ :: _ :: _ :: accO _ _ _ (accO _ _ _ (_ :: _ :: []))) rfl (List.Perm.refl _) ?_ ?_
       · simp -implicitDefEqProofs (disch := first | omega | rfl) only [go_sem, simprocAttr, subF_cons, subF_nil]
         exact ⟨(.lptr ..), (.lptr ..), (frz_lrow (by first | rfl | (simp; done) | ((try simp only [List.length_set, List.length_take]); omega))), (.keep _), (.keep _)⟩
       · exact (.cell (.map' (by first | rfl | simp) (.map' (by first | rfl | simp) (.map' (by first | rfl | simp) (.acc (FrzP.refl _ _) (.acc (FrzP.refl _ _) (.cells (FrzP.of_eq (by first | rfl | simp)) (.cell .nil))))))))
     repeat refine awp_seq ?_
     refine awp_else (by simp -implicitDefEqProofs (disch := first | omega | rfl) only [go_sem, simprocAttr, eq_false hc10]) ?_
     repeat refine awp_seq ?_
     refine awp_skip ?_
     repeat refine awp_seq ?_
     refine awp_regD' (_ :: _ :: _ :: _ :: accO _ _ _ (accO _ _ _ (_ :: _ :: []))) ([]) (_ :: _ :: _ :: _ :: accO _ _ _ (accO _ _ _ (_ :: _ :: []))) (by rw [hP]; exact mixed) (by first | rfl | (simp only [accO_app, List.cons_append, List.nil_append]; rfl) | simp only [accO_app, List.cons_append, List.nil_append]) (List.Perm.refl _) fun K hK => ?_
     have hh := elm_some h; clear h; rcases hh with ⟨hl11, h⟩ | ⟨v12, hl11, h⟩
     · simp -implicitDefEqProofs (disch := first | omega | rfl) only [go_sem, simprocAttr, zr36_5, mlk_str_none (f := (fun x => AV.agg (Span.cs x))) hl11]
       intro b13
       refine hK _ _ ?_; clear hK K
       repeat refine awp_seq ?_
       refine rg (h := ?_)
       repeat refine awp_seq ?_
       refine awp_then (by rfl) ?_
       repeat refine awp_seq ?_
       refine rg (h := ?_)
       obtain rfl := som_inj h
       repeat refine awp_seq ?_
       refine awp_le' (s' := [(4, .bool false)]) (own' := (900, b900, .cells ([.mapv 901 b901, .mapv 902 b902, .mapv 903 b903, .int .i64 p4, accV 904 o904 (List.length p5) 33, accV 905 o905 (List.length p6) 1])) :: (901, b901, .map (List.map (fun p => (AV.str p.1, .agg (Item.cs p.2))) p1)) :: (902, b902, .map (List.map (fun p => (AV.str p.1, .agg (Span.cs p.2))) p2)) :: (903, b903, .map (List.map (fun p => (AV.str p.1, .agg (Item.cs p.2))) p3)) :: accO 904 o904 (flt Item.av p5) (accO 905 o905 (flt AV.str p6) ((906, b906, .cells (Item.cs x8)) :: []))) ([]) (_ :: _ :: _ :: _ :: accO _ _ _ (accO _ _ _ (_ :: _ :: _ :: []))) (_ :: _ :: _ :: _ :: accO _ _ _ (accO _ _ _ (_ :: _ :: _ :: []))) rfl (List.Perm.refl _) ?_ ?_ ?_
       · simp -implicitDefEqProofs (disch := first | omega | rfl) only [go_sem, simprocAttr, subF_cons, subF_nil]
         exact (.keep _)
       · exact (.cell (.map' (by first | rfl | simp) (.map' (by first | rfl | simp) (.map' (by first | rfl | simp) (.acc (FrzP.refl _ _) (.acc (FrzP.refl _ _) (.cell (.drop (.drop .nil)))))))))
       refine awp_ret ?_
       repeat' (first | refine then_ret ?_ | refine blk_ret ?_)
       refine ret_q ?_
       simp -implicitDefEqProofs (disch := first | omega | rfl) only [go_sem, simprocAttr]
       exact leaves_own (G := o36 p1 p2 p3 p4 p5 p6 p7 b900 b901 b902 b903 o904 o905 b906 (false, x8)) ⟨rfl, rfl⟩
     simp -implicitDefEqProofs (disch := first | omega | rfl) only [go_sem, simprocAttr, zr36_5, mlk_str_some (f := (fun x => AV.agg (Span.cs x))) hl11]
     intro b14
     refine hK _ _ ?_; clear hK K
     repeat refine awp_seq ?_
     refine rg (h := ?_)
     repeat refine awp_seq ?_
     refine awp_else (by rfl) ?_
     repeat refine awp_seq ?_
     refine awp_skip ?_
     repeat refine awp_seq ?_
     refine rg (h := ?_)
     refine ⟨⟨{ x8 with Grace := v12 }, h⟩, ?_⟩
     refine ent_le' ([]) (_ :: _ :: _ :: _ :: accO _ _ _ (accO _ _ _ (_ :: _ :: _ :: []))) (_ :: _ :: _ :: _ :: accO _ _ _ (accO _ _ _ (_ :: _ :: _ :: []))) rfl (List.Perm.refl _) ?_ ?_
     · simp -implicitDefEqProofs (disch := first | omega | rfl) only [go_sem, simprocAttr, subF_cons, subF_nil]
       exact ⟨(.lptr ..), (.lptr ..), (frz_lrow (by first | rfl | (simp; done) | ((try simp only [List.length_set, List.length_take]); omega))), (.keep _), (.keep _)⟩
     · exact (.cell (.map' (by first | rfl | simp) (.map' (by first | rfl | simp) (.map' (by first | rfl | simp) (.acc (FrzP.refl _ _) (.acc (FrzP.refl _ _) (.cells (FrzP.of_eq (by first | rfl | simp)) (.cell (.drop .nil)))))))))
   rintro ⟨x9, h⟩
   try dsimp only at h
   try dsimp only
   repeat refine awp_seq ?_
   refine rg (by intro K Q; simp -implicitDefEqProofs (disch := first | omega | rfl) only [go_sem, simprocAttr, @w64 2 (by decide) (by decide)] <;> rfl) ?_
   refine Go.Aw.rounds_succ ?_
   repeat refine awp_seq ?_
   refine rg (h := ?_)
   repeat refine awp_seq ?_
   refine awp_else (by rfl) ?_
   repeat refine awp_seq ?_
   refine awp_exit ?_
   repeat' (first | refine then_exit ?_ | refine exit_here ?_ | refine exit_on rfl ?_)
   refine ⟨⟨x9, h⟩, ?_⟩
   refine ent_le' ([]) (_ :: _ :: _ :: _ :: accO _ _ _ (accO _ _ _ (_ :: _ :: []))) (_ :: _ :: _ :: _ :: accO _ _ _ (accO _ _ _ (_ :: _ :: []))) rfl (List.Perm.refl _) ?_ ?_
   · simp -implicitDefEqProofs (disch := first | omega | rfl) only [go_sem, simprocAttr, subF_cons, subF_nil]
     exact ⟨(.lptr ..), (.lptr ..)⟩
   · exact (.cell (.map' (by first | rfl | simp) (.map' (by first | rfl | simp) (.map' (by first | rfl | simp) (.acc (FrzP.refl _ _) (.acc (FrzP.refl _ _) (.cells (FrzP.of_eq (by first | rfl | simp)) (.drop .nil))))))))
 rintro ⟨x2, h⟩
 try dsimp only at h
 try dsimp only
 repeat refine awp_seq ?_
 refine rg (h := ?_)
 rcases ite_some h with ⟨hc3, h⟩ | ⟨hc3, h⟩
 · repeat refine awp_seq ?_
   refine awp_else (by simp -implicitDefEqProofs (disch := first | omega | rfl) only [go_sem, simprocAttr, eq_true hc3]) ?_
   repeat refine awp_seq ?_
   refine awp_skip ?_
   repeat refine awp_seq ?_
   refine rg (h := ?_)
   obtain rfl := som_inj h
   repeat refine awp_seq ?_
   refine awp_le' (s' := [(4, .bool true)]) (own' := (900, b900, .cells ([.mapv 901 b901, .mapv 902 b902, .mapv 903 b903, .int .i64 p4, accV 904 o904 (List.length p5) 33, accV 905 o905 (List.length p6) 1])) :: (901, b901, .map (List.map (fun p => (AV.str p.1, .agg (Item.cs p.2))) p1)) :: (902, b902, .map (List.map (fun p => (AV.str p.1, .agg (Span.cs p.2))) p2)) :: (903, b903, .map (List.map (fun p => (AV.str p.1, .agg (Item.cs p.2))) p3)) :: accO 904 o904 (flt Item.av p5) (accO 905 o905 (flt AV.str p6) ((906, b906, .cells (Item.cs x2)) :: []))) ([]) (_ :: _ :: _ :: _ :: accO _ _ _ (accO _ _ _ (_ :: []))) (_ :: _ :: _ :: _ :: accO _ _ _ (accO _ _ _ (_ :: []))) rfl (List.Perm.refl _) ?_ ?_ ?_
   · simp -implicitDefEqProofs (disch := first | omega | rfl) only [go_sem, simprocAttr, subF_cons, subF_nil]
     exact (.keep _)
   · exact (.cell (.map' (by first | rfl | simp) (.map' (by first | rfl | simp) (.map' (by first | rfl | simp) (.acc (FrzP.refl _ _) (.acc (FrzP.refl _ _) (.cell .nil)))))))
   refine awp_ret ?_
   repeat' (first | refine then_ret ?_ | refine blk_ret ?_)
   refine ret_q ?_
   simp -implicitDefEqProofs (disch := first | omega | rfl) only [go_sem, simprocAttr]
   exact leaves_own (G := o36 p1 p2 p3 p4 p5 p6 p7 b900 b901 b902 b903 o904 o905 b906 (true, x2)) ⟨rfl, rfl⟩
 repeat refine awp_seq ?_
 refine awp_then (by simp -implicitDefEqProofs (disch := first | omega | rfl) only [go_sem, simprocAttr, eq_false hc3]) ?_
 repeat refine awp_seq ?_
 refine awp_regD' (_ :: _ :: _ :: _ :: accO _ _ _ (accO _ _ _ (_ :: []))) ([]) (_ :: _ :: _ :: _ :: accO _ _ _ (accO _ _ _ (_ :: []))) (by rw [hP]; exact mixed) (by first | rfl | (simp only [accO_app, List.cons_append, List.nil_append]; rfl) | simp only [accO_app, List.cons_append, List.nil_append]) (List.Perm.refl _) fun K hK => ?_
 have hh := elm_some h; clear h; rcases hh with ⟨hl4, h⟩ | ⟨v5, hl4, h⟩
 · simp -implicitDefEqProofs (disch := first | omega | rfl) only [go_sem, simprocAttr, zr36_11, mlk_str_none (f := (fun x => AV.agg (Item.cs x))) hl4]
   intro b6
   refine hK _ _ ?_; clear hK K
   repeat refine awp_seq ?_
   refine rg (h := ?_)
   repeat refine awp_seq ?_
   refine awp_then (by rfl) ?_
   repeat refine awp_seq ?_
   refine rg (h := ?_)
   obtain rfl := som_inj h
   repeat refine awp_seq ?_
   refine awp_le' (s' := [(4, .bool false)]) (own' := (900, b900, .cells ([.mapv 901 b901, .mapv 902 b902, .mapv 903 b903, .int .i64 p4, accV 904 o904 (List.length p5) 33, accV 905 o905 (List.length p6) 1])) :: (901, b901, .map (List.map (fun p => (AV.str p.1, .agg (Item.cs p.2))) p1)) :: (902, b902, .map (List.map (fun p => (AV.str p.1, .agg (Span.cs p.2))) p2)) :: (903, b903, .map (List.map (fun p => (AV.str p.1, .agg (Item.cs p.2))) p3)) :: accO 904 o904 (flt Item.av p5) (accO 905 o905 (flt AV.str p6) ((906, b906, .cells (Item.cs x2)) :: []))) ([]) (_ :: _ :: _ :: _ :: accO _ _ _ (accO _ _ _ (_ :: _ :: []))) (_ :: _ :: _ :: _ :: accO _ _ _ (accO _ _ _ (_ :: _ :: []))) rfl (List.Perm.refl _) ?_ ?_ ?_
   · simp -implicitDefEqProofs (disch := first | omega | rfl) only [go_sem, simprocAttr, subF_cons, subF_nil]
     exact (.keep _)
   · exact (.cell (.map' (by first | rfl | simp) (.map' (by first | rfl | simp) (.map' (by first | rfl | simp) (.acc (FrzP.refl _ _) (.acc (FrzP.refl _ _) (.cell (.drop .nil))))))))
   refine awp_ret ?_
   repeat' (first | refine then_ret ?_ | refine blk_ret ?_)
   refine ret_q ?_
   simp -implicitDefEqProofs (disch := first | omega | rfl) only [go_sem, simprocAttr]
   exact leaves_own (G := o36 p1 p2 p3 p4 p5 p6 p7 b900 b901 b902 b903 o904 o905 b906 (false, x2)) ⟨rfl, rfl⟩
 simp -implicitDefEqProofs (disch := first | omega | rfl) only [go_sem, simprocAttr, zr36_11, mlk_str_some (f := (fun x => AV.agg (Item.cs x))) hl4]
 intro b7
 refine hK _ _ ?_; clear hK K
 repeat refine awp_seq ?_
 refine rg (h := ?_)
 repeat refine awp_seq ?_
 refine awp_else (by rfl) ?_
 repeat refine awp_seq ?_
 refine awp_skip ?_
 repeat refine awp_seq ?_
 refine awp_regD' (_ :: _ :: _ :: _ :: accO _ _ _ (accO _ _ _ (_ :: []))) (_ :: []) (_ :: _ :: _ :: _ :: accO _ _ _ (accO _ _ _ (_ :: _ :: []))) (by rw [hP]; exact mixed) (by first | rfl | (simp only [accO_app, List.cons_append, List.nil_append]; rfl) | simp only [accO_app, List.cons_append, List.nil_append]) ((List.Perm.cons _ ((List.Perm.cons _ ((List.Perm.cons _ ((List.Perm.cons _ ((perm_ha ((perm_ha (List.Perm.trans perm_cc (List.Perm.refl _)))))))))))))) fun K hK => ?_
 simp -implicitDefEqProofs (disch := first | omega | rfl) only [go_sem, simprocAttr, zr36_14]
 refine hK _ _ ?_; clear hK K
 repeat refine awp_seq ?_
 refine rg (h := ?_)
 obtain rfl := som_inj h
 repeat refine awp_seq ?_
 refine awp_le' (s' := [(4, .bool true)]) (own' := (900, b900, .cells ([.mapv 901 b901, .mapv 902 b902, .mapv 903 b903, .int .i64 p4, accV 904 o904 (List.length p5) 33, accV 905 o905 (List.length p6) 1])) :: (901, b901, .map (List.map (fun p => (AV.str p.1, .agg (Item.cs p.2))) p1)) :: (902, b902, .map (List.map (fun p => (AV.str p.1, .agg (Span.cs p.2))) p2)) :: (903, b903, .map (List.map (fun p => (AV.str p.1, .agg (Item.cs p.2))) p3)) :: accO 904 o904 (flt Item.av p5) (accO 905 o905 (flt AV.str p6) ((906, b906, .cells (Item.cs ({ x2 with Num := v5.Num, Unit := v5.Unit, Sum := [] }))) :: []))) ([]) (_ :: _ :: _ :: _ :: accO _ _ _ (accO _ _ _ (_ :: _ :: []))) (_ :: _ :: _ :: _ :: accO _ _ _ (accO _ _ _ (_ :: _ :: []))) rfl ((List.Perm.cons _ ((List.Perm.cons _ ((List.Perm.cons _ ((List.Perm.cons _ ((perm_ha ((perm_ha (List.Perm.trans perm_cc (List.Perm.refl _)))))))))))))) ?_ ?_ ?_
 · simp -implicitDefEqProofs (disch := first | omega | rfl) only [go_sem, simprocAttr, subF_cons, subF_nil]
   exact (.keep _)
 · exact (.cell (.map' (by first | rfl | simp) (.map' (by first | rfl | simp) (.map' (by first | rfl | simp) (.acc (FrzP.refl _ _) (.acc (FrzP.refl _ _) (.cell (.drop .nil))))))))
 refine awp_ret ?_
 repeat' (first | refine then_ret ?_ | refine blk_ret ?_)
 refine ret_q ?_
 simp -implicitDefEqProofs (disch := first | omega | rfl) only [go_sem, simprocAttr]
 exact leaves_own (G := o36 p1 p2 p3 p4 p5 p6 p7 b900 b901 b902 b903 o904 o905 b906 (true, { x2 with Num := v5.Num, Unit := v5.Unit, Sum := [] })) ⟨rfl, rfl⟩
def zr27_0 : List AO := [⟨some 4, none, .box (.t 1)⟩,
  ⟨some 6, none, .mov (.c (.int .i64 0))⟩,
  ⟨some 7, none, .mov (.c (.bool false))⟩]
def zr27_1 : List AO := [⟨some 8, none, .mov (.t 0)⟩,
  ⟨some 9, none, .callF 32 [(.t 8)]⟩]
def zr27_2 : List AO := [⟨some 6, none, .mov (.c (.int .i64 3))⟩,
  ⟨some 7, none, .mov (.c (.bool true))⟩]
def zc27_0 : AC := .seq (.reg zr27_2) .ret
def zc27_1 : AC := .cond (.t 9) zc27_0 .skip
def zr27_3 : List AO := [⟨some 10, none, .fadr 1 (.t 4)⟩,
  ⟨some 11, none, .load false 1 (.t 10)⟩,
  ⟨some 12, none, .lenS (.t 11)⟩,
  ⟨some 13, none, .mov (.t 2)⟩,
  ⟨some 14, none, .bin .gtr (.t 12) (.t 13)⟩]
def zr27_4 : List AO := [⟨some 6, none, .mov (.c (.int .i64 3))⟩,
  ⟨some 7, none, .mov (.c (.bool false))⟩]
def zc27_2 : AC := .seq (.reg zr27_4) .ret
def zc27_3 : AC := .cond (.t 14) zc27_2 .skip
def zr27_5 : List AO := [⟨some 15, none, .fadr 0 (.t 4)⟩,
  ⟨some 16, none, .load false 1 (.t 15)⟩,
  ⟨some 17, none, .callF 35 [(.t 16)]⟩,
  ⟨some 18, none, .mov (.t 17)⟩,
  ⟨some 19, some (18, true), .mov (.t 0)⟩,
  ⟨some 20, some (18, true), .callF 36 [(.t 19), (.t 4)]⟩,
  ⟨some 21, some (18, true), .un .not (.t 20)⟩,
  ⟨some 22, none, .pick (.t 18) (.t 21) (.c (.bool false))⟩]
def zr27_6 : List AO := [⟨some 6, none, .mov (.c (.int .i64 8))⟩,
  ⟨some 7, none, .mov (.c (.bool false))⟩]
def zc27_4 : AC := .seq (.reg zr27_6) .ret
def zc27_5 : AC := .cond (.t 22) zc27_4 .skip
def zr27_7 : DT := (.alt false ⟨some 23, none, .alloc [.bool false]⟩ (.alt false ⟨none, none, .store 1 (.t 23) (.c (.bool true))⟩ (.alt false ⟨none, none, .store 1 (.t 23) (.c (.bool false))⟩ (.alt true ⟨some 24, none, .load false 1 (.t 23)⟩ .done .stop) .stop) (.alt false ⟨none, none, .store 1 (.t 23) (.c (.bool false))⟩ (.alt false ⟨none, none, .store 1 (.t 23) (.c (.bool true))⟩ (.alt true ⟨some 24, none, .load false 1 (.t 23)⟩ .done .stop) .stop) .stop)) .stop)
def zr27_8 : List AO := [⟨some 25, none, .mov (.t 0)⟩,
  ⟨some 26, none, .nilc (.t 25)⟩,
  ⟨some 27, none, .fadr 4 (.t 26)⟩,
  ⟨some 28, none, .load false 1 (.t 27)⟩,
  ⟨some 29, none, .len (.t 28)⟩,
  ⟨some 30, none, .mkrow 33 1 [.int .i64 0, .str [], .int .i64 0, .str [], .str [], .int .i64 0, .int .i64 0, .int .i64 0, .bool false, .str [], .int .i64 0, .bool false, .str [], .nil, .str [], .str [], .int .i64 0, .int .i64 0, .str [], .str [], .bool false, .str [], .str [], .bool false, .bool false, .bool false, .bool false, .bool false, .bool false, .bool false, .nil, .nil, .nil] [(0, 33, (.c (.agg [.int .i64 0, .str [], .int .i64 0, .str [], .str [], .int .i64 0, .int .i64 0, .int .i64 0, .bool false, .str [], .int .i64 0, .bool false, .str [], .nil, .str [], .str [], .int .i64 0, .int .i64 0, .str [], .str [], .bool false, .str [], .str [], .bool false, .bool false, .bool false, .bool false, .bool false, .bool false, .bool false, .nil, .nil, .nil])))]⟩,
  ⟨some 31, none, .app 33 368 (.t 28) (.t 30)⟩,
  ⟨some 32, none, .nilc (.t 25)⟩,
  ⟨some 33, none, .fadr 4 (.t 32)⟩,
  ⟨none, none, .store 1 (.t 33) (.t 31)⟩]
def zr27_9 : List AO := [⟨some 34, none, .load true 33 (.t 4)⟩,
  ⟨some 35, none, .iadr 33 (.t 31) (.t 29)⟩,
  ⟨none, none, .store 33 (.t 35) (.t 34)⟩]
def zc27_6 : AC := .reg zr27_9
def zc27_7 : AC := .seq (.reg zr27_8) zc27_6
def zr27_10 : DT := (.pur ⟨some 36, none, .mov (.t 0)⟩ (.pur ⟨some 37, none, .mov (.t 0)⟩ (.pur ⟨some 38, none, .nilc (.t 37)⟩ (.pur ⟨some 39, none, .fadr 4 (.t 38)⟩ (.pur ⟨some 40, none, .load false 1 (.t 39)⟩ (.alt false ⟨some 41, none, .load true 33 (.t 4)⟩ (.alt false ⟨some 42, none, .mkrow 33 1 [.int .i64 0, .str [], .int .i64 0, .str [], .str [], .int .i64 0, .int .i64 0, .int .i64 0, .bool false, .str [], .int .i64 0, .bool false, .str [], .nil, .str [], .str [], .int .i64 0, .int .i64 0, .str [], .str [], .bool false, .str [], .str [], .bool false, .bool false, .bool false, .bool false, .bool false, .bool false, .bool false, .nil, .nil, .nil] [(0, 33, (.t 41))]⟩ (.alt false ⟨some 43, none, .app 33 368 (.t 40) (.t 42)⟩ (.alt false ⟨some 44, none, .nilc (.t 36)⟩ (.alt false ⟨some 45, none, .fadr 4 (.t 44)⟩ (.alt true ⟨none, none, .store 1 (.t 45) (.t 43)⟩ .done .stop) .stop) .stop) .stop) .stop) .stop))))))
def zc27_8 : AC := .regD zr27_10
def zc27_9 : AC := .cond (.t 24) zc27_7 zc27_8
def zr27_11 : List AO := [⟨some 6, none, .mov (.c (.int .i64 0))⟩,
  ⟨some 7, none, .mov (.c (.bool false))⟩]
def zc27_10 : AC := .seq (.reg zr27_11) .ret
def zc27_11 : AC := .seq (.seq (.regD zr27_7) zc27_9) zc27_10
def zc27_12 : AC := .seq (.seq (.reg zr27_5) zc27_5) zc27_11
def zc27_13 : AC := .seq (.seq (.reg zr27_3) zc27_3) zc27_12
def zc27_14 : AC := .seq (.seq (.reg zr27_1) zc27_1) zc27_13
def zc27_15 : AC := .seq (.reg zr27_0) zc27_14
def zc27 : AC := zc27_15
theorem ok27 : Try.f27.body.bind (compCode Try.prog 46) = some zc27 := by kernel_rfl
theorem nt27 : Try.f27.ntmps = 46 := by kernel_rfl
theorem res27 : compRes Try.prog Try.f27.results.toList = some [.tmp 6, .tmp 7] := by kernel_rfl
attribute [go_sem] zr27_11 zr27_2 zr27_3 zr27_4 zr27_6 zr27_9
def s27_k1 (N : Nat) (p5 : List Item) (p6 : List (List UInt8)) (x2 : Bool × Int) (x10 : Item) (x13 : Bool) : Option (Int × Bool × Int × (List Item) × (List (List UInt8))) :=
  bif x13 then
    grd ((List.length p5 + 1) * 368 ≤ 140737488355328 ∧ List.length p5 + 1 ≤ 140737488355328) <|
    some (0, false, x2.2, p5 ++ [x10], p6)
  else
    grd ((List.length p5 + 1) * 368 ≤ 140737488355328 ∧ List.length p5 + 1 ≤ 140737488355328) <|
    some (0, false, x2.2, p5 ++ [x10], p6)
def s27_k2 (N : Nat) (p5 : List Item) (p6 : List (List UInt8)) (x2 : Bool × Int) (x10 : Item) (x11 : Bool) : Option (Int × Bool × Int × (List Item) × (List (List UInt8))) :=
  bif x11 then
    some (8, false, x2.2, p5, p6)
  else
    s27_k1 N p5 p6 x2 x10 true
def o27 (p1 : List (List UInt8 × Item)) (p2 : List (List UInt8 × Span)) (p3 : List (List UInt8 × Item)) (p4 : Int) (p5 : List Item) (p6 : List (List UInt8)) (p7 : Item) (p8 : Int) (b900 : Nat) (b901 : Nat) (b902 : Nat) (b903 : Nat) (o904 : Option Nat) (o905 : Option Nat) (r : Int × Bool × Int × (List Item) × (List (List UInt8))) : Res → Own → Prop := fun q o => ∃ (e0 : Option Nat), ∃ (e1 : Option Nat), (e0 = none → r.2.2.2.1 = []) ∧ (e1 = none → r.2.2.2.2 = []) ∧ q = .val (.tup [.int .i64 r.1, .bool r.2.1]) ∧ o = (900, b900, .cells ([.mapv 901 b901, .mapv 902 b902, .mapv 903 b903, .int .i64 r.2.2.1, accV 904 e0 (List.length r.2.2.2.1) 33, accV 905 e1 (List.length r.2.2.2.2) 1])) :: (901, b901, .map (List.map (fun p => (AV.str p.1, .agg (Item.cs p.2))) p1)) :: (902, b902, .map (List.map (fun p => (AV.str p.1, .agg (Span.cs p.2))) p2)) :: (903, b903, .map (List.map (fun p => (AV.str p.1, .agg (Item.cs p.2))) p3)) :: accO 904 e0 (flt Item.av r.2.2.2.1) (accO 905 e1 (flt AV.str r.2.2.2.2) [])
def s27 (N : Nat) (p1 : List (List UInt8 × Item)) (p2 : List (List UInt8 × Span)) (p3 : List (List UInt8 × Item)) (p4 : Int) (p5 : List Item) (p6 : List (List UInt8)) (p7 : Item) (p8 : Int) : Option (Int × Bool × Int × (List Item) × (List (List UInt8))) :=
  (s32 N p1 p2 p3 p4 p5 p6).bind fun x2 =>
  bif x2.1 then
    some (3, true, x2.2, p5, p6)
  else
    if p8 < (List.length p7.Name : Int) then
      some (3, false, x2.2, p5, p6)
    else
      (s35 N p7.Kind).bind fun x29 =>
      bif x29 then
        (s36 N p1 p2 p3 x2.2 p5 p6 p7).bind fun x32 =>
        s27_k2 N p5 p6 x2 x32.2 !x32.1
      else
        s27_k2 N p5 p6 x2 p7 false
set_option maxHeartbeats 4000000 in
theorem c27 (N : Nat) (p1 : List (List UInt8 × Item)) (p2 : List (List UInt8 × Span)) (p3 : List (List UInt8 × Item)) (p4 : Int) (p5 : List Item) (p6 : List (List UInt8)) (p7 : Item) (p8 : Int) (b900 : Nat) (b901 : Nat) (b902 : Nat) (b903 : Nat) (o904 : Option Nat) (h904 : o904 = none → p5 = []) (o905 : Option Nat) (h905 : o905 = none → p6 = []) (r : Int × Bool × Int × (List Item) × (List (List UInt8))) (h : s27 N p1 p2 p3 p4 p5 p6 p7 p8 = some r) : FnC Try.prog 27 [.ptr 900 b900 0, .agg (Item.cs p7), .int .i64 p8] ((900, b900, .cells ([.mapv 901 b901, .mapv 902 b902, .mapv 903 b903, .int .i64 p4, accV 904 o904 (List.length p5) 33, accV 905 o905 (List.length p6) 1])) :: (901, b901, .map (List.map (fun p => (AV.str p.1, .agg (Item.cs p.2))) p1)) :: (902, b902, .map (List.map (fun p => (AV.str p.1, .agg (Span.cs p.2))) p2)) :: (903, b903, .map (List.map (fun p => (AV.str p.1, .agg (Item.cs p.2))) p3)) :: accO 904 o904 (flt Item.av p5) (accO 905 o905 (flt AV.str p6) [])) (o27 p1 p2 p3 p4 p5 p6 p7 p8 b900 b901 b902 b903 o904 o905 r) := by
 refine fn_intro' 46 Try.func27 nt27 ok27 res27 (by simp) fun X hP hn hd hr => ?_
 unfold s27 at h
 repeat refine awp_seq ?_
 refine awp_reg fun K Q hK hQ => ?_
 simp -implicitDefEqProofs (disch := first | omega | rfl) only [go_sem, simprocAttr, zr27_0, argS]
 intro b1
 refine hK _ _ ?_; clear hK hQ K Q
 repeat refine awp_seq ?_
 refine awp_reg fun K Q hK hQ => ?_
 simp -implicitDefEqProofs (disch := first | omega | rfl) only [go_sem, simprocAttr, zr27_1]
 have hh := bnd_some h; clear h; obtain ⟨x2, hx3, h⟩ := hh
 refine call_own hP ([]) (_ :: _ :: _ :: _ :: accO _ _ _ (accO _ _ _ (_ :: []))) (_ :: _ :: _ :: _ :: accO _ _ _ (accO _ _ _ (_ :: []))) ((4, b1, .cells (Item.cs p7)) :: []) (_ :: _ :: _ :: _ :: accO _ _ _ (accO _ _ _ (_ :: []))) rfl (List.Perm.trans perm_cc ((List.Perm.cons _ (List.Perm.trans perm_cc ((List.Perm.cons _ (List.Perm.trans perm_cc ((List.Perm.cons _ (List.Perm.trans perm_cc ((List.Perm.cons _ (List.Perm.trans perm_ca ((perm_ha (List.Perm.trans perm_ca (List.Perm.refl _))))))))))))))))) (fun q o => q = .val (.bool x2.1) ∧ o = (900, b900, .cells ([.mapv 901 b901, .mapv 902 b902, .mapv 903 b903, .int .i64 x2.2, accV 501 o904 (List.length p5) 33, accV 502 o905 (List.length p6) 1])) :: (901, b901, .map (List.map (fun p => (AV.str p.1, .agg (Item.cs p.2))) p1)) :: (902, b902, .map (List.map (fun p => (AV.str p.1, .agg (Span.cs p.2))) p2)) :: (903, b903, .map (List.map (fun p => (AV.str p.1, .agg (Item.cs p.2))) p3)) :: accO 501 o904 (flt Item.av p5) (accO 502 o905 (flt AV.str p6) [])) (c32 N p1 p2 p3 p4 p5 p6 b900 b901 b902 b903 o904 h904 o905 h905 x2 hx3) (by rintro q o ⟨rfl, rfl⟩; exact ⟨_, _, .val (.keep _), (.cells (.cons (.lmap ..) (.cons (.lmap ..) (.cons (.lmap ..) (.cons (.keep _) (.cons (frz_lacc (by first | rfl | (simp; done) | ((try simp only [List.length_set, List.length_take]); omega))) (.cons (frz_lacc (by first | rfl | (simp; done) | ((try simp only [List.length_set, List.length_take]); omega))) (.nil _))))))) (.map' (by first | rfl | simp) (.map' (by first | rfl | simp) (.map' (by first | rfl | simp) (.acc (FrzP.refl _ _) (.acc (FrzP.refl _ _) .nil)))))), rfl, rfl⟩) (by first | rfl | (simp only [accO_app, List.cons_append, List.nil_append]; rfl) | simp only [accO_app, List.cons_append, List.nil_append]) (.cell (.map' (by first | rfl | simp) (.map' (by first | rfl | simp) (.map' (by first | rfl | simp) (.acc (FrzP.refl _ _) (.acc (FrzP.refl _ _) (.cell .nil))))))) (.cons (.lptr ..) .nil) ?_
 rintro q o ⟨rfl, rfl⟩
 simp -implicitDefEqProofs (disch := first | omega | rfl) only [go_sem, simprocAttr]
 refine hK _ _ ?_; clear hK hQ K Q
 rcases cnd_some h with ⟨hc4, h⟩ | ⟨hc4, h⟩
 · repeat refine awp_seq ?_
   refine awp_then (by simp -implicitDefEqProofs (disch := first | omega | rfl) only [go_sem, simprocAttr, hc4]) ?_
   repeat refine awp_seq ?_
   refine rg (h := ?_)
   obtain rfl := som_inj h
   repeat refine awp_seq ?_
   refine awp_le' (s' := [(6, .int .i64 3), (7, .bool true)]) (own' := (900, b900, .cells ([.mapv 901 b901, .mapv 902 b902, .mapv 903 b903, .int .i64 x2.2, accV 904 o904 (List.length p5) 33, accV 905 o905 (List.length p6) 1])) :: (901, b901, .map (List.map (fun p => (AV.str p.1, .agg (Item.cs p.2))) p1)) :: (902, b902, .map (List.map (fun p => (AV.str p.1, .agg (Span.cs p.2))) p2)) :: (903, b903, .map (List.map (fun p => (AV.str p.1, .agg (Item.cs p.2))) p3)) :: accO 904 o904 (flt Item.av p5) (accO 905 o905 (flt AV.str p6) [])) ([]) (_ :: _ :: _ :: _ :: accO _ _ _ (accO _ _ _ (_ :: []))) (_ :: _ :: _ :: _ :: accO _ _ _ (accO _ _ _ (_ :: []))) rfl (List.Perm.refl _) ?_ ?_ ?_
   · simp -implicitDefEqProofs (disch := first | omega | rfl) only [go_sem, simprocAttr, subF_cons, subF_nil]
     exact ⟨(.keep _), (.keep _)⟩
   · exact (.cells (.cons (.lmap ..) (.cons (.lmap ..) (.cons (.lmap ..) (.cons (.keep _) (.cons (frz_lacc (by first | rfl | (simp; done) | ((try simp only [List.length_set, List.length_take]); omega))) (.cons (frz_lacc (by first | rfl | (simp; done) | ((try simp only [List.length_set, List.length_take]); omega))) (.nil _))))))) (.map' (by first | rfl | simp) (.map' (by first | rfl | simp) (.map' (by first | rfl | simp) (.acc (FrzP.refl _ _) (.acc (FrzP.refl _ _) (.drop .nil)))))))
   refine awp_ret ?_
   repeat' (first | refine then_ret ?_ | refine blk_ret ?_)
   refine ret_q ?_
   simp -implicitDefEqProofs (disch := first | omega | rfl) only [go_sem, simprocAttr]
   exact leaves_own (G := o27 p1 p2 p3 p4 p5 p6 p7 p8 b900 b901 b902 b903 o904 o905 (3, true, x2.2, p5, p6)) ⟨o904, o905, h904, h905, rfl, rfl⟩
 repeat refine awp_seq ?_
 refine awp_else (by simp -implicitDefEqProofs (disch := first | omega | rfl) only [go_sem, simprocAttr, hc4]) ?_
 repeat refine awp_seq ?_
 refine awp_skip ?_
 repeat refine awp_seq ?_
 refine rg (h := ?_)
 rcases ite_some h with ⟨hc5, h⟩ | ⟨hc5, h⟩
 · repeat refine awp_seq ?_
   refine awp_then (by simp -implicitDefEqProofs (disch := first | omega | rfl) only [go_sem, simprocAttr, eq_true hc5]) ?_
   repeat refine awp_seq ?_
   refine rg (h := ?_)
   obtain rfl := som_inj h
   repeat refine awp_seq ?_
   refine awp_le' (s' := [(6, .int .i64 3), (7, .bool false)]) (own' := (900, b900, .cells ([.mapv 901 b901, .mapv 902 b902, .mapv 903 b903, .int .i64 x2.2, accV 904 o904 (List.length p5) 33, accV 905 o905 (List.length p6) 1])) :: (901, b901, .map (List.map (fun p => (AV.str p.1, .agg (Item.cs p.2))) p1)) :: (902, b902, .map (List.map (fun p => (AV.str p.1, .agg (Span.cs p.2))) p2)) :: (903, b903, .map (List.map (fun p => (AV.str p.1, .agg (Item.cs p.2))) p3)) :: accO 904 o904 (flt Item.av p5) (accO 905 o905 (flt AV.str p6) [])) ([]) (_ :: _ :: _ :: _ :: accO _ _ _ (accO _ _ _ (_ :: []))) (_ :: _ :: _ :: _ :: accO _ _ _ (accO _ _ _ (_ :: []))) rfl (List.Perm.refl _) ?_ ?_ ?_
   · simp -implicitDefEqProofs (disch := first | omega | rfl) only [go_sem, simprocAttr, subF_cons, subF_nil]
     exact ⟨(.keep _), (.keep _)⟩
   · exact (.cells (.cons (.lmap ..) (.cons (.lmap ..) (.cons (.lmap ..) (.cons (.keep _) (.cons (frz_lacc (by first | rfl | (simp; done) | ((try simp only [List.length_set, List.length_take]); omega))) (.cons (frz_lacc (by first | rfl | (simp; done) | ((try simp only [List.length_set, List.length_take]); omega))) (.nil _))))))) (.map' (by first | rfl | simp) (.map' (by first | rfl | simp) (.map' (by first | rfl | simp) (.acc (FrzP.refl _ _) (.acc (FrzP.refl _ _) (.drop .nil)))))))
   refine awp_ret ?_
   repeat' (first | refine then_ret ?_ | refine blk_ret ?_)
   refine ret_q ?_
   simp -implicitDefEqProofs (disch := first | omega | rfl) only [go_sem, simprocAttr]
   exact leaves_own (G := o27 p1 p2 p3 p4 p5 p6 p7 p8 b900 b901 b902 b903 o904 o905 (3, false, x2.2, p5, p6)) ⟨o904, o905, h904, h905, rfl, rfl⟩
 repeat refine awp_seq ?_
 refine awp_else (by simp -implicitDefEqProofs (disch := first | omega | rfl) only [go_sem, simprocAttr, eq_false hc5]) ?_
 repeat refine awp_seq ?_
 refine awp_skip ?_
 repeat refine awp_seq ?_
 refine awp_cut (ι := {p : (Option Nat) × (Option Nat) × Item × Bool // s27_k2 N p5 p6 x2 p.2.2.1 p.2.2.2 = some r ∧ (p.1 = none → p5 = []) ∧ (p.2.1 = none → p6 = [])}) (fun p => [(0, .ptr 900 b900 0), (4, .ptr 4 b1 0), (22, .bool p.1.2.2.2)]) (fun p => (900, b900, .cells ([.mapv 901 b901, .mapv 902 b902, .mapv 903 b903, .int .i64 x2.2, accV 503 p.1.1 (List.length p5) 33, accV 504 p.1.2.1 (List.length p6) 1])) :: (901, b901, .map (List.map (fun p => (AV.str p.1, .agg (Item.cs p.2))) p1)) :: (902, b902, .map (List.map (fun p => (AV.str p.1, .agg (Span.cs p.2))) p2)) :: (903, b903, .map (List.map (fun p => (AV.str p.1, .agg (Item.cs p.2))) p3)) :: accO 503 p.1.1 (flt Item.av p5) (accO 504 p.1.2.1 (flt AV.str p6) ((4, b1, .cells (Item.cs p.1.2.2.1)) :: []))) ?_ ?_
 · repeat refine awp_seq ?_
   refine awp_reg fun K Q hK hQ => ?_
   simp -implicitDefEqProofs (disch := first | omega | rfl) only [go_sem, simprocAttr, zr27_5]
   have hh := bnd_some h; clear h; obtain ⟨x29, hx30, h⟩ := hh
   refine call_pure hP (c35 N p7.Kind x29 hx30) ?_
   rcases cnd_some h with ⟨hc31, h⟩ | ⟨hc31, h⟩
   · simp -implicitDefEqProofs (disch := first | omega | rfl) only [go_sem, simprocAttr, hc31]
     have hh := bnd_some h; clear h; obtain ⟨x32, hx33, h⟩ := hh
     refine call_own hP ([]) (_ :: _ :: _ :: _ :: accO _ _ _ (accO _ _ _ (_ :: []))) (_ :: _ :: _ :: _ :: accO _ _ _ (accO _ _ _ (_ :: []))) ([]) (_ :: _ :: _ :: _ :: accO _ _ _ (accO _ _ _ (_ :: []))) rfl (List.Perm.refl _) (fun q o => q = .val (.bool x32.1) ∧ o = (900, b900, .cells ([.mapv 901 b901, .mapv 902 b902, .mapv 903 b903, .int .i64 x2.2, accV 505 o904 (List.length p5) 33, accV 506 o905 (List.length p6) 1])) :: (901, b901, .map (List.map (fun p => (AV.str p.1, .agg (Item.cs p.2))) p1)) :: (902, b902, .map (List.map (fun p => (AV.str p.1, .agg (Span.cs p.2))) p2)) :: (903, b903, .map (List.map (fun p => (AV.str p.1, .agg (Item.cs p.2))) p3)) :: accO 505 o904 (flt Item.av p5) (accO 506 o905 (flt AV.str p6) ((4, b1, .cells (Item.cs x32.2)) :: []))) (c36 N p1 p2 p3 x2.2 p5 p6 p7 b900 b901 b902 b903 o904 h904 o905 h905 b1 x32 hx33) (by rintro q o ⟨rfl, rfl⟩; exact ⟨_, _, .val (.keep _), (.cells (.cons (.lmap ..) (.cons (.lmap ..) (.cons (.lmap ..) (.cons (.keep _) (.cons (frz_lacc (by first | rfl | (simp; done) | ((try simp only [List.length_set, List.length_take]); omega))) (.cons (frz_lacc (by first | rfl | (simp; done) | ((try simp only [List.length_set, List.length_take]); omega))) (.nil _))))))) (.map' (by first | rfl | simp) (.map' (by first | rfl | simp) (.map' (by first | rfl | simp) (.acc (FrzP.refl _ _) (.acc (FrzP.refl _ _) (.cell .nil))))))), rfl, rfl⟩) (by first | rfl | (simp only [accO_app, List.cons_append, List.nil_append]; rfl) | simp only [accO_app, List.cons_append, List.nil_append]) (.cells (.cons (.lmap ..) (.cons (.lmap ..) (.cons (.lmap ..) (.cons (.keep _) (.cons (frz_lacc (by first | rfl | (simp; done) | ((try simp only [List.length_set, List.length_take]); omega))) (.cons (frz_lacc (by first | rfl | (simp; done) | ((try simp only [List.length_set, List.length_take]); omega))) (.nil _))))))) (.map' (by first | rfl | simp) (.map' (by first | rfl | simp) (.map' (by first | rfl | simp) (.acc (FrzP.refl _ _) (.acc (FrzP.refl _ _) (.cell .nil))))))) (.cons (.lptr ..) (.cons (.lptr ..) .nil)) ?_
     rintro q o ⟨rfl, rfl⟩
     simp -implicitDefEqProofs (disch := first | omega | rfl) only [go_sem, simprocAttr]
     refine hK _ _ ?_; clear hK hQ K Q
     refine ⟨⟨⟨o904, o905, x32.2, !x32.1⟩, h, h904, h905⟩, ?_⟩
     refine ent_le' ([]) (_ :: _ :: _ :: _ :: accO _ _ _ (accO _ _ _ (_ :: []))) (_ :: _ :: _ :: _ :: accO _ _ _ (accO _ _ _ (_ :: []))) rfl (List.Perm.refl _) ?_ ?_
     · simp -implicitDefEqProofs (disch := first | omega | rfl) only [go_sem, simprocAttr, subF_cons, subF_nil]
       exact ⟨(.lptr ..), (.lptr ..), (.keep _)⟩
     · exact (.cells (.cons (.lmap ..) (.cons (.lmap ..) (.cons (.lmap ..) (.cons (.keep _) (.cons (frz_lacc (by first | rfl | (simp; done) | ((try simp only [List.length_set, List.length_take]); omega))) (.cons (frz_lacc (by first | rfl | (simp; done) | ((try simp only [List.length_set, List.length_take]); omega))) (.nil _))))))) (.map' (by first | rfl | simp) (.map' (by first | rfl | simp) (.map' (by first | rfl | simp) (.acc (FrzP.refl _ _) (.acc (FrzP.refl _ _) (.cells (FrzP.of_eq (by first | rfl | simp)) .nil)))))))
   simp -implicitDefEqProofs (disch := first | omega | rfl) only [go_sem, simprocAttr, hc31]
   refine hK _ _ ?_; clear hK hQ K Q
   refine ⟨⟨⟨o904, o905, p7, false⟩, h, h904, h905⟩, ?_⟩
   refine ent_le' ([]) (_ :: _ :: _ :: _ :: accO _ _ _ (accO _ _ _ (_ :: []))) (_ :: _ :: _ :: _ :: accO _ _ _ (accO _ _ _ (_ :: []))) rfl (List.Perm.refl _) ?_ ?_
   · simp -implicitDefEqProofs (disch := first | omega | rfl) only [go_sem, simprocAttr, subF_cons, subF_nil]
     exact ⟨(.lptr ..), (.lptr ..), (.keep _)⟩
   · exact (.cells (.cons (.lmap ..) (.cons (.lmap ..) (.cons (.lmap ..) (.cons (.keep _) (.cons (frz_lacc (by first | rfl | (simp; done) | ((try simp only [List.length_set, List.length_take]); omega))) (.cons (frz_lacc (by first | rfl | (simp; done) | ((try simp only [List.length_set, List.length_take]); omega))) (.nil _))))))) (.map' (by first | rfl | simp) (.map' (by first | rfl | simp) (.map' (by first | rfl | simp) (.acc (FrzP.refl _ _) (.acc (FrzP.refl _ _) (.cells (FrzP.of_eq (by first | rfl | simp)) .nil)))))))
 rintro ⟨⟨bo6, bo8, x10, x11⟩, h, hb7, hb9⟩
 try dsimp only at h hb7 hb9
 try dsimp only
 rcases cnd_some h with ⟨hc12, h⟩ | ⟨hc12, h⟩
 · repeat refine awp_seq ?_
   refine awp_then (by simp -implicitDefEqProofs (disch := first | omega | rfl) only [go_sem, simprocAttr, hc12]) ?_
   repeat refine awp_seq ?_
   refine rg (h := ?_)
   obtain rfl := som_inj h
   repeat refine awp_seq ?_
   refine awp_le' (s' := [(6, .int .i64 8), (7, .bool false)]) (own' := (900, b900, .cells ([.mapv 901 b901, .mapv 902 b902, .mapv 903 b903, .int .i64 x2.2, accV 904 bo6 (List.length p5) 33, accV 905 bo8 (List.length p6) 1])) :: (901, b901, .map (List.map (fun p => (AV.str p.1, .agg (Item.cs p.2))) p1)) :: (902, b902, .map (List.map (fun p => (AV.str p.1, .agg (Span.cs p.2))) p2)) :: (903, b903, .map (List.map (fun p => (AV.str p.1, .agg (Item.cs p.2))) p3)) :: accO 904 bo6 (flt Item.av p5) (accO 905 bo8 (flt AV.str p6) [])) ([]) (_ :: _ :: _ :: _ :: accO _ _ _ (accO _ _ _ (_ :: []))) (_ :: _ :: _ :: _ :: accO _ _ _ (accO _ _ _ (_ :: []))) rfl (List.Perm.refl _) ?_ ?_ ?_
   · simp -implicitDefEqProofs (disch := first | omega | rfl) only [go_sem, simprocAttr, subF_cons, subF_nil]
     exact ⟨(.keep _), (.keep _)⟩
   · exact (.cells (.cons (.lmap ..) (.cons (.lmap ..) (.cons (.lmap ..) (.cons (.keep _) (.cons (frz_lacc (by first | rfl | (simp; done) | ((try simp only [List.length_set, List.length_take]); omega))) (.cons (frz_lacc (by first | rfl | (simp; done) | ((try simp only [List.length_set, List.length_take]); omega))) (.nil _))))))) (.map' (by first | rfl | simp) (.map' (by first | rfl | simp) (.map' (by first | rfl | simp) (.acc (FrzP.refl _ _) (.acc (FrzP.refl _ _) (.drop .nil)))))))
   refine awp_ret ?_
   repeat' (first | refine then_ret ?_ | refine blk_ret ?_)
   refine ret_q ?_
   simp -implicitDefEqProofs (disch := first | omega | rfl) only [go_sem, simprocAttr]
   exact leaves_own (G := o27 p1 p2 p3 p4 p5 p6 p7 p8 b900 b901 b902 b903 o904 o905 (8, false, x2.2, p5, p6)) ⟨bo6, bo8, hb7, hb9, rfl, rfl⟩
 repeat refine awp_seq ?_
 refine awp_else (by simp -implicitDefEqProofs (disch := first | omega | rfl) only [go_sem, simprocAttr, hc12]) ?_
 repeat refine awp_seq ?_
 refine awp_skip ?_
 repeat refine awp_seq ?_
 refine awp_cut (ι := {p : Bool // s27_k1 N p5 p6 x2 x10 p = some r}) (fun p => [(0, .ptr 900 b900 0), (4, .ptr 4 b1 0), (24, .bool p.1)]) (fun p => (900, b900, .cells ([.mapv 901 b901, .mapv 902 b902, .mapv 903 b903, .int .i64 x2.2, accV 503 bo6 (List.length p5) 33, accV 504 bo8 (List.length p6) 1])) :: (901, b901, .map (List.map (fun p => (AV.str p.1, .agg (Item.cs p.2))) p1)) :: (902, b902, .map (List.map (fun p => (AV.str p.1, .agg (Span.cs p.2))) p2)) :: (903, b903, .map (List.map (fun p => (AV.str p.1, .agg (Item.cs p.2))) p3)) :: accO 503 bo6 (flt Item.av p5) (accO 504 bo8 (flt AV.str p6) ((4, b1, .cells (Item.cs x10)) :: []))) ?_ ?_
 · repeat refine awp_seq ?_
   refine awp_regD' (_ :: _ :: _ :: _ :: accO _ _ _ (accO _ _ _ (_ :: []))) ([]) (_ :: _ :: _ :: _ :: accO _ _ _ (accO _ _ _ (_ :: []))) (by rw [hP]; exact mixed) (by first | rfl | (simp only [accO_app, List.cons_append, List.nil_append]; rfl) | simp only [accO_app, List.cons_append, List.nil_append]) (List.Perm.refl _) fun K hK => ?_
   simp -implicitDefEqProofs (disch := first | omega | rfl) only [go_sem, simprocAttr, zr27_7]
   intro b28
   refine runT_alts ⟨?_, ?_⟩
   · replace h : (s27_k1 N p5 p6 x2 x10 false) = some r := by
       first | exact h | simpa [grd, set_snoc, Int.lt_add_one_iff] using h
     simp -implicitDefEqProofs (disch := first | omega | rfl) only [go_sem, simprocAttr]
     refine hK _ _ ?_; clear hK K
     refine ⟨⟨false, h⟩, ?_⟩
     refine ent_le' ([]) (_ :: _ :: _ :: _ :: accO _ _ _ (accO _ _ _ (_ :: _ :: []))) (_ :: _ :: _ :: _ :: accO _ _ _ (accO _ _ _ (_ :: _ :: []))) rfl (List.Perm.refl _) ?_ ?_
     · simp -implicitDefEqProofs (disch := first | omega | rfl) only [go_sem, simprocAttr, subF_cons, subF_nil]
       exact ⟨(.lptr ..), (.lptr ..), (.keep _)⟩
     · exact (.cell (.map' (by first | rfl | simp) (.map' (by first | rfl | simp) (.map' (by first | rfl | simp) (.acc (FrzP.refl _ _) (.acc (FrzP.refl _ _) (.cell (.drop .nil))))))))
   simp -implicitDefEqProofs (disch := first | omega | rfl) only [go_sem, simprocAttr]
   refine hK _ _ ?_; clear hK K
   refine ⟨⟨true, h⟩, ?_⟩
   refine ent_le' ([]) (_ :: _ :: _ :: _ :: accO _ _ _ (accO _ _ _ (_ :: _ :: []))) (_ :: _ :: _ :: _ :: accO _ _ _ (accO _ _ _ (_ :: _ :: []))) rfl (List.Perm.refl _) ?_ ?_
   · simp -implicitDefEqProofs (disch := first | omega | rfl) only [go_sem, simprocAttr, subF_cons, subF_nil]
     exact ⟨(.lptr ..), (.lptr ..), (.keep _)⟩
   · exact (.cell (.map' (by first | rfl | simp) (.map' (by first | rfl | simp) (.map' (by first | rfl | simp) (.acc (FrzP.refl _ _) (.acc (FrzP.refl _ _) (.cell (.drop .nil))))))))
 rintro ⟨x13, h⟩
 try dsimp only at h
 try dsimp only
 rcases cnd_some h with ⟨hc14, h⟩ | ⟨hc14, h⟩
 · repeat refine awp_seq ?_
   refine awp_then (by simp -implicitDefEqProofs (disch := first | omega | rfl) only [go_sem, simprocAttr, hc14]) ?_
   repeat refine awp_seq ?_
   refine awp_reg fun K Q hK hQ => ?_
   obtain ⟨⟨hg17, hg18⟩, h⟩ := grd_some h
   simp -implicitDefEqProofs (disch := first | omega | rfl) only [go_sem, simprocAttr, zr27_8, lenA_acc (acc_len hb7), eq_true hg17, eq_true hg18]
   intro b16
   refine app_acc (f := Item.av) (l := p5) ((30, b16, .cells ([.int .i64 0, .str [], .int .i64 0, .str [], .str [], .int .i64 0, .int .i64 0, .int .i64 0, .bool false, .str [], .int .i64 0, .bool false, .str [], .nil, .str [], .str [], .int .i64 0, .int .i64 0, .str [], .str [], .bool false, .str [], .str [], .bool false, .bool false, .bool false, .bool false, .bool false, .bool false, .bool false, .nil, .nil, .nil])) :: (900, b900, .cells ([.mapv 901 b901, .mapv 902 b902, .mapv 903 b903, .int .i64 x2.2, accV 503 bo6 (List.length p5) 33, accV 504 bo8 (List.length p6) 1])) :: (901, b901, .map (List.map (fun p => (AV.str p.1, .agg (Item.cs p.2))) p1)) :: (902, b902, .map (List.map (fun p => (AV.str p.1, .agg (Span.cs p.2))) p2)) :: (903, b903, .map (List.map (fun p => (AV.str p.1, .agg (Item.cs p.2))) p3)) :: accO 504 bo8 (flt AV.str p6) ((4, b1, .cells (Item.cs x10)) :: [])) hb7 (by first | rfl | simp) (fun _ => Item.avl) (by intro b hb; subst hb; simp -implicitDefEqProofs (disch := first | omega | rfl) only [go_sem, simprocAttr]) (by intro b hb; subst hb; simp -implicitDefEqProofs (disch := first | omega | rfl) only [go_sem, simprocAttr]) (by intro hb; subst hb; simp -implicitDefEqProofs (disch := first | omega | rfl) only [go_sem, simprocAttr]) ?_
   simp -implicitDefEqProofs (disch := first | omega | rfl) only [go_sem, simprocAttr, eq_true hg17, eq_true hg18]
   intro bo19 hb20
   try simp -implicitDefEqProofs (disch := first | omega | rfl) only [go_sem, simprocAttr]
   refine hK _ _ ?_; clear hK hQ K Q
   repeat refine awp_seq ?_
   obtain ⟨b21, hs22⟩ := acc_some (acc_len (fun h => List.length_eq_zero_iff.1 (by simpa using hb20 h))) (show 0 < List.length (p5 ++ ([({ Kind := 0, Name := [], At := 0, Of := [], Act := [], Word := 0, Times := 0, Within := ({ Days := 0, Business := false, Name := [] } : Span), Grace := ({ Days := 0, Business := false, Name := [] } : Span), Conds := [], By := [], Until := [], Num := ({ Num := 0, Den := 0 } : Ratio), Unit := [], Sum := [], Final := false, Give := [], To := [], Days := ({ e0 := false, e1 := false, e2 := false, e3 := false, e4 := false, e5 := false, e6 := false } : Arr7B), Dates := [], Names := [], Items := [] } : Item)])) by first | omega | simp)
   subst hs22
   refine rg (by intro K Q; simp -implicitDefEqProofs (disch := first | omega | rfl) only [go_sem, simprocAttr, accV_some, accO_some, eq_true (show (List.length p5 : Int) < ((List.length p5 + 1 : Nat) : Int) by omega), Item.setl, List.length_append, Item.flen, List.length_cons, List.length_nil, Nat.le_refl] <;> rfl) ?_
   repeat refine awp_seq ?_
   refine rg (h := ?_)
   obtain rfl := som_inj h
   repeat refine awp_seq ?_
   refine awp_le' (s' := [(6, .int .i64 0), (7, .bool false)]) (own' := (900, b900, .cells ([.mapv 901 b901, .mapv 902 b902, .mapv 903 b903, .int .i64 x2.2, accV 904 (some b21) (List.length (p5 ++ [x10])) 33, accV 905 bo8 (List.length p6) 1])) :: (901, b901, .map (List.map (fun p => (AV.str p.1, .agg (Item.cs p.2))) p1)) :: (902, b902, .map (List.map (fun p => (AV.str p.1, .agg (Span.cs p.2))) p2)) :: (903, b903, .map (List.map (fun p => (AV.str p.1, .agg (Item.cs p.2))) p3)) :: accO 904 (some b21) (flt Item.av (p5 ++ [x10])) (accO 905 bo8 (flt AV.str p6) [])) ([]) (_ :: _ :: _ :: _ :: _ :: accO _ _ _ (_ :: _ :: [])) (_ :: _ :: _ :: _ :: _ :: accO _ _ _ (_ :: _ :: [])) rfl (List.Perm.trans (List.Perm.cons _ perm_cc) (List.Perm.trans perm_cc ((List.Perm.cons _ (List.Perm.trans (List.Perm.cons _ perm_cc) (List.Perm.trans perm_cc ((List.Perm.cons _ (List.Perm.trans (List.Perm.cons _ perm_cc) (List.Perm.trans perm_cc ((List.Perm.cons _ (List.Perm.trans (List.Perm.cons _ perm_cc) (List.Perm.trans perm_cc ((List.Perm.cons _ ((List.Perm.cons _ (List.Perm.trans perm_ca (List.Perm.refl _)))))))))))))))))))) ?_ ?_ ?_
   · simp -implicitDefEqProofs (disch := first | omega | rfl) only [go_sem, simprocAttr, subF_cons, subF_nil]
     exact ⟨(.keep _), (.keep _)⟩
   · exact (.cells (.cons (.lmap ..) (.cons (.lmap ..) (.cons (.lmap ..) (.cons (.keep _) (.cons (frz_lrow (by first | rfl | (simp; done) | ((try simp only [List.length_set, List.length_take]); omega))) (.cons (frz_lacc (by first | rfl | (simp; done) | ((try simp only [List.length_set, List.length_take]); omega))) (.nil _))))))) (.map' (by first | rfl | simp) (.map' (by first | rfl | simp) (.map' (by first | rfl | simp) (.cell (.acc (FrzP.refl _ _) (.drop (.drop .nil))))))))
   refine awp_ret ?_
   repeat' (first | refine then_ret ?_ | refine blk_ret ?_)
   refine ret_q ?_
   simp -implicitDefEqProofs (disch := first | omega | rfl) only [go_sem, simprocAttr]
   exact leaves_own (G := o27 p1 p2 p3 p4 p5 p6 p7 p8 b900 b901 b902 b903 o904 o905 (0, false, x2.2, p5 ++ [x10], p6)) ⟨(some b21), bo8, (fun h => by cases h), hb9, rfl, rfl⟩
 repeat refine awp_seq ?_
 refine awp_else (by simp -implicitDefEqProofs (disch := first | omega | rfl) only [go_sem, simprocAttr, hc14]) ?_
 repeat refine awp_seq ?_
 refine awp_regD' (_ :: _ :: _ :: _ :: accO _ _ _ (_ :: [])) (accO _ _ _ []) (_ :: _ :: _ :: _ :: accO _ _ _ (_ :: accO _ _ _ [])) (by rw [hP]; exact mixed) (by first | rfl | (simp only [accO_app, List.cons_append, List.nil_append]; rfl) | simp only [accO_app, List.cons_append, List.nil_append]) ((List.Perm.cons _ ((List.Perm.cons _ ((List.Perm.cons _ ((List.Perm.cons _ (List.Perm.trans perm_aa ((perm_ha (List.Perm.trans perm_ac (List.Perm.refl _))))))))))))) fun K hK => ?_
 obtain ⟨⟨hg24, hg25⟩, h⟩ := grd_some h
 simp -implicitDefEqProofs (disch := first | omega | rfl) only [go_sem, simprocAttr, zr27_10, eq_true hg24, eq_true hg25]
 intro b23
 refine app_acc (f := Item.av) (l := p5) ((42, b23, .cells (Item.cs x10)) :: []) hb7 (by first | rfl | simp) (fun _ => Item.avl) (by intro b hb; subst hb; simp -implicitDefEqProofs (disch := first | omega | rfl) only [go_sem, simprocAttr]) (by intro b hb; subst hb; simp -implicitDefEqProofs (disch := first | omega | rfl) only [go_sem, simprocAttr]) (by intro hb; subst hb; simp -implicitDefEqProofs (disch := first | omega | rfl) only [go_sem, simprocAttr]) ?_
 simp -implicitDefEqProofs (disch := first | omega | rfl) only [go_sem, simprocAttr, eq_true hg24, eq_true hg25]
 intro bo26 hb27
 try simp -implicitDefEqProofs (disch := first | omega | rfl) only [go_sem, simprocAttr]
 refine hK _ _ ?_; clear hK K
 repeat refine awp_seq ?_
 refine rg (h := ?_)
 obtain rfl := som_inj h
 repeat refine awp_seq ?_
 refine awp_le' (s' := [(6, .int .i64 0), (7, .bool false)]) (own' := (900, b900, .cells ([.mapv 901 b901, .mapv 902 b902, .mapv 903 b903, .int .i64 x2.2, accV 904 bo26 (List.length (p5 ++ [x10])) 33, accV 905 bo8 (List.length p6) 1])) :: (901, b901, .map (List.map (fun p => (AV.str p.1, .agg (Item.cs p.2))) p1)) :: (902, b902, .map (List.map (fun p => (AV.str p.1, .agg (Span.cs p.2))) p2)) :: (903, b903, .map (List.map (fun p => (AV.str p.1, .agg (Item.cs p.2))) p3)) :: accO 904 bo26 (flt Item.av (p5 ++ [x10])) (accO 905 bo8 (flt AV.str p6) [])) ([]) (_ :: _ :: _ :: _ :: accO _ _ _ (accO _ _ _ (_ :: _ :: []))) (_ :: _ :: _ :: _ :: accO _ _ _ (accO _ _ _ (_ :: _ :: []))) rfl ((List.Perm.cons _ ((List.Perm.cons _ ((List.Perm.cons _ ((List.Perm.cons _ (List.Perm.trans (perm_ha perm_ca) (List.Perm.trans perm_aa (List.Perm.refl _))))))))))) ?_ ?_ ?_
 · simp -implicitDefEqProofs (disch := first | omega | rfl) only [go_sem, simprocAttr, subF_cons, subF_nil]
   exact ⟨(.keep _), (.keep _)⟩
 · exact (.cells (.cons (.lmap ..) (.cons (.lmap ..) (.cons (.lmap ..) (.cons (.keep _) (.cons (frz_lacc (by first | rfl | (simp; done) | ((try simp only [List.length_set, List.length_take]); omega))) (.cons (frz_lacc (by first | rfl | (simp; done) | ((try simp only [List.length_set, List.length_take]); omega))) (.nil _))))))) (.map' (by first | rfl | simp) (.map' (by first | rfl | simp) (.map' (by first | rfl | simp) (.acc (FrzP.refl _ _) (.acc (FrzP.refl _ _) (.drop (.drop .nil))))))))
 refine awp_ret ?_
 repeat' (first | refine then_ret ?_ | refine blk_ret ?_)
 refine ret_q ?_
 simp -implicitDefEqProofs (disch := first | omega | rfl) only [go_sem, simprocAttr]
 exact leaves_own (G := o27 p1 p2 p3 p4 p5 p6 p7 p8 b900 b901 b902 b903 o904 o905 (0, false, x2.2, p5 ++ [x10], p6)) ⟨bo26, bo8, (fun h => List.length_eq_zero_iff.1 (by simpa using hb27 h)), hb9, rfl, rfl⟩
end Go.Proofs.Inc
namespace Go.Proofs.Inc
open Go.Aw
set_option maxRecDepth 100000
attribute [-go_sem] nisA_sl appA_nil
def zr26_0 : List AO := [⟨some 3, none, .box (.t 1)⟩,
  ⟨some 4, none, .mov (.c (.int .i64 0))⟩,
  ⟨some 5, none, .mov (.c (.bool false))⟩]
def zr26_1 : List AO := [⟨some 12, none, .mov (.t 0)⟩,
  ⟨some 13, none, .callF 32 [(.t 12)]⟩]
def zr26_2 : List AO := [⟨some 4, none, .mov (.c (.int .i64 3))⟩,
  ⟨some 5, none, .mov (.c (.bool true))⟩]
def zc26_0 : AC := .seq (.reg zr26_2) .ret
def zc26_1 : AC := .cond (.t 13) zc26_0 .skip
def zr26_3 : DT := (.pur ⟨some 15, none, .mov (.t 0)⟩ (.pur ⟨some 16, none, .nilc (.t 15)⟩ (.pur ⟨some 17, none, .fadr 0 (.t 16)⟩ (.pur ⟨some 18, none, .load false 1 (.t 17)⟩ (.pur ⟨some 19, none, .fadr 3 (.t 3)⟩ (.pur ⟨some 20, none, .load false 1 (.t 19)⟩ (.pur ⟨some 21, none, .mlook true .s (.agg [.int .i64 0, .str [], .int .i64 0, .str [], .str [], .int .i64 0, .int .i64 0, .int .i64 0, .bool false, .str [], .int .i64 0, .bool false, .str [], .nil, .str [], .str [], .int .i64 0, .int .i64 0, .str [], .str [], .bool false, .str [], .str [], .bool false, .bool false, .bool false, .bool false, .bool false, .bool false, .bool false, .nil, .nil, .nil]) (.t 18) (.t 20)⟩ (.pur ⟨some 14, none, .mov (.t 21)⟩ (.pur ⟨some 22, none, .ext 0 (.t 14)⟩ (.pur ⟨some 23, none, .ext 1 (.t 14)⟩ (.alt false ⟨some 6, none, .alloc [.int .i64 0, .str [], .int .i64 0, .str [], .str [], .int .i64 0, .int .i64 0, .int .i64 0, .bool false, .str [], .int .i64 0, .bool false, .str [], .nil, .str [], .str [], .int .i64 0, .int .i64 0, .str [], .str [], .bool false, .str [], .str [], .bool false, .bool false, .bool false, .bool false, .bool false, .bool false, .bool false, .nil, .nil, .nil]⟩ (.alt false ⟨none, none, .store 33 (.t 6) (.t 22)⟩ (.alt true ⟨some 7, none, .mov (.t 23)⟩ .done .stop) .stop) .stop)))))))))))
def zr26_4 : List AO := [⟨some 25, none, .mov (.t 7)⟩,
  ⟨some 26, none, .un .not (.t 25)⟩,
  ⟨some 24, none, .mov (.t 26)⟩]
def zr26_5 : List AO := [⟨some 4, none, .mov (.c (.int .i64 8))⟩,
  ⟨some 5, none, .mov (.c (.bool false))⟩]
def zc26_2 : AC := .seq (.reg zr26_5) .ret
def zr26_6 : List AO := [⟨some 28, none, .fadr 31 (.t 6)⟩,
  ⟨some 29, none, .load false 1 (.t 28)⟩,
  ⟨some 30, none, .len (.t 29)⟩,
  ⟨some 31, none, .fadr 31 (.t 3)⟩,
  ⟨some 32, none, .load false 1 (.t 31)⟩,
  ⟨some 33, none, .len (.t 32)⟩,
  ⟨some 34, none, .bin .neq (.t 30) (.t 33)⟩,
  ⟨some 27, none, .mov (.t 34)⟩]
def zr26_7 : List AO := [⟨some 4, none, .mov (.c (.int .i64 1))⟩,
  ⟨some 5, none, .mov (.c (.bool false))⟩]
def zc26_3 : AC := .seq (.reg zr26_7) .ret
def zr26_8 : DT := (.pur ⟨some 36, none, .mov (.t 0)⟩ (.pur ⟨some 37, none, .nilc (.t 36)⟩ (.pur ⟨some 38, none, .fadr 5 (.t 37)⟩ (.pur ⟨some 39, none, .load false 1 (.t 38)⟩ (.alt false ⟨some 40, none, .fadr 3 (.t 3)⟩ (.alt false ⟨some 41, none, .load false 1 (.t 40)⟩ (.alt false ⟨some 42, none, .callF 33 [(.t 39), (.t 41)]⟩ (.alt true ⟨some 35, none, .mov (.t 42)⟩ .done .stop) .stop) .stop) .stop)))))
def zr26_9 : List AO := [⟨some 4, none, .mov (.c (.int .i64 12))⟩,
  ⟨some 5, none, .mov (.c (.bool false))⟩]
def zc26_4 : AC := .seq (.reg zr26_9) .ret
def zr26_10 : List AO := [⟨some 44, none, .fadr 1 (.t 3)⟩,
  ⟨some 45, none, .load false 1 (.t 44)⟩,
  ⟨some 46, none, .lenS (.t 45)⟩,
  ⟨some 47, none, .bin .gtr (.t 46) (.c (.int .i64 24))⟩,
  ⟨some 43, none, .mov (.t 47)⟩]
def zr26_11 : List AO := [⟨some 4, none, .mov (.c (.int .i64 3))⟩,
  ⟨some 5, none, .mov (.c (.bool false))⟩]
def zc26_5 : AC := .seq (.reg zr26_11) .ret
def zc26_6 : AC := .cond (.t 43) zc26_5 .skip
def zc26_7 : AC := .seq (.reg zr26_10) zc26_6
def zc26_8 : AC := .cond (.t 35) zc26_4 zc26_7
def zc26_9 : AC := .seq (.regD zr26_8) zc26_8
def zc26_10 : AC := .cond (.t 27) zc26_3 zc26_9
def zc26_11 : AC := .seq (.reg zr26_6) zc26_10
def zc26_12 : AC := .cond (.t 24) zc26_2 zc26_11
def zc26_13 : AC := .seq (.reg zr26_4) zc26_12
def zr26_12 : DT := (.pur ⟨some 48, none, .mov (.t 0)⟩ (.pur ⟨some 49, none, .mov (.t 0)⟩ (.pur ⟨some 50, none, .nilc (.t 49)⟩ (.pur ⟨some 51, none, .fadr 5 (.t 50)⟩ (.pur ⟨some 52, none, .load false 1 (.t 51)⟩ (.alt false ⟨some 53, none, .fadr 3 (.t 3)⟩ (.alt false ⟨some 54, none, .load false 1 (.t 53)⟩ (.alt false ⟨some 55, none, .mkrow 1 1 [.str []] [(0, 1, (.t 54))]⟩ (.alt false ⟨some 56, none, .app 1 16 (.t 52) (.t 55)⟩ (.alt false ⟨some 57, none, .nilc (.t 48)⟩ (.alt false ⟨some 58, none, .fadr 5 (.t 57)⟩ (.alt true ⟨none, none, .store 1 (.t 58) (.t 56)⟩ .done .stop) .stop) .stop) .stop) .stop) .stop) .stop))))))
def zr26_13 : List AO := [⟨some 59, none, .fadr 32 (.t 6)⟩,
  ⟨some 60, none, .load false 1 (.t 59)⟩,
  ⟨some 61, none, .len (.t 60)⟩,
  ⟨some 62, none, .mov (.c (.int .i64 0))⟩]
def zr26_14 : List AO := [⟨some 63, none, .bin .lss (.t 62) (.t 61)⟩]
def zr26_15 : List AO := [⟨some 64, none, .iadr 33 (.t 60) (.t 62)⟩,
  ⟨some 65, none, .load true 33 (.t 64)⟩,
  ⟨some 9, none, .alloc [.int .i64 0, .str [], .int .i64 0, .str [], .str [], .int .i64 0, .int .i64 0, .int .i64 0, .bool false, .str [], .int .i64 0, .bool false, .str [], .nil, .str [], .str [], .int .i64 0, .int .i64 0, .str [], .str [], .bool false, .str [], .str [], .bool false, .bool false, .bool false, .bool false, .bool false, .bool false, .bool false, .nil, .nil, .nil]⟩,
  ⟨none, none, .store 33 (.t 9) (.t 65)⟩]
def zr26_16 : List AO := [⟨some 66, none, .load true 33 (.t 6)⟩,
  ⟨some 67, none, .load true 33 (.t 3)⟩,
  ⟨some 68, none, .load true 33 (.t 9)⟩,
  ⟨some 69, none, .callF 34 [(.t 66), (.t 67), (.t 68)]⟩,
  ⟨none, none, .store 33 (.t 9) (.t 69)⟩]
def zr26_17 : List AO := [⟨some 10, none, .mov (.c (.int .i64 1))⟩,
  ⟨some 11, none, .mov (.c (.bool false))⟩]
def zr26_18 : List AO := [⟨some 71, none, .fadr 0 (.t 9)⟩,
  ⟨some 72, none, .load false 1 (.t 71)⟩,
  ⟨some 73, none, .bin .eql (.t 72) (.c (.int .i64 14))⟩,
  ⟨some 70, none, .mov (.t 73)⟩]
def zr26_19 : List AO := [⟨some 75, none, .mov (.t 0)⟩,
  ⟨some 76, none, .load true 33 (.t 9)⟩,
  ⟨some 77, none, .callF 26 [(.t 75), (.t 76)]⟩,
  ⟨some 74, none, .mov (.t 77)⟩,
  ⟨some 78, none, .ext 0 (.t 74)⟩,
  ⟨some 79, none, .ext 1 (.t 74)⟩,
  ⟨some 10, none, .mov (.t 78)⟩,
  ⟨some 11, none, .mov (.t 79)⟩]
def zc26_14 : AC := .reg zr26_19
def zr26_20 : List AO := [⟨some 81, none, .fadr 0 (.t 9)⟩,
  ⟨some 82, none, .load false 1 (.t 81)⟩,
  ⟨some 83, none, .callF 35 [(.t 82)]⟩,
  ⟨some 80, none, .mov (.t 83)⟩]
def zr26_21 : List AO := [⟨some 85, none, .mov (.t 0)⟩,
  ⟨some 86, none, .load true 33 (.t 9)⟩,
  ⟨some 87, none, .callF 27 [(.t 85), (.t 86), (.c (.int .i64 24))]⟩,
  ⟨some 84, none, .mov (.t 87)⟩,
  ⟨some 88, none, .ext 0 (.t 84)⟩,
  ⟨some 89, none, .ext 1 (.t 84)⟩,
  ⟨some 10, none, .mov (.t 88)⟩,
  ⟨some 11, none, .mov (.t 89)⟩]
def zc26_15 : AC := .reg zr26_21
def zc26_16 : AC := .cond (.t 80) zc26_15 .skip
def zc26_17 : AC := .seq (.reg zr26_20) zc26_16
def zc26_18 : AC := .cond (.t 70) zc26_14 zc26_17
def zc26_19 : AC := .seq (.reg zr26_18) zc26_18
def zr26_22 : List AO := [⟨some 90, none, .mov (.t 10)⟩,
  ⟨some 91, none, .bin .neq (.t 90) (.c (.int .i64 0))⟩]
def zr26_23 : List AO := [⟨some 92, none, .mov (.t 10)⟩,
  ⟨some 93, none, .mov (.t 11)⟩,
  ⟨some 4, none, .mov (.t 92)⟩,
  ⟨some 5, none, .mov (.t 93)⟩]
def zc26_20 : AC := .seq (.reg zr26_23) .ret
def zc26_21 : AC := .cond (.t 91) zc26_20 .skip
def zc26_22 : AC := .seq (.reg zr26_22) zc26_21
def zc26_23 : AC := .seq (.block 3 zc26_19) zc26_22
def zc26_24 : AC := .seq (.reg zr26_17) zc26_23
def zc26_25 : AC := .seq (.reg zr26_16) zc26_24
def zc26_26 : AC := .seq (.reg zr26_15) zc26_25
def zr26_24 : List AO := [⟨some 94, none, .bin .add (.t 62) (.c (.int .i64 1))⟩,
  ⟨some 62, none, .mov (.t 94)⟩]
def zc26_27 : AC := .reg zr26_24
def zc26_28 : AC := .seq (.block 2 zc26_26) zc26_27
def zc26_29 : AC := .seq (.cond (.t 63) .skip (.exit 1)) zc26_28
def zc26_30 : AC := .seq (.reg zr26_14) zc26_29
def zc26_31 : AC := .loop zc26_30
def zc26_32 : AC := .block 1 zc26_31
def zr26_25 : DT := (.pur ⟨some 95, none, .mov (.t 0)⟩ (.pur ⟨some 96, none, .mov (.t 0)⟩ (.pur ⟨some 97, none, .nilc (.t 96)⟩ (.pur ⟨some 98, none, .fadr 5 (.t 97)⟩ (.pur ⟨some 99, none, .load false 1 (.t 98)⟩ (.alt false ⟨some 100, none, .mov (.t 0)⟩ (.alt false ⟨some 101, none, .nilc (.t 100)⟩ (.alt false ⟨some 102, none, .fadr 5 (.t 101)⟩ (.alt false ⟨some 103, none, .load false 1 (.t 102)⟩ (.alt false ⟨some 104, none, .len (.t 103)⟩ (.alt false ⟨some 105, none, .bin .sub (.t 104) (.c (.int .i64 1))⟩ (.alt false ⟨some 106, none, .slc 1 (.t 99) none (some (.t 105))⟩ (.alt false ⟨some 107, none, .nilc (.t 95)⟩ (.alt false ⟨some 108, none, .fadr 5 (.t 107)⟩ (.alt true ⟨none, none, .store 1 (.t 108) (.t 106)⟩ .done .stop) .stop) .stop) .stop) .stop) .stop) .stop) .stop) .stop) .stop))))))
def zr26_26 : List AO := [⟨some 4, none, .mov (.c (.int .i64 0))⟩,
  ⟨some 5, none, .mov (.c (.bool false))⟩]
def zc26_33 : AC := .seq (.reg zr26_26) .ret
def zc26_34 : AC := .seq (.regD zr26_25) zc26_33
def zc26_35 : AC := .seq (.seq (.reg zr26_13) zc26_32) zc26_34
def zc26_36 : AC := .seq (.regD zr26_12) zc26_35
def zc26_37 : AC := .seq (.block 0 zc26_13) zc26_36
def zc26_38 : AC := .seq (.regD zr26_3) zc26_37
def zc26_39 : AC := .seq (.seq (.reg zr26_1) zc26_1) zc26_38
def zc26_40 : AC := .seq (.reg zr26_0) zc26_39
def zc26 : AC := zc26_40
theorem ok26 : Try.f26.body.bind (compCode Try.prog 109) = some zc26 := by kernel_rfl
theorem nt26 : Try.f26.ntmps = 109 := by kernel_rfl
theorem res26 : compRes Try.prog Try.f26.results.toList = some [.tmp 4, .tmp 5] := by kernel_rfl
attribute [go_sem] zr26_10 zr26_11 zr26_13 zr26_14 zr26_17 zr26_18 zr26_2 zr26_22 zr26_23 zr26_24 zr26_26 zr26_4 zr26_5 zr26_6 zr26_7 zr26_9
def o26 (p1 : List (List UInt8 × Item)) (p2 : List (List UInt8 × Span)) (p3 : List (List UInt8 × Item)) (p4 : Int) (p5 : List Item) (p6 : List (List UInt8)) (p7 : Item) (b900 : Nat) (b901 : Nat) (b902 : Nat) (b903 : Nat) (o904 : Option Nat) (o905 : Option Nat) (r : Int × Bool × Int × (List Item) × (List (List UInt8))) : Res → Own → Prop := fun q o => ∃ (e0 : Option Nat), ∃ (e1 : Option Nat), (e0 = none → r.2.2.2.1 = []) ∧ (e1 = none → r.2.2.2.2 = []) ∧ q = .val (.tup [.int .i64 r.1, .bool r.2.1]) ∧ o = (900, b900, .cells ([.mapv 901 b901, .mapv 902 b902, .mapv 903 b903, .int .i64 r.2.2.1, accV 904 e0 (List.length r.2.2.2.1) 33, accV 905 e1 (List.length r.2.2.2.2) 1])) :: (901, b901, .map (List.map (fun p => (AV.str p.1, .agg (Item.cs p.2))) p1)) :: (902, b902, .map (List.map (fun p => (AV.str p.1, .agg (Span.cs p.2))) p2)) :: (903, b903, .map (List.map (fun p => (AV.str p.1, .agg (Item.cs p.2))) p3)) :: accO 904 e0 (flt Item.av r.2.2.2.1) (accO 905 e1 (flt AV.str r.2.2.2.2) [])
def s26_b1 (N : Nat) (p1 : List (List UInt8 × Item)) (p2 : List (List UInt8 × Span)) (p3 : List (List UInt8 × Item)) (p7 : Item) (v6 : Item) (rec26 : (List (List UInt8 × Item)) → (List (List UInt8 × Span)) → (List (List UInt8 × Item)) → Int → (List Item) → (List (List UInt8)) → Item → Option (Int × Bool × Int × (List Item) × (List (List UInt8)))) (x19 : Int) (l20 : List Item) (l23 : List (List UInt8)) (x26 : Int) : Option (((Int × (List Item) × (List (List UInt8)) × Int) ⊕ (Ou (Int × (List Item) × (List (List UInt8))) (Int × Bool × Int × (List Item) × (List (List UInt8)))))) :=
  if x26 < (List.length v6.Items : Int) then
    grd (0 ≤ x26) <|
    (s34 N v6 p7 (v6.Items[x26.toNat]!)).bind fun x38 =>
    if x38.Kind = 14 then
      (rec26 p1 p2 p3 x19 l20 l23 x38).bind fun x41 =>
      if x41.1 = 0 then
        some (.inl (x41.2.2.1, x41.2.2.2.1, x41.2.2.2.2, IntKind.wrap .i64 (x26 + 1)))
      else
        some (.inr (.ret (x41.1, x41.2.1, x41.2.2.1, x41.2.2.2.1, x41.2.2.2.2)))
    else
      (s35 N x38.Kind).bind fun x48 =>
      bif x48 then
        (s27 N p1 p2 p3 x19 l20 l23 x38 24).bind fun x51 =>
        if x51.1 = 0 then
          some (.inl (x51.2.2.1, x51.2.2.2.1, x51.2.2.2.2, IntKind.wrap .i64 (x26 + 1)))
        else
          some (.inr (.ret (x51.1, x51.2.1, x51.2.2.1, x51.2.2.2.1, x51.2.2.2.2)))
      else
        some (.inr (.ret (1, false, x19, l20, l23)))
  else
    some (.inr (.brk (x19, l20, l23)))
def s26_body (rec26 : (List (List UInt8 × Item)) → (List (List UInt8 × Span)) → (List (List UInt8 × Item)) → Int → (List Item) → (List (List UInt8)) → Item → Option (Int × Bool × Int × (List Item) × (List (List UInt8)))) (N : Nat) (p1 : List (List UInt8 × Item)) (p2 : List (List UInt8 × Span)) (p3 : List (List UInt8 × Item)) (p4 : Int) (p5 : List Item) (p6 : List (List UInt8)) (p7 : Item) : Option (Int × Bool × Int × (List Item) × (List (List UInt8))) :=
  (s32 N p1 p2 p3 p4 p5 p6).bind fun x2 =>
  bif x2.1 then
    some (3, true, x2.2, p5, p6)
  else
    (mlook p7.Of p1).elim (
      some (8, false, x2.2, p5, p6)) fun v6 =>
    if (List.length v6.Names : Int) = (List.length p7.Names : Int) then
      (s33 N p6 p7.Of).bind fun x10 =>
      bif x10 then
        some (12, false, x2.2, p5, p6)
      else
        if 24 < (List.length p7.Name : Int) then
          some (3, false, x2.2, p5, p6)
        else
          grd ((List.length p6 + 1) * 16 ≤ 140737488355328 ∧ List.length p6 + 1 ≤ 140737488355328) <|
          (iter (fun p => s26_b1 N p1 p2 p3 p7 v6 rec26 p.1 p.2.1 p.2.2.1 p.2.2.2) N (x2.2, p5, p6 ++ [p7.Of], 0)).bind fun o27 => o27.on (fun a27 =>
            grd (0 < List.length a27.2.2) <|
            grd (0 ≤ IntKind.wrap .i64 ((List.length a27.2.2 : Int) - 1) ∧ IntKind.wrap .i64 ((List.length a27.2.2 : Int) - 1) ≤ (List.length a27.2.2 : Int)) <|
            some (0, false, a27.1, a27.2.1, List.take (IntKind.wrap .i64 ((List.length a27.2.2 : Int) - 1)).toNat a27.2.2))
            (fun a27r => some a27r)
    else
      some (1, false, x2.2, p5, p6)
def s26 : Nat → (List (List UInt8 × Item)) → (List (List UInt8 × Span)) → (List (List UInt8 × Item)) → Int → (List Item) → (List (List UInt8)) → Item → Option (Int × Bool × Int × (List Item) × (List (List UInt8)))
  | 0, _, _, _, _, _, _, _ => none
  | N + 1, p1, p2, p3, p4, p5, p6, p7 => s26_body (s26 N) N p1 p2 p3 p4 p5 p6 p7
set_option maxHeartbeats 4000000 in
theorem c26_body (rec26 : (List (List UInt8 × Item)) → (List (List UInt8 × Span)) → (List (List UInt8 × Item)) → Int → (List Item) → (List (List UInt8)) → Item → Option (Int × Bool × Int × (List Item) × (List (List UInt8)))) (hrec26 : ∀ (p1 : List (List UInt8 × Item)) (p2 : List (List UInt8 × Span)) (p3 : List (List UInt8 × Item)) (p4 : Int) (p5 : List Item) (p6 : List (List UInt8)) (p7 : Item) (b900 : Nat) (b901 : Nat) (b902 : Nat) (b903 : Nat) (o904 : Option Nat) (h904 : o904 = none → p5 = []) (o905 : Option Nat) (h905 : o905 = none → p6 = []) (r : Int × Bool × Int × (List Item) × (List (List UInt8))), rec26 p1 p2 p3 p4 p5 p6 p7 = some r → FnC Try.prog 26 [.ptr 900 b900 0, .agg (Item.cs p7)] ((900, b900, .cells ([.mapv 901 b901, .mapv 902 b902, .mapv 903 b903, .int .i64 p4, accV 904 o904 (List.length p5) 33, accV 905 o905 (List.length p6) 1])) :: (901, b901, .map (List.map (fun p => (AV.str p.1, .agg (Item.cs p.2))) p1)) :: (902, b902, .map (List.map (fun p => (AV.str p.1, .agg (Span.cs p.2))) p2)) :: (903, b903, .map (List.map (fun p => (AV.str p.1, .agg (Item.cs p.2))) p3)) :: accO 904 o904 (flt Item.av p5) (accO 905 o905 (flt AV.str p6) [])) (o26 p1 p2 p3 p4 p5 p6 p7 b900 b901 b902 b903 o904 o905 r)) (N : Nat) (p1 : List (List UInt8 × Item)) (p2 : List (List UInt8 × Span)) (p3 : List (List UInt8 × Item)) (p4 : Int) (p5 : List Item) (p6 : List (List UInt8)) (p7 : Item) (b900 : Nat) (b901 : Nat) (b902 : Nat) (b903 : Nat) (o904 : Option Nat) (h904 : o904 = none → p5 = []) (o905 : Option Nat) (h905 : o905 = none → p6 = []) (r : Int × Bool × Int × (List Item) × (List (List UInt8))) (h : s26_body rec26 N p1 p2 p3 p4 p5 p6 p7 = some r) : FnC Try.prog 26 [.ptr 900 b900 0, .agg (Item.cs p7)] ((900, b900, .cells ([.mapv 901 b901, .mapv 902 b902, .mapv 903 b903, .int .i64 p4, accV 904 o904 (List.length p5) 33, accV 905 o905 (List.length p6) 1])) :: (901, b901, .map (List.map (fun p => (AV.str p.1, .agg (Item.cs p.2))) p1)) :: (902, b902, .map (List.map (fun p => (AV.str p.1, .agg (Span.cs p.2))) p2)) :: (903, b903, .map (List.map (fun p => (AV.str p.1, .agg (Item.cs p.2))) p3)) :: accO 904 o904 (flt Item.av p5) (accO 905 o905 (flt AV.str p6) [])) (o26 p1 p2 p3 p4 p5 p6 p7 b900 b901 b902 b903 o904 o905 r) := by
 refine fn_intro' 109 Try.func26 nt26 ok26 res26 (by simp) fun X hP hn hd hr => ?_
 unfold s26_body at h
 repeat refine awp_seq ?_
 refine awp_reg fun K Q hK hQ => ?_
 simp -implicitDefEqProofs (disch := first | omega | rfl) only [go_sem, simprocAttr, zr26_0, argS]
 intro b1
 refine hK _ _ ?_; clear hK hQ K Q
 repeat refine awp_seq ?_
 refine awp_reg fun K Q hK hQ => ?_
 simp -implicitDefEqProofs (disch := first | omega | rfl) only [go_sem, simprocAttr, zr26_1]
 have hh := bnd_some h; clear h; obtain ⟨x2, hx3, h⟩ := hh
 refine call_own hP ([]) (_ :: _ :: _ :: _ :: accO _ _ _ (accO _ _ _ (_ :: []))) (_ :: _ :: _ :: _ :: accO _ _ _ (accO _ _ _ (_ :: []))) ((3, b1, .cells (Item.cs p7)) :: []) (_ :: _ :: _ :: _ :: accO _ _ _ (accO _ _ _ (_ :: []))) rfl (List.Perm.trans perm_cc ((List.Perm.cons _ (List.Perm.trans perm_cc ((List.Perm.cons _ (List.Perm.trans perm_cc ((List.Perm.cons _ (List.Perm.trans perm_cc ((List.Perm.cons _ (List.Perm.trans perm_ca ((perm_ha (List.Perm.trans perm_ca (List.Perm.refl _))))))))))))))))) (fun q o => q = .val (.bool x2.1) ∧ o = (900, b900, .cells ([.mapv 901 b901, .mapv 902 b902, .mapv 903 b903, .int .i64 x2.2, accV 501 o904 (List.length p5) 33, accV 502 o905 (List.length p6) 1])) :: (901, b901, .map (List.map (fun p => (AV.str p.1, .agg (Item.cs p.2))) p1)) :: (902, b902, .map (List.map (fun p => (AV.str p.1, .agg (Span.cs p.2))) p2)) :: (903, b903, .map (List.map (fun p => (AV.str p.1, .agg (Item.cs p.2))) p3)) :: accO 501 o904 (flt Item.av p5) (accO 502 o905 (flt AV.str p6) [])) (c32 N p1 p2 p3 p4 p5 p6 b900 b901 b902 b903 o904 h904 o905 h905 x2 hx3) (by rintro q o ⟨rfl, rfl⟩; exact ⟨_, _, .val (.keep _), (.cells (.cons (.lmap ..) (.cons (.lmap ..) (.cons (.lmap ..) (.cons (.keep _) (.cons (frz_lacc (by first | rfl | (simp; done) | ((try simp only [List.length_set, List.length_take]); omega))) (.cons (frz_lacc (by first | rfl | (simp; done) | ((try simp only [List.length_set, List.length_take]); omega))) (.nil _))))))) (.map' (by first | rfl | simp) (.map' (by first | rfl | simp) (.map' (by first | rfl | simp) (.acc (FrzP.refl _ _) (.acc (FrzP.refl _ _) .nil)))))), rfl, rfl⟩) (by first | rfl | (simp only [accO_app, List.cons_append, List.nil_append]; rfl) | simp only [accO_app, List.cons_append, List.nil_append]) (.cell (.map' (by first | rfl | simp) (.map' (by first | rfl | simp) (.map' (by first | rfl | simp) (.acc (FrzP.refl _ _) (.acc (FrzP.refl _ _) (.cell .nil))))))) (.cons (.lptr ..) .nil) ?_
 rintro q o ⟨rfl, rfl⟩
 simp -implicitDefEqProofs (disch := first | omega | rfl) only [go_sem, simprocAttr]
 refine hK _ _ ?_; clear hK hQ K Q
 rcases cnd_some h with ⟨hc4, h⟩ | ⟨hc4, h⟩
 · repeat refine awp_seq ?_
   refine awp_then (by simp -implicitDefEqProofs (disch := first | omega | rfl) only [go_sem, simprocAttr, hc4]) ?_
   repeat refine awp_seq ?_
   refine rg (h := ?_)
   obtain rfl := som_inj h
   repeat refine awp_seq ?_
   refine awp_le' (s' := [(4, .int .i64 3), (5, .bool true)]) (own' := (900, b900, .cells ([.mapv 901 b901, .mapv 902 b902, .mapv 903 b903, .int .i64 x2.2, accV 904 o904 (List.length p5) 33, accV 905 o905 (List.length p6) 1])) :: (901, b901, .map (List.map (fun p => (AV.str p.1, .agg (Item.cs p.2))) p1)) :: (902, b902, .map (List.map (fun p => (AV.str p.1, .agg (Span.cs p.2))) p2)) :: (903, b903, .map (List.map (fun p => (AV.str p.1, .agg (Item.cs p.2))) p3)) :: accO 904 o904 (flt Item.av p5) (accO 905 o905 (flt AV.str p6) [])) ([]) (_ :: _ :: _ :: _ :: accO _ _ _ (accO _ _ _ (_ :: []))) (_ :: _ :: _ :: _ :: accO _ _ _ (accO _ _ _ (_ :: []))) rfl (List.Perm.refl _) ?_ ?_ ?_
   · simp -implicitDefEqProofs (disch := first | omega | rfl) only [go_sem, simprocAttr, subF_cons, subF_nil]
     exact ⟨(.keep _), (.keep _)⟩
   · exact (.cells (.cons (.lmap ..) (.cons (.lmap ..) (.cons (.lmap ..) (.cons (.keep _) (.cons (frz_lacc (by first | rfl | (simp; done) | ((try simp only [List.length_set, List.length_take]); omega))) (.cons (frz_lacc (by first | rfl | (simp; done) | ((try simp only [List.length_set, List.length_take]); omega))) (.nil _))))))) (.map' (by first | rfl | simp) (.map' (by first | rfl | simp) (.map' (by first | rfl | simp) (.acc (FrzP.refl _ _) (.acc (FrzP.refl _ _) (.drop .nil)))))))
   refine awp_ret ?_
   repeat' (first | refine then_ret ?_ | refine blk_ret ?_)
   refine ret_q ?_
   simp -implicitDefEqProofs (disch := first | omega | rfl) only [go_sem, simprocAttr]
   exact leaves_own (G := o26 p1 p2 p3 p4 p5 p6 p7 b900 b901 b902 b903 o904 o905 (3, true, x2.2, p5, p6)) ⟨o904, o905, h904, h905, rfl, rfl⟩
 repeat refine awp_seq ?_
 refine awp_else (by simp -implicitDefEqProofs (disch := first | omega | rfl) only [go_sem, simprocAttr, hc4]) ?_
 repeat refine awp_seq ?_
 refine awp_skip ?_
 repeat refine awp_seq ?_
 refine awp_regD' (_ :: _ :: _ :: _ :: accO _ _ _ (accO _ _ _ (_ :: []))) ([]) (_ :: _ :: _ :: _ :: accO _ _ _ (accO _ _ _ (_ :: []))) (by rw [hP]; exact mixed) (by first | rfl | (simp only [accO_app, List.cons_append, List.nil_append]; rfl) | simp only [accO_app, List.cons_append, List.nil_append]) (List.Perm.refl _) fun K hK => ?_
 have hh := elm_some h; clear h; rcases hh with ⟨hl5, h⟩ | ⟨v6, hl5, h⟩
 · simp -implicitDefEqProofs (disch := first | omega | rfl) only [go_sem, simprocAttr, zr26_3, mlk_str_none (f := (fun x => AV.agg (Item.cs x))) hl5]
   intro b7
   refine hK _ _ ?_; clear hK K
   repeat refine awp_seq ?_
   refine awp_block ?_
   repeat refine awp_seq ?_
   refine rg (h := ?_)
   repeat refine awp_seq ?_
   refine awp_then (by rfl) ?_
   repeat refine awp_seq ?_
   refine rg (h := ?_)
   obtain rfl := som_inj h
   repeat refine awp_seq ?_
   refine awp_le' (s' := [(4, .int .i64 8), (5, .bool false)]) (own' := (900, b900, .cells ([.mapv 901 b901, .mapv 902 b902, .mapv 903 b903, .int .i64 x2.2, accV 904 o904 (List.length p5) 33, accV 905 o905 (List.length p6) 1])) :: (901, b901, .map (List.map (fun p => (AV.str p.1, .agg (Item.cs p.2))) p1)) :: (902, b902, .map (List.map (fun p => (AV.str p.1, .agg (Span.cs p.2))) p2)) :: (903, b903, .map (List.map (fun p => (AV.str p.1, .agg (Item.cs p.2))) p3)) :: accO 904 o904 (flt Item.av p5) (accO 905 o905 (flt AV.str p6) [])) ([]) (_ :: _ :: _ :: _ :: accO _ _ _ (accO _ _ _ (_ :: _ :: []))) (_ :: _ :: _ :: _ :: accO _ _ _ (accO _ _ _ (_ :: _ :: []))) rfl (List.Perm.refl _) ?_ ?_ ?_
   · simp -implicitDefEqProofs (disch := first | omega | rfl) only [go_sem, simprocAttr, subF_cons, subF_nil]
     exact ⟨(.keep _), (.keep _)⟩
   · exact (.cells (.cons (.lmap ..) (.cons (.lmap ..) (.cons (.lmap ..) (.cons (.keep _) (.cons (frz_lacc (by first | rfl | (simp; done) | ((try simp only [List.length_set, List.length_take]); omega))) (.cons (frz_lacc (by first | rfl | (simp; done) | ((try simp only [List.length_set, List.length_take]); omega))) (.nil _))))))) (.map' (by first | rfl | simp) (.map' (by first | rfl | simp) (.map' (by first | rfl | simp) (.acc (FrzP.refl _ _) (.acc (FrzP.refl _ _) (.drop (.drop .nil))))))))
   refine awp_ret ?_
   repeat' (first | refine then_ret ?_ | refine blk_ret ?_)
   refine ret_q ?_
   simp -implicitDefEqProofs (disch := first | omega | rfl) only [go_sem, simprocAttr]
   exact leaves_own (G := o26 p1 p2 p3 p4 p5 p6 p7 b900 b901 b902 b903 o904 o905 (8, false, x2.2, p5, p6)) ⟨o904, o905, h904, h905, rfl, rfl⟩
 simp -implicitDefEqProofs (disch := first | omega | rfl) only [go_sem, simprocAttr, zr26_3, mlk_str_some (f := (fun x => AV.agg (Item.cs x))) hl5]
 intro b8
 refine hK _ _ ?_; clear hK K
 repeat refine awp_seq ?_
 refine awp_block ?_
 repeat refine awp_seq ?_
 refine rg (h := ?_)
 repeat refine awp_seq ?_
 refine awp_else (by rfl) ?_
 repeat refine awp_seq ?_
 refine rg (h := ?_)
 rcases ite_some h with ⟨hc9, h⟩ | ⟨hc9, h⟩
 · repeat refine awp_seq ?_
   refine awp_else (by simp -implicitDefEqProofs (disch := first | omega | rfl) only [go_sem, simprocAttr, eq_true hc9]) ?_
   repeat refine awp_seq ?_
   refine awp_regD' (_ :: _ :: _ :: _ :: accO _ _ _ (_ :: _ :: [])) (accO _ _ _ []) (_ :: _ :: _ :: _ :: accO _ _ _ (_ :: _ :: accO _ _ _ [])) (by rw [hP]; exact mixed) (by first | rfl | (simp only [accO_app, List.cons_append, List.nil_append]; rfl) | simp only [accO_app, List.cons_append, List.nil_append]) ((List.Perm.cons _ ((List.Perm.cons _ ((List.Perm.cons _ ((List.Perm.cons _ ((perm_ha (List.Perm.trans perm_ac ((List.Perm.cons _ (List.Perm.trans perm_ac (List.Perm.refl _))))))))))))))) fun K hK => ?_
   simp -implicitDefEqProofs (disch := first | omega | rfl) only [go_sem, simprocAttr, zr26_8]
   have hh := bnd_some h; clear h; obtain ⟨x10, hx11, h⟩ := hh
   refine call_borrow' hP (accO _ _ _ []) ([]) (accO _ _ _ []) (by first | rfl | (simp only [accO_app, List.cons_append, List.nil_append]; rfl) | simp only [accO_app, List.cons_append, List.nil_append]) (List.Perm.refl _) (.cons (frz_acc (fun _ => rfl) h905 (by intro b hb; subst hb; simp -implicitDefEqProofs (disch := first | omega | rfl) only [go_sem, simprocAttr]) (by first | rfl | (simp; done) | ((try simp only [List.length_set, List.length_take]); omega))) (.cons (.keep _) .nil)) (c33 N p6 p7.Of x10 hx11) (flat_bool _) ?_
   simp -implicitDefEqProofs (disch := first | omega | rfl) only [go_sem, simprocAttr]
   refine hK _ _ ?_; clear hK K
   rcases cnd_some h with ⟨hc12, h⟩ | ⟨hc12, h⟩
   · repeat refine awp_seq ?_
     refine awp_then (by simp -implicitDefEqProofs (disch := first | omega | rfl) only [go_sem, simprocAttr, hc12]) ?_
     repeat refine awp_seq ?_
     refine rg (h := ?_)
     obtain rfl := som_inj h
     repeat refine awp_seq ?_
     refine awp_le' (s' := [(4, .int .i64 12), (5, .bool false)]) (own' := (900, b900, .cells ([.mapv 901 b901, .mapv 902 b902, .mapv 903 b903, .int .i64 x2.2, accV 904 o904 (List.length p5) 33, accV 905 o905 (List.length p6) 1])) :: (901, b901, .map (List.map (fun p => (AV.str p.1, .agg (Item.cs p.2))) p1)) :: (902, b902, .map (List.map (fun p => (AV.str p.1, .agg (Span.cs p.2))) p2)) :: (903, b903, .map (List.map (fun p => (AV.str p.1, .agg (Item.cs p.2))) p3)) :: accO 904 o904 (flt Item.av p5) (accO 905 o905 (flt AV.str p6) [])) ([]) (_ :: _ :: _ :: _ :: accO _ _ _ (accO _ _ _ (_ :: _ :: []))) (_ :: _ :: _ :: _ :: accO _ _ _ (accO _ _ _ (_ :: _ :: []))) rfl ((List.Perm.cons _ ((List.Perm.cons _ ((List.Perm.cons _ ((List.Perm.cons _ ((perm_ha (List.Perm.trans (List.Perm.cons _ perm_ca) (List.Perm.trans perm_ca (List.Perm.refl _))))))))))))) ?_ ?_ ?_
     · simp -implicitDefEqProofs (disch := first | omega | rfl) only [go_sem, simprocAttr, subF_cons, subF_nil]
       exact ⟨(.keep _), (.keep _)⟩
     · exact (.cells (.cons (.lmap ..) (.cons (.lmap ..) (.cons (.lmap ..) (.cons (.keep _) (.cons (frz_lacc (by first | rfl | (simp; done) | ((try simp only [List.length_set, List.length_take]); omega))) (.cons (frz_lacc (by first | rfl | (simp; done) | ((try simp only [List.length_set, List.length_take]); omega))) (.nil _))))))) (.map' (by first | rfl | simp) (.map' (by first | rfl | simp) (.map' (by first | rfl | simp) (.acc (FrzP.refl _ _) (.acc (FrzP.refl _ _) (.drop (.drop .nil))))))))
     refine awp_ret ?_
     repeat' (first | refine then_ret ?_ | refine blk_ret ?_)
     refine ret_q ?_
     simp -implicitDefEqProofs (disch := first | omega | rfl) only [go_sem, simprocAttr]
     exact leaves_own (G := o26 p1 p2 p3 p4 p5 p6 p7 b900 b901 b902 b903 o904 o905 (12, false, x2.2, p5, p6)) ⟨o904, o905, h904, h905, rfl, rfl⟩
   repeat refine awp_seq ?_
   refine awp_else (by simp -implicitDefEqProofs (disch := first | omega | rfl) only [go_sem, simprocAttr, hc12]) ?_
   repeat refine awp_seq ?_
   refine rg (h := ?_)
   rcases ite_some h with ⟨hc13, h⟩ | ⟨hc13, h⟩
   · repeat refine awp_seq ?_
     refine awp_then (by simp -implicitDefEqProofs (disch := first | omega | rfl) only [go_sem, simprocAttr, eq_true hc13]) ?_
     repeat refine awp_seq ?_
     refine rg (h := ?_)
     obtain rfl := som_inj h
     repeat refine awp_seq ?_
     refine awp_le' (s' := [(4, .int .i64 3), (5, .bool false)]) (own' := (900, b900, .cells ([.mapv 901 b901, .mapv 902 b902, .mapv 903 b903, .int .i64 x2.2, accV 904 o904 (List.length p5) 33, accV 905 o905 (List.length p6) 1])) :: (901, b901, .map (List.map (fun p => (AV.str p.1, .agg (Item.cs p.2))) p1)) :: (902, b902, .map (List.map (fun p => (AV.str p.1, .agg (Span.cs p.2))) p2)) :: (903, b903, .map (List.map (fun p => (AV.str p.1, .agg (Item.cs p.2))) p3)) :: accO 904 o904 (flt Item.av p5) (accO 905 o905 (flt AV.str p6) [])) ([]) (_ :: _ :: _ :: _ :: accO _ _ _ (accO _ _ _ (_ :: _ :: []))) (_ :: _ :: _ :: _ :: accO _ _ _ (accO _ _ _ (_ :: _ :: []))) rfl ((List.Perm.cons _ ((List.Perm.cons _ ((List.Perm.cons _ ((List.Perm.cons _ ((perm_ha (List.Perm.trans (List.Perm.cons _ perm_ca) (List.Perm.trans perm_ca (List.Perm.refl _))))))))))))) ?_ ?_ ?_
     · simp -implicitDefEqProofs (disch := first | omega | rfl) only [go_sem, simprocAttr, subF_cons, subF_nil]
       exact ⟨(.keep _), (.keep _)⟩
     · exact (.cells (.cons (.lmap ..) (.cons (.lmap ..) (.cons (.lmap ..) (.cons (.keep _) (.cons (frz_lacc (by first | rfl | (simp; done) | ((try simp only [List.length_set, List.length_take]); omega))) (.cons (frz_lacc (by first | rfl | (simp; done) | ((try simp only [List.length_set, List.length_take]); omega))) (.nil _))))))) (.map' (by first | rfl | simp) (.map' (by first | rfl | simp) (.map' (by first | rfl | simp) (.acc (FrzP.refl _ _) (.acc (FrzP.refl _ _) (.drop (.drop .nil))))))))
     refine awp_ret ?_
     repeat' (first | refine then_ret ?_ | refine blk_ret ?_)
     refine ret_q ?_
     simp -implicitDefEqProofs (disch := first | omega | rfl) only [go_sem, simprocAttr]
     exact leaves_own (G := o26 p1 p2 p3 p4 p5 p6 p7 b900 b901 b902 b903 o904 o905 (3, false, x2.2, p5, p6)) ⟨o904, o905, h904, h905, rfl, rfl⟩
   repeat refine awp_seq ?_
   refine awp_else (by simp -implicitDefEqProofs (disch := first | omega | rfl) only [go_sem, simprocAttr, eq_false hc13]) ?_
   repeat refine awp_seq ?_
   refine awp_skip ?_
   repeat refine awp_seq ?_
   refine awp_regD' (_ :: _ :: _ :: _ :: accO _ _ _ (_ :: _ :: [])) (accO _ _ _ []) (_ :: _ :: _ :: _ :: accO _ _ _ (_ :: _ :: accO _ _ _ [])) (by rw [hP]; exact mixed) (by first | rfl | (simp only [accO_app, List.cons_append, List.nil_append]; rfl) | simp only [accO_app, List.cons_append, List.nil_append]) (List.Perm.refl _) fun K hK => ?_
   obtain ⟨⟨hg15, hg16⟩, h⟩ := grd_some h
   simp -implicitDefEqProofs (disch := first | omega | rfl) only [go_sem, simprocAttr, zr26_12, eq_true hg15, eq_true hg16]
   intro b14
   refine app_acc (f := AV.str) (l := p6) ((55, b14, .cells ([.str p7.Of])) :: []) h905 (by first | rfl | simp) (fun _ => rfl) (by intro b hb; subst hb; simp -implicitDefEqProofs (disch := first | omega | rfl) only [go_sem, simprocAttr]) (by intro b hb; subst hb; simp -implicitDefEqProofs (disch := first | omega | rfl) only [go_sem, simprocAttr]) (by intro hb; subst hb; simp -implicitDefEqProofs (disch := first | omega | rfl) only [go_sem, simprocAttr]) ?_
   simp -implicitDefEqProofs (disch := first | omega | rfl) only [go_sem, simprocAttr, eq_true hg15, eq_true hg16]
   intro bo17 hb18
   try simp -implicitDefEqProofs (disch := first | omega | rfl) only [go_sem, simprocAttr]
   refine hK _ _ ?_; clear hK K
   repeat refine awp_seq ?_
   refine rg (h := ?_)
   repeat refine awp_seq ?_
   refine awp_block ?_
   obtain ⟨o27, ho27, hO27⟩ := bnd_some h
   repeat refine awp_seq ?_
   refine awp_loop (ι := {p : Nat × Int × (List Item) × (Option Nat) × (List (List UInt8)) × (Option Nat) × Int // iter (fun p => s26_b1 N p1 p2 p3 p7 v6 rec26 p.1 p.2.1 p.2.2.1 p.2.2.2) p.1 (p.2.1, p.2.2.1, p.2.2.2.2.1, p.2.2.2.2.2.2) = some o27 ∧ (p.2.2.2.1 = none → p.2.2.1 = []) ∧ (p.2.2.2.2.2.1 = none → p.2.2.2.2.1 = [])}) (fun p => [(0, .ptr 900 b900 0), (3, .ptr 3 b1 0), (6, .ptr 6 b8 0), (60, .sl (List.map Item.av v6.Items)), (61, .int .i64 (List.length v6.Items : Int)), (62, .int .i64 p.1.2.2.2.2.2.2)]) (fun p => (900, b900, .cells ([.mapv 901 b901, .mapv 902 b902, .mapv 903 b903, .int .i64 p.1.2.1, accV 503 p.1.2.2.2.1 (List.length p.1.2.2.1) 33, accV 504 p.1.2.2.2.2.2.1 (List.length p.1.2.2.2.2.1) 1])) :: (901, b901, .map (List.map (fun p => (AV.str p.1, .agg (Item.cs p.2))) p1)) :: (902, b902, .map (List.map (fun p => (AV.str p.1, .agg (Span.cs p.2))) p2)) :: (903, b903, .map (List.map (fun p => (AV.str p.1, .agg (Item.cs p.2))) p3)) :: accO 503 p.1.2.2.2.1 (flt Item.av p.1.2.2.1) (accO 504 p.1.2.2.2.2.2.1 (flt AV.str p.1.2.2.2.2.1) ((3, b1, .cells (Item.cs p7)) :: (6, b8, .cells (Item.cs v6)) :: []))) (fun p => p.1.1) ⟨⟨N, x2.2, p5, o904, p6 ++ [p7.Of], bo17, 0⟩, ho27, h904, (fun h => List.length_eq_zero_iff.1 (by simpa using hb18 h))⟩ ?_ ?_
   · refine ent_le' ([]) (_ :: _ :: _ :: _ :: accO _ _ _ (accO _ _ _ (_ :: _ :: _ :: []))) (_ :: _ :: _ :: _ :: accO _ _ _ (accO _ _ _ (_ :: _ :: _ :: []))) rfl ((List.Perm.cons _ ((List.Perm.cons _ ((List.Perm.cons _ ((List.Perm.cons _ ((perm_ha (List.Perm.trans (List.Perm.cons _ perm_ca) (List.Perm.trans perm_ca (List.Perm.refl _))))))))))))) ?_ ?_
     · simp -implicitDefEqProofs (disch := first | omega | rfl) only [go_sem, simprocAttr, subF_cons, subF_nil]
       exact ⟨(.lptr ..), (.lptr ..), (.lptr ..), (.keep _), (.keep _), (.keep _)⟩
     · exact (.cells (.cons (.lmap ..) (.cons (.lmap ..) (.cons (.lmap ..) (.cons (.keep _) (.cons (frz_lacc (by first | rfl | (simp; done) | ((try simp only [List.length_set, List.length_take]); omega))) (.cons (frz_lacc (by first | rfl | (simp; done) | ((try simp only [List.length_set, List.length_take]); omega))) (.nil _))))))) (.map' (by first | rfl | simp) (.map' (by first | rfl | simp) (.map' (by first | rfl | simp) (.acc (FrzP.of_eq (by first | rfl | simp only [flt_app, flt_one, List.append_assoc])) (.acc (FrzP.of_eq (by first | rfl | simp only [flt_app, flt_one, List.append_assoc])) (.cell (.cell (.drop .nil)))))))))
   rintro ⟨⟨n27, x19, l20, bo21, l23, bo24, x26⟩, hi27, hb22, hb25⟩
   obtain ⟨m27, q27, rfl, h, hm27⟩ := iter_some hi27
   try dsimp only at h
   try dsimp only
   unfold s26_b1 at h
   repeat refine awp_seq ?_
   refine rg (h := ?_)
   rcases ite_some h with ⟨hc35, h⟩ | ⟨hc35, h⟩
   · repeat refine awp_seq ?_
     refine awp_then (by simp -implicitDefEqProofs (disch := first | omega | rfl) only [go_sem, simprocAttr, eq_true hc35]) ?_
     repeat refine awp_seq ?_
     refine awp_skip ?_
     repeat refine awp_seq ?_
     refine awp_block ?_
     repeat refine awp_seq ?_
     refine awp_reg fun K Q hK hQ => ?_
     obtain ⟨hg36, h⟩ := grd_some h
     simp -implicitDefEqProofs (disch := first | omega | rfl) only [go_sem, simprocAttr, zr26_15, eq_true hc35, eq_true hg36]
     intro b37
     refine hK _ _ ?_; clear hK hQ K Q
     repeat refine awp_seq ?_
     refine awp_reg fun K Q hK hQ => ?_
     simp -implicitDefEqProofs (disch := first | omega | rfl) only [go_sem, simprocAttr, zr26_16]
     have hh := bnd_some h; clear h; obtain ⟨x38, hx39, h⟩ := hh
     refine call_pure hP (c34 N v6 p7 (v6.Items[x26.toNat]!) x38 hx39) ?_
     simp -implicitDefEqProofs (disch := first | omega | rfl) only [go_sem, simprocAttr]
     refine hK _ _ ?_; clear hK hQ K Q
     repeat refine awp_seq ?_
     refine rg (h := ?_)
     repeat refine awp_seq ?_
     refine awp_block ?_
     repeat refine awp_seq ?_
     refine rg (h := ?_)
     rcases ite_some h with ⟨hc40, h⟩ | ⟨hc40, h⟩
     · repeat refine awp_seq ?_
       refine awp_then (by simp -implicitDefEqProofs (disch := first | omega | rfl) only [go_sem, simprocAttr, eq_true hc40]) ?_
       repeat refine awp_seq ?_
       refine awp_reg fun K Q hK hQ => ?_
       simp -implicitDefEqProofs (disch := first | omega | rfl) only [go_sem, simprocAttr, zr26_19]
       have hh := bnd_some h; clear h; obtain ⟨x41, hx42, h⟩ := hh
       refine call_own hP ([]) (_ :: _ :: _ :: _ :: accO _ _ _ (accO _ _ _ (_ :: _ :: _ :: []))) (_ :: _ :: _ :: _ :: accO _ _ _ (accO _ _ _ (_ :: _ :: _ :: []))) ((9, b37, .cells (Item.cs x38)) :: (3, b1, .cells (Item.cs p7)) :: (6, b8, .cells (Item.cs v6)) :: []) (_ :: _ :: _ :: _ :: accO _ _ _ (accO _ _ _ (_ :: _ :: _ :: []))) rfl (List.Perm.trans perm_cc ((List.Perm.cons _ (List.Perm.trans perm_cc ((List.Perm.cons _ (List.Perm.trans perm_cc ((List.Perm.cons _ (List.Perm.trans perm_cc ((List.Perm.cons _ (List.Perm.trans perm_ca ((perm_ha (List.Perm.trans perm_ca (List.Perm.refl _))))))))))))))))) (fun q o => ∃ (bo43 : Option Nat), ∃ (bo45 : Option Nat), (bo43 = none → x41.2.2.2.1 = []) ∧ (bo45 = none → x41.2.2.2.2 = []) ∧ q = .val (.tup [.int .i64 x41.1, .bool x41.2.1]) ∧ o = (900, b900, .cells ([.mapv 901 b901, .mapv 902 b902, .mapv 903 b903, .int .i64 x41.2.2.1, accV 507 bo43 (List.length x41.2.2.2.1) 33, accV 508 bo45 (List.length x41.2.2.2.2) 1])) :: (901, b901, .map (List.map (fun p => (AV.str p.1, .agg (Item.cs p.2))) p1)) :: (902, b902, .map (List.map (fun p => (AV.str p.1, .agg (Span.cs p.2))) p2)) :: (903, b903, .map (List.map (fun p => (AV.str p.1, .agg (Item.cs p.2))) p3)) :: accO 507 bo43 (flt Item.av x41.2.2.2.1) (accO 508 bo45 (flt AV.str x41.2.2.2.2) [])) (hrec26 p1 p2 p3 x19 l20 l23 x38 b900 b901 b902 b903 bo21 hb22 bo24 hb25 x41 hx42) (by rintro q o ⟨bo43, bo45, hb44, hb46, rfl, rfl⟩; exact ⟨_, _, .val (.keep _), (.cells (.cons (.lmap ..) (.cons (.lmap ..) (.cons (.lmap ..) (.cons (.keep _) (.cons (frz_lacc (by first | rfl | (simp; done) | ((try simp only [List.length_set, List.length_take]); omega))) (.cons (frz_lacc (by first | rfl | (simp; done) | ((try simp only [List.length_set, List.length_take]); omega))) (.nil _))))))) (.map' (by first | rfl | simp) (.map' (by first | rfl | simp) (.map' (by first | rfl | simp) (.acc (FrzP.refl _ _) (.acc (FrzP.refl _ _) .nil)))))), bo43, bo45, hb44, hb46, rfl, rfl⟩) (by first | rfl | (simp only [accO_app, List.cons_append, List.nil_append]; rfl) | simp only [accO_app, List.cons_append, List.nil_append]) (.cells (.cons (.lmap ..) (.cons (.lmap ..) (.cons (.lmap ..) (.cons (.keep _) (.cons (frz_lacc (by first | rfl | (simp; done) | ((try simp only [List.length_set, List.length_take]); omega))) (.cons (frz_lacc (by first | rfl | (simp; done) | ((try simp only [List.length_set, List.length_take]); omega))) (.nil _))))))) (.map' (by first | rfl | simp) (.map' (by first | rfl | simp) (.map' (by first | rfl | simp) (.acc (FrzP.refl _ _) (.acc (FrzP.refl _ _) (.cell (.cell (.cell .nil))))))))) (.cons (.lptr ..) (.cons (.keep _) .nil)) ?_
       rintro q o ⟨bo43, bo45, hb44, hb46, rfl, rfl⟩
       simp -implicitDefEqProofs (disch := first | omega | rfl) only [go_sem, simprocAttr]
       refine hK _ _ ?_; clear hK hQ K Q
       repeat refine awp_seq ?_
       refine rg (h := ?_)
       rcases ite_some h with ⟨hc47, h⟩ | ⟨hc47, h⟩
       · repeat refine awp_seq ?_
         refine awp_else (by simp -implicitDefEqProofs (disch := first | omega | rfl) only [go_sem, simprocAttr, eq_true hc47]) ?_
         repeat refine awp_seq ?_
         refine awp_skip ?_
         repeat refine awp_seq ?_
         refine rg (h := ?_)
         obtain rfl := som_inj h
         try dsimp only at hm27
         refine ⟨⟨⟨m27, x41.2.2.1, x41.2.2.2.1, bo43, x41.2.2.2.2, bo45, IntKind.wrap .i64 (x26 + 1)⟩, hm27, hb44, hb46⟩, Nat.lt_succ_self _, ?_⟩
         refine ent_le' ([]) (_ :: _ :: _ :: _ :: accO _ _ _ (accO _ _ _ (_ :: _ :: _ :: []))) (_ :: _ :: _ :: _ :: accO _ _ _ (accO _ _ _ (_ :: _ :: _ :: []))) rfl ((List.Perm.cons _ ((List.Perm.cons _ ((List.Perm.cons _ ((List.Perm.cons _ ((perm_ha ((perm_ha (List.Perm.trans perm_cc ((List.Perm.cons _ (List.Perm.trans perm_cc (List.Perm.refl _))))))))))))))))) ?_ ?_
         · simp -implicitDefEqProofs (disch := first | omega | rfl) only [go_sem, simprocAttr, subF_cons, subF_nil]
           exact ⟨(.lptr ..), (.lptr ..), (.lptr ..), (.keep _), (.keep _), (.keep _)⟩
         · exact (.cells (.cons (.lmap ..) (.cons (.lmap ..) (.cons (.lmap ..) (.cons (.keep _) (.cons (frz_lacc (by first | rfl | (simp; done) | ((try simp only [List.length_set, List.length_take]); omega))) (.cons (frz_lacc (by first | rfl | (simp; done) | ((try simp only [List.length_set, List.length_take]); omega))) (.nil _))))))) (.map' (by first | rfl | simp) (.map' (by first | rfl | simp) (.map' (by first | rfl | simp) (.acc (FrzP.of_eq (by first | rfl | simp only [flt_app, flt_one, List.append_assoc])) (.acc (FrzP.of_eq (by first | rfl | simp only [flt_app, flt_one, List.append_assoc])) (.cell (.cell (.drop .nil)))))))))
       repeat refine awp_seq ?_
       refine awp_then (by simp -implicitDefEqProofs (disch := first | omega | rfl) only [go_sem, simprocAttr, eq_false hc47]) ?_
       repeat refine awp_seq ?_
       refine rg (h := ?_)
       obtain rfl := som_inj h
       try dsimp only at hm27
       subst hm27
       simp only [Ou.on_ret] at hO27
       obtain rfl := som_inj hO27
       repeat refine awp_seq ?_
       refine awp_le' (s' := [(4, .int .i64 x41.1), (5, .bool x41.2.1)]) (own' := (900, b900, .cells ([.mapv 901 b901, .mapv 902 b902, .mapv 903 b903, .int .i64 x41.2.2.1, accV 904 bo43 (List.length x41.2.2.2.1) 33, accV 905 bo45 (List.length x41.2.2.2.2) 1])) :: (901, b901, .map (List.map (fun p => (AV.str p.1, .agg (Item.cs p.2))) p1)) :: (902, b902, .map (List.map (fun p => (AV.str p.1, .agg (Span.cs p.2))) p2)) :: (903, b903, .map (List.map (fun p => (AV.str p.1, .agg (Item.cs p.2))) p3)) :: accO 904 bo43 (flt Item.av x41.2.2.2.1) (accO 905 bo45 (flt AV.str x41.2.2.2.2) [])) ([]) (_ :: _ :: _ :: _ :: accO _ _ _ (accO _ _ _ (_ :: _ :: _ :: []))) (_ :: _ :: _ :: _ :: accO _ _ _ (accO _ _ _ (_ :: _ :: _ :: []))) rfl (List.Perm.refl _) ?_ ?_ ?_
       · simp -implicitDefEqProofs (disch := first | omega | rfl) only [go_sem, simprocAttr, subF_cons, subF_nil]
         exact ⟨(.keep _), (.keep _)⟩
       · exact (.cells (.cons (.lmap ..) (.cons (.lmap ..) (.cons (.lmap ..) (.cons (.keep _) (.cons (frz_lacc (by first | rfl | (simp; done) | ((try simp only [List.length_set, List.length_take]); omega))) (.cons (frz_lacc (by first | rfl | (simp; done) | ((try simp only [List.length_set, List.length_take]); omega))) (.nil _))))))) (.map' (by first | rfl | simp) (.map' (by first | rfl | simp) (.map' (by first | rfl | simp) (.acc (FrzP.refl _ _) (.acc (FrzP.refl _ _) (.drop (.drop (.drop .nil)))))))))
       refine awp_ret ?_
       repeat' (first | refine then_ret ?_ | refine blk_ret ?_)
       refine ret_q ?_
       simp -implicitDefEqProofs (disch := first | omega | rfl) only [go_sem, simprocAttr]
       exact leaves_own (G := o26 p1 p2 p3 p4 p5 p6 p7 b900 b901 b902 b903 o904 o905 (x41.1, x41.2.1, x41.2.2.1, x41.2.2.2.1, x41.2.2.2.2)) ⟨bo43, bo45, hb44, hb46, rfl, rfl⟩
     repeat refine awp_seq ?_
     refine awp_else (by simp -implicitDefEqProofs (disch := first | omega | rfl) only [go_sem, simprocAttr, eq_false hc40]) ?_
     repeat refine awp_seq ?_
     refine awp_reg fun K Q hK hQ => ?_
     simp -implicitDefEqProofs (disch := first | omega | rfl) only [go_sem, simprocAttr, zr26_20]
     have hh := bnd_some h; clear h; obtain ⟨x48, hx49, h⟩ := hh
     refine call_pure hP (c35 N x38.Kind x48 hx49) ?_
     simp -implicitDefEqProofs (disch := first | omega | rfl) only [go_sem, simprocAttr]
     refine hK _ _ ?_; clear hK hQ K Q
     rcases cnd_some h with ⟨hc50, h⟩ | ⟨hc50, h⟩
     · repeat refine awp_seq ?_
       refine awp_then (by simp -implicitDefEqProofs (disch := first | omega | rfl) only [go_sem, simprocAttr, hc50]) ?_
       repeat refine awp_seq ?_
       refine awp_reg fun K Q hK hQ => ?_
       simp -implicitDefEqProofs (disch := first | omega | rfl) only [go_sem, simprocAttr, zr26_21]
       have hh := bnd_some h; clear h; obtain ⟨x51, hx52, h⟩ := hh
       refine call_own hP ([]) (_ :: _ :: _ :: _ :: accO _ _ _ (accO _ _ _ (_ :: _ :: _ :: []))) (_ :: _ :: _ :: _ :: accO _ _ _ (accO _ _ _ (_ :: _ :: _ :: []))) ((9, b37, .cells (Item.cs x38)) :: (3, b1, .cells (Item.cs p7)) :: (6, b8, .cells (Item.cs v6)) :: []) (_ :: _ :: _ :: _ :: accO _ _ _ (accO _ _ _ (_ :: _ :: _ :: []))) rfl (List.Perm.trans perm_cc ((List.Perm.cons _ (List.Perm.trans perm_cc ((List.Perm.cons _ (List.Perm.trans perm_cc ((List.Perm.cons _ (List.Perm.trans perm_cc ((List.Perm.cons _ (List.Perm.trans perm_ca ((perm_ha (List.Perm.trans perm_ca (List.Perm.refl _))))))))))))))))) (fun q o => ∃ (bo53 : Option Nat), ∃ (bo55 : Option Nat), (bo53 = none → x51.2.2.2.1 = []) ∧ (bo55 = none → x51.2.2.2.2 = []) ∧ q = .val (.tup [.int .i64 x51.1, .bool x51.2.1]) ∧ o = (900, b900, .cells ([.mapv 901 b901, .mapv 902 b902, .mapv 903 b903, .int .i64 x51.2.2.1, accV 509 bo53 (List.length x51.2.2.2.1) 33, accV 510 bo55 (List.length x51.2.2.2.2) 1])) :: (901, b901, .map (List.map (fun p => (AV.str p.1, .agg (Item.cs p.2))) p1)) :: (902, b902, .map (List.map (fun p => (AV.str p.1, .agg (Span.cs p.2))) p2)) :: (903, b903, .map (List.map (fun p => (AV.str p.1, .agg (Item.cs p.2))) p3)) :: accO 509 bo53 (flt Item.av x51.2.2.2.1) (accO 510 bo55 (flt AV.str x51.2.2.2.2) [])) (c27 N p1 p2 p3 x19 l20 l23 x38 24 b900 b901 b902 b903 bo21 hb22 bo24 hb25 x51 hx52) (by rintro q o ⟨bo53, bo55, hb54, hb56, rfl, rfl⟩; exact ⟨_, _, .val (.keep _), (.cells (.cons (.lmap ..) (.cons (.lmap ..) (.cons (.lmap ..) (.cons (.keep _) (.cons (frz_lacc (by first | rfl | (simp; done) | ((try simp only [List.length_set, List.length_take]); omega))) (.cons (frz_lacc (by first | rfl | (simp; done) | ((try simp only [List.length_set, List.length_take]); omega))) (.nil _))))))) (.map' (by first | rfl | simp) (.map' (by first | rfl | simp) (.map' (by first | rfl | simp) (.acc (FrzP.refl _ _) (.acc (FrzP.refl _ _) .nil)))))), bo53, bo55, hb54, hb56, rfl, rfl⟩) (by first | rfl | (simp only [accO_app, List.cons_append, List.nil_append]; rfl) | simp only [accO_app, List.cons_append, List.nil_append]) (.cells (.cons (.lmap ..) (.cons (.lmap ..) (.cons (.lmap ..) (.cons (.keep _) (.cons (frz_lacc (by first | rfl | (simp; done) | ((try simp only [List.length_set, List.length_take]); omega))) (.cons (frz_lacc (by first | rfl | (simp; done) | ((try simp only [List.length_set, List.length_take]); omega))) (.nil _))))))) (.map' (by first | rfl | simp) (.map' (by first | rfl | simp) (.map' (by first | rfl | simp) (.acc (FrzP.refl _ _) (.acc (FrzP.refl _ _) (.cell (.cell (.cell .nil))))))))) (.cons (.lptr ..) (.cons (.keep _) (.cons (.keep _) .nil))) ?_
       rintro q o ⟨bo53, bo55, hb54, hb56, rfl, rfl⟩
       simp -implicitDefEqProofs (disch := first | omega | rfl) only [go_sem, simprocAttr]
       refine hK _ _ ?_; clear hK hQ K Q
       repeat refine awp_seq ?_
       refine rg (h := ?_)
       rcases ite_some h with ⟨hc57, h⟩ | ⟨hc57, h⟩
       · repeat refine awp_seq ?_
         refine awp_else (by simp -implicitDefEqProofs (disch := first | omega | rfl) only [go_sem, simprocAttr, eq_true hc57]) ?_
         repeat refine awp_seq ?_
         refine awp_skip ?_
         repeat refine awp_seq ?_
         refine rg (h := ?_)
         obtain rfl := som_inj h
         try dsimp only at hm27
         refine ⟨⟨⟨m27, x51.2.2.1, x51.2.2.2.1, bo53, x51.2.2.2.2, bo55, IntKind.wrap .i64 (x26 + 1)⟩, hm27, hb54, hb56⟩, Nat.lt_succ_self _, ?_⟩
         refine ent_le' ([]) (_ :: _ :: _ :: _ :: accO _ _ _ (accO _ _ _ (_ :: _ :: _ :: []))) (_ :: _ :: _ :: _ :: accO _ _ _ (accO _ _ _ (_ :: _ :: _ :: []))) rfl ((List.Perm.cons _ ((List.Perm.cons _ ((List.Perm.cons _ ((List.Perm.cons _ ((perm_ha ((perm_ha (List.Perm.trans perm_cc ((List.Perm.cons _ (List.Perm.trans perm_cc (List.Perm.refl _))))))))))))))))) ?_ ?_
         · simp -implicitDefEqProofs (disch := first | omega | rfl) only [go_sem, simprocAttr, subF_cons, subF_nil]
           exact ⟨(.lptr ..), (.lptr ..), (.lptr ..), (.keep _), (.keep _), (.keep _)⟩
         · exact (.cells (.cons (.lmap ..) (.cons (.lmap ..) (.cons (.lmap ..) (.cons (.keep _) (.cons (frz_lacc (by first | rfl | (simp; done) | ((try simp only [List.length_set, List.length_take]); omega))) (.cons (frz_lacc (by first | rfl | (simp; done) | ((try simp only [List.length_set, List.length_take]); omega))) (.nil _))))))) (.map' (by first | rfl | simp) (.map' (by first | rfl | simp) (.map' (by first | rfl | simp) (.acc (FrzP.of_eq (by first | rfl | simp only [flt_app, flt_one, List.append_assoc])) (.acc (FrzP.of_eq (by first | rfl | simp only [flt_app, flt_one, List.append_assoc])) (.cell (.cell (.drop .nil)))))))))
       repeat refine awp_seq ?_
       refine awp_then (by simp -implicitDefEqProofs (disch := first | omega | rfl) only [go_sem, simprocAttr, eq_false hc57]) ?_
       repeat refine awp_seq ?_
       refine rg (h := ?_)
       obtain rfl := som_inj h
       try dsimp only at hm27
       subst hm27
       simp only [Ou.on_ret] at hO27
       obtain rfl := som_inj hO27
       repeat refine awp_seq ?_
       refine awp_le' (s' := [(4, .int .i64 x51.1), (5, .bool x51.2.1)]) (own' := (900, b900, .cells ([.mapv 901 b901, .mapv 902 b902, .mapv 903 b903, .int .i64 x51.2.2.1, accV 904 bo53 (List.length x51.2.2.2.1) 33, accV 905 bo55 (List.length x51.2.2.2.2) 1])) :: (901, b901, .map (List.map (fun p => (AV.str p.1, .agg (Item.cs p.2))) p1)) :: (902, b902, .map (List.map (fun p => (AV.str p.1, .agg (Span.cs p.2))) p2)) :: (903, b903, .map (List.map (fun p => (AV.str p.1, .agg (Item.cs p.2))) p3)) :: accO 904 bo53 (flt Item.av x51.2.2.2.1) (accO 905 bo55 (flt AV.str x51.2.2.2.2) [])) ([]) (_ :: _ :: _ :: _ :: accO _ _ _ (accO _ _ _ (_ :: _ :: _ :: []))) (_ :: _ :: _ :: _ :: accO _ _ _ (accO _ _ _ (_ :: _ :: _ :: []))) rfl (List.Perm.refl _) ?_ ?_ ?_
       · simp -implicitDefEqProofs (disch := first | omega | rfl) only [go_sem, simprocAttr, subF_cons, subF_nil]
         exact ⟨(.keep _), (.keep _)⟩
       · exact (.cells (.cons (.lmap ..) (.cons (.lmap ..) (.cons (.lmap ..) (.cons (.keep _) (.cons (frz_lacc (by first | rfl | (simp; done) | ((try simp only [List.length_set, List.length_take]); omega))) (.cons (frz_lacc (by first | rfl | (simp; done) | ((try simp only [List.length_set, List.length_take]); omega))) (.nil _))))))) (.map' (by first | rfl | simp) (.map' (by first | rfl | simp) (.map' (by first | rfl | simp) (.acc (FrzP.refl _ _) (.acc (FrzP.refl _ _) (.drop (.drop (.drop .nil)))))))))
       refine awp_ret ?_
       repeat' (first | refine then_ret ?_ | refine blk_ret ?_)
       refine ret_q ?_
       simp -implicitDefEqProofs (disch := first | omega | rfl) only [go_sem, simprocAttr]
       exact leaves_own (G := o26 p1 p2 p3 p4 p5 p6 p7 b900 b901 b902 b903 o904 o905 (x51.1, x51.2.1, x51.2.2.1, x51.2.2.2.1, x51.2.2.2.2)) ⟨bo53, bo55, hb54, hb56, rfl, rfl⟩
     repeat refine awp_seq ?_
     refine awp_else (by simp -implicitDefEqProofs (disch := first | omega | rfl) only [go_sem, simprocAttr, hc50]) ?_
     repeat refine awp_seq ?_
     refine awp_skip ?_
     repeat refine awp_seq ?_
     refine rg (h := ?_)
     repeat refine awp_seq ?_
     refine awp_then (by rfl) ?_
     repeat refine awp_seq ?_
     refine rg (h := ?_)
     obtain rfl := som_inj h
     try dsimp only at hm27
     subst hm27
     simp only [Ou.on_ret] at hO27
     obtain rfl := som_inj hO27
     repeat refine awp_seq ?_
     refine awp_le' (s' := [(4, .int .i64 1), (5, .bool false)]) (own' := (900, b900, .cells ([.mapv 901 b901, .mapv 902 b902, .mapv 903 b903, .int .i64 x19, accV 904 bo21 (List.length l20) 33, accV 905 bo24 (List.length l23) 1])) :: (901, b901, .map (List.map (fun p => (AV.str p.1, .agg (Item.cs p.2))) p1)) :: (902, b902, .map (List.map (fun p => (AV.str p.1, .agg (Span.cs p.2))) p2)) :: (903, b903, .map (List.map (fun p => (AV.str p.1, .agg (Item.cs p.2))) p3)) :: accO 904 bo21 (flt Item.av l20) (accO 905 bo24 (flt AV.str l23) [])) ([]) (_ :: _ :: _ :: _ :: accO _ _ _ (accO _ _ _ (_ :: _ :: _ :: []))) (_ :: _ :: _ :: _ :: accO _ _ _ (accO _ _ _ (_ :: _ :: _ :: []))) rfl (List.Perm.trans perm_cc ((List.Perm.cons _ (List.Perm.trans perm_cc ((List.Perm.cons _ (List.Perm.trans perm_cc ((List.Perm.cons _ (List.Perm.trans perm_cc ((List.Perm.cons _ (List.Perm.trans perm_ca ((perm_ha (List.Perm.trans perm_ca (List.Perm.refl _))))))))))))))))) ?_ ?_ ?_
     · simp -implicitDefEqProofs (disch := first | omega | rfl) only [go_sem, simprocAttr, subF_cons, subF_nil]
       exact ⟨(.keep _), (.keep _)⟩
     · exact (.cells (.cons (.lmap ..) (.cons (.lmap ..) (.cons (.lmap ..) (.cons (.keep _) (.cons (frz_lacc (by first | rfl | (simp; done) | ((try simp only [List.length_set, List.length_take]); omega))) (.cons (frz_lacc (by first | rfl | (simp; done) | ((try simp only [List.length_set, List.length_take]); omega))) (.nil _))))))) (.map' (by first | rfl | simp) (.map' (by first | rfl | simp) (.map' (by first | rfl | simp) (.acc (FrzP.refl _ _) (.acc (FrzP.refl _ _) (.drop (.drop (.drop .nil)))))))))
     refine awp_ret ?_
     repeat' (first | refine then_ret ?_ | refine blk_ret ?_)
     refine ret_q ?_
     simp -implicitDefEqProofs (disch := first | omega | rfl) only [go_sem, simprocAttr]
     exact leaves_own (G := o26 p1 p2 p3 p4 p5 p6 p7 b900 b901 b902 b903 o904 o905 (1, false, x19, l20, l23)) ⟨bo21, bo24, hb22, hb25, rfl, rfl⟩
   repeat refine awp_seq ?_
   refine awp_else (by simp -implicitDefEqProofs (disch := first | omega | rfl) only [go_sem, simprocAttr, eq_false hc35]) ?_
   repeat refine awp_seq ?_
   refine awp_exit ?_
   repeat' (first | refine then_exit ?_ | refine exit_here ?_ | refine exit_on rfl ?_)
   obtain rfl := som_inj h
   try dsimp only at hm27
   subst hm27
   simp only [Ou.on_brk] at hO27
   repeat refine awp_seq ?_
   refine awp_regD' (_ :: _ :: _ :: _ :: accO _ _ _ (accO _ _ _ (_ :: _ :: []))) ([]) (_ :: _ :: _ :: _ :: accO _ _ _ (accO _ _ _ (_ :: _ :: []))) (by rw [hP]; exact mixed) (by first | rfl | (simp only [accO_app, List.cons_append, List.nil_append]; rfl) | simp only [accO_app, List.cons_append, List.nil_append]) (List.Perm.refl _) fun K hK => ?_
   obtain ⟨hg58, hO27⟩ := grd_some hO27
   obtain ⟨b59, hs60⟩ := acc_some (acc_len hb25) (show 0 < List.length l23 by first | omega | simp)
   subst hs60
   obtain ⟨⟨hg61, hg62⟩, hO27⟩ := grd_some hO27
   simp -implicitDefEqProofs (disch := first | omega | rfl) only [go_sem, simprocAttr, zr26_25, lenA_acc (acc_len hb25), accV_some, accO_some, eq_true hg58, eq_true hg61, eq_true hg62]
   refine hK _ _ ?_; clear hK K
   repeat refine awp_seq ?_
   refine rg (h := ?_)
   obtain rfl := som_inj hO27
   repeat refine awp_seq ?_
   refine awp_le' (s' := [(4, .int .i64 0), (5, .bool false)]) (own' := (900, b900, .cells ([.mapv 901 b901, .mapv 902 b902, .mapv 903 b903, .int .i64 x19, accV 904 bo21 (List.length l20) 33, accV 905 (some b59) (List.length (List.take (IntKind.wrap .i64 ((List.length l23 : Int) - 1)).toNat l23)) 1])) :: (901, b901, .map (List.map (fun p => (AV.str p.1, .agg (Item.cs p.2))) p1)) :: (902, b902, .map (List.map (fun p => (AV.str p.1, .agg (Span.cs p.2))) p2)) :: (903, b903, .map (List.map (fun p => (AV.str p.1, .agg (Item.cs p.2))) p3)) :: accO 904 bo21 (flt Item.av l20) (accO 905 (some b59) (flt AV.str (List.take (IntKind.wrap .i64 ((List.length l23 : Int) - 1)).toNat l23)) [])) ([]) (_ :: _ :: _ :: _ :: accO _ _ _ (_ :: _ :: _ :: [])) (_ :: _ :: _ :: _ :: accO _ _ _ (_ :: _ :: _ :: [])) rfl (List.Perm.refl _) ?_ ?_ ?_
   · simp -implicitDefEqProofs (disch := first | omega | rfl) only [go_sem, simprocAttr, subF_cons, subF_nil]
     exact ⟨(.keep _), (.keep _)⟩
   · exact (.cells (.cons (.lmap ..) (.cons (.lmap ..) (.cons (.lmap ..) (.cons (.keep _) (.cons (frz_lacc (by first | rfl | (simp; done) | ((try simp only [List.length_set, List.length_take]); omega))) (.cons (frz_lrow (by first | rfl | (simp; done) | ((try simp only [List.length_set, List.length_take]); omega))) (.nil _))))))) (.map' (by first | rfl | simp) (.map' (by first | rfl | simp) (.map' (by first | rfl | simp) (.acc (FrzP.refl _ _) (.cells frzP_take (.drop (.drop .nil))))))))
   refine awp_ret ?_
   repeat' (first | refine then_ret ?_ | refine blk_ret ?_)
   refine ret_q ?_
   simp -implicitDefEqProofs (disch := first | omega | rfl) only [go_sem, simprocAttr]
   exact leaves_own (G := o26 p1 p2 p3 p4 p5 p6 p7 b900 b901 b902 b903 o904 o905 ((0, false, x19, l20, List.take (IntKind.wrap .i64 ((List.length l23 : Int) - 1)).toNat l23))) ⟨bo21, (some b59), hb22, (fun h => by cases h), rfl, rfl⟩
 repeat refine awp_seq ?_
 refine awp_then (by simp -implicitDefEqProofs (disch := first | omega | rfl) only [go_sem, simprocAttr, eq_false hc9]) ?_
 repeat refine awp_seq ?_
 refine rg (h := ?_)
 obtain rfl := som_inj h
 repeat refine awp_seq ?_
 refine awp_le' (s' := [(4, .int .i64 1), (5, .bool false)]) (own' := (900, b900, .cells ([.mapv 901 b901, .mapv 902 b902, .mapv 903 b903, .int .i64 x2.2, accV 904 o904 (List.length p5) 33, accV 905 o905 (List.length p6) 1])) :: (901, b901, .map (List.map (fun p => (AV.str p.1, .agg (Item.cs p.2))) p1)) :: (902, b902, .map (List.map (fun p => (AV.str p.1, .agg (Span.cs p.2))) p2)) :: (903, b903, .map (List.map (fun p => (AV.str p.1, .agg (Item.cs p.2))) p3)) :: accO 904 o904 (flt Item.av p5) (accO 905 o905 (flt AV.str p6) [])) ([]) (_ :: _ :: _ :: _ :: accO _ _ _ (accO _ _ _ (_ :: _ :: []))) (_ :: _ :: _ :: _ :: accO _ _ _ (accO _ _ _ (_ :: _ :: []))) rfl (List.Perm.refl _) ?_ ?_ ?_
 · simp -implicitDefEqProofs (disch := first | omega | rfl) only [go_sem, simprocAttr, subF_cons, subF_nil]
   exact ⟨(.keep _), (.keep _)⟩
 · exact (.cells (.cons (.lmap ..) (.cons (.lmap ..) (.cons (.lmap ..) (.cons (.keep _) (.cons (frz_lacc (by first | rfl | (simp; done) | ((try simp only [List.length_set, List.length_take]); omega))) (.cons (frz_lacc (by first | rfl | (simp; done) | ((try simp only [List.length_set, List.length_take]); omega))) (.nil _))))))) (.map' (by first | rfl | simp) (.map' (by first | rfl | simp) (.map' (by first | rfl | simp) (.acc (FrzP.refl _ _) (.acc (FrzP.refl _ _) (.drop (.drop .nil))))))))
 refine awp_ret ?_
 repeat' (first | refine then_ret ?_ | refine blk_ret ?_)
 refine ret_q ?_
 simp -implicitDefEqProofs (disch := first | omega | rfl) only [go_sem, simprocAttr]
 exact leaves_own (G := o26 p1 p2 p3 p4 p5 p6 p7 b900 b901 b902 b903 o904 o905 (1, false, x2.2, p5, p6)) ⟨o904, o905, h904, h905, rfl, rfl⟩
theorem cs_26 : ∀ N : Nat, (∀ (p1 : List (List UInt8 × Item)) (p2 : List (List UInt8 × Span)) (p3 : List (List UInt8 × Item)) (p4 : Int) (p5 : List Item) (p6 : List (List UInt8)) (p7 : Item) (b900 : Nat) (b901 : Nat) (b902 : Nat) (b903 : Nat) (o904 : Option Nat) (h904 : o904 = none → p5 = []) (o905 : Option Nat) (h905 : o905 = none → p6 = []) (r : Int × Bool × Int × (List Item) × (List (List UInt8))), s26 N p1 p2 p3 p4 p5 p6 p7 = some r → FnC Try.prog 26 [.ptr 900 b900 0, .agg (Item.cs p7)] ((900, b900, .cells ([.mapv 901 b901, .mapv 902 b902, .mapv 903 b903, .int .i64 p4, accV 904 o904 (List.length p5) 33, accV 905 o905 (List.length p6) 1])) :: (901, b901, .map (List.map (fun p => (AV.str p.1, .agg (Item.cs p.2))) p1)) :: (902, b902, .map (List.map (fun p => (AV.str p.1, .agg (Span.cs p.2))) p2)) :: (903, b903, .map (List.map (fun p => (AV.str p.1, .agg (Item.cs p.2))) p3)) :: accO 904 o904 (flt Item.av p5) (accO 905 o905 (flt AV.str p6) [])) (o26 p1 p2 p3 p4 p5 p6 p7 b900 b901 b902 b903 o904 o905 r)) := by
  intro N
  induction N with
  | zero => exact fun _ _ _ _ _ _ _ _ _ _ _ _ _ _ _ r h => by cases h
  | succ N ih => exact fun p1 p2 p3 p4 p5 p6 p7 b900 b901 b902 b903 o904 h904 o905 h905 r h => c26_body (s26 N) ih N p1 p2 p3 p4 p5 p6 p7 b900 b901 b902 b903 o904 h904 o905 h905 r h
theorem c26 (N : Nat) (p1 : List (List UInt8 × Item)) (p2 : List (List UInt8 × Span)) (p3 : List (List UInt8 × Item)) (p4 : Int) (p5 : List Item) (p6 : List (List UInt8)) (p7 : Item) (b900 : Nat) (b901 : Nat) (b902 : Nat) (b903 : Nat) (o904 : Option Nat) (h904 : o904 = none → p5 = []) (o905 : Option Nat) (h905 : o905 = none → p6 = []) (r : Int × Bool × Int × (List Item) × (List (List UInt8))) (h : s26 N p1 p2 p3 p4 p5 p6 p7 = some r) : FnC Try.prog 26 [.ptr 900 b900 0, .agg (Item.cs p7)] ((900, b900, .cells ([.mapv 901 b901, .mapv 902 b902, .mapv 903 b903, .int .i64 p4, accV 904 o904 (List.length p5) 33, accV 905 o905 (List.length p6) 1])) :: (901, b901, .map (List.map (fun p => (AV.str p.1, .agg (Item.cs p.2))) p1)) :: (902, b902, .map (List.map (fun p => (AV.str p.1, .agg (Span.cs p.2))) p2)) :: (903, b903, .map (List.map (fun p => (AV.str p.1, .agg (Item.cs p.2))) p3)) :: accO 904 o904 (flt Item.av p5) (accO 905 o905 (flt AV.str p6) [])) (o26 p1 p2 p3 p4 p5 p6 p7 b900 b901 b902 b903 o904 o905 r) := (cs_26 N) p1 p2 p3 p4 p5 p6 p7 b900 b901 b902 b903 o904 h904 o905 h905 r h
end Go.Proofs.Inc
