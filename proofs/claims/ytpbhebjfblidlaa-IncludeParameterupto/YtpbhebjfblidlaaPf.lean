/- For every argument of bulk at most 1048576, estoppellaw09.IncludeParameter returns true and leaves its arguments as they were. (Part 6 of what its proof rests on.) -/
import Derived.Test.YtpbhebjfblidlaaPe
set_option linter.unusedSimpArgs false
set_option linter.unusedVariables false
set_option linter.deprecated false
namespace Go.Proofs.Inc
open Go.Aw
set_option maxRecDepth 100000
attribute [-go_sem] nisA_sl appA_nil
def zr22_0 : List AO := [⟨some 4, none, .mov (.c (.int .i64 0))⟩]
def zr22_1 : List AO := [⟨some 5, none, .mov (.c (.int .i64 0))⟩]
def zr22_2 : List AO := [⟨some 6, none, .mov (.c (.int .i64 0))⟩]
def zr22_3 : List AO := [⟨some 7, none, .mov (.t 6)⟩,
  ⟨some 8, none, .mov (.t 0)⟩,
  ⟨some 9, none, .len (.t 8)⟩,
  ⟨some 10, none, .bin .lss (.t 7) (.t 9)⟩,
  ⟨some 11, none, .mov (.t 10)⟩,
  ⟨some 12, some (11, true), .mov (.t 5)⟩,
  ⟨some 13, some (11, true), .mov (.t 1)⟩,
  ⟨some 14, some (11, true), .bin .leq (.t 12) (.t 13)⟩,
  ⟨some 15, none, .pick (.t 11) (.t 14) (.c (.bool false))⟩]
def zc22_0 : AC := .cond (.t 15) .skip (.exit 0)
def zr22_4 : List AO := [⟨some 18, none, .mov (.t 5)⟩,
  ⟨some 19, none, .bin .add (.t 18) (.c (.int .i64 1))⟩,
  ⟨some 20, none, .mov (.t 0)⟩,
  ⟨some 21, none, .mov (.t 6)⟩,
  ⟨some 22, none, .iadr 33 (.t 20) (.t 21)⟩,
  ⟨some 23, none, .fadr 32 (.t 22)⟩,
  ⟨some 24, none, .load false 1 (.t 23)⟩,
  ⟨some 25, none, .mov (.t 1)⟩,
  ⟨some 26, none, .mov (.t 5)⟩,
  ⟨some 27, none, .bin .sub (.t 25) (.t 26)⟩,
  ⟨some 28, none, .callF 22 [(.t 24), (.t 27)]⟩,
  ⟨some 29, none, .bin .add (.t 19) (.t 28)⟩,
  ⟨some 5, none, .mov (.t 29)⟩]
def zc22_1 : AC := .reg zr22_4
def zr22_5 : List AO := [⟨some 16, none, .mov (.t 6)⟩,
  ⟨some 17, none, .bin .add (.t 16) (.c (.int .i64 1))⟩,
  ⟨some 6, none, .mov (.t 17)⟩]
def zc22_2 : AC := .reg zr22_5
def zc22_3 : AC := .seq (.block 1 zc22_1) zc22_2
def zc22_4 : AC := .seq (.seq (.reg zr22_3) zc22_0) zc22_3
def zc22_5 : AC := .loop zc22_4
def zc22_6 : AC := .block 0 zc22_5
def zr22_6 : List AO := [⟨some 30, none, .mov (.t 5)⟩,
  ⟨some 4, none, .mov (.t 30)⟩]
def zc22_7 : AC := .seq (.reg zr22_6) .ret
def zc22_8 : AC := .seq (.seq (.reg zr22_2) zc22_6) zc22_7
def zc22_9 : AC := .seq (.reg zr22_1) zc22_8
def zc22_10 : AC := .seq (.reg zr22_0) zc22_9
def zc22 : AC := zc22_10
theorem ok22 : Try.f22.body.bind (compCode Try.prog 31) = some zc22 := by kernel_rfl
theorem nt22 : Try.f22.ntmps = 31 := by kernel_rfl
theorem res22 : compRes Try.prog Try.f22.results.toList = some [.tmp 4] := by kernel_rfl
attribute [go_sem] zr22_0 zr22_1 zr22_2 zr22_3 zr22_5 zr22_6
def s22_b1 (N : Nat) (p1 : List Item) (p2 : Int) (rec22 : (List Item) → Int → Option Int) (x1 : Int) (x2 : Int) : Option (((Int × Int) ⊕ (Int))) :=
  if x2 < (List.length p1 : Int) then
    if x1 ≤ p2 then
      grd (0 ≤ x2) <|
      (rec22 ((p1[x2.toNat]!).Items) (IntKind.wrap .i64 (p2 - x1))).bind fun x8 =>
      some (.inl (IntKind.wrap .i64 ((IntKind.wrap .i64 (x1 + 1)) + x8), IntKind.wrap .i64 (x2 + 1)))
    else
      some (.inr x1)
  else
    some (.inr x1)
def s22_body (rec22 : (List Item) → Int → Option Int) (N : Nat) (p1 : List Item) (p2 : Int) : Option Int :=
  (iter (fun p => s22_b1 N p1 p2 rec22 p.1 p.2) N (0, 0)).bind fun a3 =>
  some a3
def s22 : Nat → (List Item) → Int → Option Int
  | 0, _, _ => none
  | N + 1, p1, p2 => s22_body (s22 N) N p1 p2
set_option maxHeartbeats 4000000 in
theorem c22_body (rec22 : (List Item) → Int → Option Int) (hrec22 : ∀ (p1 : List Item) (p2 : Int) (r : Int), rec22 p1 p2 = some r → PureC Try.prog 22 [.sl (List.map Item.av p1), .int .i64 p2] (.int .i64 r)) (N : Nat) (p1 : List Item) (p2 : Int) (r : Int) (h : s22_body rec22 N p1 p2 = some r) : PureC Try.prog 22 [.sl (List.map Item.av p1), .int .i64 p2] (.int .i64 r) := by
 refine fn_intro' 31 Try.func22 nt22 ok22 res22 (by simp) fun X hP hn hd hr => ?_
 unfold s22_body at h
 repeat refine awp_seq ?_
 refine rg (h := ?_)
 repeat refine awp_seq ?_
 refine rg (h := ?_)
 repeat refine awp_seq ?_
 refine rg (h := ?_)
 repeat refine awp_seq ?_
 refine awp_block ?_
 obtain ⟨o3, ho3, hO3⟩ := bnd_some h
 repeat refine awp_seq ?_
 refine awp_loop (ι := {p : Nat × Int × Int // iter (fun p => s22_b1 N p1 p2 rec22 p.1 p.2) p.1 (p.2.1, p.2.2) = some o3}) (fun p => [(0, .sl (List.map Item.av p1)), (1, .int .i64 p2), (5, .int .i64 p.1.2.1), (6, .int .i64 p.1.2.2)]) (fun p => []) (fun p => p.1.1) ⟨⟨N, 0, 0⟩, ho3⟩ ?_ ?_
 · refine ent_le' ([]) ([]) ([]) rfl (List.Perm.refl _) ?_ ?_
   · simp -implicitDefEqProofs (disch := first | omega | rfl) only [go_sem, simprocAttr, subF_cons, subF_nil]
     exact ⟨(.keep _), (.keep _), (.keep _), (.keep _)⟩
   · exact .nil
 rintro ⟨⟨n3, x1, x2⟩, hi3⟩
 obtain ⟨m3, q3, rfl, h, hm3⟩ := iter_some hi3
 try dsimp only at h
 try dsimp only
 unfold s22_b1 at h
 repeat refine awp_seq ?_
 rcases ite_some h with ⟨hc5, h⟩ | ⟨hc5, h⟩
 · refine rgf (eq_true hc5) ?_
   rcases ite_some h with ⟨hc6, h⟩ | ⟨hc6, h⟩
   · repeat refine awp_seq ?_
     refine awp_then (by simp -implicitDefEqProofs (disch := first | omega | rfl) only [go_sem, simprocAttr, eq_true hc6]) ?_
     repeat refine awp_seq ?_
     refine awp_skip ?_
     repeat refine awp_seq ?_
     refine awp_block ?_
     repeat refine awp_seq ?_
     refine awp_reg fun K Q hK hQ => ?_
     obtain ⟨hg7, h⟩ := grd_some h
     simp -implicitDefEqProofs (disch := first | omega | rfl) only [go_sem, simprocAttr, zr22_4, eq_true hc5, eq_true hg7]
     have hh := bnd_some h; clear h; obtain ⟨x8, hx9, h⟩ := hh
     refine call_pure hP (hrec22 ((p1[x2.toNat]!).Items) (IntKind.wrap .i64 (p2 - x1)) x8 hx9) ?_
     simp -implicitDefEqProofs (disch := first | omega | rfl) only [go_sem, simprocAttr]
     refine hK _ _ ?_; clear hK hQ K Q
     repeat refine awp_seq ?_
     refine rg (h := ?_)
     obtain rfl := som_inj h
     try dsimp only at hm3
     refine ⟨⟨⟨m3, IntKind.wrap .i64 ((IntKind.wrap .i64 (x1 + 1)) + x8), IntKind.wrap .i64 (x2 + 1)⟩, hm3⟩, Nat.lt_succ_self _, ?_⟩
     refine ent_le' ([]) ([]) ([]) rfl (List.Perm.refl _) ?_ ?_
     · simp -implicitDefEqProofs (disch := first | omega | rfl) only [go_sem, simprocAttr, subF_cons, subF_nil]
       exact ⟨(.keep _), (.keep _), (.keep _), (.keep _)⟩
     · exact .nil
   repeat refine awp_seq ?_
   refine awp_else (by simp -implicitDefEqProofs (disch := first | omega | rfl) only [go_sem, simprocAttr, eq_false hc6]) ?_
   repeat refine awp_seq ?_
   refine awp_exit ?_
   repeat' (first | refine then_exit ?_ | refine exit_here ?_ | refine exit_on rfl ?_)
   obtain rfl := som_inj h
   try dsimp only at hm3
   subst hm3
   try dsimp only at hO3
   repeat refine awp_seq ?_
   refine rg (h := ?_)
   obtain rfl := som_inj hO3
   repeat refine awp_seq ?_
   refine awp_ret ?_
   repeat first | refine then_ret ?_ | refine blk_ret ?_
   exact rtp
 refine rgf (eq_false hc5) ?_
 repeat refine awp_seq ?_
 refine awp_else (by rfl) ?_
 repeat refine awp_seq ?_
 refine awp_exit ?_
 repeat' (first | refine then_exit ?_ | refine exit_here ?_ | refine exit_on rfl ?_)
 obtain rfl := som_inj h
 try dsimp only at hm3
 subst hm3
 try dsimp only at hO3
 repeat refine awp_seq ?_
 refine rg (h := ?_)
 obtain rfl := som_inj hO3
 repeat refine awp_seq ?_
 refine awp_ret ?_
 repeat first | refine then_ret ?_ | refine blk_ret ?_
 exact rtp
theorem cs_22 : ∀ N : Nat, (∀ (p1 : List Item) (p2 : Int) (r : Int), s22 N p1 p2 = some r → PureC Try.prog 22 [.sl (List.map Item.av p1), .int .i64 p2] (.int .i64 r)) := by
  intro N
  induction N with
  | zero => exact fun _ _ r h => by cases h
  | succ N ih => exact fun p1 p2 r h => c22_body (s22 N) ih N p1 p2 r h
theorem c22 (N : Nat) (p1 : List Item) (p2 : Int) (r : Int) (h : s22 N p1 p2 = some r) : PureC Try.prog 22 [.sl (List.map Item.av p1), .int .i64 p2] (.int .i64 r) := (cs_22 N) p1 p2 r h
def zr23_0 : List AO := [⟨some 2, none, .mov (.c (.bool false))⟩]
def zr23_1 : List AO := [⟨some 3, none, .mov (.c (.int .i64 0))⟩]
def zr23_2 : List AO := [⟨some 5, none, .mov (.t 3)⟩,
  ⟨some 6, none, .mov (.t 0)⟩,
  ⟨some 7, none, .len (.t 6)⟩,
  ⟨some 8, none, .bin .lss (.t 5) (.t 7)⟩]
def zc23_0 : AC := .cond (.t 8) .skip (.exit 0)
def zr23_3 : List AO := [⟨some 11, none, .mov (.t 0)⟩,
  ⟨some 12, none, .mov (.t 3)⟩,
  ⟨some 13, none, .iadr 33 (.t 11) (.t 12)⟩,
  ⟨some 14, none, .load true 33 (.t 13)⟩,
  ⟨some 4, none, .alloc [.int .i64 0, .str [], .int .i64 0, .str [], .str [], .int .i64 0, .int .i64 0, .int .i64 0, .bool false, .str [], .int .i64 0, .bool false, .str [], .nil, .str [], .str [], .int .i64 0, .int .i64 0, .str [], .str [], .bool false, .str [], .str [], .bool false, .bool false, .bool false, .bool false, .bool false, .bool false, .bool false, .nil, .nil, .nil]⟩,
  ⟨none, none, .store 33 (.t 4) (.t 14)⟩]
def zr23_4 : List AO := [⟨some 15, none, .fadr 31 (.t 4)⟩,
  ⟨some 16, none, .load false 1 (.t 15)⟩,
  ⟨some 17, none, .len (.t 16)⟩,
  ⟨some 18, none, .bin .gtr (.t 17) (.c (.int .i64 30))⟩,
  ⟨some 19, none, .mov (.t 18)⟩,
  ⟨some 20, some (19, false), .fadr 13 (.t 4)⟩,
  ⟨some 21, some (19, false), .load false 1 (.t 20)⟩,
  ⟨some 22, some (19, false), .len (.t 21)⟩,
  ⟨some 23, some (19, false), .bin .gtr (.t 22) (.c (.int .i64 30))⟩,
  ⟨some 24, none, .pick (.t 19) (.c (.bool true)) (.t 23)⟩,
  ⟨some 25, none, .mov (.t 24)⟩,
  ⟨some 26, some (25, false), .fadr 30 (.t 4)⟩,
  ⟨some 27, some (25, false), .load false 1 (.t 26)⟩,
  ⟨some 28, some (25, false), .len (.t 27)⟩,
  ⟨some 29, some (25, false), .bin .gtr (.t 28) (.c (.int .i64 30))⟩,
  ⟨some 30, none, .pick (.t 25) (.c (.bool true)) (.t 29)⟩,
  ⟨some 31, none, .mov (.t 30)⟩,
  ⟨some 32, some (31, false), .fadr 1 (.t 4)⟩,
  ⟨some 33, some (31, false), .load false 1 (.t 32)⟩,
  ⟨some 34, some (31, false), .lenS (.t 33)⟩,
  ⟨some 35, some (31, false), .bin .gtr (.t 34) (.c (.int .i64 100))⟩,
  ⟨some 36, none, .pick (.t 31) (.c (.bool true)) (.t 35)⟩,
  ⟨some 37, none, .mov (.t 36)⟩,
  ⟨some 38, some (37, false), .fadr 32 (.t 4)⟩,
  ⟨some 39, some (37, false), .load false 1 (.t 38)⟩,
  ⟨some 40, some (37, false), .callF 23 [(.t 39)]⟩,
  ⟨some 41, some (37, false), .un .not (.t 40)⟩,
  ⟨some 42, none, .pick (.t 37) (.c (.bool true)) (.t 41)⟩]
def zr23_5 : List AO := [⟨some 2, none, .mov (.c (.bool false))⟩]
def zc23_1 : AC := .seq (.reg zr23_5) .ret
def zc23_2 : AC := .cond (.t 42) zc23_1 .skip
def zc23_3 : AC := .seq (.reg zr23_4) zc23_2
def zc23_4 : AC := .seq (.reg zr23_3) zc23_3
def zr23_6 : List AO := [⟨some 9, none, .mov (.t 3)⟩,
  ⟨some 10, none, .bin .add (.t 9) (.c (.int .i64 1))⟩,
  ⟨some 3, none, .mov (.t 10)⟩]
def zc23_5 : AC := .reg zr23_6
def zc23_6 : AC := .seq (.block 1 zc23_4) zc23_5
def zc23_7 : AC := .seq (.seq (.reg zr23_2) zc23_0) zc23_6
def zc23_8 : AC := .loop zc23_7
def zc23_9 : AC := .block 0 zc23_8
def zr23_7 : List AO := [⟨some 2, none, .mov (.c (.bool true))⟩]
def zc23_10 : AC := .seq (.reg zr23_7) .ret
def zc23_11 : AC := .seq (.seq (.reg zr23_1) zc23_9) zc23_10
def zc23_12 : AC := .seq (.reg zr23_0) zc23_11
def zc23 : AC := zc23_12
theorem ok23 : Try.f23.body.bind (compCode Try.prog 43) = some zc23 := by kernel_rfl
theorem nt23 : Try.f23.ntmps = 43 := by kernel_rfl
theorem res23 : compRes Try.prog Try.f23.results.toList = some [.tmp 2] := by kernel_rfl
attribute [go_sem] zr23_0 zr23_1 zr23_2 zr23_5 zr23_6 zr23_7
def s23_b1 (N : Nat) (p1 : List Item) (rec23 : (List Item) → Option Bool) (x1 : Int) : Option (((Int) ⊕ (Ou (Unit) (Bool)))) :=
  if x1 < (List.length p1 : Int) then
    grd (0 ≤ x1) <|
    if 30 < (List.length ((p1[x1.toNat]!).Names) : Int) then
      some (.inr (.ret false))
    else
      if 30 < (List.length ((p1[x1.toNat]!).Conds) : Int) then
        some (.inr (.ret false))
      else
        if 30 < (List.length ((p1[x1.toNat]!).Dates) : Int) then
          some (.inr (.ret false))
        else
          if 100 < (List.length ((p1[x1.toNat]!).Name) : Int) then
            some (.inr (.ret false))
          else
            (rec23 ((p1[x1.toNat]!).Items)).bind fun x10 =>
            bif x10 then
              some (.inl (IntKind.wrap .i64 (x1 + 1)))
            else
              some (.inr (.ret false))
  else
    some (.inr (.brk ()))
def s23_body (rec23 : (List Item) → Option Bool) (N : Nat) (p1 : List Item) : Option Bool :=
  (iter (fun p => s23_b1 N p1 rec23 p) N 0).bind fun o2 => o2.on (fun a2 =>
    some true)
    (fun a2r => some a2r)
def s23 : Nat → (List Item) → Option Bool
  | 0, _ => none
  | N + 1, p1 => s23_body (s23 N) N p1
set_option maxHeartbeats 4000000 in
theorem c23_body (rec23 : (List Item) → Option Bool) (hrec23 : ∀ (p1 : List Item) (r : Bool), rec23 p1 = some r → PureC Try.prog 23 [.sl (List.map Item.av p1)] (.bool r)) (N : Nat) (p1 : List Item) (r : Bool) (h : s23_body rec23 N p1 = some r) : PureC Try.prog 23 [.sl (List.map Item.av p1)] (.bool r) := by
 refine fn_intro' 43 Try.func23 nt23 ok23 res23 (by simp) fun X hP hn hd hr => ?_
 unfold s23_body at h
 repeat refine awp_seq ?_
 refine rg (h := ?_)
 repeat refine awp_seq ?_
 refine rg (h := ?_)
 repeat refine awp_seq ?_
 refine awp_block ?_
 obtain ⟨o2, ho2, hO2⟩ := bnd_some h
 repeat refine awp_seq ?_
 refine awp_loop (ι := {p : Nat × Int // iter (fun p => s23_b1 N p1 rec23 p) p.1 p.2 = some o2}) (fun p => [(0, .sl (List.map Item.av p1)), (3, .int .i64 p.1.2)]) (fun p => []) (fun p => p.1.1) ⟨⟨N, 0⟩, ho2⟩ ?_ ?_
 · refine ent_le' ([]) ([]) ([]) rfl (List.Perm.refl _) ?_ ?_
   · simp -implicitDefEqProofs (disch := first | omega | rfl) only [go_sem, simprocAttr, subF_cons, subF_nil]
     exact ⟨(.keep _), (.keep _)⟩
   · exact .nil
 rintro ⟨⟨n2, x1⟩, hi2⟩
 obtain ⟨m2, q2, rfl, h, hm2⟩ := iter_some hi2
 try dsimp only at h
 try dsimp only
 unfold s23_b1 at h
 repeat refine awp_seq ?_
 refine rg (h := ?_)
 rcases ite_some h with ⟨hc3, h⟩ | ⟨hc3, h⟩
 · repeat refine awp_seq ?_
   refine awp_then (by simp -implicitDefEqProofs (disch := first | omega | rfl) only [go_sem, simprocAttr, eq_true hc3]) ?_
   repeat refine awp_seq ?_
   refine awp_skip ?_
   repeat refine awp_seq ?_
   refine awp_block ?_
   repeat refine awp_seq ?_
   refine awp_reg fun K Q hK hQ => ?_
   obtain ⟨hg4, h⟩ := grd_some h
   simp -implicitDefEqProofs (disch := first | omega | rfl) only [go_sem, simprocAttr, zr23_3, eq_true hc3, eq_true hg4]
   intro b5
   refine hK _ _ ?_; clear hK hQ K Q
   repeat refine awp_seq ?_
   refine awp_reg fun K Q hK hQ => ?_
   rcases ite_some h with ⟨hc6, h⟩ | ⟨hc6, h⟩
   · simp -implicitDefEqProofs (disch := first | omega | rfl) only [go_sem, simprocAttr, zr23_4, eq_true hc6]
     refine hK _ _ ?_; clear hK hQ K Q
     repeat refine awp_seq ?_
     refine awp_then (by rfl) ?_
     repeat refine awp_seq ?_
     refine rg (h := ?_)
     obtain rfl := som_inj h
     try dsimp only at hm2
     subst hm2
     simp only [Ou.on_ret] at hO2
     obtain rfl := som_inj hO2
     repeat refine awp_seq ?_
     refine awp_ret ?_
     repeat first | refine then_ret ?_ | refine blk_ret ?_
     exact rtp
   rcases ite_some h with ⟨hc7, h⟩ | ⟨hc7, h⟩
   · simp -implicitDefEqProofs (disch := first | omega | rfl) only [go_sem, simprocAttr, zr23_4, eq_false hc6, eq_true hc7]
     refine hK _ _ ?_; clear hK hQ K Q
     repeat refine awp_seq ?_
     refine awp_then (by rfl) ?_
     repeat refine awp_seq ?_
     refine rg (h := ?_)
     obtain rfl := som_inj h
     try dsimp only at hm2
     subst hm2
     simp only [Ou.on_ret] at hO2
     obtain rfl := som_inj hO2
     repeat refine awp_seq ?_
     refine awp_ret ?_
     repeat first | refine then_ret ?_ | refine blk_ret ?_
     exact rtp
   rcases ite_some h with ⟨hc8, h⟩ | ⟨hc8, h⟩
   · simp -implicitDefEqProofs (disch := first | omega | rfl) only [go_sem, simprocAttr, zr23_4, eq_false hc6, eq_false hc7, eq_true hc8]
     refine hK _ _ ?_; clear hK hQ K Q
     repeat refine awp_seq ?_
     refine awp_then (by rfl) ?_
     repeat refine awp_seq ?_
     refine rg (h := ?_)
     obtain rfl := som_inj h
     try dsimp only at hm2
     subst hm2
     simp only [Ou.on_ret] at hO2
     obtain rfl := som_inj hO2
     repeat refine awp_seq ?_
     refine awp_ret ?_
     repeat first | refine then_ret ?_ | refine blk_ret ?_
     exact rtp
   rcases ite_some h with ⟨hc9, h⟩ | ⟨hc9, h⟩
   · simp -implicitDefEqProofs (disch := first | omega | rfl) only [go_sem, simprocAttr, zr23_4, eq_false hc6, eq_false hc7, eq_false hc8, eq_true hc9]
     refine hK _ _ ?_; clear hK hQ K Q
     repeat refine awp_seq ?_
     refine awp_then (by rfl) ?_
     repeat refine awp_seq ?_
     refine rg (h := ?_)
     obtain rfl := som_inj h
     try dsimp only at hm2
     subst hm2
     simp only [Ou.on_ret] at hO2
     obtain rfl := som_inj hO2
     repeat refine awp_seq ?_
     refine awp_ret ?_
     repeat first | refine then_ret ?_ | refine blk_ret ?_
     exact rtp
   simp -implicitDefEqProofs (disch := first | omega | rfl) only [go_sem, simprocAttr, zr23_4, eq_false hc6, eq_false hc7, eq_false hc8, eq_false hc9]
   have hh := bnd_some h; clear h; obtain ⟨x10, hx11, h⟩ := hh
   refine call_pure hP (hrec23 ((p1[x1.toNat]!).Items) x10 hx11) ?_
   simp -implicitDefEqProofs (disch := first | omega | rfl) only [go_sem, simprocAttr]
   refine hK _ _ ?_; clear hK hQ K Q
   rcases cnd_some h with ⟨hc12, h⟩ | ⟨hc12, h⟩
   · repeat refine awp_seq ?_
     refine awp_else (by simp -implicitDefEqProofs (disch := first | omega | rfl) only [go_sem, simprocAttr, hc12]) ?_
     repeat refine awp_seq ?_
     refine awp_skip ?_
     repeat refine awp_seq ?_
     refine rg (h := ?_)
     obtain rfl := som_inj h
     try dsimp only at hm2
     refine ⟨⟨⟨m2, IntKind.wrap .i64 (x1 + 1)⟩, hm2⟩, Nat.lt_succ_self _, ?_⟩
     refine ent_le' ([]) (_ :: []) (_ :: []) rfl (List.Perm.refl _) ?_ ?_
     · simp -implicitDefEqProofs (disch := first | omega | rfl) only [go_sem, simprocAttr, subF_cons, subF_nil]
       exact ⟨(.keep _), (.keep _)⟩
     · exact (.drop .nil)
   repeat refine awp_seq ?_
   refine awp_then (by simp -implicitDefEqProofs (disch := first | omega | rfl) only [go_sem, simprocAttr, hc12]) ?_
   repeat refine awp_seq ?_
   refine rg (h := ?_)
   obtain rfl := som_inj h
   try dsimp only at hm2
   subst hm2
   simp only [Ou.on_ret] at hO2
   obtain rfl := som_inj hO2
   repeat refine awp_seq ?_
   refine awp_ret ?_
   repeat first | refine then_ret ?_ | refine blk_ret ?_
   exact rtp
 repeat refine awp_seq ?_
 refine awp_else (by simp -implicitDefEqProofs (disch := first | omega | rfl) only [go_sem, simprocAttr, eq_false hc3]) ?_
 repeat refine awp_seq ?_
 refine awp_exit ?_
 repeat' (first | refine then_exit ?_ | refine exit_here ?_ | refine exit_on rfl ?_)
 obtain rfl := som_inj h
 try dsimp only at hm2
 subst hm2
 simp only [Ou.on_brk] at hO2
 repeat refine awp_seq ?_
 refine rg (h := ?_)
 obtain rfl := som_inj hO2
 repeat refine awp_seq ?_
 refine awp_ret ?_
 repeat first | refine then_ret ?_ | refine blk_ret ?_
 exact rtp
theorem cs_23 : ∀ N : Nat, (∀ (p1 : List Item) (r : Bool), s23 N p1 = some r → PureC Try.prog 23 [.sl (List.map Item.av p1)] (.bool r)) := by
  intro N
  induction N with
  | zero => exact fun _ r h => by cases h
  | succ N ih => exact fun p1 r h => c23_body (s23 N) ih N p1 r h
theorem c23 (N : Nat) (p1 : List Item) (r : Bool) (h : s23 N p1 = some r) : PureC Try.prog 23 [.sl (List.map Item.av p1)] (.bool r) := (cs_23 N) p1 r h
def zr10_0 : List AO := [⟨some 2, none, .box (.t 0)⟩,
  ⟨some 4, none, .mov (.c (.bool false))⟩]
def zr10_1 : List AO := [⟨some 5, none, .fadr 5 (.t 2)⟩,
  ⟨some 6, none, .load false 1 (.t 5)⟩,
  ⟨some 7, none, .mov (.t 1)⟩,
  ⟨some 8, none, .callF 22 [(.t 6), (.t 7)]⟩,
  ⟨some 9, none, .mov (.t 1)⟩,
  ⟨some 10, none, .bin .leq (.t 8) (.t 9)⟩,
  ⟨some 11, none, .mov (.t 10)⟩,
  ⟨some 12, some (11, true), .fadr 5 (.t 2)⟩,
  ⟨some 13, some (11, true), .load false 1 (.t 12)⟩,
  ⟨some 14, some (11, true), .callF 23 [(.t 13)]⟩,
  ⟨some 15, none, .pick (.t 11) (.t 14) (.c (.bool false))⟩,
  ⟨some 4, none, .mov (.t 15)⟩]
def zc10_0 : AC := .seq (.reg zr10_1) .ret
def zc10_1 : AC := .seq (.reg zr10_0) zc10_0
def zc10 : AC := zc10_1
theorem ok10 : Try.f10.body.bind (compCode Try.prog 16) = some zc10 := by kernel_rfl
theorem nt10 : Try.f10.ntmps = 16 := by kernel_rfl
theorem res10 : compRes Try.prog Try.f10.results.toList = some [.tmp 4] := by kernel_rfl
def s10 (N : Nat) (p1 : Source) (p2 : Int) : Option Bool :=
  (s22 N p1.Items p2).bind fun x2 =>
  if x2 ≤ p2 then
    (s23 N p1.Items).bind fun x5 =>
    some x5
  else
    some false
set_option maxHeartbeats 4000000 in
theorem c10 (N : Nat) (p1 : Source) (p2 : Int) (r : Bool) (h : s10 N p1 p2 = some r) : PureC Try.prog 10 [.agg (Source.cs p1), .int .i64 p2] (.bool r) := by
 refine fn_intro' 16 Try.func10 nt10 ok10 res10 (by simp) fun X hP hn hd hr => ?_
 unfold s10 at h
 repeat refine awp_seq ?_
 refine awp_reg fun K Q hK hQ => ?_
 simp -implicitDefEqProofs (disch := first | omega | rfl) only [go_sem, simprocAttr, zr10_0, argS]
 intro b1
 refine hK _ _ ?_; clear hK hQ K Q
 repeat refine awp_seq ?_
 refine awp_reg fun K Q hK hQ => ?_
 simp -implicitDefEqProofs (disch := first | omega | rfl) only [go_sem, simprocAttr, zr10_1]
 have hh := bnd_some h; clear h; obtain ⟨x2, hx3, h⟩ := hh
 refine call_pure hP (c22 N p1.Items p2 x2 hx3) ?_
 rcases ite_some h with ⟨hc4, h⟩ | ⟨hc4, h⟩
 · simp -implicitDefEqProofs (disch := first | omega | rfl) only [go_sem, simprocAttr, eq_true hc4]
   have hh := bnd_some h; clear h; obtain ⟨x5, hx6, h⟩ := hh
   refine call_pure hP (c23 N p1.Items x5 hx6) ?_
   simp -implicitDefEqProofs (disch := first | omega | rfl) only [go_sem, simprocAttr]
   refine hK _ _ ?_; clear hK hQ K Q
   obtain rfl := som_inj h
   repeat refine awp_seq ?_
   refine awp_ret ?_
   repeat first | refine then_ret ?_ | refine blk_ret ?_
   exact rtp
 simp -implicitDefEqProofs (disch := first | omega | rfl) only [go_sem, simprocAttr, eq_false hc4]
 refine hK _ _ ?_; clear hK hQ K Q
 obtain rfl := som_inj h
 repeat refine awp_seq ?_
 refine awp_ret ?_
 repeat first | refine then_ret ?_ | refine blk_ret ?_
 exact rtp
def zr28_0 : List AO := [⟨some 4, none, .mov (.c (.int .i64 0))⟩]
def zr28_1 : List AO := [⟨some 5, none, .mov (.c (.int .i64 0))⟩]
def zr28_2 : List AO := [⟨some 6, none, .mov (.t 5)⟩,
  ⟨some 7, none, .mov (.t 0)⟩,
  ⟨some 8, none, .len (.t 7)⟩,
  ⟨some 9, none, .bin .lss (.t 6) (.t 8)⟩,
  ⟨some 10, none, .mov (.t 9)⟩,
  ⟨some 11, some (10, true), .mov (.t 1)⟩,
  ⟨some 12, some (10, true), .bin .neq (.t 11) (.c (.str []))⟩,
  ⟨some 13, none, .pick (.t 10) (.t 12) (.c (.bool false))⟩]
def zc28_0 : AC := .cond (.t 13) .skip (.exit 0)
def zr28_3 : List AO := [⟨some 16, none, .mov (.t 0)⟩,
  ⟨some 17, none, .mov (.t 5)⟩,
  ⟨some 18, none, .iadr 1 (.t 16) (.t 17)⟩,
  ⟨some 19, none, .load false 1 (.t 18)⟩,
  ⟨some 20, none, .mov (.t 1)⟩,
  ⟨some 21, none, .bin .eql (.t 19) (.t 20)⟩]
def zr28_4 : List AO := [⟨some 22, none, .mov (.t 5)⟩,
  ⟨some 4, none, .mov (.t 22)⟩]
def zc28_1 : AC := .seq (.reg zr28_4) .ret
def zc28_2 : AC := .cond (.t 21) zc28_1 .skip
def zc28_3 : AC := .seq (.reg zr28_3) zc28_2
def zr28_5 : List AO := [⟨some 14, none, .mov (.t 5)⟩,
  ⟨some 15, none, .bin .add (.t 14) (.c (.int .i64 1))⟩,
  ⟨some 5, none, .mov (.t 15)⟩]
def zc28_4 : AC := .reg zr28_5
def zc28_5 : AC := .seq (.block 1 zc28_3) zc28_4
def zc28_6 : AC := .seq (.seq (.reg zr28_2) zc28_0) zc28_5
def zc28_7 : AC := .loop zc28_6
def zc28_8 : AC := .block 0 zc28_7
def zr28_6 : List AO := [⟨some 4, none, .mov (.c (.int .i64 (-1)))⟩]
def zc28_9 : AC := .seq (.reg zr28_6) .ret
def zc28_10 : AC := .seq (.seq (.reg zr28_1) zc28_8) zc28_9
def zc28_11 : AC := .seq (.reg zr28_0) zc28_10
def zc28 : AC := zc28_11
theorem ok28 : Try.f28.body.bind (compCode Try.prog 23) = some zc28 := by kernel_rfl
theorem nt28 : Try.f28.ntmps = 23 := by kernel_rfl
theorem res28 : compRes Try.prog Try.f28.results.toList = some [.tmp 4] := by kernel_rfl
attribute [go_sem] zr28_0 zr28_1 zr28_2 zr28_3 zr28_4 zr28_5 zr28_6
def s28_b1 (N : Nat) (p1 : List (List UInt8)) (p2 : List UInt8) (x1 : Int) : Option (((Int) ⊕ (Ou (Unit) (Int)))) :=
  if x1 < (List.length p1 : Int) then
    if p2 = [] then
      some (.inr (.brk ()))
    else
      grd (0 ≤ x1) <|
      if p1[x1.toNat]! = p2 then
        some (.inr (.ret x1))
      else
        some (.inl (IntKind.wrap .i64 (x1 + 1)))
  else
    some (.inr (.brk ()))
def s28 (N : Nat) (p1 : List (List UInt8)) (p2 : List UInt8) : Option Int :=
  (iter (fun p => s28_b1 N p1 p2 p) N 0).bind fun o2 => o2.on (fun a2 =>
    some (-1))
    (fun a2r => some a2r)
set_option maxHeartbeats 4000000 in
theorem c28 (N : Nat) (p1 : List (List UInt8)) (p2 : List UInt8) (r : Int) (h : s28 N p1 p2 = some r) : PureC Try.prog 28 [.sl (List.map AV.str p1), .str p2] (.int .i64 r) := by
 refine fn_intro' 23 Try.func28 nt28 ok28 res28 (by simp) fun X hP hn hd hr => ?_
 unfold s28 at h
 repeat refine awp_seq ?_
 refine rg (h := ?_)
 repeat refine awp_seq ?_
 refine rg (h := ?_)
 repeat refine awp_seq ?_
 refine awp_block ?_
 obtain ⟨o2, ho2, hO2⟩ := bnd_some h
 repeat refine awp_seq ?_
 refine awp_loop (ι := {p : Nat × Int // iter (fun p => s28_b1 N p1 p2 p) p.1 p.2 = some o2}) (fun p => [(0, .sl (List.map AV.str p1)), (1, .str p2), (5, .int .i64 p.1.2)]) (fun p => []) (fun p => p.1.1) ⟨⟨N, 0⟩, ho2⟩ ?_ ?_
 · refine ent_le' ([]) ([]) ([]) rfl (List.Perm.refl _) ?_ ?_
   · simp -implicitDefEqProofs (disch := first | omega | rfl) only [go_sem, simprocAttr, subF_cons, subF_nil]
     exact ⟨(.keep _), (.keep _), (.keep _)⟩
   · exact .nil
 rintro ⟨⟨n2, x1⟩, hi2⟩
 obtain ⟨m2, q2, rfl, h, hm2⟩ := iter_some hi2
 try dsimp only at h
 try dsimp only
 unfold s28_b1 at h
 repeat refine awp_seq ?_
 rcases ite_some h with ⟨hc3, h⟩ | ⟨hc3, h⟩
 · refine rgf (eq_true hc3) ?_
   rcases ite_some h with ⟨hc4, h⟩ | ⟨hc4, h⟩
   · repeat refine awp_seq ?_
     refine awp_else (by simp -implicitDefEqProofs (disch := first | omega | rfl) only [go_sem, simprocAttr, eq_true hc4]) ?_
     repeat refine awp_seq ?_
     refine awp_exit ?_
     repeat' (first | refine then_exit ?_ | refine exit_here ?_ | refine exit_on rfl ?_)
     obtain rfl := som_inj h
     try dsimp only at hm2
     subst hm2
     simp only [Ou.on_brk] at hO2
     repeat refine awp_seq ?_
     refine rg (h := ?_)
     obtain rfl := som_inj hO2
     repeat refine awp_seq ?_
     refine awp_ret ?_
     repeat first | refine then_ret ?_ | refine blk_ret ?_
     exact rtp
   repeat refine awp_seq ?_
   refine awp_then (by simp -implicitDefEqProofs (disch := first | omega | rfl) only [go_sem, simprocAttr, eq_false hc4]) ?_
   repeat refine awp_seq ?_
   refine awp_skip ?_
   repeat refine awp_seq ?_
   refine awp_block ?_
   repeat refine awp_seq ?_
   obtain ⟨hg5, h⟩ := grd_some h
   refine rgf (And.intro (eq_true hc3) (eq_true hg5)) ?_
   rcases ite_some h with ⟨hc6, h⟩ | ⟨hc6, h⟩
   · repeat refine awp_seq ?_
     refine awp_then (by simp -implicitDefEqProofs (disch := first | omega | rfl) only [go_sem, simprocAttr, eq_true hc6]) ?_
     repeat refine awp_seq ?_
     refine rg (h := ?_)
     obtain rfl := som_inj h
     try dsimp only at hm2
     subst hm2
     simp only [Ou.on_ret] at hO2
     obtain rfl := som_inj hO2
     repeat refine awp_seq ?_
     refine awp_ret ?_
     repeat first | refine then_ret ?_ | refine blk_ret ?_
     exact rtp
   repeat refine awp_seq ?_
   refine awp_else (by simp -implicitDefEqProofs (disch := first | omega | rfl) only [go_sem, simprocAttr, eq_false hc6]) ?_
   repeat refine awp_seq ?_
   refine awp_skip ?_
   repeat refine awp_seq ?_
   refine rg (h := ?_)
   obtain rfl := som_inj h
   try dsimp only at hm2
   refine ⟨⟨⟨m2, IntKind.wrap .i64 (x1 + 1)⟩, hm2⟩, Nat.lt_succ_self _, ?_⟩
   refine ent_le' ([]) ([]) ([]) rfl (List.Perm.refl _) ?_ ?_
   · simp -implicitDefEqProofs (disch := first | omega | rfl) only [go_sem, simprocAttr, subF_cons, subF_nil]
     exact ⟨(.keep _), (.keep _), (.keep _)⟩
   · exact .nil
 refine rgf (eq_false hc3) ?_
 repeat refine awp_seq ?_
 refine awp_else (by rfl) ?_
 repeat refine awp_seq ?_
 refine awp_exit ?_
 repeat' (first | refine then_exit ?_ | refine exit_here ?_ | refine exit_on rfl ?_)
 obtain rfl := som_inj h
 try dsimp only at hm2
 subst hm2
 simp only [Ou.on_brk] at hO2
 repeat refine awp_seq ?_
 refine rg (h := ?_)
 obtain rfl := som_inj hO2
 repeat refine awp_seq ?_
 refine awp_ret ?_
 repeat first | refine then_ret ?_ | refine blk_ret ?_
 exact rtp
def zr29_0 : List AO := [⟨some 2, none, .mov (.c (.str []))⟩]
def zr29_1 : List AO := [⟨some 3, none, .mov (.c (.int .i64 0))⟩]
def zr29_2 : List AO := [⟨some 4, none, .mov (.t 3)⟩,
  ⟨some 5, none, .mov (.t 0)⟩,
  ⟨some 6, none, .lenS (.t 5)⟩,
  ⟨some 7, none, .bin .lss (.t 4) (.t 6)⟩]
def zc29_0 : AC := .cond (.t 7) .skip (.exit 0)
def zr29_3 : List AO := [⟨some 10, none, .mov (.t 0)⟩,
  ⟨some 11, none, .mov (.t 3)⟩,
  ⟨some 12, none, .idxS (.t 10) (.t 11)⟩,
  ⟨some 13, none, .bin .eql (.t 12) (.c (.int .u8 46))⟩]
def zr29_4 : List AO := [⟨some 14, none, .mov (.t 0)⟩,
  ⟨some 15, none, .mov (.t 3)⟩,
  ⟨some 16, none, .slcS (.t 14) none (some (.t 15))⟩,
  ⟨some 2, none, .mov (.t 16)⟩]
def zc29_1 : AC := .seq (.reg zr29_4) .ret
def zc29_2 : AC := .cond (.t 13) zc29_1 .skip
def zc29_3 : AC := .seq (.reg zr29_3) zc29_2
def zr29_5 : List AO := [⟨some 8, none, .mov (.t 3)⟩,
  ⟨some 9, none, .bin .add (.t 8) (.c (.int .i64 1))⟩,
  ⟨some 3, none, .mov (.t 9)⟩]
def zc29_4 : AC := .reg zr29_5
def zc29_5 : AC := .seq (.block 1 zc29_3) zc29_4
def zc29_6 : AC := .seq (.seq (.reg zr29_2) zc29_0) zc29_5
def zc29_7 : AC := .loop zc29_6
def zc29_8 : AC := .block 0 zc29_7
def zr29_6 : List AO := [⟨some 17, none, .mov (.t 0)⟩,
  ⟨some 2, none, .mov (.t 17)⟩]
def zc29_9 : AC := .seq (.reg zr29_6) .ret
def zc29_10 : AC := .seq (.seq (.reg zr29_1) zc29_8) zc29_9
def zc29_11 : AC := .seq (.reg zr29_0) zc29_10
def zc29 : AC := zc29_11
theorem ok29 : Try.f29.body.bind (compCode Try.prog 18) = some zc29 := by kernel_rfl
theorem nt29 : Try.f29.ntmps = 18 := by kernel_rfl
theorem res29 : compRes Try.prog Try.f29.results.toList = some [.tmp 2] := by kernel_rfl
attribute [go_sem] zr29_0 zr29_1 zr29_2 zr29_3 zr29_4 zr29_5 zr29_6
def s29_b1 (N : Nat) (p1 : List UInt8) (x1 : Int) : Option (((Int) ⊕ (Ou (Unit) ((List UInt8))))) :=
  if x1 < (List.length p1 : Int) then
    grd (0 ≤ x1) <|
    if ((List.getD p1 x1.toNat 0).toNat : Int) = 46 then
      grd (x1 ≤ (List.length p1 : Int)) <|
      some (.inr (.ret (List.take x1.toNat p1)))
    else
      some (.inl (IntKind.wrap .i64 (x1 + 1)))
  else
    some (.inr (.brk ()))
def s29 (N : Nat) (p1 : List UInt8) : Option ((List UInt8)) :=
  (iter (fun p => s29_b1 N p1 p) N 0).bind fun o2 => o2.on (fun a2 =>
    some p1)
    (fun a2r => some a2r)
set_option maxHeartbeats 4000000 in
theorem c29 (N : Nat) (p1 : List UInt8) (r : (List UInt8)) (h : s29 N p1 = some r) : PureC Try.prog 29 [.str p1] (.str r) := by
 refine fn_intro' 18 Try.func29 nt29 ok29 res29 (by simp) fun X hP hn hd hr => ?_
 unfold s29 at h
 repeat refine awp_seq ?_
 refine rg (h := ?_)
 repeat refine awp_seq ?_
 refine rg (h := ?_)
 repeat refine awp_seq ?_
 refine awp_block ?_
 obtain ⟨o2, ho2, hO2⟩ := bnd_some h
 repeat refine awp_seq ?_
 refine awp_loop (ι := {p : Nat × Int // iter (fun p => s29_b1 N p1 p) p.1 p.2 = some o2}) (fun p => [(0, .str p1), (3, .int .i64 p.1.2)]) (fun p => []) (fun p => p.1.1) ⟨⟨N, 0⟩, ho2⟩ ?_ ?_
 · refine ent_le' ([]) ([]) ([]) rfl (List.Perm.refl _) ?_ ?_
   · simp -implicitDefEqProofs (disch := first | omega | rfl) only [go_sem, simprocAttr, subF_cons, subF_nil]
     exact ⟨(.keep _), (.keep _)⟩
   · exact .nil
 rintro ⟨⟨n2, x1⟩, hi2⟩
 obtain ⟨m2, q2, rfl, h, hm2⟩ := iter_some hi2
 try dsimp only at h
 try dsimp only
 unfold s29_b1 at h
 repeat refine awp_seq ?_
 refine rg (h := ?_)
 rcases ite_some h with ⟨hc3, h⟩ | ⟨hc3, h⟩
 · repeat refine awp_seq ?_
   refine awp_then (by simp -implicitDefEqProofs (disch := first | omega | rfl) only [go_sem, simprocAttr, eq_true hc3]) ?_
   repeat refine awp_seq ?_
   refine awp_skip ?_
   repeat refine awp_seq ?_
   refine awp_block ?_
   repeat refine awp_seq ?_
   obtain ⟨hg4, h⟩ := grd_some h
   refine rgf (And.intro (eq_true hc3) (eq_true hg4)) ?_
   rcases ite_some h with ⟨hc5, h⟩ | ⟨hc5, h⟩
   · repeat refine awp_seq ?_
     refine awp_then (by simp -implicitDefEqProofs (disch := first | omega | rfl) only [go_sem, simprocAttr, eq_true hc5]) ?_
     repeat refine awp_seq ?_
     obtain ⟨hg6, h⟩ := grd_some h
     refine rgf (And.intro (eq_true hg4) (eq_true hg6)) ?_
     obtain rfl := som_inj h
     try dsimp only at hm2
     subst hm2
     simp only [Ou.on_ret] at hO2
     obtain rfl := som_inj hO2
     repeat refine awp_seq ?_
     refine awp_ret ?_
     repeat first | refine then_ret ?_ | refine blk_ret ?_
     exact rtp
   repeat refine awp_seq ?_
   refine awp_else (by simp -implicitDefEqProofs (disch := first | omega | rfl) only [go_sem, simprocAttr, eq_false hc5]) ?_
   repeat refine awp_seq ?_
   refine awp_skip ?_
   repeat refine awp_seq ?_
   refine rg (h := ?_)
   obtain rfl := som_inj h
   try dsimp only at hm2
   refine ⟨⟨⟨m2, IntKind.wrap .i64 (x1 + 1)⟩, hm2⟩, Nat.lt_succ_self _, ?_⟩
   refine ent_le' ([]) ([]) ([]) rfl (List.Perm.refl _) ?_ ?_
   · simp -implicitDefEqProofs (disch := first | omega | rfl) only [go_sem, simprocAttr, subF_cons, subF_nil]
     exact ⟨(.keep _), (.keep _)⟩
   · exact .nil
 repeat refine awp_seq ?_
 refine awp_else (by simp -implicitDefEqProofs (disch := first | omega | rfl) only [go_sem, simprocAttr, eq_false hc3]) ?_
 repeat refine awp_seq ?_
 refine awp_exit ?_
 repeat' (first | refine then_exit ?_ | refine exit_here ?_ | refine exit_on rfl ?_)
 obtain rfl := som_inj h
 try dsimp only at hm2
 subst hm2
 simp only [Ou.on_brk] at hO2
 repeat refine awp_seq ?_
 refine rg (h := ?_)
 obtain rfl := som_inj hO2
 repeat refine awp_seq ?_
 refine awp_ret ?_
 repeat first | refine then_ret ?_ | refine blk_ret ?_
 exact rtp
def zr17_0 : List AO := [⟨some 2, none, .box (.t 0)⟩,
  ⟨some 4, none, .mov (.c (.bool false))⟩]
def zr17_1 : List AO := [⟨some 8, none, .fadr 31 (.t 2)⟩,
  ⟨some 9, none, .load false 1 (.t 8)⟩,
  ⟨some 10, none, .mov (.t 1)⟩,
  ⟨some 11, none, .callF 28 [(.t 9), (.t 10)]⟩,
  ⟨some 12, none, .bin .geq (.t 11) (.c (.int .i64 0))⟩]
def zr17_2 : List AO := [⟨some 4, none, .mov (.c (.bool true))⟩]
def zc17_0 : AC := .seq (.reg zr17_2) .ret
def zc17_1 : AC := .cond (.t 12) zc17_0 .skip
def zr17_3 : List AO := [⟨some 5, none, .mov (.c (.int .i64 0))⟩]
def zr17_4 : List AO := [⟨some 13, none, .mov (.t 5)⟩,
  ⟨some 14, none, .fadr 32 (.t 2)⟩,
  ⟨some 15, none, .load false 1 (.t 14)⟩,
  ⟨some 16, none, .len (.t 15)⟩,
  ⟨some 17, none, .bin .lss (.t 13) (.t 16)⟩]
def zc17_2 : AC := .cond (.t 17) .skip (.exit 0)
def zr17_5 : List AO := [⟨some 20, none, .fadr 32 (.t 2)⟩,
  ⟨some 21, none, .load false 1 (.t 20)⟩,
  ⟨some 22, none, .mov (.t 5)⟩,
  ⟨some 23, none, .iadr 33 (.t 21) (.t 22)⟩,
  ⟨some 24, none, .load true 33 (.t 23)⟩,
  ⟨some 6, none, .alloc [.int .i64 0, .str [], .int .i64 0, .str [], .str [], .int .i64 0, .int .i64 0, .int .i64 0, .bool false, .str [], .int .i64 0, .bool false, .str [], .nil, .str [], .str [], .int .i64 0, .int .i64 0, .str [], .str [], .bool false, .str [], .str [], .bool false, .bool false, .bool false, .bool false, .bool false, .bool false, .bool false, .nil, .nil, .nil]⟩,
  ⟨none, none, .store 33 (.t 6) (.t 24)⟩]
def zr17_6 : List AO := [⟨some 25, none, .fadr 1 (.t 6)⟩,
  ⟨some 26, none, .load false 1 (.t 25)⟩,
  ⟨some 27, none, .mov (.t 1)⟩,
  ⟨some 28, none, .bin .eql (.t 26) (.t 27)⟩,
  ⟨some 29, none, .mov (.t 28)⟩,
  ⟨some 30, some (29, false), .fadr 3 (.t 6)⟩,
  ⟨some 31, some (29, false), .load false 1 (.t 30)⟩,
  ⟨some 32, some (29, false), .mov (.t 1)⟩,
  ⟨some 33, some (29, false), .bin .eql (.t 31) (.t 32)⟩,
  ⟨some 34, none, .pick (.t 29) (.c (.bool true)) (.t 33)⟩,
  ⟨some 35, none, .mov (.t 34)⟩,
  ⟨some 36, some (35, false), .fadr 4 (.t 6)⟩,
  ⟨some 37, some (35, false), .load false 1 (.t 36)⟩,
  ⟨some 38, some (35, false), .mov (.t 1)⟩,
  ⟨some 39, some (35, false), .bin .eql (.t 37) (.t 38)⟩,
  ⟨some 40, none, .pick (.t 35) (.c (.bool true)) (.t 39)⟩,
  ⟨some 41, none, .mov (.t 40)⟩,
  ⟨some 42, some (41, false), .fadr 14 (.t 6)⟩,
  ⟨some 43, some (41, false), .load false 1 (.t 42)⟩,
  ⟨some 44, some (41, false), .mov (.t 1)⟩,
  ⟨some 45, some (41, false), .bin .eql (.t 43) (.t 44)⟩,
  ⟨some 46, none, .pick (.t 41) (.c (.bool true)) (.t 45)⟩,
  ⟨some 47, none, .mov (.t 46)⟩,
  ⟨some 48, some (47, false), .fadr 15 (.t 6)⟩,
  ⟨some 49, some (47, false), .load false 1 (.t 48)⟩,
  ⟨some 50, some (47, false), .mov (.t 1)⟩,
  ⟨some 51, some (47, false), .bin .eql (.t 49) (.t 50)⟩,
  ⟨some 52, none, .pick (.t 47) (.c (.bool true)) (.t 51)⟩,
  ⟨some 53, none, .mov (.t 52)⟩,
  ⟨some 54, some (53, false), .fadr 18 (.t 6)⟩,
  ⟨some 55, some (53, false), .load false 1 (.t 54)⟩,
  ⟨some 56, some (53, false), .mov (.t 1)⟩,
  ⟨some 57, some (53, false), .bin .eql (.t 55) (.t 56)⟩,
  ⟨some 58, none, .pick (.t 53) (.c (.bool true)) (.t 57)⟩,
  ⟨some 59, none, .mov (.t 58)⟩,
  ⟨some 60, some (59, false), .fadr 19 (.t 6)⟩,
  ⟨some 61, some (59, false), .load false 1 (.t 60)⟩,
  ⟨some 62, some (59, false), .mov (.t 1)⟩,
  ⟨some 63, some (59, false), .bin .eql (.t 61) (.t 62)⟩,
  ⟨some 64, none, .pick (.t 59) (.c (.bool true)) (.t 63)⟩,
  ⟨some 65, none, .mov (.t 64)⟩,
  ⟨some 66, some (65, false), .fadr 22 (.t 6)⟩,
  ⟨some 67, some (65, false), .load false 1 (.t 66)⟩,
  ⟨some 68, some (65, false), .mov (.t 1)⟩,
  ⟨some 69, some (65, false), .bin .eql (.t 67) (.t 68)⟩,
  ⟨some 70, none, .pick (.t 65) (.c (.bool true)) (.t 69)⟩,
  ⟨some 71, none, .mov (.t 70)⟩,
  ⟨some 72, some (71, false), .fadr 7 (.t 6)⟩,
  ⟨some 73, some (71, false), .fadr 2 (.t 72)⟩,
  ⟨some 74, some (71, false), .load false 1 (.t 73)⟩,
  ⟨some 75, some (71, false), .mov (.t 1)⟩,
  ⟨some 76, some (71, false), .bin .eql (.t 74) (.t 75)⟩,
  ⟨some 77, none, .pick (.t 71) (.c (.bool true)) (.t 76)⟩,
  ⟨some 78, none, .mov (.t 77)⟩,
  ⟨some 79, some (78, false), .fadr 10 (.t 6)⟩,
  ⟨some 80, some (78, false), .fadr 2 (.t 79)⟩,
  ⟨some 81, some (78, false), .load false 1 (.t 80)⟩,
  ⟨some 82, some (78, false), .mov (.t 1)⟩,
  ⟨some 83, some (78, false), .bin .eql (.t 81) (.t 82)⟩,
  ⟨some 84, none, .pick (.t 78) (.c (.bool true)) (.t 83)⟩,
  ⟨some 85, none, .mov (.t 84)⟩,
  ⟨some 86, some (85, false), .fadr 31 (.t 6)⟩,
  ⟨some 87, some (85, false), .load false 1 (.t 86)⟩,
  ⟨some 88, some (85, false), .mov (.t 1)⟩,
  ⟨some 89, some (85, false), .callF 28 [(.t 87), (.t 88)]⟩,
  ⟨some 90, some (85, false), .bin .geq (.t 89) (.c (.int .i64 0))⟩,
  ⟨some 91, none, .pick (.t 85) (.c (.bool true)) (.t 90)⟩]
def zr17_7 : List AO := [⟨some 4, none, .mov (.c (.bool true))⟩]
def zc17_3 : AC := .seq (.reg zr17_7) .ret
def zc17_4 : AC := .cond (.t 91) zc17_3 .skip
def zr17_8 : List AO := [⟨some 7, none, .mov (.c (.int .i64 0))⟩]
def zr17_9 : List AO := [⟨some 92, none, .mov (.t 7)⟩,
  ⟨some 93, none, .fadr 13 (.t 6)⟩,
  ⟨some 94, none, .load false 1 (.t 93)⟩,
  ⟨some 95, none, .len (.t 94)⟩,
  ⟨some 96, none, .bin .lss (.t 92) (.t 95)⟩]
def zc17_5 : AC := .cond (.t 96) .skip (.exit 2)
def zr17_10 : List AO := [⟨some 99, none, .fadr 13 (.t 6)⟩,
  ⟨some 100, none, .load false 1 (.t 99)⟩,
  ⟨some 101, none, .mov (.t 7)⟩,
  ⟨some 102, none, .iadr 2 (.t 100) (.t 101)⟩,
  ⟨some 103, none, .fadr 0 (.t 102)⟩,
  ⟨some 104, none, .load false 1 (.t 103)⟩,
  ⟨some 105, none, .mov (.t 1)⟩,
  ⟨some 106, none, .bin .eql (.t 104) (.t 105)⟩,
  ⟨some 107, none, .mov (.t 106)⟩,
  ⟨some 108, some (107, false), .fadr 13 (.t 6)⟩,
  ⟨some 109, some (107, false), .load false 1 (.t 108)⟩,
  ⟨some 110, some (107, false), .mov (.t 7)⟩,
  ⟨some 111, some (107, false), .iadr 2 (.t 109) (.t 110)⟩,
  ⟨some 112, some (107, false), .fadr 0 (.t 111)⟩,
  ⟨some 113, some (107, false), .load false 1 (.t 112)⟩,
  ⟨some 114, some (107, false), .callF 29 [(.t 113)]⟩,
  ⟨some 115, some (107, false), .mov (.t 1)⟩,
  ⟨some 116, some (107, false), .bin .eql (.t 114) (.t 115)⟩,
  ⟨some 117, none, .pick (.t 107) (.c (.bool true)) (.t 116)⟩]
def zr17_11 : List AO := [⟨some 4, none, .mov (.c (.bool true))⟩]
def zc17_6 : AC := .seq (.reg zr17_11) .ret
def zc17_7 : AC := .cond (.t 117) zc17_6 .skip
def zc17_8 : AC := .seq (.reg zr17_10) zc17_7
def zr17_12 : List AO := [⟨some 97, none, .mov (.t 7)⟩,
  ⟨some 98, none, .bin .add (.t 97) (.c (.int .i64 1))⟩,
  ⟨some 7, none, .mov (.t 98)⟩]
def zc17_9 : AC := .reg zr17_12
def zc17_10 : AC := .seq (.block 3 zc17_8) zc17_9
def zc17_11 : AC := .seq (.seq (.reg zr17_9) zc17_5) zc17_10
def zc17_12 : AC := .loop zc17_11
def zc17_13 : AC := .block 2 zc17_12
def zc17_14 : AC := .seq (.reg zr17_8) zc17_13
def zc17_15 : AC := .seq (.seq (.reg zr17_6) zc17_4) zc17_14
def zc17_16 : AC := .seq (.reg zr17_5) zc17_15
def zr17_13 : List AO := [⟨some 18, none, .mov (.t 5)⟩,
  ⟨some 19, none, .bin .add (.t 18) (.c (.int .i64 1))⟩,
  ⟨some 5, none, .mov (.t 19)⟩]
def zc17_17 : AC := .reg zr17_13
def zc17_18 : AC := .seq (.block 1 zc17_16) zc17_17
def zc17_19 : AC := .seq (.seq (.reg zr17_4) zc17_2) zc17_18
def zc17_20 : AC := .loop zc17_19
def zc17_21 : AC := .block 0 zc17_20
def zr17_14 : List AO := [⟨some 4, none, .mov (.c (.bool false))⟩]
def zc17_22 : AC := .seq (.reg zr17_14) .ret
def zc17_23 : AC := .seq (.seq (.reg zr17_3) zc17_21) zc17_22
def zc17_24 : AC := .seq (.seq (.reg zr17_1) zc17_1) zc17_23
def zc17_25 : AC := .seq (.reg zr17_0) zc17_24
def zc17 : AC := zc17_25
theorem ok17 : Try.f17.body.bind (compCode Try.prog 118) = some zc17 := by kernel_rfl
theorem nt17 : Try.f17.ntmps = 118 := by kernel_rfl
theorem res17 : compRes Try.prog Try.f17.results.toList = some [.tmp 4] := by kernel_rfl
attribute [go_sem] zr17_11 zr17_12 zr17_13 zr17_14 zr17_2 zr17_3 zr17_4 zr17_7 zr17_8 zr17_9
def s17_b1 (N : Nat) (p1 : Item) (p2 : List UInt8) (x5 : Int) (x23 : Int) : Option (((Int) ⊕ (Ou (Unit) (Bool)))) :=
  if x23 < (List.length ((p1.Items[x5.toNat]!).Conds) : Int) then
    grd (0 ≤ x23) <|
    if (((p1.Items[x5.toNat]!).Conds)[x23.toNat]!).Name = p2 then
      some (.inr (.ret true))
    else
      (s29 N ((((p1.Items[x5.toNat]!).Conds)[x23.toNat]!).Name)).bind fun x28 =>
      if x28 = p2 then
        some (.inr (.ret true))
      else
        some (.inl (IntKind.wrap .i64 (x23 + 1)))
  else
    some (.inr (.brk ()))
def s17_b2 (N : Nat) (p1 : Item) (p2 : List UInt8) (x5 : Int) : Option (((Int) ⊕ (Ou (Unit) (Bool)))) :=
  if x5 < (List.length p1.Items : Int) then
    grd (0 ≤ x5) <|
    if (p1.Items[x5.toNat]!).Name = p2 then
      some (.inr (.ret true))
    else
      if (p1.Items[x5.toNat]!).Of = p2 then
        some (.inr (.ret true))
      else
        if (p1.Items[x5.toNat]!).Act = p2 then
          some (.inr (.ret true))
        else
          if (p1.Items[x5.toNat]!).By = p2 then
            some (.inr (.ret true))
          else
            if (p1.Items[x5.toNat]!).Until = p2 then
              some (.inr (.ret true))
            else
              if (p1.Items[x5.toNat]!).Unit = p2 then
                some (.inr (.ret true))
              else
                if (p1.Items[x5.toNat]!).Sum = p2 then
                  some (.inr (.ret true))
                else
                  if (p1.Items[x5.toNat]!).To = p2 then
                    some (.inr (.ret true))
                  else
                    if ((p1.Items[x5.toNat]!).Within).Name = p2 then
                      some (.inr (.ret true))
                    else
                      if ((p1.Items[x5.toNat]!).Grace).Name = p2 then
                        some (.inr (.ret true))
                      else
                        (s28 N ((p1.Items[x5.toNat]!).Names) p2).bind fun x20 =>
                        if 0 ≤ x20 then
                          some (.inr (.ret true))
                        else
                          (iter (fun p => s17_b1 N p1 p2 x5 p) N 0).bind fun o24 => o24.on (fun a24 =>
                            some (.inl (IntKind.wrap .i64 (x5 + 1))))
                            (fun a24r => some (.inr (.ret a24r)))
  else
    some (.inr (.brk ()))
def s17 (N : Nat) (p1 : Item) (p2 : List UInt8) : Option Bool :=
  (s28 N p1.Names p2).bind fun x2 =>
  if 0 ≤ x2 then
    some true
  else
    (iter (fun p => s17_b2 N p1 p2 p) N 0).bind fun o6 => o6.on (fun a6 =>
      some false)
      (fun a6r => some a6r)
set_option maxHeartbeats 4000000 in
theorem c17 (N : Nat) (p1 : Item) (p2 : List UInt8) (r : Bool) (h : s17 N p1 p2 = some r) : PureC Try.prog 17 [.agg (Item.cs p1), .str p2] (.bool r) := by
 refine fn_intro' 118 Try.func17 nt17 ok17 res17 (by simp) fun X hP hn hd hr => ?_
 unfold s17 at h
 repeat refine awp_seq ?_
 refine awp_reg fun K Q hK hQ => ?_
 simp -implicitDefEqProofs (disch := first | omega | rfl) only [go_sem, simprocAttr, zr17_0, argS]
 intro b1
 refine hK _ _ ?_; clear hK hQ K Q
 repeat refine awp_seq ?_
 refine awp_reg fun K Q hK hQ => ?_
 simp -implicitDefEqProofs (disch := first | omega | rfl) only [go_sem, simprocAttr, zr17_1]
 have hh := bnd_some h; clear h; obtain ⟨x2, hx3, h⟩ := hh
 refine call_pure hP (c28 N p1.Names p2 x2 hx3) ?_
 simp -implicitDefEqProofs (disch := first | omega | rfl) only [go_sem, simprocAttr]
 refine hK _ _ ?_; clear hK hQ K Q
 rcases ite_some h with ⟨hc4, h⟩ | ⟨hc4, h⟩
 · repeat refine awp_seq ?_
   refine awp_then (by simp -implicitDefEqProofs (disch := first | omega | rfl) only [go_sem, simprocAttr, eq_true hc4]) ?_
   repeat refine awp_seq ?_
   refine rg (h := ?_)
   obtain rfl := som_inj h
   repeat refine awp_seq ?_
   refine awp_ret ?_
   repeat first | refine then_ret ?_ | refine blk_ret ?_
   exact rtp
 repeat refine awp_seq ?_
 refine awp_else (by simp -implicitDefEqProofs (disch := first | omega | rfl) only [go_sem, simprocAttr, eq_false hc4]) ?_
 repeat refine awp_seq ?_
 refine awp_skip ?_
 repeat refine awp_seq ?_
 refine rg (h := ?_)
 repeat refine awp_seq ?_
 refine awp_block ?_
 obtain ⟨o6, ho6, hO6⟩ := bnd_some h
 repeat refine awp_seq ?_
 refine awp_loop (ι := {p : Nat × Int // iter (fun p => s17_b2 N p1 p2 p) p.1 p.2 = some o6}) (fun p => [(1, .str p2), (2, .ptr 2 b1 0), (5, .int .i64 p.1.2)]) (fun p => (2, b1, .cells (Item.cs p1)) :: []) (fun p => p.1.1) ⟨⟨N, 0⟩, ho6⟩ ?_ ?_
 · refine ent_le' ([]) (_ :: []) (_ :: []) rfl (List.Perm.refl _) ?_ ?_
   · simp -implicitDefEqProofs (disch := first | omega | rfl) only [go_sem, simprocAttr, subF_cons, subF_nil]
     exact ⟨(.keep _), (.lptr ..), (.keep _)⟩
   · exact (.cell .nil)
 rintro ⟨⟨n6, x5⟩, hi6⟩
 obtain ⟨m6, q6, rfl, h, hm6⟩ := iter_some hi6
 try dsimp only at h
 try dsimp only
 unfold s17_b2 at h
 repeat refine awp_seq ?_
 refine rg (h := ?_)
 rcases ite_some h with ⟨hc7, h⟩ | ⟨hc7, h⟩
 · repeat refine awp_seq ?_
   refine awp_then (by simp -implicitDefEqProofs (disch := first | omega | rfl) only [go_sem, simprocAttr, eq_true hc7]) ?_
   repeat refine awp_seq ?_
   refine awp_skip ?_
   repeat refine awp_seq ?_
   refine awp_block ?_
   repeat refine awp_seq ?_
   refine awp_reg fun K Q hK hQ => ?_
   obtain ⟨hg8, h⟩ := grd_some h
   simp -implicitDefEqProofs (disch := first | omega | rfl) only [go_sem, simprocAttr, zr17_5, eq_true hc7, eq_true hg8]
   intro b9
   refine hK _ _ ?_; clear hK hQ K Q
   repeat refine awp_seq ?_
   refine awp_reg fun K Q hK hQ => ?_
   rcases ite_some h with ⟨hc10, h⟩ | ⟨hc10, h⟩
   · simp -implicitDefEqProofs (disch := first | omega | rfl) only [go_sem, simprocAttr, zr17_6, eq_true hc10]
     refine hK _ _ ?_; clear hK hQ K Q
     repeat refine awp_seq ?_
     refine awp_then (by rfl) ?_
     repeat refine awp_seq ?_
     refine rg (h := ?_)
     obtain rfl := som_inj h
     try dsimp only at hm6
     subst hm6
     simp only [Ou.on_ret] at hO6
     obtain rfl := som_inj hO6
     repeat refine awp_seq ?_
     refine awp_ret ?_
     repeat first | refine then_ret ?_ | refine blk_ret ?_
     exact rtp
   rcases ite_some h with ⟨hc11, h⟩ | ⟨hc11, h⟩
   · simp -implicitDefEqProofs (disch := first | omega | rfl) only [go_sem, simprocAttr, zr17_6, eq_false hc10, eq_true hc11]
     refine hK _ _ ?_; clear hK hQ K Q
     repeat refine awp_seq ?_
     refine awp_then (by rfl) ?_
     repeat refine awp_seq ?_
     refine rg (h := ?_)
     obtain rfl := som_inj h
     try dsimp only at hm6
     subst hm6
     simp only [Ou.on_ret] at hO6
     obtain rfl := som_inj hO6
     repeat refine awp_seq ?_
     refine awp_ret ?_
     repeat first | refine then_ret ?_ | refine blk_ret ?_
     exact rtp
   rcases ite_some h with ⟨hc12, h⟩ | ⟨hc12, h⟩
   · simp -implicitDefEqProofs (disch := first | omega | rfl) only [go_sem, simprocAttr, zr17_6, eq_false hc10, eq_false hc11, eq_true hc12]
     refine hK _ _ ?_; clear hK hQ K Q
     repeat refine awp_seq ?_
     refine awp_then (by rfl) ?_
     repeat refine awp_seq ?_
     refine rg (h := ?_)
     obtain rfl := som_inj h
     try dsimp only at hm6
     subst hm6
     simp only [Ou.on_ret] at hO6
     obtain rfl := som_inj hO6
     repeat refine awp_seq ?_
     refine awp_ret ?_
     repeat first | refine then_ret ?_ | refine blk_ret ?_
     exact rtp
   rcases ite_some h with ⟨hc13, h⟩ | ⟨hc13, h⟩
   · simp -implicitDefEqProofs (disch := first | omega | rfl) only [go_sem, simprocAttr, zr17_6, eq_false hc10, eq_false hc11, eq_false hc12, eq_true hc13]
     refine hK _ _ ?_; clear hK hQ K Q
     repeat refine awp_seq ?_
     refine awp_then (by rfl) ?_
     repeat refine awp_seq ?_
     refine rg (h := ?_)
     obtain rfl := som_inj h
     try dsimp only at hm6
     subst hm6
     simp only [Ou.on_ret] at hO6
     obtain rfl := som_inj hO6
     repeat refine awp_seq ?_
     refine awp_ret ?_
     repeat first | refine then_ret ?_ | refine blk_ret ?_
     exact rtp
   rcases ite_some h with ⟨hc14, h⟩ | ⟨hc14, h⟩
   · simp -implicitDefEqProofs (disch := first | omega | rfl) only [go_sem, simprocAttr, zr17_6, eq_false hc10, eq_false hc11, eq_false hc12, eq_false hc13, eq_true hc14]
     refine hK _ _ ?_; clear hK hQ K Q
     repeat refine awp_seq ?_
     refine awp_then (by rfl) ?_
     repeat refine awp_seq ?_
     refine rg (h := ?_)
     obtain rfl := som_inj h
     try dsimp only at hm6
     subst hm6
     simp only [Ou.on_ret] at hO6
     obtain rfl := som_inj hO6
     repeat refine awp_seq ?_
     refine awp_ret ?_
     repeat first | refine then_ret ?_ | refine blk_ret ?_
     exact rtp
   rcases ite_some h with ⟨hc15, h⟩ | ⟨hc15, h⟩
   · simp -implicitDefEqProofs (disch := first | omega | rfl) only [go_sem, simprocAttr, zr17_6, eq_false hc10, eq_false hc11, eq_false hc12, eq_false hc13, eq_false hc14, eq_true hc15]
     refine hK _ _ ?_; clear hK hQ K Q
     repeat refine awp_seq ?_
     refine awp_then (by rfl) ?_
     repeat refine awp_seq ?_
     refine rg (h := ?_)
     obtain rfl := som_inj h
     try dsimp only at hm6
     subst hm6
     simp only [Ou.on_ret] at hO6
     obtain rfl := som_inj hO6
     repeat refine awp_seq ?_
     refine awp_ret ?_
     repeat first | refine then_ret ?_ | refine blk_ret ?_
     exact rtp
   rcases ite_some h with ⟨hc16, h⟩ | ⟨hc16, h⟩
   · simp -implicitDefEqProofs (disch := first | omega | rfl) only [go_sem, simprocAttr, zr17_6, eq_false hc10, eq_false hc11, eq_false hc12, eq_false hc13, eq_false hc14, eq_false hc15, eq_true hc16]
     refine hK _ _ ?_; clear hK hQ K Q
     repeat refine awp_seq ?_
     refine awp_then (by rfl) ?_
     repeat refine awp_seq ?_
     refine rg (h := ?_)
     obtain rfl := som_inj h
     try dsimp only at hm6
     subst hm6
     simp only [Ou.on_ret] at hO6
     obtain rfl := som_inj hO6
     repeat refine awp_seq ?_
     refine awp_ret ?_
     repeat first | refine then_ret ?_ | refine blk_ret ?_
     exact rtp
   rcases ite_some h with ⟨hc17, h⟩ | ⟨hc17, h⟩
   · simp -implicitDefEqProofs (disch := first | omega | rfl) only [go_sem, simprocAttr, zr17_6, eq_false hc10, eq_false hc11, eq_false hc12, eq_false hc13, eq_false hc14, eq_false hc15, eq_false hc16, eq_true hc17]
     refine hK _ _ ?_; clear hK hQ K Q
     repeat refine awp_seq ?_
     refine awp_then (by rfl) ?_
     repeat refine awp_seq ?_
     refine rg (h := ?_)
     obtain rfl := som_inj h
     try dsimp only at hm6
     subst hm6
     simp only [Ou.on_ret] at hO6
     obtain rfl := som_inj hO6
     repeat refine awp_seq ?_
     refine awp_ret ?_
     repeat first | refine then_ret ?_ | refine blk_ret ?_
     exact rtp
   rcases ite_some h with ⟨hc18, h⟩ | ⟨hc18, h⟩
   · simp -implicitDefEqProofs (disch := first | omega | rfl) only [go_sem, simprocAttr, zr17_6, eq_false hc10, eq_false hc11, eq_false hc12, eq_false hc13, eq_false hc14, eq_false hc15, eq_false hc16, eq_false hc17, eq_true hc18]
     refine hK _ _ ?_; clear hK hQ K Q
     repeat refine awp_seq ?_
     refine awp_then (by rfl) ?_
     repeat refine awp_seq ?_
     refine rg (h := ?_)
     obtain rfl := som_inj h
     try dsimp only at hm6
     subst hm6
     simp only [Ou.on_ret] at hO6
     obtain rfl := som_inj hO6
     repeat refine awp_seq ?_
     refine awp_ret ?_
     repeat first | refine then_ret ?_ | refine blk_ret ?_
     exact rtp
   rcases ite_some h with ⟨hc19, h⟩ | ⟨hc19, h⟩
   · simp -implicitDefEqProofs (disch := first | omega | rfl) only [go_sem, simprocAttr, zr17_6, eq_false hc10, eq_false hc11, eq_false hc12, eq_false hc13, eq_false hc14, eq_false hc15, eq_false hc16, eq_false hc17, eq_false hc18, eq_true hc19]
     refine hK _ _ ?_; clear hK hQ K Q
     repeat refine awp_seq ?_
     refine awp_then (by rfl) ?_
     repeat refine awp_seq ?_
     refine rg (h := ?_)
     obtain rfl := som_inj h
     try dsimp only at hm6
     subst hm6
     simp only [Ou.on_ret] at hO6
     obtain rfl := som_inj hO6
     repeat refine awp_seq ?_
     refine awp_ret ?_
     repeat first | refine then_ret ?_ | refine blk_ret ?_
     exact rtp
   simp -implicitDefEqProofs (disch := first | omega | rfl) only [go_sem, simprocAttr, zr17_6, eq_false hc10, eq_false hc11, eq_false hc12, eq_false hc13, eq_false hc14, eq_false hc15, eq_false hc16, eq_false hc17, eq_false hc18, eq_false hc19]
   have hh := bnd_some h; clear h; obtain ⟨x20, hx21, h⟩ := hh
   refine call_pure hP (c28 N ((p1.Items[x5.toNat]!).Names) p2 x20 hx21) ?_
   simp -implicitDefEqProofs (disch := first | omega | rfl) only [go_sem, simprocAttr]
   refine hK _ _ ?_; clear hK hQ K Q
   rcases ite_some h with ⟨hc22, h⟩ | ⟨hc22, h⟩
   · repeat refine awp_seq ?_
     refine awp_then (by simp -implicitDefEqProofs (disch := first | omega | rfl) only [go_sem, simprocAttr, eq_true hc22]) ?_
     repeat refine awp_seq ?_
     refine rg (h := ?_)
     obtain rfl := som_inj h
     try dsimp only at hm6
     subst hm6
     simp only [Ou.on_ret] at hO6
     obtain rfl := som_inj hO6
     repeat refine awp_seq ?_
     refine awp_ret ?_
     repeat first | refine then_ret ?_ | refine blk_ret ?_
     exact rtp
   repeat refine awp_seq ?_
   refine awp_else (by simp -implicitDefEqProofs (disch := first | omega | rfl) only [go_sem, simprocAttr, eq_false hc22]) ?_
   repeat refine awp_seq ?_
   refine awp_skip ?_
   repeat refine awp_seq ?_
   refine rg (h := ?_)
   repeat refine awp_seq ?_
   refine awp_block ?_
   obtain ⟨o24, ho24, hO24⟩ := bnd_some h
   repeat refine awp_seq ?_
   refine awp_loop (ι := {p : Nat × Int // iter (fun p => s17_b1 N p1 p2 x5 p) p.1 p.2 = some o24}) (fun p => [(1, .str p2), (2, .ptr 2 b1 0), (5, .int .i64 x5), (6, .ptr 6 b9 0), (7, .int .i64 p.1.2)]) (fun p => (2, b1, .cells (Item.cs p1)) :: (6, b9, .cells (Item.cs (p1.Items[x5.toNat]!))) :: []) (fun p => p.1.1) ⟨⟨N, 0⟩, ho24⟩ ?_ ?_
   · refine ent_le' ([]) (_ :: _ :: []) (_ :: _ :: []) rfl (List.Perm.trans perm_cc (List.Perm.refl _)) ?_ ?_
     · simp -implicitDefEqProofs (disch := first | omega | rfl) only [go_sem, simprocAttr, subF_cons, subF_nil]
       exact ⟨(.keep _), (.lptr ..), (.keep _), (.lptr ..), (.keep _)⟩
     · exact (.cell (.cell .nil))
   rintro ⟨⟨n24, x23⟩, hi24⟩
   obtain ⟨m24, q24, rfl, h, hm24⟩ := iter_some hi24
   try dsimp only at h
   try dsimp only
   unfold s17_b1 at h
   repeat refine awp_seq ?_
   refine rg (h := ?_)
   rcases ite_some h with ⟨hc25, h⟩ | ⟨hc25, h⟩
   · repeat refine awp_seq ?_
     refine awp_then (by simp -implicitDefEqProofs (disch := first | omega | rfl) only [go_sem, simprocAttr, eq_true hc25]) ?_
     repeat refine awp_seq ?_
     refine awp_skip ?_
     repeat refine awp_seq ?_
     refine awp_block ?_
     repeat refine awp_seq ?_
     refine awp_reg fun K Q hK hQ => ?_
     obtain ⟨hg26, h⟩ := grd_some h
     rcases ite_some h with ⟨hc27, h⟩ | ⟨hc27, h⟩
     · simp -implicitDefEqProofs (disch := first | omega | rfl) only [go_sem, simprocAttr, zr17_10, eq_true hc25, eq_true hg26, eq_true hc27]
       refine hK _ _ ?_; clear hK hQ K Q
       repeat refine awp_seq ?_
       refine awp_then (by rfl) ?_
       repeat refine awp_seq ?_
       refine rg (h := ?_)
       obtain rfl := som_inj h
       try dsimp only at hm24
       subst hm24
       simp only [Ou.on_ret] at hO24
       obtain rfl := som_inj hO24
       try dsimp only at hm6
       subst hm6
       simp only [Ou.on_ret] at hO6
       obtain rfl := som_inj hO6
       repeat refine awp_seq ?_
       refine awp_ret ?_
       repeat first | refine then_ret ?_ | refine blk_ret ?_
       exact rtp
     simp -implicitDefEqProofs (disch := first | omega | rfl) only [go_sem, simprocAttr, zr17_10, eq_true hc25, eq_true hg26, eq_false hc27]
     have hh := bnd_some h; clear h; obtain ⟨x28, hx29, h⟩ := hh
     refine call_pure hP (c29 N ((((p1.Items[x5.toNat]!).Conds)[x23.toNat]!).Name) x28 hx29) ?_
     simp -implicitDefEqProofs (disch := first | omega | rfl) only [go_sem, simprocAttr]
     refine hK _ _ ?_; clear hK hQ K Q
     rcases ite_some h with ⟨hc30, h⟩ | ⟨hc30, h⟩
     · repeat refine awp_seq ?_
       refine awp_then (by simp -implicitDefEqProofs (disch := first | omega | rfl) only [go_sem, simprocAttr, eq_true hc30]) ?_
       repeat refine awp_seq ?_
       refine rg (h := ?_)
       obtain rfl := som_inj h
       try dsimp only at hm24
       subst hm24
       simp only [Ou.on_ret] at hO24
       obtain rfl := som_inj hO24
       try dsimp only at hm6
       subst hm6
       simp only [Ou.on_ret] at hO6
       obtain rfl := som_inj hO6
       repeat refine awp_seq ?_
       refine awp_ret ?_
       repeat first | refine then_ret ?_ | refine blk_ret ?_
       exact rtp
     repeat refine awp_seq ?_
     refine awp_else (by simp -implicitDefEqProofs (disch := first | omega | rfl) only [go_sem, simprocAttr, eq_false hc30]) ?_
     repeat refine awp_seq ?_
     refine awp_skip ?_
     repeat refine awp_seq ?_
     refine rg (h := ?_)
     obtain rfl := som_inj h
     try dsimp only at hm24
     refine ⟨⟨⟨m24, IntKind.wrap .i64 (x23 + 1)⟩, hm24⟩, Nat.lt_succ_self _, ?_⟩
     refine ent_le' ([]) (_ :: _ :: []) (_ :: _ :: []) rfl (List.Perm.refl _) ?_ ?_
     · simp -implicitDefEqProofs (disch := first | omega | rfl) only [go_sem, simprocAttr, subF_cons, subF_nil]
       exact ⟨(.keep _), (.lptr ..), (.keep _), (.lptr ..), (.keep _)⟩
     · exact (.cell (.cell .nil))
   repeat refine awp_seq ?_
   refine awp_else (by simp -implicitDefEqProofs (disch := first | omega | rfl) only [go_sem, simprocAttr, eq_false hc25]) ?_
   repeat refine awp_seq ?_
   refine awp_exit ?_
   repeat' (first | refine then_exit ?_ | refine exit_here ?_ | refine exit_on rfl ?_)
   obtain rfl := som_inj h
   try dsimp only at hm24
   subst hm24
   simp only [Ou.on_brk] at hO24
   repeat refine awp_seq ?_
   refine rg (h := ?_)
   obtain rfl := som_inj hO24
   try dsimp only at hm6
   refine ⟨⟨⟨m6, IntKind.wrap .i64 (x5 + 1)⟩, hm6⟩, Nat.lt_succ_self _, ?_⟩
   refine ent_le' ([]) (_ :: _ :: []) (_ :: _ :: []) rfl (List.Perm.refl _) ?_ ?_
   · simp -implicitDefEqProofs (disch := first | omega | rfl) only [go_sem, simprocAttr, subF_cons, subF_nil]
     exact ⟨(.keep _), (.lptr ..), (.keep _)⟩
   · exact (.cell (.drop .nil))
 repeat refine awp_seq ?_
 refine awp_else (by simp -implicitDefEqProofs (disch := first | omega | rfl) only [go_sem, simprocAttr, eq_false hc7]) ?_
 repeat refine awp_seq ?_
 refine awp_exit ?_
 repeat' (first | refine then_exit ?_ | refine exit_here ?_ | refine exit_on rfl ?_)
 obtain rfl := som_inj h
 try dsimp only at hm6
 subst hm6
 simp only [Ou.on_brk] at hO6
 repeat refine awp_seq ?_
 refine rg (h := ?_)
 obtain rfl := som_inj hO6
 repeat refine awp_seq ?_
 refine awp_ret ?_
 repeat first | refine then_ret ?_ | refine blk_ret ?_
 exact rtp
def zr30_0 : List AO := [⟨some 6, none, .mov (.c (.str []))⟩]
def zr30_1 : List AO := [⟨some 7, none, .mov (.t 0)⟩,
  ⟨some 8, none, .mov (.t 1)⟩,
  ⟨some 9, none, .bin .eql (.t 7) (.t 8)⟩,
  ⟨some 10, none, .mov (.t 9)⟩,
  ⟨some 11, some (10, true), .mov (.t 0)⟩,
  ⟨some 12, some (10, true), .bin .neq (.t 11) (.c (.str []))⟩,
  ⟨some 13, none, .pick (.t 10) (.t 12) (.c (.bool false))⟩]
def zr30_2 : List AO := [⟨some 14, none, .mov (.t 2)⟩,
  ⟨some 6, none, .mov (.t 14)⟩]
def zc30_0 : AC := .seq (.reg zr30_2) .ret
def zc30_1 : AC := .cond (.t 13) zc30_0 .skip
def zr30_3 : List AO := [⟨some 15, none, .mov (.t 0)⟩,
  ⟨some 6, none, .mov (.t 15)⟩]
def zc30_2 : AC := .seq (.reg zr30_3) .ret
def zc30_3 : AC := .seq (.seq (.reg zr30_1) zc30_1) zc30_2
def zc30_4 : AC := .seq (.reg zr30_0) zc30_3
def zc30 : AC := zc30_4
theorem ok30 : Try.f30.body.bind (compCode Try.prog 16) = some zc30 := by kernel_rfl
theorem nt30 : Try.f30.ntmps = 16 := by kernel_rfl
theorem res30 : compRes Try.prog Try.f30.results.toList = some [.tmp 6] := by kernel_rfl
attribute [go_sem] zr30_0 zr30_1 zr30_2 zr30_3
def s30 (N : Nat) (p1 : List UInt8) (p2 : List UInt8) (p3 : List UInt8) : Option ((List UInt8)) :=
  if p1 = p2 then
    if p1 = [] then
      some p1
    else
      some p3
  else
    some p1
set_option maxHeartbeats 4000000 in
theorem c30 (N : Nat) (p1 : List UInt8) (p2 : List UInt8) (p3 : List UInt8) (r : (List UInt8)) (h : s30 N p1 p2 p3 = some r) : PureC Try.prog 30 [.str p1, .str p2, .str p3] (.str r) := by
 refine fn_intro' 16 Try.func30 nt30 ok30 res30 (by simp) fun X hP hn hd hr => ?_
 unfold s30 at h
 repeat refine awp_seq ?_
 refine rg (h := ?_)
 repeat refine awp_seq ?_
 rcases ite_some h with ⟨hc1, h⟩ | ⟨hc1, h⟩
 · refine rgf (eq_true hc1) ?_
   rcases ite_some h with ⟨hc2, h⟩ | ⟨hc2, h⟩
   · repeat refine awp_seq ?_
     refine awp_else (by simp -implicitDefEqProofs (disch := first | omega | rfl) only [go_sem, simprocAttr, eq_true hc2]) ?_
     repeat refine awp_seq ?_
     refine awp_skip ?_
     repeat refine awp_seq ?_
     refine rg (h := ?_)
     obtain rfl := som_inj h
     repeat refine awp_seq ?_
     refine awp_ret ?_
     repeat first | refine then_ret ?_ | refine blk_ret ?_
     exact rtp
   repeat refine awp_seq ?_
   refine awp_then (by simp -implicitDefEqProofs (disch := first | omega | rfl) only [go_sem, simprocAttr, eq_false hc2]) ?_
   repeat refine awp_seq ?_
   refine rg (h := ?_)
   obtain rfl := som_inj h
   repeat refine awp_seq ?_
   refine awp_ret ?_
   repeat first | refine then_ret ?_ | refine blk_ret ?_
   exact rtp
 refine rgf (eq_false hc1) ?_
 repeat refine awp_seq ?_
 refine awp_else (by rfl) ?_
 repeat refine awp_seq ?_
 refine awp_skip ?_
 repeat refine awp_seq ?_
 refine rg (h := ?_)
 obtain rfl := som_inj h
 repeat refine awp_seq ?_
 refine awp_ret ?_
 repeat first | refine then_ret ?_ | refine blk_ret ?_
 exact rtp
def zr13_0 : List AO := [⟨some 2, none, .mov (.c (.bool false))⟩]
def zr13_1 : List AO := [⟨some 3, none, .mov (.t 0)⟩,
  ⟨some 4, none, .bin .eql (.t 3) (.c (.int .i64 9))⟩,
  ⟨some 5, none, .mov (.t 4)⟩,
  ⟨some 6, some (5, false), .mov (.t 0)⟩,
  ⟨some 7, some (5, false), .bin .eql (.t 6) (.c (.int .i64 10))⟩,
  ⟨some 8, none, .pick (.t 5) (.c (.bool true)) (.t 7)⟩,
  ⟨some 9, none, .mov (.t 8)⟩,
  ⟨some 10, some (9, false), .mov (.t 0)⟩,
  ⟨some 11, some (9, false), .bin .eql (.t 10) (.c (.int .i64 11))⟩,
  ⟨some 12, none, .pick (.t 9) (.c (.bool true)) (.t 11)⟩,
  ⟨some 13, none, .mov (.t 12)⟩,
  ⟨some 14, some (13, false), .mov (.t 0)⟩,
  ⟨some 15, some (13, false), .bin .eql (.t 14) (.c (.int .i64 12))⟩,
  ⟨some 16, none, .pick (.t 13) (.c (.bool true)) (.t 15)⟩,
  ⟨some 2, none, .mov (.t 16)⟩]
def zc13_0 : AC := .seq (.reg zr13_1) .ret
def zc13_1 : AC := .seq (.reg zr13_0) zc13_0
def zc13 : AC := zc13_1
theorem ok13 : Try.f13.body.bind (compCode Try.prog 17) = some zc13 := by kernel_rfl
theorem nt13 : Try.f13.ntmps = 17 := by kernel_rfl
theorem res13 : compRes Try.prog Try.f13.results.toList = some [.tmp 2] := by kernel_rfl
attribute [go_sem] zr13_0 zr13_1
def s13 (N : Nat) (p1 : Int) : Option Bool :=
  if p1 = 9 then
    some true
  else
    if p1 = 10 then
      some true
    else
      if p1 = 11 then
        some true
      else
        some (decide (p1 = 12))
set_option maxHeartbeats 4000000 in
theorem c13 (N : Nat) (p1 : Int) (r : Bool) (h : s13 N p1 = some r) : PureC Try.prog 13 [.int .i64 p1] (.bool r) := by
 refine fn_intro' 17 Try.func13 nt13 ok13 res13 (by simp) fun X hP hn hd hr => ?_
 unfold s13 at h
 repeat refine awp_seq ?_
 refine rg (h := ?_)
 repeat refine awp_seq ?_
 rcases ite_some h with ⟨hc1, h⟩ | ⟨hc1, h⟩
 · refine rgf (eq_true hc1) ?_
   obtain rfl := som_inj h
   repeat refine awp_seq ?_
   refine awp_ret ?_
   repeat first | refine then_ret ?_ | refine blk_ret ?_
   exact rtp
 rcases ite_some h with ⟨hc2, h⟩ | ⟨hc2, h⟩
 · refine rgf (And.intro (eq_false hc1) (eq_true hc2)) ?_
   obtain rfl := som_inj h
   repeat refine awp_seq ?_
   refine awp_ret ?_
   repeat first | refine then_ret ?_ | refine blk_ret ?_
   exact rtp
 rcases ite_some h with ⟨hc3, h⟩ | ⟨hc3, h⟩
 · refine rgf (And.intro (eq_false hc1) (And.intro (eq_false hc2) (eq_true hc3))) ?_
   obtain rfl := som_inj h
   repeat refine awp_seq ?_
   refine awp_ret ?_
   repeat first | refine then_ret ?_ | refine blk_ret ?_
   exact rtp
 refine rgf (And.intro (eq_false hc1) (And.intro (eq_false hc2) (eq_false hc3))) ?_
 obtain rfl := som_inj h
 repeat refine awp_seq ?_
 refine awp_ret ?_
 repeat first | refine then_ret ?_ | refine blk_ret ?_
 exact rtp
end Go.Proofs.Inc
namespace Go.Proofs.Inc
open Go.Aw
set_option maxRecDepth 100000
attribute [-go_sem] nisA_sl appA_nil
def zr18_0 : List AO := [⟨some 3, none, .box (.t 0)⟩,
  ⟨some 6, none, .alloc [.int .i64 0, .str [], .int .i64 0, .str [], .str [], .int .i64 0, .int .i64 0, .int .i64 0, .bool false, .str [], .int .i64 0, .bool false, .str [], .nil, .str [], .str [], .int .i64 0, .int .i64 0, .str [], .str [], .bool false, .str [], .str [], .bool false, .bool false, .bool false, .bool false, .bool false, .bool false, .bool false, .nil, .nil, .nil]⟩]
def zr18_1 : List AO := [⟨some 15, none, .load true 33 (.t 3)⟩,
  ⟨some 7, none, .alloc [.int .i64 0, .str [], .int .i64 0, .str [], .str [], .int .i64 0, .int .i64 0, .int .i64 0, .bool false, .str [], .int .i64 0, .bool false, .str [], .nil, .str [], .str [], .int .i64 0, .int .i64 0, .str [], .str [], .bool false, .str [], .str [], .bool false, .bool false, .bool false, .bool false, .bool false, .bool false, .bool false, .nil, .nil, .nil]⟩,
  ⟨none, none, .store 33 (.t 7) (.t 15)⟩]
def zr18_2 : List AO := [⟨some 16, none, .fadr 31 (.t 7)⟩,
  ⟨none, none, .store 1 (.t 16) (.c (.nil))⟩]
def zr18_3 : List AO := [⟨some 8, none, .mov (.c (.int .i64 0))⟩]
def zr18_4 : List AO := [⟨some 17, none, .mov (.t 8)⟩,
  ⟨some 18, none, .fadr 31 (.t 3)⟩,
  ⟨some 19, none, .load false 1 (.t 18)⟩,
  ⟨some 20, none, .len (.t 19)⟩,
  ⟨some 21, none, .bin .lss (.t 17) (.t 20)⟩]
def zc18_0 : AC := .cond (.t 21) .skip (.exit 0)
def zr18_5 : DT := (.pur ⟨some 24, none, .fadr 31 (.t 7)⟩ (.pur ⟨some 25, none, .load false 1 (.t 24)⟩ (.pur ⟨some 26, none, .fadr 31 (.t 3)⟩ (.pur ⟨some 27, none, .load false 1 (.t 26)⟩ (.pur ⟨some 28, none, .mov (.t 8)⟩ (.pur ⟨some 29, none, .iadr 1 (.t 27) (.t 28)⟩ (.pur ⟨some 30, none, .load false 1 (.t 29)⟩ (.pur ⟨some 31, none, .mov (.t 1)⟩ (.alt false ⟨some 32, none, .mov (.t 2)⟩ (.alt false ⟨some 33, none, .callF 30 [(.t 30), (.t 31), (.t 32)]⟩ (.alt false ⟨some 34, none, .mkrow 1 1 [.str []] [(0, 1, (.t 33))]⟩ (.alt false ⟨some 35, none, .app 1 16 (.t 25) (.t 34)⟩ (.alt false ⟨some 36, none, .fadr 31 (.t 7)⟩ (.alt true ⟨none, none, .store 1 (.t 36) (.t 35)⟩ .done .stop) .stop) .stop) .stop) .stop) .stop)))))))))
def zc18_1 : AC := .regD zr18_5
def zr18_6 : List AO := [⟨some 22, none, .mov (.t 8)⟩,
  ⟨some 23, none, .bin .add (.t 22) (.c (.int .i64 1))⟩,
  ⟨some 8, none, .mov (.t 23)⟩]
def zc18_2 : AC := .reg zr18_6
def zc18_3 : AC := .seq (.block 1 zc18_1) zc18_2
def zc18_4 : AC := .seq (.seq (.reg zr18_4) zc18_0) zc18_3
def zc18_5 : AC := .loop zc18_4
def zc18_6 : AC := .block 0 zc18_5
def zr18_7 : List AO := [⟨some 37, none, .fadr 32 (.t 7)⟩,
  ⟨none, none, .store 1 (.t 37) (.c (.nil))⟩]
def zr18_8 : List AO := [⟨some 9, none, .mov (.c (.int .i64 0))⟩]
def zr18_9 : List AO := [⟨some 38, none, .mov (.t 9)⟩,
  ⟨some 39, none, .fadr 32 (.t 3)⟩,
  ⟨some 40, none, .load false 1 (.t 39)⟩,
  ⟨some 41, none, .len (.t 40)⟩,
  ⟨some 42, none, .bin .lss (.t 38) (.t 41)⟩]
def zc18_7 : AC := .cond (.t 42) .skip (.exit 2)
def zr18_10 : List AO := [⟨some 45, none, .fadr 32 (.t 3)⟩,
  ⟨some 46, none, .load false 1 (.t 45)⟩,
  ⟨some 47, none, .mov (.t 9)⟩,
  ⟨some 48, none, .iadr 33 (.t 46) (.t 47)⟩,
  ⟨some 49, none, .load true 33 (.t 48)⟩,
  ⟨some 10, none, .alloc [.int .i64 0, .str [], .int .i64 0, .str [], .str [], .int .i64 0, .int .i64 0, .int .i64 0, .bool false, .str [], .int .i64 0, .bool false, .str [], .nil, .str [], .str [], .int .i64 0, .int .i64 0, .str [], .str [], .bool false, .str [], .str [], .bool false, .bool false, .bool false, .bool false, .bool false, .bool false, .bool false, .nil, .nil, .nil]⟩,
  ⟨none, none, .store 33 (.t 10) (.t 49)⟩]
def zr18_11 : List AO := [⟨some 50, none, .fadr 0 (.t 10)⟩,
  ⟨some 51, none, .load false 1 (.t 50)⟩,
  ⟨some 52, none, .callF 13 [(.t 51)]⟩]
def zr18_12 : List AO := [⟨some 53, none, .fadr 3 (.t 10)⟩,
  ⟨some 54, none, .load false 1 (.t 53)⟩,
  ⟨some 55, none, .mov (.t 1)⟩,
  ⟨some 56, none, .mov (.t 2)⟩,
  ⟨some 57, none, .callF 30 [(.t 54), (.t 55), (.t 56)]⟩,
  ⟨some 58, none, .fadr 3 (.t 10)⟩,
  ⟨none, none, .store 1 (.t 58) (.t 57)⟩]
def zr18_13 : List AO := [⟨some 59, none, .fadr 4 (.t 10)⟩,
  ⟨some 60, none, .load false 1 (.t 59)⟩,
  ⟨some 61, none, .mov (.t 1)⟩,
  ⟨some 62, none, .mov (.t 2)⟩,
  ⟨some 63, none, .callF 30 [(.t 60), (.t 61), (.t 62)]⟩,
  ⟨some 64, none, .fadr 4 (.t 10)⟩,
  ⟨none, none, .store 1 (.t 64) (.t 63)⟩]
def zr18_14 : List AO := [⟨some 65, none, .fadr 14 (.t 10)⟩,
  ⟨some 66, none, .load false 1 (.t 65)⟩,
  ⟨some 67, none, .mov (.t 1)⟩,
  ⟨some 68, none, .mov (.t 2)⟩,
  ⟨some 69, none, .callF 30 [(.t 66), (.t 67), (.t 68)]⟩,
  ⟨some 70, none, .fadr 14 (.t 10)⟩,
  ⟨none, none, .store 1 (.t 70) (.t 69)⟩]
def zr18_15 : List AO := [⟨some 71, none, .fadr 15 (.t 10)⟩,
  ⟨some 72, none, .load false 1 (.t 71)⟩,
  ⟨some 73, none, .mov (.t 1)⟩,
  ⟨some 74, none, .mov (.t 2)⟩,
  ⟨some 75, none, .callF 30 [(.t 72), (.t 73), (.t 74)]⟩,
  ⟨some 76, none, .fadr 15 (.t 10)⟩,
  ⟨none, none, .store 1 (.t 76) (.t 75)⟩]
def zr18_16 : List AO := [⟨some 77, none, .fadr 18 (.t 10)⟩,
  ⟨some 78, none, .load false 1 (.t 77)⟩,
  ⟨some 79, none, .mov (.t 1)⟩,
  ⟨some 80, none, .mov (.t 2)⟩,
  ⟨some 81, none, .callF 30 [(.t 78), (.t 79), (.t 80)]⟩,
  ⟨some 82, none, .fadr 18 (.t 10)⟩,
  ⟨none, none, .store 1 (.t 82) (.t 81)⟩]
def zr18_17 : List AO := [⟨some 83, none, .fadr 19 (.t 10)⟩,
  ⟨some 84, none, .load false 1 (.t 83)⟩,
  ⟨some 85, none, .mov (.t 1)⟩,
  ⟨some 86, none, .mov (.t 2)⟩,
  ⟨some 87, none, .callF 30 [(.t 84), (.t 85), (.t 86)]⟩,
  ⟨some 88, none, .fadr 19 (.t 10)⟩,
  ⟨none, none, .store 1 (.t 88) (.t 87)⟩]
def zr18_18 : List AO := [⟨some 89, none, .fadr 22 (.t 10)⟩,
  ⟨some 90, none, .load false 1 (.t 89)⟩,
  ⟨some 91, none, .mov (.t 1)⟩,
  ⟨some 92, none, .mov (.t 2)⟩,
  ⟨some 93, none, .callF 30 [(.t 90), (.t 91), (.t 92)]⟩,
  ⟨some 94, none, .fadr 22 (.t 10)⟩,
  ⟨none, none, .store 1 (.t 94) (.t 93)⟩]
def zr18_19 : List AO := [⟨some 95, none, .fadr 7 (.t 10)⟩,
  ⟨some 96, none, .fadr 2 (.t 95)⟩,
  ⟨some 97, none, .load false 1 (.t 96)⟩,
  ⟨some 98, none, .mov (.t 1)⟩,
  ⟨some 99, none, .mov (.t 2)⟩,
  ⟨some 100, none, .callF 30 [(.t 97), (.t 98), (.t 99)]⟩,
  ⟨some 101, none, .fadr 7 (.t 10)⟩,
  ⟨some 102, none, .fadr 2 (.t 101)⟩,
  ⟨none, none, .store 1 (.t 102) (.t 100)⟩]
def zr18_20 : List AO := [⟨some 103, none, .fadr 10 (.t 10)⟩,
  ⟨some 104, none, .fadr 2 (.t 103)⟩,
  ⟨some 105, none, .load false 1 (.t 104)⟩,
  ⟨some 106, none, .mov (.t 1)⟩,
  ⟨some 107, none, .mov (.t 2)⟩,
  ⟨some 108, none, .callF 30 [(.t 105), (.t 106), (.t 107)]⟩,
  ⟨some 109, none, .fadr 10 (.t 10)⟩,
  ⟨some 110, none, .fadr 2 (.t 109)⟩,
  ⟨none, none, .store 1 (.t 110) (.t 108)⟩]
def zr18_21 : List AO := [⟨some 11, none, .mov (.c (.nil))⟩]
def zr18_22 : List AO := [⟨some 12, none, .mov (.c (.int .i64 0))⟩]
def zr18_23 : List AO := [⟨some 111, none, .mov (.t 12)⟩,
  ⟨some 112, none, .fadr 13 (.t 10)⟩,
  ⟨some 113, none, .load false 1 (.t 112)⟩,
  ⟨some 114, none, .len (.t 113)⟩,
  ⟨some 115, none, .bin .lss (.t 111) (.t 114)⟩]
def zc18_8 : AC := .cond (.t 115) .skip (.exit 4)
def zr18_24 : DT := (.pur ⟨some 118, none, .mov (.t 11)⟩ (.pur ⟨some 119, none, .fadr 13 (.t 10)⟩ (.pur ⟨some 120, none, .load false 1 (.t 119)⟩ (.pur ⟨some 121, none, .mov (.t 12)⟩ (.pur ⟨some 122, none, .iadr 2 (.t 120) (.t 121)⟩ (.pur ⟨some 123, none, .fadr 0 (.t 122)⟩ (.pur ⟨some 124, none, .load false 1 (.t 123)⟩ (.pur ⟨some 125, none, .mov (.t 1)⟩ (.pur ⟨some 126, none, .mov (.t 2)⟩ (.pur ⟨some 128, none, .fadr 13 (.t 10)⟩ (.pur ⟨some 129, none, .load false 1 (.t 128)⟩ (.pur ⟨some 130, none, .mov (.t 12)⟩ (.pur ⟨some 131, none, .iadr 2 (.t 129) (.t 130)⟩ (.pur ⟨some 132, none, .fadr 1 (.t 131)⟩ (.pur ⟨some 133, none, .load false 1 (.t 132)⟩ (.alt false ⟨some 127, none, .callF 30 [(.t 124), (.t 125), (.t 126)]⟩ (.alt false ⟨some 134, none, .bld [.str [], .int .i64 0] [(0, 1, (.t 127)), (1, 1, (.t 133))]⟩ (.alt false ⟨some 135, none, .mkrow 2 1 [.str [], .int .i64 0] [(0, 2, (.t 134))]⟩ (.alt false ⟨some 136, none, .app 2 24 (.t 118) (.t 135)⟩ (.alt true ⟨some 11, none, .mov (.t 136)⟩ .done .stop) .stop) .stop) .stop) .stop))))))))))))))))
def zc18_9 : AC := .regD zr18_24
def zr18_25 : List AO := [⟨some 116, none, .mov (.t 12)⟩,
  ⟨some 117, none, .bin .add (.t 116) (.c (.int .i64 1))⟩,
  ⟨some 12, none, .mov (.t 117)⟩]
def zc18_10 : AC := .reg zr18_25
def zc18_11 : AC := .seq (.block 5 zc18_9) zc18_10
def zc18_12 : AC := .seq (.seq (.reg zr18_23) zc18_8) zc18_11
def zc18_13 : AC := .loop zc18_12
def zc18_14 : AC := .block 4 zc18_13
def zr18_26 : List AO := [⟨some 137, none, .mov (.t 11)⟩,
  ⟨some 138, none, .fadr 13 (.t 10)⟩,
  ⟨none, none, .store 1 (.t 138) (.t 137)⟩]
def zc18_15 : AC := .reg zr18_26
def zc18_16 : AC := .seq (.seq (.reg zr18_22) zc18_14) zc18_15
def zc18_17 : AC := .seq (.reg zr18_21) zc18_16
def zc18_18 : AC := .seq (.reg zr18_20) zc18_17
def zc18_19 : AC := .seq (.reg zr18_19) zc18_18
def zc18_20 : AC := .seq (.reg zr18_18) zc18_19
def zc18_21 : AC := .seq (.reg zr18_17) zc18_20
def zc18_22 : AC := .seq (.reg zr18_16) zc18_21
def zc18_23 : AC := .seq (.reg zr18_15) zc18_22
def zc18_24 : AC := .seq (.reg zr18_14) zc18_23
def zc18_25 : AC := .seq (.reg zr18_13) zc18_24
def zc18_26 : AC := .seq (.reg zr18_12) zc18_25
def zc18_27 : AC := .cond (.t 52) zc18_26 .skip
def zr18_27 : List AO := [⟨some 139, none, .fadr 0 (.t 10)⟩,
  ⟨some 140, none, .load false 1 (.t 139)⟩,
  ⟨some 141, none, .bin .eql (.t 140) (.c (.int .i64 14))⟩]
def zr18_28 : List AO := [⟨some 13, none, .mov (.c (.nil))⟩]
def zr18_29 : List AO := [⟨some 14, none, .mov (.c (.int .i64 0))⟩]
def zr18_30 : List AO := [⟨some 142, none, .mov (.t 14)⟩,
  ⟨some 143, none, .fadr 31 (.t 10)⟩,
  ⟨some 144, none, .load false 1 (.t 143)⟩,
  ⟨some 145, none, .len (.t 144)⟩,
  ⟨some 146, none, .bin .lss (.t 142) (.t 145)⟩]
def zc18_28 : AC := .cond (.t 146) .skip (.exit 6)
def zr18_31 : List AO := [⟨some 149, none, .mov (.t 13)⟩,
  ⟨some 150, none, .fadr 31 (.t 10)⟩,
  ⟨some 151, none, .load false 1 (.t 150)⟩,
  ⟨some 152, none, .mov (.t 14)⟩,
  ⟨some 153, none, .iadr 1 (.t 151) (.t 152)⟩,
  ⟨some 154, none, .load false 1 (.t 153)⟩,
  ⟨some 155, none, .mov (.t 1)⟩,
  ⟨some 156, none, .mov (.t 2)⟩,
  ⟨some 157, none, .callF 30 [(.t 154), (.t 155), (.t 156)]⟩,
  ⟨some 158, none, .mkrow 1 1 [.str []] [(0, 1, (.t 157))]⟩,
  ⟨some 159, none, .app 1 16 (.t 149) (.t 158)⟩,
  ⟨some 13, none, .mov (.t 159)⟩]
def zc18_29 : AC := .reg zr18_31
def zr18_32 : List AO := [⟨some 147, none, .mov (.t 14)⟩,
  ⟨some 148, none, .bin .add (.t 147) (.c (.int .i64 1))⟩,
  ⟨some 14, none, .mov (.t 148)⟩]
def zc18_30 : AC := .reg zr18_32
def zc18_31 : AC := .seq (.block 7 zc18_29) zc18_30
def zc18_32 : AC := .seq (.seq (.reg zr18_30) zc18_28) zc18_31
def zc18_33 : AC := .loop zc18_32
def zc18_34 : AC := .block 6 zc18_33
def zr18_33 : List AO := [⟨some 160, none, .mov (.t 13)⟩,
  ⟨some 161, none, .fadr 31 (.t 10)⟩,
  ⟨none, none, .store 1 (.t 161) (.t 160)⟩]
def zc18_35 : AC := .reg zr18_33
def zc18_36 : AC := .seq (.seq (.reg zr18_29) zc18_34) zc18_35
def zc18_37 : AC := .seq (.reg zr18_28) zc18_36
def zc18_38 : AC := .cond (.t 141) zc18_37 .skip
def zr18_34 : List AO := [⟨some 162, none, .fadr 32 (.t 7)⟩,
  ⟨some 163, none, .load false 1 (.t 162)⟩,
  ⟨some 164, none, .load true 33 (.t 10)⟩,
  ⟨some 165, none, .mkrow 33 1 [.int .i64 0, .str [], .int .i64 0, .str [], .str [], .int .i64 0, .int .i64 0, .int .i64 0, .bool false, .str [], .int .i64 0, .bool false, .str [], .nil, .str [], .str [], .int .i64 0, .int .i64 0, .str [], .str [], .bool false, .str [], .str [], .bool false, .bool false, .bool false, .bool false, .bool false, .bool false, .bool false, .nil, .nil, .nil] [(0, 33, (.t 164))]⟩,
  ⟨some 166, none, .app 33 368 (.t 163) (.t 165)⟩,
  ⟨some 167, none, .fadr 32 (.t 7)⟩,
  ⟨none, none, .store 1 (.t 167) (.t 166)⟩]
def zc18_39 : AC := .reg zr18_34
def zc18_40 : AC := .seq (.seq (.reg zr18_27) zc18_38) zc18_39
def zc18_41 : AC := .seq (.seq (.reg zr18_11) zc18_27) zc18_40
def zc18_42 : AC := .seq (.reg zr18_10) zc18_41
def zr18_35 : List AO := [⟨some 43, none, .mov (.t 9)⟩,
  ⟨some 44, none, .bin .add (.t 43) (.c (.int .i64 1))⟩,
  ⟨some 9, none, .mov (.t 44)⟩]
def zc18_43 : AC := .reg zr18_35
def zc18_44 : AC := .seq (.block 3 zc18_42) zc18_43
def zc18_45 : AC := .seq (.seq (.reg zr18_9) zc18_7) zc18_44
def zc18_46 : AC := .loop zc18_45
def zc18_47 : AC := .block 2 zc18_46
def zr18_36 : List AO := [⟨some 168, none, .load true 33 (.t 7)⟩,
  ⟨none, none, .store 33 (.t 6) (.t 168)⟩]
def zc18_48 : AC := .seq (.reg zr18_36) .ret
def zc18_49 : AC := .seq (.seq (.reg zr18_8) zc18_47) zc18_48
def zc18_50 : AC := .seq (.reg zr18_7) zc18_49
def zc18_51 : AC := .seq (.seq (.reg zr18_3) zc18_6) zc18_50
def zc18_52 : AC := .seq (.reg zr18_2) zc18_51
def zc18_53 : AC := .seq (.reg zr18_1) zc18_52
def zc18_54 : AC := .seq (.reg zr18_0) zc18_53
def zc18 : AC := zc18_54
theorem ok18 : Try.f18.body.bind (compCode Try.prog 169) = some zc18 := by kernel_rfl
theorem nt18 : Try.f18.ntmps = 169 := by kernel_rfl
theorem res18 : compRes Try.prog Try.f18.results.toList = some [.cell true 33 6] := by kernel_rfl
attribute [go_sem] zr18_2 zr18_21 zr18_22 zr18_23 zr18_25 zr18_26 zr18_27 zr18_28 zr18_29 zr18_3 zr18_30 zr18_32 zr18_33 zr18_35 zr18_36 zr18_4 zr18_6 zr18_7 zr18_8 zr18_9
def s18_b1 (N : Nat) (p2 : List UInt8) (p3 : List UInt8) (x24 : Item) (l26 : List (List UInt8)) (x29 : Int) : Option ((((List (List UInt8)) × Int) ⊕ ((List (List UInt8))))) :=
  if x29 < (List.length x24.Names : Int) then
    grd (0 ≤ x29) <|
    (s30 N (x24.Names[x29.toNat]!) p2 p3).bind fun x36 =>
    grd ((List.length l26 + 1) * 16 ≤ 140737488355328 ∧ List.length l26 + 1 ≤ 140737488355328) <|
    some (.inl (l26 ++ [x36], IntKind.wrap .i64 (x29 + 1)))
  else
    some (.inr l26)
def s18_k2 (N : Nat) (p2 : List UInt8) (p3 : List UInt8) (l9 : List Item) (x12 : Int) (x24 : Item) : Option ((((List Item) × Int) ⊕ ((List Item)))) :=
  if x24.Kind = 14 then
    (iter (fun p => s18_b1 N p2 p3 x24 p.1 p.2) N ([], 0)).bind fun a30 =>
    grd ((List.length l9 + 1) * 368 ≤ 140737488355328 ∧ List.length l9 + 1 ≤ 140737488355328) <|
    some (.inl (l9 ++ [{ x24 with Names := a30 }], IntKind.wrap .i64 (x12 + 1)))
  else
    grd ((List.length l9 + 1) * 368 ≤ 140737488355328 ∧ List.length l9 + 1 ≤ 140737488355328) <|
    some (.inl (l9 ++ [x24], IntKind.wrap .i64 (x12 + 1)))
def s18_b3 (N : Nat) (p1 : Item) (p2 : List UInt8) (p3 : List UInt8) (x12 : Int) (l79 : List Named) (x82 : Int) : Option ((((List Named) × Int) ⊕ ((List Named)))) :=
  if x82 < (List.length ((p1.Items[x12.toNat]!).Conds) : Int) then
    grd (0 ≤ x82) <|
    (s30 N ((((p1.Items[x12.toNat]!).Conds)[x82.toNat]!).Name) p2 p3).bind fun x89 =>
    grd ((List.length l79 + 1) * 24 ≤ 140737488355328 ∧ List.length l79 + 1 ≤ 140737488355328) <|
    some (.inl (l79 ++ ([{ ((p1.Items[x12.toNat]!).Conds)[x82.toNat]! with Name := x89 }]), IntKind.wrap .i64 (x82 + 1)))
  else
    some (.inr l79)
def s18_b4 (N : Nat) (p1 : Item) (p2 : List UInt8) (p3 : List UInt8) (l9 : List Item) (x12 : Int) : Option ((((List Item) × Int) ⊕ ((List Item)))) :=
  if x12 < (List.length p1.Items : Int) then
    grd (0 ≤ x12) <|
    (s13 N ((p1.Items[x12.toNat]!).Kind)).bind fun x22 =>
    bif x22 then
      (s30 N ((p1.Items[x12.toNat]!).Of) p2 p3).bind fun x61 =>
      (s30 N ((p1.Items[x12.toNat]!).Act) p2 p3).bind fun x63 =>
      (s30 N ((p1.Items[x12.toNat]!).By) p2 p3).bind fun x65 =>
      (s30 N ((p1.Items[x12.toNat]!).Until) p2 p3).bind fun x67 =>
      (s30 N ((p1.Items[x12.toNat]!).Unit) p2 p3).bind fun x69 =>
      (s30 N ((p1.Items[x12.toNat]!).Sum) p2 p3).bind fun x71 =>
      (s30 N ((p1.Items[x12.toNat]!).To) p2 p3).bind fun x73 =>
      (s30 N (((p1.Items[x12.toNat]!).Within).Name) p2 p3).bind fun x75 =>
      (s30 N (((p1.Items[x12.toNat]!).Grace).Name) p2 p3).bind fun x77 =>
      (iter (fun p => s18_b3 N p1 p2 p3 x12 p.1 p.2) N ([], 0)).bind fun a83 =>
      s18_k2 N p2 p3 l9 x12 ({ p1.Items[x12.toNat]! with Of := x61, Act := x63, Within := { (p1.Items[x12.toNat]!).Within with Name := x75 }, Grace := { (p1.Items[x12.toNat]!).Grace with Name := x77 }, Conds := a83, By := x65, Until := x67, Unit := x69, Sum := x71, To := x73 })
    else
      s18_k2 N p2 p3 l9 x12 (p1.Items[x12.toNat]!)
  else
    some (.inr l9)
def s18_k5 (N : Nat) (p1 : Item) (p2 : List UInt8) (p3 : List UInt8) (l4 : List (List UInt8)) : Option Item :=
  (iter (fun p => s18_b4 N p1 p2 p3 p.1 p.2) N ([], 0)).bind fun a13 =>
  some ({ p1 with Names := l4, Items := a13 })
def s18_b6 (N : Nat) (p1 : Item) (p2 : List UInt8) (p3 : List UInt8) (l96 : List (List UInt8)) (x99 : Int) : Option ((((List (List UInt8)) × Int) ⊕ ((List (List UInt8))))) :=
  if x99 < (List.length p1.Names : Int) then
    grd (0 ≤ x99) <|
    (s30 N (p1.Names[x99.toNat]!) p2 p3).bind fun x106 =>
    grd ((List.length l96 + 1) * 16 ≤ 140737488355328 ∧ List.length l96 + 1 ≤ 140737488355328) <|
    some (.inl (l96 ++ [x106], IntKind.wrap .i64 (x99 + 1)))
  else
    some (.inr l96)
def s18 (N : Nat) (p1 : Item) (p2 : List UInt8) (p3 : List UInt8) : Option Item :=
  (iter (fun p => s18_b6 N p1 p2 p3 p.1 p.2) N ([], 0)).bind fun a100 =>
  s18_k5 N p1 p2 p3 a100
set_option maxHeartbeats 4000000 in
theorem c18 (N : Nat) (p1 : Item) (p2 : List UInt8) (p3 : List UInt8) (r : Item) (h : s18 N p1 p2 p3 = some r) : PureC Try.prog 18 [.agg (Item.cs p1), .str p2, .str p3] (.agg (Item.cs r)) := by
 refine fn_intro' 169 Try.func18 nt18 ok18 res18 (by simp) fun X hP hn hd hr => ?_
 unfold s18 at h
 repeat refine awp_seq ?_
 refine awp_reg fun K Q hK hQ => ?_
 simp -implicitDefEqProofs (disch := first | omega | rfl) only [go_sem, simprocAttr, zr18_0, argS]
 intro b1 b2
 refine hK _ _ ?_; clear hK hQ K Q
 repeat refine awp_seq ?_
 refine awp_reg fun K Q hK hQ => ?_
 simp -implicitDefEqProofs (disch := first | omega | rfl) only [go_sem, simprocAttr, zr18_1]
 intro b3
 refine hK _ _ ?_; clear hK hQ K Q
 repeat refine awp_seq ?_
 refine rg (by intro K Q; simp -implicitDefEqProofs (disch := first | omega | rfl) only [go_sem, simprocAttr, Item.cs_eq] <;> rfl) ?_
 repeat refine awp_seq ?_
 refine rg (h := ?_)
 repeat refine awp_seq ?_
 refine awp_cut (ι := {p : (List (List UInt8)) × (Option Nat) // s18_k5 N p1 p2 p3 p.1 = some r ∧ (p.2 = none → p.1 = [])}) (fun p => [(1, .str p2), (2, .str p3), (3, .ptr 3 b1 0), (6, .ptr 6 b2 0), (7, .ptr 7 b3 0)]) (fun p => (3, b1, .cells (Item.cs p1)) :: (6, b2, .cells ([.int .i64 0, .str [], .int .i64 0, .str [], .str [], .int .i64 0, .int .i64 0, .int .i64 0, .bool false, .str [], .int .i64 0, .bool false, .str [], .nil, .str [], .str [], .int .i64 0, .int .i64 0, .str [], .str [], .bool false, .str [], .str [], .bool false, .bool false, .bool false, .bool false, .bool false, .bool false, .bool false, .nil, .nil, .nil])) :: (7, b3, .cells ([.int .i64 p1.Kind, .str p1.Name, .int .i64 p1.At, .str p1.Of, .str p1.Act, .int .i64 p1.Word, .int .i64 p1.Times, .int .i64 p1.Within.Days, .bool p1.Within.Business, .str p1.Within.Name, .int .i64 p1.Grace.Days, .bool p1.Grace.Business, .str p1.Grace.Name, .sl (List.map Named.av p1.Conds), .str p1.By, .str p1.Until, .int .i64 p1.Num.Num, .int .i64 p1.Num.Den, .str p1.Unit, .str p1.Sum, .bool p1.Final, .str p1.Give, .str p1.To, .bool p1.Days.e0, .bool p1.Days.e1, .bool p1.Days.e2, .bool p1.Days.e3, .bool p1.Days.e4, .bool p1.Days.e5, .bool p1.Days.e6, .sl (List.map Civil.av p1.Dates), accV 501 p.1.2 (List.length p.1.1) 1, .sl (List.map Item.av p1.Items)])) :: accO 501 p.1.2 (flt AV.str p.1.1) []) ?_ ?_
 · repeat refine awp_seq ?_
   refine awp_block ?_
   obtain ⟨o100, ho100, hO100⟩ := bnd_some h
   repeat refine awp_seq ?_
   refine awp_loop (ι := {p : Nat × (List (List UInt8)) × (Option Nat) × Int // iter (fun p => s18_b6 N p1 p2 p3 p.1 p.2) p.1 (p.2.1, p.2.2.2) = some o100 ∧ (p.2.2.1 = none → p.2.1 = [])}) (fun p => [(1, .str p2), (2, .str p3), (3, .ptr 3 b1 0), (6, .ptr 6 b2 0), (7, .ptr 7 b3 0), (8, .int .i64 p.1.2.2.2)]) (fun p => (3, b1, .cells (Item.cs p1)) :: (6, b2, .cells ([.int .i64 0, .str [], .int .i64 0, .str [], .str [], .int .i64 0, .int .i64 0, .int .i64 0, .bool false, .str [], .int .i64 0, .bool false, .str [], .nil, .str [], .str [], .int .i64 0, .int .i64 0, .str [], .str [], .bool false, .str [], .str [], .bool false, .bool false, .bool false, .bool false, .bool false, .bool false, .bool false, .nil, .nil, .nil])) :: (7, b3, .cells ([.int .i64 p1.Kind, .str p1.Name, .int .i64 p1.At, .str p1.Of, .str p1.Act, .int .i64 p1.Word, .int .i64 p1.Times, .int .i64 p1.Within.Days, .bool p1.Within.Business, .str p1.Within.Name, .int .i64 p1.Grace.Days, .bool p1.Grace.Business, .str p1.Grace.Name, .sl (List.map Named.av p1.Conds), .str p1.By, .str p1.Until, .int .i64 p1.Num.Num, .int .i64 p1.Num.Den, .str p1.Unit, .str p1.Sum, .bool p1.Final, .str p1.Give, .str p1.To, .bool p1.Days.e0, .bool p1.Days.e1, .bool p1.Days.e2, .bool p1.Days.e3, .bool p1.Days.e4, .bool p1.Days.e5, .bool p1.Days.e6, .sl (List.map Civil.av p1.Dates), accV 510 p.1.2.2.1 (List.length p.1.2.1) 1, .sl (List.map Item.av p1.Items)])) :: accO 510 p.1.2.2.1 (flt AV.str p.1.2.1) []) (fun p => p.1.1) ⟨⟨N, [], none, 0⟩, ho100, (fun _ => rfl)⟩ ?_ ?_
   · refine ent_le' ([]) (_ :: _ :: _ :: []) (_ :: _ :: _ :: []) rfl (List.Perm.trans (List.Perm.cons _ perm_cc) (List.Perm.trans perm_cc ((List.Perm.cons _ (List.Perm.trans perm_cc (List.Perm.refl _)))))) ?_ ?_
     · simp -implicitDefEqProofs (disch := first | omega | rfl) only [go_sem, simprocAttr, subF_cons, subF_nil]
       exact ⟨(.keep _), (.keep _), (.lptr ..), (.lptr ..), (.lptr ..), (.keep _)⟩
     · exact (.cells (by rw [Item.cs_eq]; exact (.cons (.keep _) (.cons (.keep _) (.cons (.keep _) (.cons (.keep _) (.cons (.keep _) (.cons (.keep _) (.cons (.keep _) (.cons (.keep _) (.cons (.keep _) (.cons (.keep _) (.cons (.keep _) (.cons (.keep _) (.cons (.keep _) (.cons (.keep _) (.cons (.keep _) (.cons (.keep _) (.cons (.keep _) (.cons (.keep _) (.cons (.keep _) (.cons (.keep _) (.cons (.keep _) (.cons (.keep _) (.cons (.keep _) (.cons (.keep _) (.cons (.keep _) (.cons (.keep _) (.cons (.keep _) (.cons (.keep _) (.cons (.keep _) (.cons (.keep _) (.cons (.keep _) (.cons (.keep _) (.cons (.keep _) (.nil _))))))))))))))))))))))))))))))))))) (.cell (.cells (.cons (.keep _) (.cons (.keep _) (.cons (.keep _) (.cons (.keep _) (.cons (.keep _) (.cons (.keep _) (.cons (.keep _) (.cons (.keep _) (.cons (.keep _) (.cons (.keep _) (.cons (.keep _) (.cons (.keep _) (.cons (.keep _) (.cons (.keep _) (.cons (.keep _) (.cons (.keep _) (.cons (.keep _) (.cons (.keep _) (.cons (.keep _) (.cons (.keep _) (.cons (.keep _) (.cons (.keep _) (.cons (.keep _) (.cons (.keep _) (.cons (.keep _) (.cons (.keep _) (.cons (.keep _) (.cons (.keep _) (.cons (.keep _) (.cons (.keep _) (.cons (.keep _) (.cons (.keep _) (.cons (.keep _) (.nil _)))))))))))))))))))))))))))))))))) .nil)))
   rintro ⟨⟨n100, l96, bo97, x99⟩, hi100, hb98⟩
   obtain ⟨m100, q100, rfl, h, hm100⟩ := iter_some hi100
   try dsimp only at h
   try dsimp only
   unfold s18_b6 at h
   repeat refine awp_seq ?_
   refine rg (h := ?_)
   rcases ite_some h with ⟨hc104, h⟩ | ⟨hc104, h⟩
   · repeat refine awp_seq ?_
     refine awp_then (by simp -implicitDefEqProofs (disch := first | omega | rfl) only [go_sem, simprocAttr, eq_true hc104]) ?_
     repeat refine awp_seq ?_
     refine awp_skip ?_
     repeat refine awp_seq ?_
     refine awp_block ?_
     repeat refine awp_seq ?_
     refine awp_regD' (_ :: _ :: _ :: []) (accO _ _ _ []) (_ :: _ :: _ :: accO _ _ _ []) (by rw [hP]; exact mixed) rfl (List.Perm.refl _) fun K hK => ?_
     obtain ⟨hg105, h⟩ := grd_some h
     simp -implicitDefEqProofs (disch := first | omega | rfl) only [go_sem, simprocAttr, zr18_5, eq_true hc104, eq_true hg105]
     have hh := bnd_some h; clear h; obtain ⟨x106, hx107, h⟩ := hh
     refine call_pure hP (c30 N (p1.Names[x99.toNat]!) p2 p3 x106 hx107) ?_
     obtain ⟨⟨hg109, hg110⟩, h⟩ := grd_some h
     simp -implicitDefEqProofs (disch := first | omega | rfl) only [go_sem, simprocAttr, eq_true hg109, eq_true hg110]
     intro b108
     refine app_acc (f := AV.str) (l := l96) ((34, b108, .cells ([.str x106])) :: []) hb98 (by first | rfl | simp) (fun _ => rfl) (by intro b hb; subst hb; simp -implicitDefEqProofs (disch := first | omega | rfl) only [go_sem, simprocAttr]) (by intro b hb; subst hb; simp -implicitDefEqProofs (disch := first | omega | rfl) only [go_sem, simprocAttr]) (by intro hb; subst hb; simp -implicitDefEqProofs (disch := first | omega | rfl) only [go_sem, simprocAttr]) ?_
     simp -implicitDefEqProofs (disch := first | omega | rfl) only [go_sem, simprocAttr, eq_true hg109, eq_true hg110]
     intro bo111 hb112
     try simp -implicitDefEqProofs (disch := first | omega | rfl) only [go_sem, simprocAttr]
     refine hK _ _ ?_; clear hK K
     repeat refine awp_seq ?_
     refine rg (h := ?_)
     obtain rfl := som_inj h
     try dsimp only at hm100
     refine ⟨⟨⟨m100, l96 ++ [x106], bo111, IntKind.wrap .i64 (x99 + 1)⟩, hm100, (fun h => List.length_eq_zero_iff.1 (by simpa using hb112 h))⟩, Nat.lt_succ_self _, ?_⟩
     refine ent_le' ([]) (_ :: _ :: _ :: accO _ _ _ (_ :: [])) (_ :: _ :: _ :: accO _ _ _ (_ :: [])) rfl (List.Perm.refl _) ?_ ?_
     · simp -implicitDefEqProofs (disch := first | omega | rfl) only [go_sem, simprocAttr, subF_cons, subF_nil]
       exact ⟨(.keep _), (.keep _), (.lptr ..), (.lptr ..), (.lptr ..), (.keep _)⟩
     · exact (.cell (.cell (.cells (.cons (.keep _) (.cons (.keep _) (.cons (.keep _) (.cons (.keep _) (.cons (.keep _) (.cons (.keep _) (.cons (.keep _) (.cons (.keep _) (.cons (.keep _) (.cons (.keep _) (.cons (.keep _) (.cons (.keep _) (.cons (.keep _) (.cons (.keep _) (.cons (.keep _) (.cons (.keep _) (.cons (.keep _) (.cons (.keep _) (.cons (.keep _) (.cons (.keep _) (.cons (.keep _) (.cons (.keep _) (.cons (.keep _) (.cons (.keep _) (.cons (.keep _) (.cons (.keep _) (.cons (.keep _) (.cons (.keep _) (.cons (.keep _) (.cons (.keep _) (.cons (.keep _) (.cons (frz_lacc (by first | rfl | (simp; done) | ((try simp only [List.length_set, List.length_take]); omega))) (.cons (.keep _) (.nil _)))))))))))))))))))))))))))))))))) (.acc (FrzP.of_eq (by first | rfl | simp only [flt_app, flt_one, List.append_assoc])) (.drop .nil)))))
   repeat refine awp_seq ?_
   refine awp_else (by simp -implicitDefEqProofs (disch := first | omega | rfl) only [go_sem, simprocAttr, eq_false hc104]) ?_
   repeat refine awp_seq ?_
   refine awp_exit ?_
   repeat' (first | refine then_exit ?_ | refine exit_here ?_ | refine exit_on rfl ?_)
   obtain rfl := som_inj h
   try dsimp only at hm100
   subst hm100
   try dsimp only at hO100
   refine ⟨⟨⟨l96, bo97⟩, hO100, hb98⟩, ?_⟩
   refine ent_le' ([]) (_ :: _ :: _ :: accO _ _ _ []) (_ :: _ :: _ :: accO _ _ _ []) rfl (List.Perm.refl _) ?_ ?_
   · simp -implicitDefEqProofs (disch := first | omega | rfl) only [go_sem, simprocAttr, subF_cons, subF_nil]
     exact ⟨(.keep _), (.keep _), (.lptr ..), (.lptr ..), (.lptr ..)⟩
   · exact (.cell (.cell (.cells (.cons (.keep _) (.cons (.keep _) (.cons (.keep _) (.cons (.keep _) (.cons (.keep _) (.cons (.keep _) (.cons (.keep _) (.cons (.keep _) (.cons (.keep _) (.cons (.keep _) (.cons (.keep _) (.cons (.keep _) (.cons (.keep _) (.cons (.keep _) (.cons (.keep _) (.cons (.keep _) (.cons (.keep _) (.cons (.keep _) (.cons (.keep _) (.cons (.keep _) (.cons (.keep _) (.cons (.keep _) (.cons (.keep _) (.cons (.keep _) (.cons (.keep _) (.cons (.keep _) (.cons (.keep _) (.cons (.keep _) (.cons (.keep _) (.cons (.keep _) (.cons (.keep _) (.cons (frz_lacc (by first | rfl | (simp; done) | ((try simp only [List.length_set, List.length_take]); omega))) (.cons (.keep _) (.nil _)))))))))))))))))))))))))))))))))) (.acc (FrzP.of_eq (by first | rfl | simp only [flt_app, flt_one, List.append_assoc])) .nil))))
 rintro ⟨⟨l4, bo5⟩, h, hb6⟩
 try dsimp only at h hb6
 try dsimp only
 repeat refine awp_seq ?_
 refine rg (h := ?_)
 repeat refine awp_seq ?_
 refine rg (h := ?_)
 repeat refine awp_seq ?_
 refine awp_block ?_
 obtain ⟨o13, ho13, hO13⟩ := bnd_some h
 repeat refine awp_seq ?_
 refine awp_loop (ι := {p : Nat × (Option Nat) × (List Item) × (Option Nat) × Int // iter (fun p => s18_b4 N p1 p2 p3 p.1 p.2) p.1 (p.2.2.1, p.2.2.2.2) = some o13 ∧ (p.2.1 = none → l4 = []) ∧ (p.2.2.2.1 = none → p.2.2.1 = [])}) (fun p => [(1, .str p2), (2, .str p3), (3, .ptr 3 b1 0), (6, .ptr 6 b2 0), (7, .ptr 7 b3 0), (9, .int .i64 p.1.2.2.2.2)]) (fun p => (3, b1, .cells (Item.cs p1)) :: (6, b2, .cells ([.int .i64 0, .str [], .int .i64 0, .str [], .str [], .int .i64 0, .int .i64 0, .int .i64 0, .bool false, .str [], .int .i64 0, .bool false, .str [], .nil, .str [], .str [], .int .i64 0, .int .i64 0, .str [], .str [], .bool false, .str [], .str [], .bool false, .bool false, .bool false, .bool false, .bool false, .bool false, .bool false, .nil, .nil, .nil])) :: (7, b3, .cells ([.int .i64 p1.Kind, .str p1.Name, .int .i64 p1.At, .str p1.Of, .str p1.Act, .int .i64 p1.Word, .int .i64 p1.Times, .int .i64 p1.Within.Days, .bool p1.Within.Business, .str p1.Within.Name, .int .i64 p1.Grace.Days, .bool p1.Grace.Business, .str p1.Grace.Name, .sl (List.map Named.av p1.Conds), .str p1.By, .str p1.Until, .int .i64 p1.Num.Num, .int .i64 p1.Num.Den, .str p1.Unit, .str p1.Sum, .bool p1.Final, .str p1.Give, .str p1.To, .bool p1.Days.e0, .bool p1.Days.e1, .bool p1.Days.e2, .bool p1.Days.e3, .bool p1.Days.e4, .bool p1.Days.e5, .bool p1.Days.e6, .sl (List.map Civil.av p1.Dates), accV 502 p.1.2.1 (List.length l4) 1, accV 503 p.1.2.2.2.1 (List.length p.1.2.2.1) 33])) :: accO 502 p.1.2.1 (flt AV.str l4) (accO 503 p.1.2.2.2.1 (flt Item.av p.1.2.2.1) [])) (fun p => p.1.1) ⟨⟨N, bo5, [], none, 0⟩, ho13, hb6, (fun _ => rfl)⟩ ?_ ?_
 · refine ent_le' ([]) (_ :: _ :: _ :: accO _ _ _ []) (_ :: _ :: _ :: accO _ _ _ []) rfl (List.Perm.refl _) ?_ ?_
   · simp -implicitDefEqProofs (disch := first | omega | rfl) only [go_sem, simprocAttr, subF_cons, subF_nil]
     exact ⟨(.keep _), (.keep _), (.lptr ..), (.lptr ..), (.lptr ..), (.keep _)⟩
   · exact (.cell (.cell (.cells (.cons (.keep _) (.cons (.keep _) (.cons (.keep _) (.cons (.keep _) (.cons (.keep _) (.cons (.keep _) (.cons (.keep _) (.cons (.keep _) (.cons (.keep _) (.cons (.keep _) (.cons (.keep _) (.cons (.keep _) (.cons (.keep _) (.cons (.keep _) (.cons (.keep _) (.cons (.keep _) (.cons (.keep _) (.cons (.keep _) (.cons (.keep _) (.cons (.keep _) (.cons (.keep _) (.cons (.keep _) (.cons (.keep _) (.cons (.keep _) (.cons (.keep _) (.cons (.keep _) (.cons (.keep _) (.cons (.keep _) (.cons (.keep _) (.cons (.keep _) (.cons (.keep _) (.cons (frz_lacc (by first | rfl | (simp; done) | ((try simp only [List.length_set, List.length_take]); omega))) (.cons (.keep _) (.nil _)))))))))))))))))))))))))))))))))) (.acc (FrzP.refl _ _) .nil))))
 rintro ⟨⟨n13, bo7, l9, bo10, x12⟩, hi13, hb8, hb11⟩
 obtain ⟨m13, q13, rfl, h, hm13⟩ := iter_some hi13
 try dsimp only at h
 try dsimp only
 unfold s18_b4 at h
 repeat refine awp_seq ?_
 refine rg (h := ?_)
 rcases ite_some h with ⟨hc19, h⟩ | ⟨hc19, h⟩
 · repeat refine awp_seq ?_
   refine awp_then (by simp -implicitDefEqProofs (disch := first | omega | rfl) only [go_sem, simprocAttr, eq_true hc19]) ?_
   repeat refine awp_seq ?_
   refine awp_skip ?_
   repeat refine awp_seq ?_
   refine awp_block ?_
   repeat refine awp_seq ?_
   refine awp_reg fun K Q hK hQ => ?_
   obtain ⟨hg20, h⟩ := grd_some h
   simp -implicitDefEqProofs (disch := first | omega | rfl) only [go_sem, simprocAttr, zr18_10, eq_true hc19, eq_true hg20]
   intro b21
   refine hK _ _ ?_; clear hK hQ K Q
   repeat refine awp_seq ?_
   refine awp_reg fun K Q hK hQ => ?_
   simp -implicitDefEqProofs (disch := first | omega | rfl) only [go_sem, simprocAttr, zr18_11]
   have hh := bnd_some h; clear h; obtain ⟨x22, hx23, h⟩ := hh
   refine call_pure hP (c13 N ((p1.Items[x12.toNat]!).Kind) x22 hx23) ?_
   simp -implicitDefEqProofs (disch := first | omega | rfl) only [go_sem, simprocAttr]
   refine hK _ _ ?_; clear hK hQ K Q
   repeat refine awp_seq ?_
   refine awp_cut (ι := {p : Item // s18_k2 N p2 p3 l9 x12 p = some q13}) (fun p => [(1, .str p2), (2, .str p3), (3, .ptr 3 b1 0), (6, .ptr 6 b2 0), (7, .ptr 7 b3 0), (9, .int .i64 x12), (10, .ptr 10 b21 0)]) (fun p => (3, b1, .cells (Item.cs p1)) :: (6, b2, .cells ([.int .i64 0, .str [], .int .i64 0, .str [], .str [], .int .i64 0, .int .i64 0, .int .i64 0, .bool false, .str [], .int .i64 0, .bool false, .str [], .nil, .str [], .str [], .int .i64 0, .int .i64 0, .str [], .str [], .bool false, .str [], .str [], .bool false, .bool false, .bool false, .bool false, .bool false, .bool false, .bool false, .nil, .nil, .nil])) :: (7, b3, .cells ([.int .i64 p1.Kind, .str p1.Name, .int .i64 p1.At, .str p1.Of, .str p1.Act, .int .i64 p1.Word, .int .i64 p1.Times, .int .i64 p1.Within.Days, .bool p1.Within.Business, .str p1.Within.Name, .int .i64 p1.Grace.Days, .bool p1.Grace.Business, .str p1.Grace.Name, .sl (List.map Named.av p1.Conds), .str p1.By, .str p1.Until, .int .i64 p1.Num.Num, .int .i64 p1.Num.Den, .str p1.Unit, .str p1.Sum, .bool p1.Final, .str p1.Give, .str p1.To, .bool p1.Days.e0, .bool p1.Days.e1, .bool p1.Days.e2, .bool p1.Days.e3, .bool p1.Days.e4, .bool p1.Days.e5, .bool p1.Days.e6, .sl (List.map Civil.av p1.Dates), accV 502 bo7 (List.length l4) 1, accV 503 bo10 (List.length l9) 33])) :: accO 502 bo7 (flt AV.str l4) (accO 503 bo10 (flt Item.av l9) ((10, b21, .cells (Item.cs p.1)) :: []))) ?_ ?_
   · rcases cnd_some h with ⟨hc60, h⟩ | ⟨hc60, h⟩
     · repeat refine awp_seq ?_
       refine awp_then (by simp -implicitDefEqProofs (disch := first | omega | rfl) only [go_sem, simprocAttr, hc60]) ?_
       repeat refine awp_seq ?_
       refine awp_reg fun K Q hK hQ => ?_
       simp -implicitDefEqProofs (disch := first | omega | rfl) only [go_sem, simprocAttr, zr18_12]
       have hh := bnd_some h; clear h; obtain ⟨x61, hx62, h⟩ := hh
       refine call_pure hP (c30 N ((p1.Items[x12.toNat]!).Of) p2 p3 x61 hx62) ?_
       simp -implicitDefEqProofs (disch := first | omega | rfl) only [go_sem, simprocAttr]
       refine hK _ _ ?_; clear hK hQ K Q
       repeat refine awp_seq ?_
       refine awp_reg fun K Q hK hQ => ?_
       simp -implicitDefEqProofs (disch := first | omega | rfl) only [go_sem, simprocAttr, zr18_13]
       have hh := bnd_some h; clear h; obtain ⟨x63, hx64, h⟩ := hh
       refine call_pure hP (c30 N ((p1.Items[x12.toNat]!).Act) p2 p3 x63 hx64) ?_
       simp -implicitDefEqProofs (disch := first | omega | rfl) only [go_sem, simprocAttr]
       refine hK _ _ ?_; clear hK hQ K Q
       repeat refine awp_seq ?_
       refine awp_reg fun K Q hK hQ => ?_
       simp -implicitDefEqProofs (disch := first | omega | rfl) only [go_sem, simprocAttr, zr18_14]
       have hh := bnd_some h; clear h; obtain ⟨x65, hx66, h⟩ := hh
       refine call_pure hP (c30 N ((p1.Items[x12.toNat]!).By) p2 p3 x65 hx66) ?_
       simp -implicitDefEqProofs (disch := first | omega | rfl) only [go_sem, simprocAttr]
       refine hK _ _ ?_; clear hK hQ K Q
       repeat refine awp_seq ?_
       refine awp_reg fun K Q hK hQ => ?_
       simp -implicitDefEqProofs (disch := first | omega | rfl) only [go_sem, simprocAttr, zr18_15]
       have hh := bnd_some h; clear h; obtain ⟨x67, hx68, h⟩ := hh
       refine call_pure hP (c30 N ((p1.Items[x12.toNat]!).Until) p2 p3 x67 hx68) ?_
       simp -implicitDefEqProofs (disch := first | omega | rfl) only [go_sem, simprocAttr]
       refine hK _ _ ?_; clear hK hQ K Q
       repeat refine awp_seq ?_
       refine awp_reg fun K Q hK hQ => ?_
       simp -implicitDefEqProofs (disch := first | omega | rfl) only [go_sem, simprocAttr, zr18_16]
       have hh := bnd_some h; clear h; obtain ⟨x69, hx70, h⟩ := hh
       refine call_pure hP (c30 N ((p1.Items[x12.toNat]!).Unit) p2 p3 x69 hx70) ?_
       simp -implicitDefEqProofs (disch := first | omega | rfl) only [go_sem, simprocAttr]
       refine hK _ _ ?_; clear hK hQ K Q
       repeat refine awp_seq ?_
       refine awp_reg fun K Q hK hQ => ?_
       simp -implicitDefEqProofs (disch := first | omega | rfl) only [go_sem, simprocAttr, zr18_17]
       have hh := bnd_some h; clear h; obtain ⟨x71, hx72, h⟩ := hh
       refine call_pure hP (c30 N ((p1.Items[x12.toNat]!).Sum) p2 p3 x71 hx72) ?_
       simp -implicitDefEqProofs (disch := first | omega | rfl) only [go_sem, simprocAttr]
       refine hK _ _ ?_; clear hK hQ K Q
       repeat refine awp_seq ?_
       refine awp_reg fun K Q hK hQ => ?_
       simp -implicitDefEqProofs (disch := first | omega | rfl) only [go_sem, simprocAttr, zr18_18]
       have hh := bnd_some h; clear h; obtain ⟨x73, hx74, h⟩ := hh
       refine call_pure hP (c30 N ((p1.Items[x12.toNat]!).To) p2 p3 x73 hx74) ?_
       simp -implicitDefEqProofs (disch := first | omega | rfl) only [go_sem, simprocAttr]
       refine hK _ _ ?_; clear hK hQ K Q
       repeat refine awp_seq ?_
       refine awp_reg fun K Q hK hQ => ?_
       simp -implicitDefEqProofs (disch := first | omega | rfl) only [go_sem, simprocAttr, zr18_19]
       have hh := bnd_some h; clear h; obtain ⟨x75, hx76, h⟩ := hh
       refine call_pure hP (c30 N (((p1.Items[x12.toNat]!).Within).Name) p2 p3 x75 hx76) ?_
       simp -implicitDefEqProofs (disch := first | omega | rfl) only [go_sem, simprocAttr]
       refine hK _ _ ?_; clear hK hQ K Q
       repeat refine awp_seq ?_
       refine awp_reg fun K Q hK hQ => ?_
       simp -implicitDefEqProofs (disch := first | omega | rfl) only [go_sem, simprocAttr, zr18_20]
       have hh := bnd_some h; clear h; obtain ⟨x77, hx78, h⟩ := hh
       refine call_pure hP (c30 N (((p1.Items[x12.toNat]!).Grace).Name) p2 p3 x77 hx78) ?_
       simp -implicitDefEqProofs (disch := first | omega | rfl) only [go_sem, simprocAttr]
       refine hK _ _ ?_; clear hK hQ K Q
       repeat refine awp_seq ?_
       refine rg (h := ?_)
       repeat refine awp_seq ?_
       refine rg (h := ?_)
       repeat refine awp_seq ?_
       refine awp_block ?_
       obtain ⟨o83, ho83, hO83⟩ := bnd_some h
       repeat refine awp_seq ?_
       refine awp_loop (ι := {p : Nat × (List Named) × (Option Nat) × Int // iter (fun p => s18_b3 N p1 p2 p3 x12 p.1 p.2) p.1 (p.2.1, p.2.2.2) = some o83 ∧ (p.2.2.1 = none → p.2.1 = [])}) (fun p => [(1, .str p2), (2, .str p3), (3, .ptr 3 b1 0), (6, .ptr 6 b2 0), (7, .ptr 7 b3 0), (9, .int .i64 x12), (10, .ptr 10 b21 0), (11, accV 508 p.1.2.2.1 (List.length p.1.2.1) 2), (12, .int .i64 p.1.2.2.2)]) (fun p => (3, b1, .cells (Item.cs p1)) :: (6, b2, .cells ([.int .i64 0, .str [], .int .i64 0, .str [], .str [], .int .i64 0, .int .i64 0, .int .i64 0, .bool false, .str [], .int .i64 0, .bool false, .str [], .nil, .str [], .str [], .int .i64 0, .int .i64 0, .str [], .str [], .bool false, .str [], .str [], .bool false, .bool false, .bool false, .bool false, .bool false, .bool false, .bool false, .nil, .nil, .nil])) :: (7, b3, .cells ([.int .i64 p1.Kind, .str p1.Name, .int .i64 p1.At, .str p1.Of, .str p1.Act, .int .i64 p1.Word, .int .i64 p1.Times, .int .i64 p1.Within.Days, .bool p1.Within.Business, .str p1.Within.Name, .int .i64 p1.Grace.Days, .bool p1.Grace.Business, .str p1.Grace.Name, .sl (List.map Named.av p1.Conds), .str p1.By, .str p1.Until, .int .i64 p1.Num.Num, .int .i64 p1.Num.Den, .str p1.Unit, .str p1.Sum, .bool p1.Final, .str p1.Give, .str p1.To, .bool p1.Days.e0, .bool p1.Days.e1, .bool p1.Days.e2, .bool p1.Days.e3, .bool p1.Days.e4, .bool p1.Days.e5, .bool p1.Days.e6, .sl (List.map Civil.av p1.Dates), accV 502 bo7 (List.length l4) 1, accV 503 bo10 (List.length l9) 33])) :: accO 502 bo7 (flt AV.str l4) (accO 503 bo10 (flt Item.av l9) ((10, b21, .cells (Item.cs ({ p1.Items[x12.toNat]! with Of := x61, Act := x63, Within := { (p1.Items[x12.toNat]!).Within with Name := x75 }, Grace := { (p1.Items[x12.toNat]!).Grace with Name := x77 }, By := x65, Until := x67, Unit := x69, Sum := x71, To := x73 }))) :: accO 508 p.1.2.2.1 (flt Named.av p.1.2.1) []))) (fun p => p.1.1) ⟨⟨N, [], none, 0⟩, ho83, (fun _ => rfl)⟩ ?_ ?_
       · refine ent_le' ([]) (_ :: _ :: _ :: accO _ _ _ (accO _ _ _ (_ :: []))) (_ :: _ :: _ :: accO _ _ _ (accO _ _ _ (_ :: []))) rfl (List.Perm.trans perm_cc ((List.Perm.cons _ (List.Perm.trans perm_cc ((List.Perm.cons _ (List.Perm.trans perm_cc ((List.Perm.cons _ (List.Perm.trans perm_ca ((perm_ha (List.Perm.trans perm_ca (List.Perm.refl _)))))))))))))) ?_ ?_
         · simp -implicitDefEqProofs (disch := first | omega | rfl) only [go_sem, simprocAttr, subF_cons, subF_nil]
           exact ⟨(.keep _), (.keep _), (.lptr ..), (.lptr ..), (.lptr ..), (.keep _), (.lptr ..), (.keep _), (.keep _)⟩
         · exact (.cell (.cell (.cell (.acc (FrzP.refl _ _) (.acc (FrzP.refl _ _) (.cell .nil))))))
       rintro ⟨⟨n83, l79, bo80, x82⟩, hi83, hb81⟩
       obtain ⟨m83, q83, rfl, h, hm83⟩ := iter_some hi83
       try dsimp only at h
       try dsimp only
       unfold s18_b3 at h
       repeat refine awp_seq ?_
       refine rg (h := ?_)
       rcases ite_some h with ⟨hc87, h⟩ | ⟨hc87, h⟩
       · repeat refine awp_seq ?_
         refine awp_then (by simp -implicitDefEqProofs (disch := first | omega | rfl) only [go_sem, simprocAttr, eq_true hc87]) ?_
         repeat refine awp_seq ?_
         refine awp_skip ?_
         repeat refine awp_seq ?_
         refine awp_block ?_
         repeat refine awp_seq ?_
         refine awp_regD' (_ :: _ :: _ :: accO _ _ _ (accO _ _ _ (_ :: []))) (accO _ _ _ []) (_ :: _ :: _ :: accO _ _ _ (accO _ _ _ (_ :: accO _ _ _ []))) (by rw [hP]; exact mixed) (by first | rfl | (simp only [accO_app, List.cons_append, List.nil_append]; rfl) | simp only [accO_app, List.cons_append, List.nil_append]) (List.Perm.refl _) fun K hK => ?_
         obtain ⟨hg88, h⟩ := grd_some h
         simp -implicitDefEqProofs (disch := first | omega | rfl) only [go_sem, simprocAttr, zr18_24, eq_true hc87, eq_true hg88]
         have hh := bnd_some h; clear h; obtain ⟨x89, hx90, h⟩ := hh
         refine call_pure hP (c30 N ((((p1.Items[x12.toNat]!).Conds)[x82.toNat]!).Name) p2 p3 x89 hx90) ?_
         obtain ⟨⟨hg92, hg93⟩, h⟩ := grd_some h
         simp -implicitDefEqProofs (disch := first | omega | rfl) only [go_sem, simprocAttr, eq_true hg92, eq_true hg93]
         intro b91
         refine app_acc (f := Named.av) (l := l79) ((135, b91, .cells ([.str x89, .int .i64 ((((p1.Items[x12.toNat]!).Conds)[x82.toNat]!).Is)])) :: []) hb81 (by first | rfl | simp) (fun _ => Named.avl) (by intro b hb; subst hb; simp -implicitDefEqProofs (disch := first | omega | rfl) only [go_sem, simprocAttr]) (by intro b hb; subst hb; simp -implicitDefEqProofs (disch := first | omega | rfl) only [go_sem, simprocAttr]) (by intro hb; subst hb; simp -implicitDefEqProofs (disch := first | omega | rfl) only [go_sem, simprocAttr]) ?_
         simp -implicitDefEqProofs (disch := first | omega | rfl) only [go_sem, simprocAttr, eq_true hg92, eq_true hg93]
         intro bo94 hb95
         try simp -implicitDefEqProofs (disch := first | omega | rfl) only [go_sem, simprocAttr]
         refine hK _ _ ?_; clear hK K
         repeat refine awp_seq ?_
         refine rg (h := ?_)
         obtain rfl := som_inj h
         try dsimp only at hm83
         refine ⟨⟨⟨m83, l79 ++ ([{ ((p1.Items[x12.toNat]!).Conds)[x82.toNat]! with Name := x89 }]), bo94, IntKind.wrap .i64 (x82 + 1)⟩, hm83, (fun h => List.length_eq_zero_iff.1 (by simpa using hb95 h))⟩, Nat.lt_succ_self _, ?_⟩
         refine ent_le' ([]) (_ :: _ :: _ :: accO _ _ _ (accO _ _ _ (_ :: accO _ _ _ (_ :: [])))) (_ :: _ :: _ :: accO _ _ _ (accO _ _ _ (_ :: accO _ _ _ (_ :: [])))) rfl (List.Perm.refl _) ?_ ?_
         · simp -implicitDefEqProofs (disch := first | omega | rfl) only [go_sem, simprocAttr, subF_cons, subF_nil]
           exact ⟨(.keep _), (.keep _), (.lptr ..), (.lptr ..), (.lptr ..), (.keep _), (.lptr ..), (frz_lacc (by first | rfl | (simp; done) | ((try simp only [List.length_set, List.length_take]); omega))), (.keep _)⟩
         · exact (.cell (.cell (.cell (.acc (FrzP.refl _ _) (.acc (FrzP.refl _ _) (.cell (.acc (FrzP.of_eq (by first | rfl | simp only [flt_app, flt_one, List.append_assoc])) (.drop .nil))))))))
       repeat refine awp_seq ?_
       refine awp_else (by simp -implicitDefEqProofs (disch := first | omega | rfl) only [go_sem, simprocAttr, eq_false hc87]) ?_
       repeat refine awp_seq ?_
       refine awp_exit ?_
       repeat' (first | refine then_exit ?_ | refine exit_here ?_ | refine exit_on rfl ?_)
       obtain rfl := som_inj h
       try dsimp only at hm83
       subst hm83
       try dsimp only at hO83
       repeat refine awp_seq ?_
       refine rg (by intro K Q; simp -implicitDefEqProofs (disch := first | omega | rfl) only [go_sem, simprocAttr, Item.cs_eq] <;> rfl) ?_
       refine ⟨⟨{ p1.Items[x12.toNat]! with Of := x61, Act := x63, Within := { (p1.Items[x12.toNat]!).Within with Name := x75 }, Grace := { (p1.Items[x12.toNat]!).Grace with Name := x77 }, Conds := l79, By := x65, Until := x67, Unit := x69, Sum := x71, To := x73 }, hO83⟩, ?_⟩
       refine ent_le' (accO _ _ _ []) (_ :: _ :: _ :: accO _ _ _ (accO _ _ _ (_ :: []))) (accO _ _ _ (_ :: _ :: _ :: accO _ _ _ (accO _ _ _ (_ :: [])))) (by first | rfl | (simp only [accO_app, List.cons_append, List.nil_append]; rfl) | simp only [accO_app, List.cons_append, List.nil_append]) (List.Perm.trans ((List.Perm.cons _ ((List.Perm.cons _ ((List.Perm.cons _ (perm_ha (perm_ha perm_ca)))))))) (List.Perm.trans ((List.Perm.cons _ ((List.Perm.cons _ (List.Perm.cons _ (perm_ha perm_aa)))))) (List.Perm.trans ((List.Perm.cons _ (List.Perm.cons _ (List.Perm.cons _ perm_aa)))) (List.Perm.trans (List.Perm.cons _ (List.Perm.cons _ perm_ca)) (List.Perm.trans (List.Perm.cons _ perm_ca) (List.Perm.trans perm_ca (List.Perm.refl _))))))) ?_ ?_
       · simp -implicitDefEqProofs (disch := first | omega | rfl) only [go_sem, simprocAttr, subF_cons, subF_nil]
         exact ⟨(.keep _), (.keep _), (.lptr ..), (.lptr ..), (.lptr ..), (.keep _), (.lptr ..)⟩
       · exact (.cells (by rw [Item.cs_eq]; exact (.cons (.keep _) (.cons (.keep _) (.cons (.keep _) (.cons (.keep _) (.cons (.keep _) (.cons (.keep _) (.cons (.keep _) (.cons (.keep _) (.cons (.keep _) (.cons (.keep _) (.cons (.keep _) (.cons (.keep _) (.cons (.keep _) (.cons (.keep _) (.cons (.keep _) (.cons (.keep _) (.cons (.keep _) (.cons (.keep _) (.cons (.keep _) (.cons (.keep _) (.cons (.keep _) (.cons (.keep _) (.cons (.keep _) (.cons (.keep _) (.cons (.keep _) (.cons (.keep _) (.cons (.keep _) (.cons (.keep _) (.cons (.keep _) (.cons (.keep _) (.cons (.keep _) (.cons (.keep _) (.cons (.keep _) (.nil _))))))))))))))))))))))))))))))))))) (.cell (.cell (.acc (FrzP.refl _ _) (.acc (FrzP.refl _ _) (.cells (by rw [Item.cs_eq]; exact (.cons (.keep _) (.cons (.keep _) (.cons (.keep _) (.cons (.keep _) (.cons (.keep _) (.cons (.keep _) (.cons (.keep _) (.cons (.keep _) (.cons (.keep _) (.cons (.keep _) (.cons (.keep _) (.cons (.keep _) (.cons (.keep _) (.cons (frz_acc (fun _ => Named.avl) hb81 (by intro b hb; subst hb; simp -implicitDefEqProofs (disch := first | omega | rfl) only [go_sem, simprocAttr]) (by first | rfl | (simp; done) | ((try simp only [List.length_set, List.length_take]); omega))) (.cons (.keep _) (.cons (.keep _) (.cons (.keep _) (.cons (.keep _) (.cons (.keep _) (.cons (.keep _) (.cons (.keep _) (.cons (.keep _) (.cons (.keep _) (.cons (.keep _) (.cons (.keep _) (.cons (.keep _) (.cons (.keep _) (.cons (.keep _) (.cons (.keep _) (.cons (.keep _) (.cons (.keep _) (.cons (.keep _) (.cons (.keep _) (.nil _))))))))))))))))))))))))))))))))))) .nil))))))
     repeat refine awp_seq ?_
     refine awp_else (by simp -implicitDefEqProofs (disch := first | omega | rfl) only [go_sem, simprocAttr, hc60]) ?_
     repeat refine awp_seq ?_
     refine awp_skip ?_
     refine ⟨⟨p1.Items[x12.toNat]!, h⟩, ?_⟩
     refine ent_le' ([]) (_ :: _ :: _ :: accO _ _ _ (accO _ _ _ (_ :: []))) (_ :: _ :: _ :: accO _ _ _ (accO _ _ _ (_ :: []))) rfl (List.Perm.trans perm_cc ((List.Perm.cons _ (List.Perm.trans perm_cc ((List.Perm.cons _ (List.Perm.trans perm_cc ((List.Perm.cons _ (List.Perm.trans perm_ca ((perm_ha (List.Perm.trans perm_ca (List.Perm.refl _)))))))))))))) ?_ ?_
     · simp -implicitDefEqProofs (disch := first | omega | rfl) only [go_sem, simprocAttr, subF_cons, subF_nil]
       exact ⟨(.keep _), (.keep _), (.lptr ..), (.lptr ..), (.lptr ..), (.keep _), (.lptr ..)⟩
     · exact (.cell (.cell (.cell (.acc (FrzP.refl _ _) (.acc (FrzP.refl _ _) (.cells (FrzP.of_eq (by first | rfl | simp)) .nil))))))
   rintro ⟨x24, h⟩
   try dsimp only at h
   try dsimp only
   repeat refine awp_seq ?_
   refine rg (h := ?_)
   rcases ite_some h with ⟨hc25, h⟩ | ⟨hc25, h⟩
   · repeat refine awp_seq ?_
     refine awp_then (by simp -implicitDefEqProofs (disch := first | omega | rfl) only [go_sem, simprocAttr, eq_true hc25]) ?_
     repeat refine awp_seq ?_
     refine rg (h := ?_)
     repeat refine awp_seq ?_
     refine rg (h := ?_)
     repeat refine awp_seq ?_
     refine awp_block ?_
     obtain ⟨o30, ho30, hO30⟩ := bnd_some h
     repeat refine awp_seq ?_
     refine awp_loop (ι := {p : Nat × (List (List UInt8)) × (Option Nat) × Int // iter (fun p => s18_b1 N p2 p3 x24 p.1 p.2) p.1 (p.2.1, p.2.2.2) = some o30 ∧ (p.2.2.1 = none → p.2.1 = [])}) (fun p => [(1, .str p2), (2, .str p3), (3, .ptr 3 b1 0), (6, .ptr 6 b2 0), (7, .ptr 7 b3 0), (9, .int .i64 x12), (10, .ptr 10 b21 0), (13, accV 506 p.1.2.2.1 (List.length p.1.2.1) 1), (14, .int .i64 p.1.2.2.2)]) (fun p => (3, b1, .cells (Item.cs p1)) :: (6, b2, .cells ([.int .i64 0, .str [], .int .i64 0, .str [], .str [], .int .i64 0, .int .i64 0, .int .i64 0, .bool false, .str [], .int .i64 0, .bool false, .str [], .nil, .str [], .str [], .int .i64 0, .int .i64 0, .str [], .str [], .bool false, .str [], .str [], .bool false, .bool false, .bool false, .bool false, .bool false, .bool false, .bool false, .nil, .nil, .nil])) :: (7, b3, .cells ([.int .i64 p1.Kind, .str p1.Name, .int .i64 p1.At, .str p1.Of, .str p1.Act, .int .i64 p1.Word, .int .i64 p1.Times, .int .i64 p1.Within.Days, .bool p1.Within.Business, .str p1.Within.Name, .int .i64 p1.Grace.Days, .bool p1.Grace.Business, .str p1.Grace.Name, .sl (List.map Named.av p1.Conds), .str p1.By, .str p1.Until, .int .i64 p1.Num.Num, .int .i64 p1.Num.Den, .str p1.Unit, .str p1.Sum, .bool p1.Final, .str p1.Give, .str p1.To, .bool p1.Days.e0, .bool p1.Days.e1, .bool p1.Days.e2, .bool p1.Days.e3, .bool p1.Days.e4, .bool p1.Days.e5, .bool p1.Days.e6, .sl (List.map Civil.av p1.Dates), accV 502 bo7 (List.length l4) 1, accV 503 bo10 (List.length l9) 33])) :: accO 502 bo7 (flt AV.str l4) (accO 503 bo10 (flt Item.av l9) ((10, b21, .cells (Item.cs x24)) :: accO 506 p.1.2.2.1 (flt AV.str p.1.2.1) []))) (fun p => p.1.1) ⟨⟨N, [], none, 0⟩, ho30, (fun _ => rfl)⟩ ?_ ?_
     · refine ent_le' ([]) (_ :: _ :: _ :: accO _ _ _ (accO _ _ _ (_ :: []))) (_ :: _ :: _ :: accO _ _ _ (accO _ _ _ (_ :: []))) rfl (List.Perm.refl _) ?_ ?_
       · simp -implicitDefEqProofs (disch := first | omega | rfl) only [go_sem, simprocAttr, subF_cons, subF_nil]
         exact ⟨(.keep _), (.keep _), (.lptr ..), (.lptr ..), (.lptr ..), (.keep _), (.lptr ..), (.keep _), (.keep _)⟩
       · exact (.cell (.cell (.cell (.acc (FrzP.refl _ _) (.acc (FrzP.refl _ _) (.cell .nil))))))
     rintro ⟨⟨n30, l26, bo27, x29⟩, hi30, hb28⟩
     obtain ⟨m30, q30, rfl, h, hm30⟩ := iter_some hi30
     try dsimp only at h
     try dsimp only
     unfold s18_b1 at h
     repeat refine awp_seq ?_
     refine rg (h := ?_)
     rcases ite_some h with ⟨hc34, h⟩ | ⟨hc34, h⟩
     · repeat refine awp_seq ?_
       refine awp_then (by simp -implicitDefEqProofs (disch := first | omega | rfl) only [go_sem, simprocAttr, eq_true hc34]) ?_
       repeat refine awp_seq ?_
       refine awp_skip ?_
       repeat refine awp_seq ?_
       refine awp_block ?_
       repeat refine awp_seq ?_
       refine awp_reg fun K Q hK hQ => ?_
       obtain ⟨hg35, h⟩ := grd_some h
       simp -implicitDefEqProofs (disch := first | omega | rfl) only [go_sem, simprocAttr, zr18_31, eq_true hc34, eq_true hg35]
       have hh := bnd_some h; clear h; obtain ⟨x36, hx37, h⟩ := hh
       refine call_pure hP (c30 N (x24.Names[x29.toNat]!) p2 p3 x36 hx37) ?_
       obtain ⟨⟨hg39, hg40⟩, h⟩ := grd_some h
       simp -implicitDefEqProofs (disch := first | omega | rfl) only [go_sem, simprocAttr, eq_true hg39, eq_true hg40]
       intro b38
       refine app_acc (f := AV.str) (l := l26) ((158, b38, .cells ([.str x36])) :: (3, b1, .cells (Item.cs p1)) :: (6, b2, .cells ([.int .i64 0, .str [], .int .i64 0, .str [], .str [], .int .i64 0, .int .i64 0, .int .i64 0, .bool false, .str [], .int .i64 0, .bool false, .str [], .nil, .str [], .str [], .int .i64 0, .int .i64 0, .str [], .str [], .bool false, .str [], .str [], .bool false, .bool false, .bool false, .bool false, .bool false, .bool false, .bool false, .nil, .nil, .nil])) :: (7, b3, .cells ([.int .i64 p1.Kind, .str p1.Name, .int .i64 p1.At, .str p1.Of, .str p1.Act, .int .i64 p1.Word, .int .i64 p1.Times, .int .i64 p1.Within.Days, .bool p1.Within.Business, .str p1.Within.Name, .int .i64 p1.Grace.Days, .bool p1.Grace.Business, .str p1.Grace.Name, .sl (List.map Named.av p1.Conds), .str p1.By, .str p1.Until, .int .i64 p1.Num.Num, .int .i64 p1.Num.Den, .str p1.Unit, .str p1.Sum, .bool p1.Final, .str p1.Give, .str p1.To, .bool p1.Days.e0, .bool p1.Days.e1, .bool p1.Days.e2, .bool p1.Days.e3, .bool p1.Days.e4, .bool p1.Days.e5, .bool p1.Days.e6, .sl (List.map Civil.av p1.Dates), accV 502 bo7 (List.length l4) 1, accV 503 bo10 (List.length l9) 33])) :: accO 502 bo7 (flt AV.str l4) (accO 503 bo10 (flt Item.av l9) ((10, b21, .cells (Item.cs x24)) :: []))) hb28 (by first | rfl | simp) (fun _ => rfl) (by intro b hb; subst hb; simp -implicitDefEqProofs (disch := first | omega | rfl) only [go_sem, simprocAttr]) (by intro b hb; subst hb; simp -implicitDefEqProofs (disch := first | omega | rfl) only [go_sem, simprocAttr]) (by intro hb; subst hb; simp -implicitDefEqProofs (disch := first | omega | rfl) only [go_sem, simprocAttr]) ?_
       simp -implicitDefEqProofs (disch := first | omega | rfl) only [go_sem, simprocAttr, eq_true hg39, eq_true hg40]
       intro bo41 hb42
       try simp -implicitDefEqProofs (disch := first | omega | rfl) only [go_sem, simprocAttr]
       refine hK _ _ ?_; clear hK hQ K Q
       repeat refine awp_seq ?_
       refine rg (h := ?_)
       obtain rfl := som_inj h
       try dsimp only at hm30
       refine ⟨⟨⟨m30, l26 ++ [x36], bo41, IntKind.wrap .i64 (x29 + 1)⟩, hm30, (fun h => List.length_eq_zero_iff.1 (by simpa using hb42 h))⟩, Nat.lt_succ_self _, ?_⟩
       refine ent_le' ([]) (_ :: _ :: _ :: accO _ _ _ (accO _ _ _ (_ :: accO _ _ _ (_ :: [])))) (_ :: _ :: _ :: accO _ _ _ (accO _ _ _ (_ :: accO _ _ _ (_ :: [])))) rfl (List.Perm.trans (perm_ha perm_cc) (List.Perm.trans perm_ac ((List.Perm.cons _ (List.Perm.trans (perm_ha perm_cc) (List.Perm.trans perm_ac ((List.Perm.cons _ (List.Perm.trans (perm_ha perm_cc) (List.Perm.trans perm_ac ((List.Perm.cons _ (List.Perm.trans (perm_ha perm_ca) (List.Perm.trans perm_aa ((perm_ha (List.Perm.trans (perm_ha perm_ca) (List.Perm.trans perm_aa ((perm_ha (List.Perm.trans (perm_ha perm_cc) (List.Perm.trans perm_ac (List.Perm.refl _))))))))))))))))))))))) ?_ ?_
       · simp -implicitDefEqProofs (disch := first | omega | rfl) only [go_sem, simprocAttr, subF_cons, subF_nil]
         exact ⟨(.keep _), (.keep _), (.lptr ..), (.lptr ..), (.lptr ..), (.keep _), (.lptr ..), (frz_lacc (by first | rfl | (simp; done) | ((try simp only [List.length_set, List.length_take]); omega))), (.keep _)⟩
       · exact (.cell (.cell (.cell (.acc (FrzP.refl _ _) (.acc (FrzP.refl _ _) (.cell (.acc (FrzP.of_eq (by first | rfl | simp only [flt_app, flt_one, List.append_assoc])) (.drop .nil))))))))
     repeat refine awp_seq ?_
     refine awp_else (by simp -implicitDefEqProofs (disch := first | omega | rfl) only [go_sem, simprocAttr, eq_false hc34]) ?_
     repeat refine awp_seq ?_
     refine awp_exit ?_
     repeat' (first | refine then_exit ?_ | refine exit_here ?_ | refine exit_on rfl ?_)
     obtain rfl := som_inj h
     try dsimp only at hm30
     subst hm30
     try dsimp only at hO30
     repeat refine awp_seq ?_
     refine rg (by intro K Q; simp -implicitDefEqProofs (disch := first | omega | rfl) only [go_sem, simprocAttr, Item.cs_eq] <;> rfl) ?_
     repeat refine awp_seq ?_
     refine awp_le' (s' := [(1, .str p2), (2, .str p3), (3, .ptr 3 b1 0), (6, .ptr 6 b2 0), (7, .ptr 7 b3 0), (9, .int .i64 x12), (10, .ptr 10 b21 0)]) (own' := (3, b1, .cells ([.int .i64 p1.Kind, .str p1.Name, .int .i64 p1.At, .str p1.Of, .str p1.Act, .int .i64 p1.Word, .int .i64 p1.Times, .int .i64 p1.Within.Days, .bool p1.Within.Business, .str p1.Within.Name, .int .i64 p1.Grace.Days, .bool p1.Grace.Business, .str p1.Grace.Name, .sl (List.map Named.av p1.Conds), .str p1.By, .str p1.Until, .int .i64 p1.Num.Num, .int .i64 p1.Num.Den, .str p1.Unit, .str p1.Sum, .bool p1.Final, .str p1.Give, .str p1.To, .bool p1.Days.e0, .bool p1.Days.e1, .bool p1.Days.e2, .bool p1.Days.e3, .bool p1.Days.e4, .bool p1.Days.e5, .bool p1.Days.e6, .sl (List.map Civil.av p1.Dates), .sl (List.map AV.str p1.Names), .sl (List.map Item.av p1.Items)])) :: (6, b2, .cells ([.int .i64 0, .str [], .int .i64 0, .str [], .str [], .int .i64 0, .int .i64 0, .int .i64 0, .bool false, .str [], .int .i64 0, .bool false, .str [], .nil, .str [], .str [], .int .i64 0, .int .i64 0, .str [], .str [], .bool false, .str [], .str [], .bool false, .bool false, .bool false, .bool false, .bool false, .bool false, .bool false, .nil, .nil, .nil])) :: (7, b3, .cells ([.int .i64 p1.Kind, .str p1.Name, .int .i64 p1.At, .str p1.Of, .str p1.Act, .int .i64 p1.Word, .int .i64 p1.Times, .int .i64 p1.Within.Days, .bool p1.Within.Business, .str p1.Within.Name, .int .i64 p1.Grace.Days, .bool p1.Grace.Business, .str p1.Grace.Name, .sl (List.map Named.av p1.Conds), .str p1.By, .str p1.Until, .int .i64 p1.Num.Num, .int .i64 p1.Num.Den, .str p1.Unit, .str p1.Sum, .bool p1.Final, .str p1.Give, .str p1.To, .bool p1.Days.e0, .bool p1.Days.e1, .bool p1.Days.e2, .bool p1.Days.e3, .bool p1.Days.e4, .bool p1.Days.e5, .bool p1.Days.e6, .sl (List.map Civil.av p1.Dates), accV 502 bo7 (List.length l4) 1, accV 503 bo10 (List.length l9) 33])) :: accO 502 bo7 (flt AV.str l4) (accO 503 bo10 (flt Item.av l9) ((10, b21, .cells ([.int .i64 x24.Kind, .str x24.Name, .int .i64 x24.At, .str x24.Of, .str x24.Act, .int .i64 x24.Word, .int .i64 x24.Times, .int .i64 x24.Within.Days, .bool x24.Within.Business, .str x24.Within.Name, .int .i64 x24.Grace.Days, .bool x24.Grace.Business, .str x24.Grace.Name, .sl (List.map Named.av x24.Conds), .str x24.By, .str x24.Until, .int .i64 x24.Num.Num, .int .i64 x24.Num.Den, .str x24.Unit, .str x24.Sum, .bool x24.Final, .str x24.Give, .str x24.To, .bool x24.Days.e0, .bool x24.Days.e1, .bool x24.Days.e2, .bool x24.Days.e3, .bool x24.Days.e4, .bool x24.Days.e5, .bool x24.Days.e6, .sl (List.map Civil.av x24.Dates), .sl (List.map AV.str l26), .sl (List.map Item.av x24.Items)])) :: []))) (accO _ _ _ []) (_ :: _ :: _ :: accO _ _ _ (accO _ _ _ (_ :: []))) (accO _ _ _ (_ :: _ :: _ :: accO _ _ _ (accO _ _ _ (_ :: [])))) (by first | rfl | (simp only [accO_app, List.cons_append, List.nil_append]; rfl) | simp only [accO_app, List.cons_append, List.nil_append]) (List.Perm.trans ((List.Perm.cons _ ((List.Perm.cons _ ((List.Perm.cons _ (perm_ha (perm_ha perm_ca)))))))) (List.Perm.trans ((List.Perm.cons _ ((List.Perm.cons _ (List.Perm.cons _ (perm_ha perm_aa)))))) (List.Perm.trans ((List.Perm.cons _ (List.Perm.cons _ (List.Perm.cons _ perm_aa)))) (List.Perm.trans (List.Perm.cons _ (List.Perm.cons _ perm_ca)) (List.Perm.trans (List.Perm.cons _ perm_ca) (List.Perm.trans perm_ca (List.Perm.refl _))))))) ?_ ?_ ?_
     · simp -implicitDefEqProofs (disch := first | omega | rfl) only [go_sem, simprocAttr, subF_cons, subF_nil]
       exact ⟨(.keep _), (.keep _), (.lptr ..), (.lptr ..), (.lptr ..), (.keep _), (.lptr ..)⟩
     · exact (.cell (.cell (.cell (.acc (FrzP.refl _ _) (.acc (FrzP.refl _ _) (.cells (.cons (.keep _) (.cons (.keep _) (.cons (.keep _) (.cons (.keep _) (.cons (.keep _) (.cons (.keep _) (.cons (.keep _) (.cons (.keep _) (.cons (.keep _) (.cons (.keep _) (.cons (.keep _) (.cons (.keep _) (.cons (.keep _) (.cons (.keep _) (.cons (.keep _) (.cons (.keep _) (.cons (.keep _) (.cons (.keep _) (.cons (.keep _) (.cons (.keep _) (.cons (.keep _) (.cons (.keep _) (.cons (.keep _) (.cons (.keep _) (.cons (.keep _) (.cons (.keep _) (.cons (.keep _) (.cons (.keep _) (.cons (.keep _) (.cons (.keep _) (.cons (.keep _) (.cons (frz_acc (fun _ => rfl) hb28 (by intro b hb; subst hb; simp -implicitDefEqProofs (disch := first | omega | rfl) only [go_sem, simprocAttr]) (by first | rfl | (simp; done) | ((try simp only [List.length_set, List.length_take]); omega))) (.cons (.keep _) (.nil _)))))))))))))))))))))))))))))))))) .nil))))))
     repeat refine awp_seq ?_
     refine awp_reg fun K Q hK hQ => ?_
     obtain ⟨⟨hg45, hg46⟩, hO30⟩ := grd_some hO30
     simp -implicitDefEqProofs (disch := first | omega | rfl) only [go_sem, simprocAttr, zr18_34, eq_true hg45, eq_true hg46]
     intro b44
     refine app_acc (f := Item.av) (l := l9) ((165, b44, .cells ([.int .i64 x24.Kind, .str x24.Name, .int .i64 x24.At, .str x24.Of, .str x24.Act, .int .i64 x24.Word, .int .i64 x24.Times, .int .i64 x24.Within.Days, .bool x24.Within.Business, .str x24.Within.Name, .int .i64 x24.Grace.Days, .bool x24.Grace.Business, .str x24.Grace.Name, .sl (List.map Named.av x24.Conds), .str x24.By, .str x24.Until, .int .i64 x24.Num.Num, .int .i64 x24.Num.Den, .str x24.Unit, .str x24.Sum, .bool x24.Final, .str x24.Give, .str x24.To, .bool x24.Days.e0, .bool x24.Days.e1, .bool x24.Days.e2, .bool x24.Days.e3, .bool x24.Days.e4, .bool x24.Days.e5, .bool x24.Days.e6, .sl (List.map Civil.av x24.Dates), .sl (List.map AV.str l26), .sl (List.map Item.av x24.Items)])) :: (3, b1, .cells ([.int .i64 p1.Kind, .str p1.Name, .int .i64 p1.At, .str p1.Of, .str p1.Act, .int .i64 p1.Word, .int .i64 p1.Times, .int .i64 p1.Within.Days, .bool p1.Within.Business, .str p1.Within.Name, .int .i64 p1.Grace.Days, .bool p1.Grace.Business, .str p1.Grace.Name, .sl (List.map Named.av p1.Conds), .str p1.By, .str p1.Until, .int .i64 p1.Num.Num, .int .i64 p1.Num.Den, .str p1.Unit, .str p1.Sum, .bool p1.Final, .str p1.Give, .str p1.To, .bool p1.Days.e0, .bool p1.Days.e1, .bool p1.Days.e2, .bool p1.Days.e3, .bool p1.Days.e4, .bool p1.Days.e5, .bool p1.Days.e6, .sl (List.map Civil.av p1.Dates), .sl (List.map AV.str p1.Names), .sl (List.map Item.av p1.Items)])) :: (6, b2, .cells ([.int .i64 0, .str [], .int .i64 0, .str [], .str [], .int .i64 0, .int .i64 0, .int .i64 0, .bool false, .str [], .int .i64 0, .bool false, .str [], .nil, .str [], .str [], .int .i64 0, .int .i64 0, .str [], .str [], .bool false, .str [], .str [], .bool false, .bool false, .bool false, .bool false, .bool false, .bool false, .bool false, .nil, .nil, .nil])) :: (7, b3, .cells ([.int .i64 p1.Kind, .str p1.Name, .int .i64 p1.At, .str p1.Of, .str p1.Act, .int .i64 p1.Word, .int .i64 p1.Times, .int .i64 p1.Within.Days, .bool p1.Within.Business, .str p1.Within.Name, .int .i64 p1.Grace.Days, .bool p1.Grace.Business, .str p1.Grace.Name, .sl (List.map Named.av p1.Conds), .str p1.By, .str p1.Until, .int .i64 p1.Num.Num, .int .i64 p1.Num.Den, .str p1.Unit, .str p1.Sum, .bool p1.Final, .str p1.Give, .str p1.To, .bool p1.Days.e0, .bool p1.Days.e1, .bool p1.Days.e2, .bool p1.Days.e3, .bool p1.Days.e4, .bool p1.Days.e5, .bool p1.Days.e6, .sl (List.map Civil.av p1.Dates), accV 502 bo7 (List.length l4) 1, accV 503 bo10 (List.length l9) 33])) :: accO 502 bo7 (flt AV.str l4) ((10, b21, .cells ([.int .i64 x24.Kind, .str x24.Name, .int .i64 x24.At, .str x24.Of, .str x24.Act, .int .i64 x24.Word, .int .i64 x24.Times, .int .i64 x24.Within.Days, .bool x24.Within.Business, .str x24.Within.Name, .int .i64 x24.Grace.Days, .bool x24.Grace.Business, .str x24.Grace.Name, .sl (List.map Named.av x24.Conds), .str x24.By, .str x24.Until, .int .i64 x24.Num.Num, .int .i64 x24.Num.Den, .str x24.Unit, .str x24.Sum, .bool x24.Final, .str x24.Give, .str x24.To, .bool x24.Days.e0, .bool x24.Days.e1, .bool x24.Days.e2, .bool x24.Days.e3, .bool x24.Days.e4, .bool x24.Days.e5, .bool x24.Days.e6, .sl (List.map Civil.av x24.Dates), .sl (List.map AV.str l26), .sl (List.map Item.av x24.Items)])) :: [])) hb11 (by first | rfl | simp) (fun _ => Item.avl) (by intro b hb; subst hb; simp -implicitDefEqProofs (disch := first | omega | rfl) only [go_sem, simprocAttr]) (by intro b hb; subst hb; simp -implicitDefEqProofs (disch := first | omega | rfl) only [go_sem, simprocAttr]) (by intro hb; subst hb; simp -implicitDefEqProofs (disch := first | omega | rfl) only [go_sem, simprocAttr]) ?_
     simp -implicitDefEqProofs (disch := first | omega | rfl) only [go_sem, simprocAttr, eq_true hg45, eq_true hg46]
     intro bo47 hb48
     try simp -implicitDefEqProofs (disch := first | omega | rfl) only [go_sem, simprocAttr]
     refine hK _ _ ?_; clear hK hQ K Q
     repeat refine awp_seq ?_
     refine rg (h := ?_)
     obtain rfl := som_inj hO30
     try dsimp only at hm13
     refine ⟨⟨⟨m13, bo7, l9 ++ [{ x24 with Names := l26 }], bo47, IntKind.wrap .i64 (x12 + 1)⟩, hm13, hb8, (fun h => List.length_eq_zero_iff.1 (by simpa using hb48 h))⟩, Nat.lt_succ_self _, ?_⟩
     refine ent_le' ([]) (_ :: _ :: _ :: accO _ _ _ (accO _ _ _ (_ :: _ :: []))) (_ :: _ :: _ :: accO _ _ _ (accO _ _ _ (_ :: _ :: []))) rfl (List.Perm.trans (perm_ha perm_cc) (List.Perm.trans perm_ac ((List.Perm.cons _ (List.Perm.trans (perm_ha perm_cc) (List.Perm.trans perm_ac ((List.Perm.cons _ (List.Perm.trans (perm_ha perm_cc) (List.Perm.trans perm_ac ((List.Perm.cons _ (List.Perm.trans (perm_ha perm_ca) (List.Perm.trans perm_aa (List.Perm.refl _))))))))))))))) ?_ ?_
     · simp -implicitDefEqProofs (disch := first | omega | rfl) only [go_sem, simprocAttr, subF_cons, subF_nil]
       exact ⟨(.keep _), (.keep _), (.lptr ..), (.lptr ..), (.lptr ..), (.keep _)⟩
     · exact (.cells (by rw [Item.cs_eq]; exact (.cons (.keep _) (.cons (.keep _) (.cons (.keep _) (.cons (.keep _) (.cons (.keep _) (.cons (.keep _) (.cons (.keep _) (.cons (.keep _) (.cons (.keep _) (.cons (.keep _) (.cons (.keep _) (.cons (.keep _) (.cons (.keep _) (.cons (.keep _) (.cons (.keep _) (.cons (.keep _) (.cons (.keep _) (.cons (.keep _) (.cons (.keep _) (.cons (.keep _) (.cons (.keep _) (.cons (.keep _) (.cons (.keep _) (.cons (.keep _) (.cons (.keep _) (.cons (.keep _) (.cons (.keep _) (.cons (.keep _) (.cons (.keep _) (.cons (.keep _) (.cons (.keep _) (.cons (.keep _) (.cons (.keep _) (.nil _))))))))))))))))))))))))))))))))))) (.cell (.cells (.cons (.keep _) (.cons (.keep _) (.cons (.keep _) (.cons (.keep _) (.cons (.keep _) (.cons (.keep _) (.cons (.keep _) (.cons (.keep _) (.cons (.keep _) (.cons (.keep _) (.cons (.keep _) (.cons (.keep _) (.cons (.keep _) (.cons (.keep _) (.cons (.keep _) (.cons (.keep _) (.cons (.keep _) (.cons (.keep _) (.cons (.keep _) (.cons (.keep _) (.cons (.keep _) (.cons (.keep _) (.cons (.keep _) (.cons (.keep _) (.cons (.keep _) (.cons (.keep _) (.cons (.keep _) (.cons (.keep _) (.cons (.keep _) (.cons (.keep _) (.cons (.keep _) (.cons (frz_lacc (by first | rfl | (simp; done) | ((try simp only [List.length_set, List.length_take]); omega))) (.cons (frz_lacc (by first | rfl | (simp; done) | ((try simp only [List.length_set, List.length_take]); omega))) (.nil _)))))))))))))))))))))))))))))))))) (.acc (FrzP.refl _ _) (.acc (FrzP.of_eq (by first | rfl | simp only [flt_app, flt_one, List.append_assoc])) (.drop (.drop .nil)))))))
   repeat refine awp_seq ?_
   refine awp_else (by simp -implicitDefEqProofs (disch := first | omega | rfl) only [go_sem, simprocAttr, eq_false hc25]) ?_
   repeat refine awp_seq ?_
   refine awp_skip ?_
   repeat refine awp_seq ?_
   refine awp_reg fun K Q hK hQ => ?_
   obtain ⟨⟨hg56, hg57⟩, h⟩ := grd_some h
   simp -implicitDefEqProofs (disch := first | omega | rfl) only [go_sem, simprocAttr, zr18_34, eq_true hg56, eq_true hg57]
   intro b55
   refine app_acc (f := Item.av) (l := l9) ((165, b55, .cells (Item.cs x24)) :: (3, b1, .cells (Item.cs p1)) :: (6, b2, .cells ([.int .i64 0, .str [], .int .i64 0, .str [], .str [], .int .i64 0, .int .i64 0, .int .i64 0, .bool false, .str [], .int .i64 0, .bool false, .str [], .nil, .str [], .str [], .int .i64 0, .int .i64 0, .str [], .str [], .bool false, .str [], .str [], .bool false, .bool false, .bool false, .bool false, .bool false, .bool false, .bool false, .nil, .nil, .nil])) :: (7, b3, .cells ([.int .i64 p1.Kind, .str p1.Name, .int .i64 p1.At, .str p1.Of, .str p1.Act, .int .i64 p1.Word, .int .i64 p1.Times, .int .i64 p1.Within.Days, .bool p1.Within.Business, .str p1.Within.Name, .int .i64 p1.Grace.Days, .bool p1.Grace.Business, .str p1.Grace.Name, .sl (List.map Named.av p1.Conds), .str p1.By, .str p1.Until, .int .i64 p1.Num.Num, .int .i64 p1.Num.Den, .str p1.Unit, .str p1.Sum, .bool p1.Final, .str p1.Give, .str p1.To, .bool p1.Days.e0, .bool p1.Days.e1, .bool p1.Days.e2, .bool p1.Days.e3, .bool p1.Days.e4, .bool p1.Days.e5, .bool p1.Days.e6, .sl (List.map Civil.av p1.Dates), accV 502 bo7 (List.length l4) 1, accV 503 bo10 (List.length l9) 33])) :: accO 502 bo7 (flt AV.str l4) ((10, b21, .cells (Item.cs x24)) :: [])) hb11 (by first | rfl | simp) (fun _ => Item.avl) (by intro b hb; subst hb; simp -implicitDefEqProofs (disch := first | omega | rfl) only [go_sem, simprocAttr]) (by intro b hb; subst hb; simp -implicitDefEqProofs (disch := first | omega | rfl) only [go_sem, simprocAttr]) (by intro hb; subst hb; simp -implicitDefEqProofs (disch := first | omega | rfl) only [go_sem, simprocAttr]) ?_
   simp -implicitDefEqProofs (disch := first | omega | rfl) only [go_sem, simprocAttr, eq_true hg56, eq_true hg57]
   intro bo58 hb59
   try simp -implicitDefEqProofs (disch := first | omega | rfl) only [go_sem, simprocAttr]
   refine hK _ _ ?_; clear hK hQ K Q
   repeat refine awp_seq ?_
   refine rg (h := ?_)
   obtain rfl := som_inj h
   try dsimp only at hm13
   refine ⟨⟨⟨m13, bo7, l9 ++ [x24], bo58, IntKind.wrap .i64 (x12 + 1)⟩, hm13, hb8, (fun h => List.length_eq_zero_iff.1 (by simpa using hb59 h))⟩, Nat.lt_succ_self _, ?_⟩
   refine ent_le' ([]) (_ :: _ :: _ :: accO _ _ _ (accO _ _ _ (_ :: _ :: []))) (_ :: _ :: _ :: accO _ _ _ (accO _ _ _ (_ :: _ :: []))) rfl (List.Perm.trans (perm_ha perm_cc) (List.Perm.trans perm_ac ((List.Perm.cons _ (List.Perm.trans (perm_ha perm_cc) (List.Perm.trans perm_ac ((List.Perm.cons _ (List.Perm.trans (perm_ha perm_cc) (List.Perm.trans perm_ac ((List.Perm.cons _ (List.Perm.trans (perm_ha perm_ca) (List.Perm.trans perm_aa (List.Perm.refl _))))))))))))))) ?_ ?_
   · simp -implicitDefEqProofs (disch := first | omega | rfl) only [go_sem, simprocAttr, subF_cons, subF_nil]
     exact ⟨(.keep _), (.keep _), (.lptr ..), (.lptr ..), (.lptr ..), (.keep _)⟩
   · exact (.cell (.cell (.cells (.cons (.keep _) (.cons (.keep _) (.cons (.keep _) (.cons (.keep _) (.cons (.keep _) (.cons (.keep _) (.cons (.keep _) (.cons (.keep _) (.cons (.keep _) (.cons (.keep _) (.cons (.keep _) (.cons (.keep _) (.cons (.keep _) (.cons (.keep _) (.cons (.keep _) (.cons (.keep _) (.cons (.keep _) (.cons (.keep _) (.cons (.keep _) (.cons (.keep _) (.cons (.keep _) (.cons (.keep _) (.cons (.keep _) (.cons (.keep _) (.cons (.keep _) (.cons (.keep _) (.cons (.keep _) (.cons (.keep _) (.cons (.keep _) (.cons (.keep _) (.cons (.keep _) (.cons (frz_lacc (by first | rfl | (simp; done) | ((try simp only [List.length_set, List.length_take]); omega))) (.cons (frz_lacc (by first | rfl | (simp; done) | ((try simp only [List.length_set, List.length_take]); omega))) (.nil _)))))))))))))))))))))))))))))))))) (.acc (FrzP.refl _ _) (.acc (FrzP.of_eq (by first | rfl | simp only [flt_app, flt_one, List.append_assoc])) (.drop (.drop .nil)))))))
 repeat refine awp_seq ?_
 refine awp_else (by simp -implicitDefEqProofs (disch := first | omega | rfl) only [go_sem, simprocAttr, eq_false hc19]) ?_
 repeat refine awp_seq ?_
 refine awp_exit ?_
 repeat' (first | refine then_exit ?_ | refine exit_here ?_ | refine exit_on rfl ?_)
 obtain rfl := som_inj h
 try dsimp only at hm13
 subst hm13
 try dsimp only at hO13
 repeat refine awp_seq ?_
 refine rg (h := ?_)
 obtain rfl := som_inj hO13
 repeat refine awp_seq ?_
 refine awp_le' (s' := [(6, .ptr 6 b2 0)]) (own' := (6, b2, .cells (Item.cs ({ p1 with Names := l4, Items := l9 }))) :: []) (accO _ _ _ (accO _ _ _ [])) (_ :: _ :: _ :: []) (accO _ _ _ (accO _ _ _ (_ :: _ :: _ :: []))) (by first | rfl | (simp only [accO_app, List.cons_append, List.nil_append]; rfl) | simp only [accO_app, List.cons_append, List.nil_append]) (List.Perm.trans (List.Perm.cons _ (List.Perm.cons _ perm_ca)) (List.Perm.trans (List.Perm.cons _ perm_ca) (List.Perm.trans perm_ca ((perm_ha (List.Perm.trans (List.Perm.cons _ (List.Perm.cons _ perm_ca)) (List.Perm.trans (List.Perm.cons _ perm_ca) (List.Perm.trans perm_ca ((perm_ha (List.Perm.trans perm_cc (List.Perm.refl _)))))))))))) ?_ ?_ ?_
 · simp -implicitDefEqProofs (disch := first | omega | rfl) only [go_sem, simprocAttr, subF_cons, subF_nil]
   exact (.lptr ..)
 · exact (.cells (by rw [Item.cs_eq]; exact (.cons (.keep _) (.cons (.keep _) (.cons (.keep _) (.cons (.keep _) (.cons (.keep _) (.cons (.keep _) (.cons (.keep _) (.cons (.keep _) (.cons (.keep _) (.cons (.keep _) (.cons (.keep _) (.cons (.keep _) (.cons (.keep _) (.cons (.keep _) (.cons (.keep _) (.cons (.keep _) (.cons (.keep _) (.cons (.keep _) (.cons (.keep _) (.cons (.keep _) (.cons (.keep _) (.cons (.keep _) (.cons (.keep _) (.cons (.keep _) (.cons (.keep _) (.cons (.keep _) (.cons (.keep _) (.cons (.keep _) (.cons (.keep _) (.cons (.keep _) (.cons (.keep _) (.cons (frz_acc (fun _ => rfl) hb8 (by intro b hb; subst hb; simp -implicitDefEqProofs (disch := first | omega | rfl) only [go_sem, simprocAttr]) (by first | rfl | (simp; done) | ((try simp only [List.length_set, List.length_take]); omega))) (.cons (frz_acc (fun _ => Item.avl) hb11 (by intro b hb; subst hb; simp -implicitDefEqProofs (disch := first | omega | rfl) only [go_sem, simprocAttr]) (by first | rfl | (simp; done) | ((try simp only [List.length_set, List.length_take]); omega))) (.nil _))))))))))))))))))))))))))))))))))) (.drop (.drop .nil)))
 refine awp_ret ?_
 repeat first | refine then_ret ?_ | refine blk_ret ?_
 exact rtp
def zr19_0 : List AO := [⟨some 4, none, .mov (.c (.bool false))⟩]
def zr19_1 : List AO := [⟨some 6, none, .mov (.t 0)⟩,
  ⟨some 7, none, .len (.t 6)⟩,
  ⟨some 8, none, .mov (.t 1)⟩,
  ⟨some 9, none, .len (.t 8)⟩,
  ⟨some 10, none, .bin .neq (.t 7) (.t 9)⟩]
def zr19_2 : List AO := [⟨some 4, none, .mov (.c (.bool false))⟩]
def zc19_0 : AC := .seq (.reg zr19_2) .ret
def zc19_1 : AC := .cond (.t 10) zc19_0 .skip
def zr19_3 : List AO := [⟨some 5, none, .mov (.c (.int .i64 0))⟩]
def zr19_4 : List AO := [⟨some 11, none, .mov (.t 5)⟩,
  ⟨some 12, none, .mov (.t 0)⟩,
  ⟨some 13, none, .len (.t 12)⟩,
  ⟨some 14, none, .bin .lss (.t 11) (.t 13)⟩]
def zc19_2 : AC := .cond (.t 14) .skip (.exit 0)
def zr19_5 : DT := (.pur ⟨some 17, none, .mov (.t 0)⟩ (.pur ⟨some 18, none, .mov (.t 5)⟩ (.pur ⟨some 19, none, .iadr 2 (.t 17) (.t 18)⟩ (.pur ⟨some 20, none, .load true 2 (.t 19)⟩ (.pur ⟨some 21, none, .mov (.t 1)⟩ (.alt false ⟨some 22, none, .mov (.t 5)⟩ (.alt false ⟨some 23, none, .iadr 2 (.t 21) (.t 22)⟩ (.alt false ⟨some 24, none, .load true 2 (.t 23)⟩ (.alt true ⟨some 25, none, .eqS true [.i, .i] (.t 20) (.t 24)⟩ .done .stop) .stop) .stop) .stop))))))
def zr19_6 : List AO := [⟨some 4, none, .mov (.c (.bool false))⟩]
def zc19_3 : AC := .seq (.reg zr19_6) .ret
def zc19_4 : AC := .cond (.t 25) zc19_3 .skip
def zc19_5 : AC := .seq (.regD zr19_5) zc19_4
def zr19_7 : List AO := [⟨some 15, none, .mov (.t 5)⟩,
  ⟨some 16, none, .bin .add (.t 15) (.c (.int .i64 1))⟩,
  ⟨some 5, none, .mov (.t 16)⟩]
def zc19_6 : AC := .reg zr19_7
def zc19_7 : AC := .seq (.block 1 zc19_5) zc19_6
def zc19_8 : AC := .seq (.seq (.reg zr19_4) zc19_2) zc19_7
def zc19_9 : AC := .loop zc19_8
def zc19_10 : AC := .block 0 zc19_9
def zr19_8 : List AO := [⟨some 4, none, .mov (.c (.bool true))⟩]
def zc19_11 : AC := .seq (.reg zr19_8) .ret
def zc19_12 : AC := .seq (.seq (.reg zr19_3) zc19_10) zc19_11
def zc19_13 : AC := .seq (.seq (.reg zr19_1) zc19_1) zc19_12
def zc19_14 : AC := .seq (.reg zr19_0) zc19_13
def zc19 : AC := zc19_14
theorem ok19 : Try.f19.body.bind (compCode Try.prog 26) = some zc19 := by kernel_rfl
theorem nt19 : Try.f19.ntmps = 26 := by kernel_rfl
theorem res19 : compRes Try.prog Try.f19.results.toList = some [.tmp 4] := by kernel_rfl
attribute [go_sem] zr19_0 zr19_1 zr19_2 zr19_3 zr19_4 zr19_6 zr19_7 zr19_8
def s19_b1 (N : Nat) (p1 : List Fault) (p2 : List Fault) (x2 : Int) : Option (((Int) ⊕ (Ou (Unit) (Bool)))) :=
  if x2 < (List.length p1 : Int) then
    grd (0 ≤ x2) <|
    grd (x2 < (List.length p2 : Int)) <|
    if p1[x2.toNat]! = p2[x2.toNat]! then
      some (.inl (IntKind.wrap .i64 (x2 + 1)))
    else
      some (.inr (.ret false))
  else
    some (.inr (.brk ()))
def s19 (N : Nat) (p1 : List Fault) (p2 : List Fault) : Option Bool :=
  if (List.length p1 : Int) = (List.length p2 : Int) then
    (iter (fun p => s19_b1 N p1 p2 p) N 0).bind fun o3 => o3.on (fun a3 =>
      some true)
      (fun a3r => some a3r)
  else
    some false
set_option maxHeartbeats 4000000 in
theorem c19 (N : Nat) (p1 : List Fault) (p2 : List Fault) (r : Bool) (h : s19 N p1 p2 = some r) : PureC Try.prog 19 [.sl (List.map Fault.av p1), .sl (List.map Fault.av p2)] (.bool r) := by
 refine fn_intro' 26 Try.func19 nt19 ok19 res19 (by simp) fun X hP hn hd hr => ?_
 unfold s19 at h
 repeat refine awp_seq ?_
 refine rg (h := ?_)
 repeat refine awp_seq ?_
 refine rg (h := ?_)
 rcases ite_some h with ⟨hc1, h⟩ | ⟨hc1, h⟩
 · repeat refine awp_seq ?_
   refine awp_else (by simp -implicitDefEqProofs (disch := first | omega | rfl) only [go_sem, simprocAttr, eq_true hc1]) ?_
   repeat refine awp_seq ?_
   refine awp_skip ?_
   repeat refine awp_seq ?_
   refine rg (h := ?_)
   repeat refine awp_seq ?_
   refine awp_block ?_
   obtain ⟨o3, ho3, hO3⟩ := bnd_some h
   repeat refine awp_seq ?_
   refine awp_loop (ι := {p : Nat × Int // iter (fun p => s19_b1 N p1 p2 p) p.1 p.2 = some o3}) (fun p => [(0, .sl (List.map Fault.av p1)), (1, .sl (List.map Fault.av p2)), (5, .int .i64 p.1.2)]) (fun p => []) (fun p => p.1.1) ⟨⟨N, 0⟩, ho3⟩ ?_ ?_
   · refine ent_le' ([]) ([]) ([]) rfl (List.Perm.refl _) ?_ ?_
     · simp -implicitDefEqProofs (disch := first | omega | rfl) only [go_sem, simprocAttr, subF_cons, subF_nil]
       exact ⟨(.keep _), (.keep _), (.keep _)⟩
     · exact .nil
   rintro ⟨⟨n3, x2⟩, hi3⟩
   obtain ⟨m3, q3, rfl, h, hm3⟩ := iter_some hi3
   try dsimp only at h
   try dsimp only
   unfold s19_b1 at h
   repeat refine awp_seq ?_
   refine rg (h := ?_)
   rcases ite_some h with ⟨hc4, h⟩ | ⟨hc4, h⟩
   · repeat refine awp_seq ?_
     refine awp_then (by simp -implicitDefEqProofs (disch := first | omega | rfl) only [go_sem, simprocAttr, eq_true hc4]) ?_
     repeat refine awp_seq ?_
     refine awp_skip ?_
     repeat refine awp_seq ?_
     refine awp_block ?_
     repeat refine awp_seq ?_
     refine awp_regD' ([]) ([]) ([]) (by rw [hP]; exact mixed) rfl (List.Perm.refl _) fun K hK => ?_
     obtain ⟨hg5, h⟩ := grd_some h
     obtain ⟨hg6, h⟩ := grd_some h
     simp -implicitDefEqProofs (disch := first | omega | rfl) only [go_sem, simprocAttr, zr19_5, eq_true hc4, eq_true hg5, eq_true hg6]
     refine hK _ _ ?_; clear hK K
     rcases ite_some h with ⟨hc7, h⟩ | ⟨hc7, h⟩
     · repeat refine awp_seq ?_
       refine awp_else (by simp -implicitDefEqProofs (disch := first | omega | rfl) only [go_sem, simprocAttr, eq_true hc7]) ?_
       repeat refine awp_seq ?_
       refine awp_skip ?_
       repeat refine awp_seq ?_
       refine rg (h := ?_)
       obtain rfl := som_inj h
       try dsimp only at hm3
       refine ⟨⟨⟨m3, IntKind.wrap .i64 (x2 + 1)⟩, hm3⟩, Nat.lt_succ_self _, ?_⟩
       refine ent_le' ([]) ([]) ([]) rfl (List.Perm.refl _) ?_ ?_
       · simp -implicitDefEqProofs (disch := first | omega | rfl) only [go_sem, simprocAttr, subF_cons, subF_nil]
         exact ⟨(.keep _), (.keep _), (.keep _)⟩
       · exact .nil
     repeat refine awp_seq ?_
     refine awp_then (by simp -implicitDefEqProofs (disch := first | omega | rfl) only [go_sem, simprocAttr, eq_false hc7]) ?_
     repeat refine awp_seq ?_
     refine rg (h := ?_)
     obtain rfl := som_inj h
     try dsimp only at hm3
     subst hm3
     simp only [Ou.on_ret] at hO3
     obtain rfl := som_inj hO3
     repeat refine awp_seq ?_
     refine awp_ret ?_
     repeat first | refine then_ret ?_ | refine blk_ret ?_
     exact rtp
   repeat refine awp_seq ?_
   refine awp_else (by simp -implicitDefEqProofs (disch := first | omega | rfl) only [go_sem, simprocAttr, eq_false hc4]) ?_
   repeat refine awp_seq ?_
   refine awp_exit ?_
   repeat' (first | refine then_exit ?_ | refine exit_here ?_ | refine exit_on rfl ?_)
   obtain rfl := som_inj h
   try dsimp only at hm3
   subst hm3
   simp only [Ou.on_brk] at hO3
   repeat refine awp_seq ?_
   refine rg (h := ?_)
   obtain rfl := som_inj hO3
   repeat refine awp_seq ?_
   refine awp_ret ?_
   repeat first | refine then_ret ?_ | refine blk_ret ?_
   exact rtp
 repeat refine awp_seq ?_
 refine awp_then (by simp -implicitDefEqProofs (disch := first | omega | rfl) only [go_sem, simprocAttr, eq_false hc1]) ?_
 repeat refine awp_seq ?_
 refine rg (h := ?_)
 obtain rfl := som_inj h
 repeat refine awp_seq ?_
 refine awp_ret ?_
 repeat first | refine then_ret ?_ | refine blk_ret ?_
 exact rtp
def zr37_0 : List AO := [⟨some 4, none, .mov (.c (.bool false))⟩]
def zr37_1 : List AO := [⟨some 6, none, .mov (.t 0)⟩,
  ⟨some 7, none, .len (.t 6)⟩,
  ⟨some 8, none, .mov (.t 1)⟩,
  ⟨some 9, none, .len (.t 8)⟩,
  ⟨some 10, none, .bin .neq (.t 7) (.t 9)⟩]
def zr37_2 : List AO := [⟨some 4, none, .mov (.c (.bool false))⟩]
def zc37_0 : AC := .seq (.reg zr37_2) .ret
def zc37_1 : AC := .cond (.t 10) zc37_0 .skip
def zr37_3 : List AO := [⟨some 5, none, .mov (.c (.int .i64 0))⟩]
def zr37_4 : List AO := [⟨some 11, none, .mov (.t 5)⟩,
  ⟨some 12, none, .mov (.t 0)⟩,
  ⟨some 13, none, .len (.t 12)⟩,
  ⟨some 14, none, .bin .lss (.t 11) (.t 13)⟩]
def zc37_2 : AC := .cond (.t 14) .skip (.exit 0)
def zr37_5 : DT := (.pur ⟨some 17, none, .mov (.t 0)⟩ (.pur ⟨some 18, none, .mov (.t 5)⟩ (.pur ⟨some 19, none, .iadr 1 (.t 17) (.t 18)⟩ (.pur ⟨some 20, none, .load false 1 (.t 19)⟩ (.pur ⟨some 21, none, .mov (.t 1)⟩ (.alt false ⟨some 22, none, .mov (.t 5)⟩ (.alt false ⟨some 23, none, .iadr 1 (.t 21) (.t 22)⟩ (.alt false ⟨some 24, none, .load false 1 (.t 23)⟩ (.alt true ⟨some 25, none, .bin .neq (.t 20) (.t 24)⟩ .done .stop) .stop) .stop) .stop))))))
def zr37_6 : List AO := [⟨some 4, none, .mov (.c (.bool false))⟩]
def zc37_3 : AC := .seq (.reg zr37_6) .ret
def zc37_4 : AC := .cond (.t 25) zc37_3 .skip
def zc37_5 : AC := .seq (.regD zr37_5) zc37_4
def zr37_7 : List AO := [⟨some 15, none, .mov (.t 5)⟩,
  ⟨some 16, none, .bin .add (.t 15) (.c (.int .i64 1))⟩,
  ⟨some 5, none, .mov (.t 16)⟩]
def zc37_6 : AC := .reg zr37_7
def zc37_7 : AC := .seq (.block 1 zc37_5) zc37_6
def zc37_8 : AC := .seq (.seq (.reg zr37_4) zc37_2) zc37_7
def zc37_9 : AC := .loop zc37_8
def zc37_10 : AC := .block 0 zc37_9
def zr37_8 : List AO := [⟨some 4, none, .mov (.c (.bool true))⟩]
def zc37_11 : AC := .seq (.reg zr37_8) .ret
def zc37_12 : AC := .seq (.seq (.reg zr37_3) zc37_10) zc37_11
def zc37_13 : AC := .seq (.seq (.reg zr37_1) zc37_1) zc37_12
def zc37_14 : AC := .seq (.reg zr37_0) zc37_13
def zc37 : AC := zc37_14
theorem ok37 : Try.f37.body.bind (compCode Try.prog 26) = some zc37 := by kernel_rfl
theorem nt37 : Try.f37.ntmps = 26 := by kernel_rfl
theorem res37 : compRes Try.prog Try.f37.results.toList = some [.tmp 4] := by kernel_rfl
attribute [go_sem] zr37_0 zr37_1 zr37_2 zr37_3 zr37_4 zr37_6 zr37_7 zr37_8
def s37_b1 (N : Nat) (p1 : List (List UInt8)) (p2 : List (List UInt8)) (x2 : Int) : Option (((Int) ⊕ (Ou (Unit) (Bool)))) :=
  if x2 < (List.length p1 : Int) then
    grd (0 ≤ x2) <|
    grd (x2 < (List.length p2 : Int)) <|
    if p1[x2.toNat]! = p2[x2.toNat]! then
      some (.inl (IntKind.wrap .i64 (x2 + 1)))
    else
      some (.inr (.ret false))
  else
    some (.inr (.brk ()))
def s37 (N : Nat) (p1 : List (List UInt8)) (p2 : List (List UInt8)) : Option Bool :=
  if (List.length p1 : Int) = (List.length p2 : Int) then
    (iter (fun p => s37_b1 N p1 p2 p) N 0).bind fun o3 => o3.on (fun a3 =>
      some true)
      (fun a3r => some a3r)
  else
    some false
set_option maxHeartbeats 4000000 in
theorem c37 (N : Nat) (p1 : List (List UInt8)) (p2 : List (List UInt8)) (r : Bool) (h : s37 N p1 p2 = some r) : PureC Try.prog 37 [.sl (List.map AV.str p1), .sl (List.map AV.str p2)] (.bool r) := by
 refine fn_intro' 26 Try.func37 nt37 ok37 res37 (by simp) fun X hP hn hd hr => ?_
 unfold s37 at h
 repeat refine awp_seq ?_
 refine rg (h := ?_)
 repeat refine awp_seq ?_
 refine rg (h := ?_)
 rcases ite_some h with ⟨hc1, h⟩ | ⟨hc1, h⟩
 · repeat refine awp_seq ?_
   refine awp_else (by simp -implicitDefEqProofs (disch := first | omega | rfl) only [go_sem, simprocAttr, eq_true hc1]) ?_
   repeat refine awp_seq ?_
   refine awp_skip ?_
   repeat refine awp_seq ?_
   refine rg (h := ?_)
   repeat refine awp_seq ?_
   refine awp_block ?_
   obtain ⟨o3, ho3, hO3⟩ := bnd_some h
   repeat refine awp_seq ?_
   refine awp_loop (ι := {p : Nat × Int // iter (fun p => s37_b1 N p1 p2 p) p.1 p.2 = some o3}) (fun p => [(0, .sl (List.map AV.str p1)), (1, .sl (List.map AV.str p2)), (5, .int .i64 p.1.2)]) (fun p => []) (fun p => p.1.1) ⟨⟨N, 0⟩, ho3⟩ ?_ ?_
   · refine ent_le' ([]) ([]) ([]) rfl (List.Perm.refl _) ?_ ?_
     · simp -implicitDefEqProofs (disch := first | omega | rfl) only [go_sem, simprocAttr, subF_cons, subF_nil]
       exact ⟨(.keep _), (.keep _), (.keep _)⟩
     · exact .nil
   rintro ⟨⟨n3, x2⟩, hi3⟩
   obtain ⟨m3, q3, rfl, h, hm3⟩ := iter_some hi3
   try dsimp only at h
   try dsimp only
   unfold s37_b1 at h
   repeat refine awp_seq ?_
   refine rg (h := ?_)
   rcases ite_some h with ⟨hc4, h⟩ | ⟨hc4, h⟩
   · repeat refine awp_seq ?_
     refine awp_then (by simp -implicitDefEqProofs (disch := first | omega | rfl) only [go_sem, simprocAttr, eq_true hc4]) ?_
     repeat refine awp_seq ?_
     refine awp_skip ?_
     repeat refine awp_seq ?_
     refine awp_block ?_
     repeat refine awp_seq ?_
     refine awp_regD' ([]) ([]) ([]) (by rw [hP]; exact mixed) rfl (List.Perm.refl _) fun K hK => ?_
     obtain ⟨hg5, h⟩ := grd_some h
     obtain ⟨hg6, h⟩ := grd_some h
     simp -implicitDefEqProofs (disch := first | omega | rfl) only [go_sem, simprocAttr, zr37_5, eq_true hc4, eq_true hg5, eq_true hg6]
     refine hK _ _ ?_; clear hK K
     rcases ite_some h with ⟨hc7, h⟩ | ⟨hc7, h⟩
     · repeat refine awp_seq ?_
       refine awp_else (by simp -implicitDefEqProofs (disch := first | omega | rfl) only [go_sem, simprocAttr, eq_true hc7]) ?_
       repeat refine awp_seq ?_
       refine awp_skip ?_
       repeat refine awp_seq ?_
       refine rg (h := ?_)
       obtain rfl := som_inj h
       try dsimp only at hm3
       refine ⟨⟨⟨m3, IntKind.wrap .i64 (x2 + 1)⟩, hm3⟩, Nat.lt_succ_self _, ?_⟩
       refine ent_le' ([]) ([]) ([]) rfl (List.Perm.refl _) ?_ ?_
       · simp -implicitDefEqProofs (disch := first | omega | rfl) only [go_sem, simprocAttr, subF_cons, subF_nil]
         exact ⟨(.keep _), (.keep _), (.keep _)⟩
       · exact .nil
     repeat refine awp_seq ?_
     refine awp_then (by simp -implicitDefEqProofs (disch := first | omega | rfl) only [go_sem, simprocAttr, eq_false hc7]) ?_
     repeat refine awp_seq ?_
     refine rg (h := ?_)
     obtain rfl := som_inj h
     try dsimp only at hm3
     subst hm3
     simp only [Ou.on_ret] at hO3
     obtain rfl := som_inj hO3
     repeat refine awp_seq ?_
     refine awp_ret ?_
     repeat first | refine then_ret ?_ | refine blk_ret ?_
     exact rtp
   repeat refine awp_seq ?_
   refine awp_else (by simp -implicitDefEqProofs (disch := first | omega | rfl) only [go_sem, simprocAttr, eq_false hc4]) ?_
   repeat refine awp_seq ?_
   refine awp_exit ?_
   repeat' (first | refine then_exit ?_ | refine exit_here ?_ | refine exit_on rfl ?_)
   obtain rfl := som_inj h
   try dsimp only at hm3
   subst hm3
   simp only [Ou.on_brk] at hO3
   repeat refine awp_seq ?_
   refine rg (h := ?_)
   obtain rfl := som_inj hO3
   repeat refine awp_seq ?_
   refine awp_ret ?_
   repeat first | refine then_ret ?_ | refine blk_ret ?_
   exact rtp
 repeat refine awp_seq ?_
 refine awp_then (by simp -implicitDefEqProofs (disch := first | omega | rfl) only [go_sem, simprocAttr, eq_false hc1]) ?_
 repeat refine awp_seq ?_
 refine rg (h := ?_)
 obtain rfl := som_inj h
 repeat refine awp_seq ?_
 refine awp_ret ?_
 repeat first | refine then_ret ?_ | refine blk_ret ?_
 exact rtp
end Go.Proofs.Inc
namespace Go.Proofs.Inc
open Go.Aw
set_option maxRecDepth 100000
attribute [-go_sem] nisA_sl appA_nil
def zr20_0 : List AO := [⟨some 4, none, .mov (.c (.bool false))⟩]
def zr20_1 : List AO := [⟨some 6, none, .mov (.t 0)⟩,
  ⟨some 7, none, .len (.t 6)⟩,
  ⟨some 8, none, .mov (.t 1)⟩,
  ⟨some 9, none, .len (.t 8)⟩,
  ⟨some 10, none, .bin .neq (.t 7) (.t 9)⟩]
def zr20_2 : List AO := [⟨some 4, none, .mov (.c (.bool false))⟩]
def zc20_0 : AC := .seq (.reg zr20_2) .ret
def zc20_1 : AC := .cond (.t 10) zc20_0 .skip
def zr20_3 : List AO := [⟨some 5, none, .mov (.c (.int .i64 0))⟩]
def zr20_4 : List AO := [⟨some 11, none, .mov (.t 5)⟩,
  ⟨some 12, none, .mov (.t 0)⟩,
  ⟨some 13, none, .len (.t 12)⟩,
  ⟨some 14, none, .bin .lss (.t 11) (.t 13)⟩]
def zc20_2 : AC := .cond (.t 14) .skip (.exit 0)
def zr20_5 : DT := (.pur ⟨some 17, none, .mov (.t 0)⟩ (.pur ⟨some 18, none, .mov (.t 5)⟩ (.pur ⟨some 19, none, .iadr 33 (.t 17) (.t 18)⟩ (.pur ⟨some 20, none, .load true 33 (.t 19)⟩ (.pur ⟨some 21, none, .mov (.t 1)⟩ (.alt false ⟨some 22, none, .mov (.t 5)⟩ (.alt false ⟨some 23, none, .iadr 33 (.t 21) (.t 22)⟩ (.alt false ⟨some 24, none, .load true 33 (.t 23)⟩ (.alt false ⟨some 25, none, .callF 31 [(.t 20), (.t 24)]⟩ (.alt true ⟨some 26, none, .un .not (.t 25)⟩ .done .stop) .stop) .stop) .stop) .stop))))))
def zr20_6 : List AO := [⟨some 4, none, .mov (.c (.bool false))⟩]
def zc20_3 : AC := .seq (.reg zr20_6) .ret
def zc20_4 : AC := .cond (.t 26) zc20_3 .skip
def zc20_5 : AC := .seq (.regD zr20_5) zc20_4
def zr20_7 : List AO := [⟨some 15, none, .mov (.t 5)⟩,
  ⟨some 16, none, .bin .add (.t 15) (.c (.int .i64 1))⟩,
  ⟨some 5, none, .mov (.t 16)⟩]
def zc20_6 : AC := .reg zr20_7
def zc20_7 : AC := .seq (.block 1 zc20_5) zc20_6
def zc20_8 : AC := .seq (.seq (.reg zr20_4) zc20_2) zc20_7
def zc20_9 : AC := .loop zc20_8
def zc20_10 : AC := .block 0 zc20_9
def zr20_8 : List AO := [⟨some 4, none, .mov (.c (.bool true))⟩]
def zc20_11 : AC := .seq (.reg zr20_8) .ret
def zc20_12 : AC := .seq (.seq (.reg zr20_3) zc20_10) zc20_11
def zc20_13 : AC := .seq (.seq (.reg zr20_1) zc20_1) zc20_12
def zc20_14 : AC := .seq (.reg zr20_0) zc20_13
def zc20 : AC := zc20_14
theorem ok20 : Try.f20.body.bind (compCode Try.prog 27) = some zc20 := by kernel_rfl
theorem nt20 : Try.f20.ntmps = 27 := by kernel_rfl
theorem res20 : compRes Try.prog Try.f20.results.toList = some [.tmp 4] := by kernel_rfl
def zr31_0 : List AO := [⟨some 2, none, .box (.t 0)⟩,
  ⟨some 3, none, .box (.t 1)⟩,
  ⟨some 4, none, .mov (.c (.bool false))⟩]
def zr31_1 : List AO := [⟨some 7, none, .fadr 0 (.t 2)⟩,
  ⟨some 8, none, .load false 1 (.t 7)⟩,
  ⟨some 9, none, .fadr 0 (.t 3)⟩,
  ⟨some 10, none, .load false 1 (.t 9)⟩,
  ⟨some 11, none, .bin .neq (.t 8) (.t 10)⟩,
  ⟨some 12, none, .mov (.t 11)⟩,
  ⟨some 13, some (12, false), .fadr 1 (.t 2)⟩,
  ⟨some 14, some (12, false), .load false 1 (.t 13)⟩,
  ⟨some 15, some (12, false), .fadr 1 (.t 3)⟩,
  ⟨some 16, some (12, false), .load false 1 (.t 15)⟩,
  ⟨some 17, some (12, false), .bin .neq (.t 14) (.t 16)⟩,
  ⟨some 18, none, .pick (.t 12) (.c (.bool true)) (.t 17)⟩,
  ⟨some 19, none, .mov (.t 18)⟩,
  ⟨some 20, some (19, false), .fadr 2 (.t 2)⟩,
  ⟨some 21, some (19, false), .load false 1 (.t 20)⟩,
  ⟨some 22, some (19, false), .fadr 2 (.t 3)⟩,
  ⟨some 23, some (19, false), .load false 1 (.t 22)⟩,
  ⟨some 24, some (19, false), .bin .neq (.t 21) (.t 23)⟩,
  ⟨some 25, none, .pick (.t 19) (.c (.bool true)) (.t 24)⟩,
  ⟨some 26, none, .mov (.t 25)⟩,
  ⟨some 27, some (26, false), .fadr 3 (.t 2)⟩,
  ⟨some 28, some (26, false), .load false 1 (.t 27)⟩,
  ⟨some 29, some (26, false), .fadr 3 (.t 3)⟩,
  ⟨some 30, some (26, false), .load false 1 (.t 29)⟩,
  ⟨some 31, some (26, false), .bin .neq (.t 28) (.t 30)⟩,
  ⟨some 32, none, .pick (.t 26) (.c (.bool true)) (.t 31)⟩,
  ⟨some 33, none, .mov (.t 32)⟩,
  ⟨some 34, some (33, false), .fadr 4 (.t 2)⟩,
  ⟨some 35, some (33, false), .load false 1 (.t 34)⟩,
  ⟨some 36, some (33, false), .fadr 4 (.t 3)⟩,
  ⟨some 37, some (33, false), .load false 1 (.t 36)⟩,
  ⟨some 38, some (33, false), .bin .neq (.t 35) (.t 37)⟩,
  ⟨some 39, none, .pick (.t 33) (.c (.bool true)) (.t 38)⟩,
  ⟨some 40, none, .mov (.t 39)⟩,
  ⟨some 41, some (40, false), .fadr 5 (.t 2)⟩,
  ⟨some 42, some (40, false), .load false 1 (.t 41)⟩,
  ⟨some 43, some (40, false), .fadr 5 (.t 3)⟩,
  ⟨some 44, some (40, false), .load false 1 (.t 43)⟩,
  ⟨some 45, some (40, false), .bin .neq (.t 42) (.t 44)⟩,
  ⟨some 46, none, .pick (.t 40) (.c (.bool true)) (.t 45)⟩,
  ⟨some 47, none, .mov (.t 46)⟩,
  ⟨some 48, some (47, false), .fadr 6 (.t 2)⟩,
  ⟨some 49, some (47, false), .load false 1 (.t 48)⟩,
  ⟨some 50, some (47, false), .fadr 6 (.t 3)⟩,
  ⟨some 51, some (47, false), .load false 1 (.t 50)⟩,
  ⟨some 52, some (47, false), .bin .neq (.t 49) (.t 51)⟩,
  ⟨some 53, none, .pick (.t 47) (.c (.bool true)) (.t 52)⟩,
  ⟨some 54, none, .mov (.t 53)⟩,
  ⟨some 55, some (54, false), .fadr 7 (.t 2)⟩,
  ⟨some 56, some (54, false), .load true 3 (.t 55)⟩,
  ⟨some 57, some (54, false), .fadr 7 (.t 3)⟩,
  ⟨some 58, some (54, false), .load true 3 (.t 57)⟩,
  ⟨some 59, some (54, false), .eqS true [.i, .b, .s] (.t 56) (.t 58)⟩,
  ⟨some 60, none, .pick (.t 54) (.c (.bool true)) (.t 59)⟩,
  ⟨some 61, none, .mov (.t 60)⟩,
  ⟨some 62, some (61, false), .fadr 10 (.t 2)⟩,
  ⟨some 63, some (61, false), .load true 3 (.t 62)⟩,
  ⟨some 64, some (61, false), .fadr 10 (.t 3)⟩,
  ⟨some 65, some (61, false), .load true 3 (.t 64)⟩,
  ⟨some 66, some (61, false), .eqS true [.i, .b, .s] (.t 63) (.t 65)⟩,
  ⟨some 67, none, .pick (.t 61) (.c (.bool true)) (.t 66)⟩,
  ⟨some 68, none, .mov (.t 67)⟩,
  ⟨some 69, some (68, false), .fadr 13 (.t 2)⟩,
  ⟨some 70, some (68, false), .load false 1 (.t 69)⟩,
  ⟨some 71, some (68, false), .len (.t 70)⟩,
  ⟨some 72, some (68, false), .fadr 13 (.t 3)⟩,
  ⟨some 73, some (68, false), .load false 1 (.t 72)⟩,
  ⟨some 74, some (68, false), .len (.t 73)⟩,
  ⟨some 75, some (68, false), .bin .neq (.t 71) (.t 74)⟩,
  ⟨some 76, none, .pick (.t 68) (.c (.bool true)) (.t 75)⟩]
def zr31_2 : List AO := [⟨some 4, none, .mov (.c (.bool false))⟩]
def zc31_0 : AC := .seq (.reg zr31_2) .ret
def zc31_1 : AC := .cond (.t 76) zc31_0 .skip
def zr31_3 : List AO := [⟨some 5, none, .mov (.c (.int .i64 0))⟩]
def zr31_4 : List AO := [⟨some 77, none, .mov (.t 5)⟩,
  ⟨some 78, none, .fadr 13 (.t 2)⟩,
  ⟨some 79, none, .load false 1 (.t 78)⟩,
  ⟨some 80, none, .len (.t 79)⟩,
  ⟨some 81, none, .bin .lss (.t 77) (.t 80)⟩]
def zc31_2 : AC := .cond (.t 81) .skip (.exit 0)
def zr31_5 : DT := (.pur ⟨some 84, none, .fadr 13 (.t 2)⟩ (.pur ⟨some 85, none, .load false 1 (.t 84)⟩ (.pur ⟨some 86, none, .mov (.t 5)⟩ (.pur ⟨some 87, none, .iadr 2 (.t 85) (.t 86)⟩ (.pur ⟨some 88, none, .load true 2 (.t 87)⟩ (.pur ⟨some 89, none, .fadr 13 (.t 3)⟩ (.pur ⟨some 90, none, .load false 1 (.t 89)⟩ (.alt false ⟨some 91, none, .mov (.t 5)⟩ (.alt false ⟨some 92, none, .iadr 2 (.t 90) (.t 91)⟩ (.alt false ⟨some 93, none, .load true 2 (.t 92)⟩ (.alt true ⟨some 94, none, .eqS true [.s, .i] (.t 88) (.t 93)⟩ .done .stop) .stop) .stop) .stop))))))))
def zr31_6 : List AO := [⟨some 4, none, .mov (.c (.bool false))⟩]
def zc31_3 : AC := .seq (.reg zr31_6) .ret
def zc31_4 : AC := .cond (.t 94) zc31_3 .skip
def zc31_5 : AC := .seq (.regD zr31_5) zc31_4
def zr31_7 : List AO := [⟨some 82, none, .mov (.t 5)⟩,
  ⟨some 83, none, .bin .add (.t 82) (.c (.int .i64 1))⟩,
  ⟨some 5, none, .mov (.t 83)⟩]
def zc31_6 : AC := .reg zr31_7
def zc31_7 : AC := .seq (.block 1 zc31_5) zc31_6
def zc31_8 : AC := .seq (.seq (.reg zr31_4) zc31_2) zc31_7
def zc31_9 : AC := .loop zc31_8
def zc31_10 : AC := .block 0 zc31_9
def zr31_8 : List AO := [⟨some 95, none, .fadr 14 (.t 2)⟩,
  ⟨some 96, none, .load false 1 (.t 95)⟩,
  ⟨some 97, none, .fadr 14 (.t 3)⟩,
  ⟨some 98, none, .load false 1 (.t 97)⟩,
  ⟨some 99, none, .bin .neq (.t 96) (.t 98)⟩,
  ⟨some 100, none, .mov (.t 99)⟩,
  ⟨some 101, some (100, false), .fadr 15 (.t 2)⟩,
  ⟨some 102, some (100, false), .load false 1 (.t 101)⟩,
  ⟨some 103, some (100, false), .fadr 15 (.t 3)⟩,
  ⟨some 104, some (100, false), .load false 1 (.t 103)⟩,
  ⟨some 105, some (100, false), .bin .neq (.t 102) (.t 104)⟩,
  ⟨some 106, none, .pick (.t 100) (.c (.bool true)) (.t 105)⟩,
  ⟨some 107, none, .mov (.t 106)⟩,
  ⟨some 108, some (107, false), .fadr 16 (.t 2)⟩,
  ⟨some 109, some (107, false), .load true 2 (.t 108)⟩,
  ⟨some 110, some (107, false), .fadr 16 (.t 3)⟩,
  ⟨some 111, some (107, false), .load true 2 (.t 110)⟩,
  ⟨some 112, some (107, false), .eqS true [.i, .i] (.t 109) (.t 111)⟩,
  ⟨some 113, none, .pick (.t 107) (.c (.bool true)) (.t 112)⟩,
  ⟨some 114, none, .mov (.t 113)⟩,
  ⟨some 115, some (114, false), .fadr 18 (.t 2)⟩,
  ⟨some 116, some (114, false), .load false 1 (.t 115)⟩,
  ⟨some 117, some (114, false), .fadr 18 (.t 3)⟩,
  ⟨some 118, some (114, false), .load false 1 (.t 117)⟩,
  ⟨some 119, some (114, false), .bin .neq (.t 116) (.t 118)⟩,
  ⟨some 120, none, .pick (.t 114) (.c (.bool true)) (.t 119)⟩,
  ⟨some 121, none, .mov (.t 120)⟩,
  ⟨some 122, some (121, false), .fadr 19 (.t 2)⟩,
  ⟨some 123, some (121, false), .load false 1 (.t 122)⟩,
  ⟨some 124, some (121, false), .fadr 19 (.t 3)⟩,
  ⟨some 125, some (121, false), .load false 1 (.t 124)⟩,
  ⟨some 126, some (121, false), .bin .neq (.t 123) (.t 125)⟩,
  ⟨some 127, none, .pick (.t 121) (.c (.bool true)) (.t 126)⟩,
  ⟨some 128, none, .mov (.t 127)⟩,
  ⟨some 129, some (128, false), .fadr 20 (.t 2)⟩,
  ⟨some 130, some (128, false), .load false 1 (.t 129)⟩,
  ⟨some 131, some (128, false), .fadr 20 (.t 3)⟩,
  ⟨some 132, some (128, false), .load false 1 (.t 131)⟩,
  ⟨some 133, some (128, false), .binB .neq (.t 130) (.t 132)⟩,
  ⟨some 134, none, .pick (.t 128) (.c (.bool true)) (.t 133)⟩,
  ⟨some 135, none, .mov (.t 134)⟩,
  ⟨some 136, some (135, false), .fadr 21 (.t 2)⟩,
  ⟨some 137, some (135, false), .load false 1 (.t 136)⟩,
  ⟨some 138, some (135, false), .fadr 21 (.t 3)⟩,
  ⟨some 139, some (135, false), .load false 1 (.t 138)⟩,
  ⟨some 140, some (135, false), .bin .neq (.t 137) (.t 139)⟩,
  ⟨some 141, none, .pick (.t 135) (.c (.bool true)) (.t 140)⟩,
  ⟨some 142, none, .mov (.t 141)⟩,
  ⟨some 143, some (142, false), .fadr 22 (.t 2)⟩,
  ⟨some 144, some (142, false), .load false 1 (.t 143)⟩,
  ⟨some 145, some (142, false), .fadr 22 (.t 3)⟩,
  ⟨some 146, some (142, false), .load false 1 (.t 145)⟩,
  ⟨some 147, some (142, false), .bin .neq (.t 144) (.t 146)⟩,
  ⟨some 148, none, .pick (.t 142) (.c (.bool true)) (.t 147)⟩,
  ⟨some 149, none, .mov (.t 148)⟩,
  ⟨some 150, some (149, false), .fadr 23 (.t 2)⟩,
  ⟨some 151, some (149, false), .load true 7 (.t 150)⟩,
  ⟨some 152, some (149, false), .fadr 23 (.t 3)⟩,
  ⟨some 153, some (149, false), .load true 7 (.t 152)⟩,
  ⟨some 154, some (149, false), .eqS true [.b, .b, .b, .b, .b, .b, .b] (.t 151) (.t 153)⟩,
  ⟨some 155, none, .pick (.t 149) (.c (.bool true)) (.t 154)⟩,
  ⟨some 156, none, .mov (.t 155)⟩,
  ⟨some 157, some (156, false), .fadr 30 (.t 2)⟩,
  ⟨some 158, some (156, false), .load false 1 (.t 157)⟩,
  ⟨some 159, some (156, false), .len (.t 158)⟩,
  ⟨some 160, some (156, false), .fadr 30 (.t 3)⟩,
  ⟨some 161, some (156, false), .load false 1 (.t 160)⟩,
  ⟨some 162, some (156, false), .len (.t 161)⟩,
  ⟨some 163, some (156, false), .bin .neq (.t 159) (.t 162)⟩,
  ⟨some 164, none, .pick (.t 156) (.c (.bool true)) (.t 163)⟩,
  ⟨some 165, none, .mov (.t 164)⟩,
  ⟨some 166, some (165, false), .fadr 31 (.t 2)⟩,
  ⟨some 167, some (165, false), .load false 1 (.t 166)⟩,
  ⟨some 168, some (165, false), .fadr 31 (.t 3)⟩,
  ⟨some 169, some (165, false), .load false 1 (.t 168)⟩,
  ⟨some 170, some (165, false), .callF 37 [(.t 167), (.t 169)]⟩,
  ⟨some 171, some (165, false), .un .not (.t 170)⟩,
  ⟨some 172, none, .pick (.t 165) (.c (.bool true)) (.t 171)⟩]
def zr31_9 : List AO := [⟨some 4, none, .mov (.c (.bool false))⟩]
def zc31_11 : AC := .seq (.reg zr31_9) .ret
def zc31_12 : AC := .cond (.t 172) zc31_11 .skip
def zr31_10 : List AO := [⟨some 6, none, .mov (.c (.int .i64 0))⟩]
def zr31_11 : List AO := [⟨some 173, none, .mov (.t 6)⟩,
  ⟨some 174, none, .fadr 30 (.t 2)⟩,
  ⟨some 175, none, .load false 1 (.t 174)⟩,
  ⟨some 176, none, .len (.t 175)⟩,
  ⟨some 177, none, .bin .lss (.t 173) (.t 176)⟩]
def zc31_13 : AC := .cond (.t 177) .skip (.exit 2)
def zr31_12 : DT := (.pur ⟨some 180, none, .fadr 30 (.t 2)⟩ (.pur ⟨some 181, none, .load false 1 (.t 180)⟩ (.pur ⟨some 182, none, .mov (.t 6)⟩ (.pur ⟨some 183, none, .iadr 3 (.t 181) (.t 182)⟩ (.pur ⟨some 184, none, .load true 3 (.t 183)⟩ (.pur ⟨some 185, none, .fadr 30 (.t 3)⟩ (.pur ⟨some 186, none, .load false 1 (.t 185)⟩ (.alt false ⟨some 187, none, .mov (.t 6)⟩ (.alt false ⟨some 188, none, .iadr 3 (.t 186) (.t 187)⟩ (.alt false ⟨some 189, none, .load true 3 (.t 188)⟩ (.alt true ⟨some 190, none, .eqS true [.i, .i, .i] (.t 184) (.t 189)⟩ .done .stop) .stop) .stop) .stop))))))))
def zr31_13 : List AO := [⟨some 4, none, .mov (.c (.bool false))⟩]
def zc31_14 : AC := .seq (.reg zr31_13) .ret
def zc31_15 : AC := .cond (.t 190) zc31_14 .skip
def zc31_16 : AC := .seq (.regD zr31_12) zc31_15
def zr31_14 : List AO := [⟨some 178, none, .mov (.t 6)⟩,
  ⟨some 179, none, .bin .add (.t 178) (.c (.int .i64 1))⟩,
  ⟨some 6, none, .mov (.t 179)⟩]
def zc31_17 : AC := .reg zr31_14
def zc31_18 : AC := .seq (.block 3 zc31_16) zc31_17
def zc31_19 : AC := .seq (.seq (.reg zr31_11) zc31_13) zc31_18
def zc31_20 : AC := .loop zc31_19
def zc31_21 : AC := .block 2 zc31_20
def zr31_15 : List AO := [⟨some 191, none, .fadr 32 (.t 2)⟩,
  ⟨some 192, none, .load false 1 (.t 191)⟩,
  ⟨some 193, none, .fadr 32 (.t 3)⟩,
  ⟨some 194, none, .load false 1 (.t 193)⟩,
  ⟨some 195, none, .callF 20 [(.t 192), (.t 194)]⟩,
  ⟨some 4, none, .mov (.t 195)⟩]
def zc31_22 : AC := .seq (.reg zr31_15) .ret
def zc31_23 : AC := .seq (.seq (.reg zr31_10) zc31_21) zc31_22
def zc31_24 : AC := .seq (.seq (.reg zr31_8) zc31_12) zc31_23
def zc31_25 : AC := .seq (.seq (.reg zr31_3) zc31_10) zc31_24
def zc31_26 : AC := .seq (.seq (.reg zr31_1) zc31_1) zc31_25
def zc31_27 : AC := .seq (.reg zr31_0) zc31_26
def zc31 : AC := zc31_27
theorem ok31 : Try.f31.body.bind (compCode Try.prog 196) = some zc31 := by kernel_rfl
theorem nt31 : Try.f31.ntmps = 196 := by kernel_rfl
theorem res31 : compRes Try.prog Try.f31.results.toList = some [.tmp 4] := by kernel_rfl
attribute [go_sem] zr20_0 zr20_1 zr20_2 zr20_3 zr20_4 zr20_6 zr20_7 zr20_8 zr31_1 zr31_10 zr31_11 zr31_13 zr31_14 zr31_2 zr31_3 zr31_4 zr31_6 zr31_7 zr31_9
def s31_b1 (N : Nat) (p1 : Item) (p2 : Item) (x26 : Int) : Option (((Int) ⊕ (Ou (Unit) (Bool)))) :=
  if x26 < (List.length p1.Dates : Int) then
    grd (0 ≤ x26) <|
    grd (x26 < (List.length p2.Dates : Int)) <|
    if p1.Dates[x26.toNat]! = p2.Dates[x26.toNat]! then
      some (.inl (IntKind.wrap .i64 (x26 + 1)))
    else
      some (.inr (.ret false))
  else
    some (.inr (.brk ()))
def s31_k2 (N : Nat) (p1 : Item) (p2 : Item) (rec20 : (List Item) → (List Item) → Option Bool) : Option Bool :=
  if p1.By = p2.By then
    if p1.Until = p2.Until then
      if p1.Num = p2.Num then
        if p1.Unit = p2.Unit then
          if p1.Sum = p2.Sum then
            bif (p1.Final == p2.Final) then
              if p1.Give = p2.Give then
                if p1.To = p2.To then
                  if p1.Days = p2.Days then
                    if (List.length p1.Dates : Int) = (List.length p2.Dates : Int) then
                      (s37 N p1.Names p2.Names).bind fun x23 =>
                      bif x23 then
                        (iter (fun p => s31_b1 N p1 p2 p) N 0).bind fun o27 => o27.on (fun a27 =>
                          (rec20 p1.Items p2.Items).bind fun x34 =>
                          some x34)
                          (fun a27r => some a27r)
                      else
                        some false
                    else
                      some false
                  else
                    some false
                else
                  some false
              else
                some false
            else
              some false
          else
            some false
        else
          some false
      else
        some false
    else
      some false
  else
    some false
def s31_b3 (N : Nat) (p1 : Item) (p2 : Item) (x36 : Int) : Option (((Int) ⊕ (Ou (Unit) (Bool)))) :=
  if x36 < (List.length p1.Conds : Int) then
    grd (0 ≤ x36) <|
    grd (x36 < (List.length p2.Conds : Int)) <|
    if p1.Conds[x36.toNat]! = p2.Conds[x36.toNat]! then
      some (.inl (IntKind.wrap .i64 (x36 + 1)))
    else
      some (.inr (.ret false))
  else
    some (.inr (.brk ()))
def s31_body (rec31 : Item → Item → Option Bool) (rec20 : (List Item) → (List Item) → Option Bool) (N : Nat) (p1 : Item) (p2 : Item) : Option Bool :=
  if p1.Kind = p2.Kind then
    if p1.Name = p2.Name then
      if p1.At = p2.At then
        if p1.Of = p2.Of then
          if p1.Act = p2.Act then
            if p1.Word = p2.Word then
              if p1.Times = p2.Times then
                if p1.Within = p2.Within then
                  if p1.Grace = p2.Grace then
                    if (List.length p1.Conds : Int) = (List.length p2.Conds : Int) then
                      (iter (fun p => s31_b3 N p1 p2 p) N 0).bind fun o37 => o37.on (fun a37 =>
                        s31_k2 N p1 p2 rec20)
                        (fun a37r => some a37r)
                    else
                      some false
                  else
                    some false
                else
                  some false
              else
                some false
            else
              some false
          else
            some false
        else
          some false
      else
        some false
    else
      some false
  else
    some false
def s20_b1 (N : Nat) (p1 : List Item) (p2 : List Item) (rec31 : Item → Item → Option Bool) (x2 : Int) : Option (((Int) ⊕ (Ou (Unit) (Bool)))) :=
  if x2 < (List.length p1 : Int) then
    grd (0 ≤ x2) <|
    grd (x2 < (List.length p2 : Int)) <|
    (rec31 (p1[x2.toNat]!) (p2[x2.toNat]!)).bind fun x7 =>
    bif x7 then
      some (.inl (IntKind.wrap .i64 (x2 + 1)))
    else
      some (.inr (.ret false))
  else
    some (.inr (.brk ()))
def s20_body (rec31 : Item → Item → Option Bool) (rec20 : (List Item) → (List Item) → Option Bool) (N : Nat) (p1 : List Item) (p2 : List Item) : Option Bool :=
  if (List.length p1 : Int) = (List.length p2 : Int) then
    (iter (fun p => s20_b1 N p1 p2 rec31 p) N 0).bind fun o3 => o3.on (fun a3 =>
      some true)
      (fun a3r => some a3r)
  else
    some false
mutual
def s31 : Nat → Item → Item → Option Bool
  | 0, _, _ => none
  | N + 1, p1, p2 => s31_body (s31 N) (s20 N) N p1 p2
def s20 : Nat → (List Item) → (List Item) → Option Bool
  | 0, _, _ => none
  | N + 1, p1, p2 => s20_body (s31 N) (s20 N) N p1 p2
end
set_option maxHeartbeats 4000000 in
theorem c31_body (rec31 : Item → Item → Option Bool) (rec20 : (List Item) → (List Item) → Option Bool) (hrec31 : ∀ (p1 : Item) (p2 : Item) (r : Bool), rec31 p1 p2 = some r → PureC Try.prog 31 [.agg (Item.cs p1), .agg (Item.cs p2)] (.bool r)) (hrec20 : ∀ (p1 : List Item) (p2 : List Item) (r : Bool), rec20 p1 p2 = some r → PureC Try.prog 20 [.sl (List.map Item.av p1), .sl (List.map Item.av p2)] (.bool r)) (N : Nat) (p1 : Item) (p2 : Item) (r : Bool) (h : s31_body rec31 rec20 N p1 p2 = some r) : PureC Try.prog 31 [.agg (Item.cs p1), .agg (Item.cs p2)] (.bool r) := by
 refine fn_intro' 196 Try.func31 nt31 ok31 res31 (by simp) fun X hP hn hd hr => ?_
 unfold s31_body at h
 repeat refine awp_seq ?_
 refine awp_reg fun K Q hK hQ => ?_
 simp -implicitDefEqProofs (disch := first | omega | rfl) only [go_sem, simprocAttr, zr31_0, argS]
 intro b1 b2
 refine hK _ _ ?_; clear hK hQ K Q
 repeat refine awp_seq ?_
 rcases ite_some h with ⟨hc3, h⟩ | ⟨hc3, h⟩
 · rcases ite_some h with ⟨hc4, h⟩ | ⟨hc4, h⟩
   · rcases ite_some h with ⟨hc5, h⟩ | ⟨hc5, h⟩
     · rcases ite_some h with ⟨hc6, h⟩ | ⟨hc6, h⟩
       · rcases ite_some h with ⟨hc7, h⟩ | ⟨hc7, h⟩
         · rcases ite_some h with ⟨hc8, h⟩ | ⟨hc8, h⟩
           · rcases ite_some h with ⟨hc9, h⟩ | ⟨hc9, h⟩
             · rcases ite_some h with ⟨hc10, h⟩ | ⟨hc10, h⟩
               · rcases ite_some h with ⟨hc11, h⟩ | ⟨hc11, h⟩
                 · refine rgf (And.intro (eq_true hc3) (And.intro (eq_true hc4) (And.intro (eq_true hc5) (And.intro (eq_true hc6) (And.intro (eq_true hc7) (And.intro (eq_true hc8) (And.intro (eq_true hc9) (And.intro (eq_true hc10) (eq_true hc11))))))))) ?_
                   rcases ite_some h with ⟨hc12, h⟩ | ⟨hc12, h⟩
                   · repeat refine awp_seq ?_
                     refine awp_else (by simp -implicitDefEqProofs (disch := first | omega | rfl) only [go_sem, simprocAttr, eq_true hc12]) ?_
                     repeat refine awp_seq ?_
                     refine awp_skip ?_
                     repeat refine awp_seq ?_
                     refine rg (h := ?_)
                     repeat refine awp_seq ?_
                     refine awp_cut (ι := {p : Unit // s31_k2 N p1 p2 rec20 = some r}) (fun p => [(2, .ptr 2 b1 0), (3, .ptr 3 b2 0)]) (fun p => (2, b1, .cells (Item.cs p1)) :: (3, b2, .cells (Item.cs p2)) :: []) ?_ ?_
                     · repeat refine awp_seq ?_
                       refine awp_block ?_
                       obtain ⟨o37, ho37, hO37⟩ := bnd_some h
                       repeat refine awp_seq ?_
                       refine awp_loop (ι := {p : Nat × Int // iter (fun p => s31_b3 N p1 p2 p) p.1 p.2 = some o37}) (fun p => [(2, .ptr 2 b1 0), (3, .ptr 3 b2 0), (5, .int .i64 p.1.2)]) (fun p => (2, b1, .cells (Item.cs p1)) :: (3, b2, .cells (Item.cs p2)) :: []) (fun p => p.1.1) ⟨⟨N, 0⟩, ho37⟩ ?_ ?_
                       · refine ent_le' ([]) (_ :: _ :: []) (_ :: _ :: []) rfl (List.Perm.trans perm_cc (List.Perm.refl _)) ?_ ?_
                         · simp -implicitDefEqProofs (disch := first | omega | rfl) only [go_sem, simprocAttr, subF_cons, subF_nil]
                           exact ⟨(.lptr ..), (.lptr ..), (.keep _)⟩
                         · exact (.cell (.cell .nil))
                       rintro ⟨⟨n37, x36⟩, hi37⟩
                       obtain ⟨m37, q37, rfl, h, hm37⟩ := iter_some hi37
                       try dsimp only at h
                       try dsimp only
                       unfold s31_b3 at h
                       repeat refine awp_seq ?_
                       refine rg (h := ?_)
                       rcases ite_some h with ⟨hc38, h⟩ | ⟨hc38, h⟩
                       · repeat refine awp_seq ?_
                         refine awp_then (by simp -implicitDefEqProofs (disch := first | omega | rfl) only [go_sem, simprocAttr, eq_true hc38]) ?_
                         repeat refine awp_seq ?_
                         refine awp_skip ?_
                         repeat refine awp_seq ?_
                         refine awp_block ?_
                         repeat refine awp_seq ?_
                         refine awp_regD' (_ :: _ :: []) ([]) (_ :: _ :: []) (by rw [hP]; exact mixed) rfl (List.Perm.refl _) fun K hK => ?_
                         obtain ⟨hg39, h⟩ := grd_some h
                         obtain ⟨hg40, h⟩ := grd_some h
                         simp -implicitDefEqProofs (disch := first | omega | rfl) only [go_sem, simprocAttr, zr31_5, eq_true hc38, eq_true hg39, eq_true hg40]
                         refine hK _ _ ?_; clear hK K
                         rcases ite_some h with ⟨hc41, h⟩ | ⟨hc41, h⟩
                         · repeat refine awp_seq ?_
                           refine awp_else (by simp -implicitDefEqProofs (disch := first | omega | rfl) only [go_sem, simprocAttr, eq_true hc41]) ?_
                           repeat refine awp_seq ?_
                           refine awp_skip ?_
                           repeat refine awp_seq ?_
                           refine rg (h := ?_)
                           obtain rfl := som_inj h
                           try dsimp only at hm37
                           refine ⟨⟨⟨m37, IntKind.wrap .i64 (x36 + 1)⟩, hm37⟩, Nat.lt_succ_self _, ?_⟩
                           refine ent_le' ([]) (_ :: _ :: []) (_ :: _ :: []) rfl (List.Perm.refl _) ?_ ?_
                           · simp -implicitDefEqProofs (disch := first | omega | rfl) only [go_sem, simprocAttr, subF_cons, subF_nil]
                             exact ⟨(.lptr ..), (.lptr ..), (.keep _)⟩
                           · exact (.cell (.cell .nil))
                         repeat refine awp_seq ?_
                         refine awp_then (by simp -implicitDefEqProofs (disch := first | omega | rfl) only [go_sem, simprocAttr, eq_false hc41]) ?_
                         repeat refine awp_seq ?_
                         refine rg (h := ?_)
                         obtain rfl := som_inj h
                         try dsimp only at hm37
                         subst hm37
                         simp only [Ou.on_ret] at hO37
                         obtain rfl := som_inj hO37
                         repeat refine awp_seq ?_
                         refine awp_ret ?_
                         repeat first | refine then_ret ?_ | refine blk_ret ?_
                         exact rtp
                       repeat refine awp_seq ?_
                       refine awp_else (by simp -implicitDefEqProofs (disch := first | omega | rfl) only [go_sem, simprocAttr, eq_false hc38]) ?_
                       repeat refine awp_seq ?_
                       refine awp_exit ?_
                       repeat' (first | refine then_exit ?_ | refine exit_here ?_ | refine exit_on rfl ?_)
                       obtain rfl := som_inj h
                       try dsimp only at hm37
                       subst hm37
                       simp only [Ou.on_brk] at hO37
                       refine ⟨⟨(), hO37⟩, ?_⟩
                       refine ent_le' ([]) (_ :: _ :: []) (_ :: _ :: []) rfl (List.Perm.refl _) ?_ ?_
                       · simp -implicitDefEqProofs (disch := first | omega | rfl) only [go_sem, simprocAttr, subF_cons, subF_nil]
                         exact ⟨(.lptr ..), (.lptr ..)⟩
                       · exact (.cell (.cell .nil))
                     rintro ⟨_, h⟩
                     try dsimp only at h
                     try dsimp only
                     repeat refine awp_seq ?_
                     refine awp_reg fun K Q hK hQ => ?_
                     rcases ite_some h with ⟨hc13, h⟩ | ⟨hc13, h⟩
                     · rcases ite_some h with ⟨hc14, h⟩ | ⟨hc14, h⟩
                       · rcases ite_some h with ⟨hc15, h⟩ | ⟨hc15, h⟩
                         · rcases ite_some h with ⟨hc16, h⟩ | ⟨hc16, h⟩
                           · rcases ite_some h with ⟨hc17, h⟩ | ⟨hc17, h⟩
                             · rcases cnd_some h with ⟨hc18, h⟩ | ⟨hc18, h⟩
                               · rcases ite_some h with ⟨hc19, h⟩ | ⟨hc19, h⟩
                                 · rcases ite_some h with ⟨hc20, h⟩ | ⟨hc20, h⟩
                                   · rcases ite_some h with ⟨hc21, h⟩ | ⟨hc21, h⟩
                                     · rcases ite_some h with ⟨hc22, h⟩ | ⟨hc22, h⟩
                                       · simp -implicitDefEqProofs (disch := first | omega | rfl) only [go_sem, simprocAttr, zr31_8, eq_true hc13, eq_true hc14, eq_true hc15, eq_true hc16, eq_true hc17, hc18, eq_true hc19, eq_true hc20, eq_true hc21, eq_true hc22]
                                         have hh := bnd_some h; clear h; obtain ⟨x23, hx24, h⟩ := hh
                                         refine call_pure hP (c37 N p1.Names p2.Names x23 hx24) ?_
                                         simp -implicitDefEqProofs (disch := first | omega | rfl) only [go_sem, simprocAttr]
                                         refine hK _ _ ?_; clear hK hQ K Q
                                         rcases cnd_some h with ⟨hc25, h⟩ | ⟨hc25, h⟩
                                         · repeat refine awp_seq ?_
                                           refine awp_else (by simp -implicitDefEqProofs (disch := first | omega | rfl) only [go_sem, simprocAttr, hc25]) ?_
                                           repeat refine awp_seq ?_
                                           refine awp_skip ?_
                                           repeat refine awp_seq ?_
                                           refine rg (h := ?_)
                                           repeat refine awp_seq ?_
                                           refine awp_block ?_
                                           obtain ⟨o27, ho27, hO27⟩ := bnd_some h
                                           repeat refine awp_seq ?_
                                           refine awp_loop (ι := {p : Nat × Int // iter (fun p => s31_b1 N p1 p2 p) p.1 p.2 = some o27}) (fun p => [(2, .ptr 2 b1 0), (3, .ptr 3 b2 0), (6, .int .i64 p.1.2)]) (fun p => (2, b1, .cells (Item.cs p1)) :: (3, b2, .cells (Item.cs p2)) :: []) (fun p => p.1.1) ⟨⟨N, 0⟩, ho27⟩ ?_ ?_
                                           · refine ent_le' ([]) (_ :: _ :: []) (_ :: _ :: []) rfl (List.Perm.refl _) ?_ ?_
                                             · simp -implicitDefEqProofs (disch := first | omega | rfl) only [go_sem, simprocAttr, subF_cons, subF_nil]
                                               exact ⟨(.lptr ..), (.lptr ..), (.keep _)⟩
                                             · exact (.cell (.cell .nil))
                                           rintro ⟨⟨n27, x26⟩, hi27⟩
                                           obtain ⟨m27, q27, rfl, h, hm27⟩ := iter_some hi27
                                           try dsimp only at h
                                           try dsimp only
                                           unfold s31_b1 at h
                                           repeat refine awp_seq ?_
                                           refine rg (h := ?_)
                                           rcases ite_some h with ⟨hc28, h⟩ | ⟨hc28, h⟩
                                           · repeat refine awp_seq ?_
                                             refine awp_then (by simp -implicitDefEqProofs (disch := first | omega | rfl) only [go_sem, simprocAttr, eq_true hc28]) ?_
                                             repeat refine awp_seq ?_
                                             refine awp_skip ?_
                                             repeat refine awp_seq ?_
                                             refine awp_block ?_
                                             repeat refine awp_seq ?_
                                             refine awp_regD' (_ :: _ :: []) ([]) (_ :: _ :: []) (by rw [hP]; exact mixed) rfl (List.Perm.refl _) fun K hK => ?_
                                             obtain ⟨hg29, h⟩ := grd_some h
                                             obtain ⟨hg30, h⟩ := grd_some h
                                             simp -implicitDefEqProofs (disch := first | omega | rfl) only [go_sem, simprocAttr, zr31_12, eq_true hc28, eq_true hg29, eq_true hg30]
                                             refine hK _ _ ?_; clear hK K
                                             rcases ite_some h with ⟨hc31, h⟩ | ⟨hc31, h⟩
                                             · repeat refine awp_seq ?_
                                               refine awp_else (by simp -implicitDefEqProofs (disch := first | omega | rfl) only [go_sem, simprocAttr, eq_true hc31]) ?_
                                               repeat refine awp_seq ?_
                                               refine awp_skip ?_
                                               repeat refine awp_seq ?_
                                               refine rg (h := ?_)
                                               obtain rfl := som_inj h
                                               try dsimp only at hm27
                                               refine ⟨⟨⟨m27, IntKind.wrap .i64 (x26 + 1)⟩, hm27⟩, Nat.lt_succ_self _, ?_⟩
                                               refine ent_le' ([]) (_ :: _ :: []) (_ :: _ :: []) rfl (List.Perm.refl _) ?_ ?_
                                               · simp -implicitDefEqProofs (disch := first | omega | rfl) only [go_sem, simprocAttr, subF_cons, subF_nil]
                                                 exact ⟨(.lptr ..), (.lptr ..), (.keep _)⟩
                                               · exact (.cell (.cell .nil))
                                             repeat refine awp_seq ?_
                                             refine awp_then (by simp -implicitDefEqProofs (disch := first | omega | rfl) only [go_sem, simprocAttr, eq_false hc31]) ?_
                                             repeat refine awp_seq ?_
                                             refine rg (h := ?_)
                                             obtain rfl := som_inj h
                                             try dsimp only at hm27
                                             subst hm27
                                             simp only [Ou.on_ret] at hO27
                                             obtain rfl := som_inj hO27
                                             repeat refine awp_seq ?_
                                             refine awp_ret ?_
                                             repeat first | refine then_ret ?_ | refine blk_ret ?_
                                             exact rtp
                                           repeat refine awp_seq ?_
                                           refine awp_else (by simp -implicitDefEqProofs (disch := first | omega | rfl) only [go_sem, simprocAttr, eq_false hc28]) ?_
                                           repeat refine awp_seq ?_
                                           refine awp_exit ?_
                                           repeat' (first | refine then_exit ?_ | refine exit_here ?_ | refine exit_on rfl ?_)
                                           obtain rfl := som_inj h
                                           try dsimp only at hm27
                                           subst hm27
                                           simp only [Ou.on_brk] at hO27
                                           repeat refine awp_seq ?_
                                           refine awp_reg fun K Q hK hQ => ?_
                                           simp -implicitDefEqProofs (disch := first | omega | rfl) only [go_sem, simprocAttr, zr31_15]
                                           have hh := bnd_some hO27; clear hO27; obtain ⟨x32, hx33, hO27⟩ := hh
                                           refine call_pure hP (hrec20 p1.Items p2.Items x32 hx33) ?_
                                           simp -implicitDefEqProofs (disch := first | omega | rfl) only [go_sem, simprocAttr]
                                           refine hK _ _ ?_; clear hK hQ K Q
                                           obtain rfl := som_inj hO27
                                           repeat refine awp_seq ?_
                                           refine awp_ret ?_
                                           repeat first | refine then_ret ?_ | refine blk_ret ?_
                                           exact rtp
                                         repeat refine awp_seq ?_
                                         refine awp_then (by simp -implicitDefEqProofs (disch := first | omega | rfl) only [go_sem, simprocAttr, hc25]) ?_
                                         repeat refine awp_seq ?_
                                         refine rg (h := ?_)
                                         obtain rfl := som_inj h
                                         repeat refine awp_seq ?_
                                         refine awp_ret ?_
                                         repeat first | refine then_ret ?_ | refine blk_ret ?_
                                         exact rtp
                                       simp -implicitDefEqProofs (disch := first | omega | rfl) only [go_sem, simprocAttr, zr31_8, eq_true hc13, eq_true hc14, eq_true hc15, eq_true hc16, eq_true hc17, hc18, eq_true hc19, eq_true hc20, eq_true hc21, eq_false hc22]
                                       refine hK _ _ ?_; clear hK hQ K Q
                                       repeat refine awp_seq ?_
                                       refine awp_then (by rfl) ?_
                                       repeat refine awp_seq ?_
                                       refine rg (h := ?_)
                                       obtain rfl := som_inj h
                                       repeat refine awp_seq ?_
                                       refine awp_ret ?_
                                       repeat first | refine then_ret ?_ | refine blk_ret ?_
                                       exact rtp
                                     simp -implicitDefEqProofs (disch := first | omega | rfl) only [go_sem, simprocAttr, zr31_8, eq_true hc13, eq_true hc14, eq_true hc15, eq_true hc16, eq_true hc17, hc18, eq_true hc19, eq_true hc20, eq_false hc21]
                                     refine hK _ _ ?_; clear hK hQ K Q
                                     repeat refine awp_seq ?_
                                     refine awp_then (by rfl) ?_
                                     repeat refine awp_seq ?_
                                     refine rg (h := ?_)
                                     obtain rfl := som_inj h
                                     repeat refine awp_seq ?_
                                     refine awp_ret ?_
                                     repeat first | refine then_ret ?_ | refine blk_ret ?_
                                     exact rtp
                                   simp -implicitDefEqProofs (disch := first | omega | rfl) only [go_sem, simprocAttr, zr31_8, eq_true hc13, eq_true hc14, eq_true hc15, eq_true hc16, eq_true hc17, hc18, eq_true hc19, eq_false hc20]
                                   refine hK _ _ ?_; clear hK hQ K Q
                                   repeat refine awp_seq ?_
                                   refine awp_then (by rfl) ?_
                                   repeat refine awp_seq ?_
                                   refine rg (h := ?_)
                                   obtain rfl := som_inj h
                                   repeat refine awp_seq ?_
                                   refine awp_ret ?_
                                   repeat first | refine then_ret ?_ | refine blk_ret ?_
                                   exact rtp
                                 simp -implicitDefEqProofs (disch := first | omega | rfl) only [go_sem, simprocAttr, zr31_8, eq_true hc13, eq_true hc14, eq_true hc15, eq_true hc16, eq_true hc17, hc18, eq_false hc19]
                                 refine hK _ _ ?_; clear hK hQ K Q
                                 repeat refine awp_seq ?_
                                 refine awp_then (by rfl) ?_
                                 repeat refine awp_seq ?_
                                 refine rg (h := ?_)
                                 obtain rfl := som_inj h
                                 repeat refine awp_seq ?_
                                 refine awp_ret ?_
                                 repeat first | refine then_ret ?_ | refine blk_ret ?_
                                 exact rtp
                               simp -implicitDefEqProofs (disch := first | omega | rfl) only [go_sem, simprocAttr, zr31_8, eq_true hc13, eq_true hc14, eq_true hc15, eq_true hc16, eq_true hc17, hc18]
                               refine hK _ _ ?_; clear hK hQ K Q
                               repeat refine awp_seq ?_
                               refine awp_then (by rfl) ?_
                               repeat refine awp_seq ?_
                               refine rg (h := ?_)
                               obtain rfl := som_inj h
                               repeat refine awp_seq ?_
                               refine awp_ret ?_
                               repeat first | refine then_ret ?_ | refine blk_ret ?_
                               exact rtp
                             simp -implicitDefEqProofs (disch := first | omega | rfl) only [go_sem, simprocAttr, zr31_8, eq_true hc13, eq_true hc14, eq_true hc15, eq_true hc16, eq_false hc17]
                             refine hK _ _ ?_; clear hK hQ K Q
                             repeat refine awp_seq ?_
                             refine awp_then (by rfl) ?_
                             repeat refine awp_seq ?_
                             refine rg (h := ?_)
                             obtain rfl := som_inj h
                             repeat refine awp_seq ?_
                             refine awp_ret ?_
                             repeat first | refine then_ret ?_ | refine blk_ret ?_
                             exact rtp
                           simp -implicitDefEqProofs (disch := first | omega | rfl) only [go_sem, simprocAttr, zr31_8, eq_true hc13, eq_true hc14, eq_true hc15, eq_false hc16]
                           refine hK _ _ ?_; clear hK hQ K Q
                           repeat refine awp_seq ?_
                           refine awp_then (by rfl) ?_
                           repeat refine awp_seq ?_
                           refine rg (h := ?_)
                           obtain rfl := som_inj h
                           repeat refine awp_seq ?_
                           refine awp_ret ?_
                           repeat first | refine then_ret ?_ | refine blk_ret ?_
                           exact rtp
                         simp -implicitDefEqProofs (disch := first | omega | rfl) only [go_sem, simprocAttr, zr31_8, eq_true hc13, eq_true hc14, eq_false hc15]
                         refine hK _ _ ?_; clear hK hQ K Q
                         repeat refine awp_seq ?_
                         refine awp_then (by rfl) ?_
                         repeat refine awp_seq ?_
                         refine rg (h := ?_)
                         obtain rfl := som_inj h
                         repeat refine awp_seq ?_
                         refine awp_ret ?_
                         repeat first | refine then_ret ?_ | refine blk_ret ?_
                         exact rtp
                       simp -implicitDefEqProofs (disch := first | omega | rfl) only [go_sem, simprocAttr, zr31_8, eq_true hc13, eq_false hc14]
                       refine hK _ _ ?_; clear hK hQ K Q
                       repeat refine awp_seq ?_
                       refine awp_then (by rfl) ?_
                       repeat refine awp_seq ?_
                       refine rg (h := ?_)
                       obtain rfl := som_inj h
                       repeat refine awp_seq ?_
                       refine awp_ret ?_
                       repeat first | refine then_ret ?_ | refine blk_ret ?_
                       exact rtp
                     simp -implicitDefEqProofs (disch := first | omega | rfl) only [go_sem, simprocAttr, zr31_8, eq_false hc13]
                     refine hK _ _ ?_; clear hK hQ K Q
                     repeat refine awp_seq ?_
                     refine awp_then (by rfl) ?_
                     repeat refine awp_seq ?_
                     refine rg (h := ?_)
                     obtain rfl := som_inj h
                     repeat refine awp_seq ?_
                     refine awp_ret ?_
                     repeat first | refine then_ret ?_ | refine blk_ret ?_
                     exact rtp
                   repeat refine awp_seq ?_
                   refine awp_then (by simp -implicitDefEqProofs (disch := first | omega | rfl) only [go_sem, simprocAttr, eq_false hc12]) ?_
                   repeat refine awp_seq ?_
                   refine rg (h := ?_)
                   obtain rfl := som_inj h
                   repeat refine awp_seq ?_
                   refine awp_ret ?_
                   repeat first | refine then_ret ?_ | refine blk_ret ?_
                   exact rtp
                 refine rgf (And.intro (eq_true hc3) (And.intro (eq_true hc4) (And.intro (eq_true hc5) (And.intro (eq_true hc6) (And.intro (eq_true hc7) (And.intro (eq_true hc8) (And.intro (eq_true hc9) (And.intro (eq_true hc10) (eq_false hc11))))))))) ?_
                 repeat refine awp_seq ?_
                 refine awp_then (by rfl) ?_
                 repeat refine awp_seq ?_
                 refine rg (h := ?_)
                 obtain rfl := som_inj h
                 repeat refine awp_seq ?_
                 refine awp_ret ?_
                 repeat first | refine then_ret ?_ | refine blk_ret ?_
                 exact rtp
               refine rgf (And.intro (eq_true hc3) (And.intro (eq_true hc4) (And.intro (eq_true hc5) (And.intro (eq_true hc6) (And.intro (eq_true hc7) (And.intro (eq_true hc8) (And.intro (eq_true hc9) (eq_false hc10)))))))) ?_
               repeat refine awp_seq ?_
               refine awp_then (by rfl) ?_
               repeat refine awp_seq ?_
               refine rg (h := ?_)
               obtain rfl := som_inj h
               repeat refine awp_seq ?_
               refine awp_ret ?_
               repeat first | refine then_ret ?_ | refine blk_ret ?_
               exact rtp
             refine rgf (And.intro (eq_true hc3) (And.intro (eq_true hc4) (And.intro (eq_true hc5) (And.intro (eq_true hc6) (And.intro (eq_true hc7) (And.intro (eq_true hc8) (eq_false hc9))))))) ?_
             repeat refine awp_seq ?_
             refine awp_then (by rfl) ?_
             repeat refine awp_seq ?_
             refine rg (h := ?_)
             obtain rfl := som_inj h
             repeat refine awp_seq ?_
             refine awp_ret ?_
             repeat first | refine then_ret ?_ | refine blk_ret ?_
             exact rtp
           refine rgf (And.intro (eq_true hc3) (And.intro (eq_true hc4) (And.intro (eq_true hc5) (And.intro (eq_true hc6) (And.intro (eq_true hc7) (eq_false hc8)))))) ?_
           repeat refine awp_seq ?_
           refine awp_then (by rfl) ?_
           repeat refine awp_seq ?_
           refine rg (h := ?_)
           obtain rfl := som_inj h
           repeat refine awp_seq ?_
           refine awp_ret ?_
           repeat first | refine then_ret ?_ | refine blk_ret ?_
           exact rtp
         refine rgf (And.intro (eq_true hc3) (And.intro (eq_true hc4) (And.intro (eq_true hc5) (And.intro (eq_true hc6) (eq_false hc7))))) ?_
         repeat refine awp_seq ?_
         refine awp_then (by rfl) ?_
         repeat refine awp_seq ?_
         refine rg (h := ?_)
         obtain rfl := som_inj h
         repeat refine awp_seq ?_
         refine awp_ret ?_
         repeat first | refine then_ret ?_ | refine blk_ret ?_
         exact rtp
       refine rgf (And.intro (eq_true hc3) (And.intro (eq_true hc4) (And.intro (eq_true hc5) (eq_false hc6)))) ?_
       repeat refine awp_seq ?_
       refine awp_then (by rfl) ?_
       repeat refine awp_seq ?_
       refine rg (h := ?_)
       obtain rfl := som_inj h
       repeat refine awp_seq ?_
       refine awp_ret ?_
       repeat first | refine then_ret ?_ | refine blk_ret ?_
       exact rtp
     refine rgf (And.intro (eq_true hc3) (And.intro (eq_true hc4) (eq_false hc5))) ?_
     repeat refine awp_seq ?_
     refine awp_then (by rfl) ?_
     repeat refine awp_seq ?_
     refine rg (h := ?_)
     obtain rfl := som_inj h
     repeat refine awp_seq ?_
     refine awp_ret ?_
     repeat first | refine then_ret ?_ | refine blk_ret ?_
     exact rtp
   refine rgf (And.intro (eq_true hc3) (eq_false hc4)) ?_
   repeat refine awp_seq ?_
   refine awp_then (by rfl) ?_
   repeat refine awp_seq ?_
   refine rg (h := ?_)
   obtain rfl := som_inj h
   repeat refine awp_seq ?_
   refine awp_ret ?_
   repeat first | refine then_ret ?_ | refine blk_ret ?_
   exact rtp
 refine rgf (eq_false hc3) ?_
 repeat refine awp_seq ?_
 refine awp_then (by rfl) ?_
 repeat refine awp_seq ?_
 refine rg (h := ?_)
 obtain rfl := som_inj h
 repeat refine awp_seq ?_
 refine awp_ret ?_
 repeat first | refine then_ret ?_ | refine blk_ret ?_
 exact rtp
set_option maxHeartbeats 4000000 in
theorem c20_body (rec31 : Item → Item → Option Bool) (rec20 : (List Item) → (List Item) → Option Bool) (hrec31 : ∀ (p1 : Item) (p2 : Item) (r : Bool), rec31 p1 p2 = some r → PureC Try.prog 31 [.agg (Item.cs p1), .agg (Item.cs p2)] (.bool r)) (hrec20 : ∀ (p1 : List Item) (p2 : List Item) (r : Bool), rec20 p1 p2 = some r → PureC Try.prog 20 [.sl (List.map Item.av p1), .sl (List.map Item.av p2)] (.bool r)) (N : Nat) (p1 : List Item) (p2 : List Item) (r : Bool) (h : s20_body rec31 rec20 N p1 p2 = some r) : PureC Try.prog 20 [.sl (List.map Item.av p1), .sl (List.map Item.av p2)] (.bool r) := by
 refine fn_intro' 27 Try.func20 nt20 ok20 res20 (by simp) fun X hP hn hd hr => ?_
 unfold s20_body at h
 repeat refine awp_seq ?_
 refine rg (h := ?_)
 repeat refine awp_seq ?_
 refine rg (h := ?_)
 rcases ite_some h with ⟨hc1, h⟩ | ⟨hc1, h⟩
 · repeat refine awp_seq ?_
   refine awp_else (by simp -implicitDefEqProofs (disch := first | omega | rfl) only [go_sem, simprocAttr, eq_true hc1]) ?_
   repeat refine awp_seq ?_
   refine awp_skip ?_
   repeat refine awp_seq ?_
   refine rg (h := ?_)
   repeat refine awp_seq ?_
   refine awp_block ?_
   obtain ⟨o3, ho3, hO3⟩ := bnd_some h
   repeat refine awp_seq ?_
   refine awp_loop (ι := {p : Nat × Int // iter (fun p => s20_b1 N p1 p2 rec31 p) p.1 p.2 = some o3}) (fun p => [(0, .sl (List.map Item.av p1)), (1, .sl (List.map Item.av p2)), (5, .int .i64 p.1.2)]) (fun p => []) (fun p => p.1.1) ⟨⟨N, 0⟩, ho3⟩ ?_ ?_
   · refine ent_le' ([]) ([]) ([]) rfl (List.Perm.refl _) ?_ ?_
     · simp -implicitDefEqProofs (disch := first | omega | rfl) only [go_sem, simprocAttr, subF_cons, subF_nil]
       exact ⟨(.keep _), (.keep _), (.keep _)⟩
     · exact .nil
   rintro ⟨⟨n3, x2⟩, hi3⟩
   obtain ⟨m3, q3, rfl, h, hm3⟩ := iter_some hi3
   try dsimp only at h
   try dsimp only
   unfold s20_b1 at h
   repeat refine awp_seq ?_
   refine rg (h := ?_)
   rcases ite_some h with ⟨hc4, h⟩ | ⟨hc4, h⟩
   · repeat refine awp_seq ?_
     refine awp_then (by simp -implicitDefEqProofs (disch := first | omega | rfl) only [go_sem, simprocAttr, eq_true hc4]) ?_
     repeat refine awp_seq ?_
     refine awp_skip ?_
     repeat refine awp_seq ?_
     refine awp_block ?_
     repeat refine awp_seq ?_
     refine awp_regD' ([]) ([]) ([]) (by rw [hP]; exact mixed) rfl (List.Perm.refl _) fun K hK => ?_
     obtain ⟨hg5, h⟩ := grd_some h
     obtain ⟨hg6, h⟩ := grd_some h
     simp -implicitDefEqProofs (disch := first | omega | rfl) only [go_sem, simprocAttr, zr20_5, eq_true hc4, eq_true hg5, eq_true hg6]
     have hh := bnd_some h; clear h; obtain ⟨x7, hx8, h⟩ := hh
     refine call_pure hP (hrec31 (p1[x2.toNat]!) (p2[x2.toNat]!) x7 hx8) ?_
     simp -implicitDefEqProofs (disch := first | omega | rfl) only [go_sem, simprocAttr]
     refine hK _ _ ?_; clear hK K
     rcases cnd_some h with ⟨hc9, h⟩ | ⟨hc9, h⟩
     · repeat refine awp_seq ?_
       refine awp_else (by simp -implicitDefEqProofs (disch := first | omega | rfl) only [go_sem, simprocAttr, hc9]) ?_
       repeat refine awp_seq ?_
       refine awp_skip ?_
       repeat refine awp_seq ?_
       refine rg (h := ?_)
       obtain rfl := som_inj h
       try dsimp only at hm3
       refine ⟨⟨⟨m3, IntKind.wrap .i64 (x2 + 1)⟩, hm3⟩, Nat.lt_succ_self _, ?_⟩
       refine ent_le' ([]) ([]) ([]) rfl (List.Perm.refl _) ?_ ?_
       · simp -implicitDefEqProofs (disch := first | omega | rfl) only [go_sem, simprocAttr, subF_cons, subF_nil]
         exact ⟨(.keep _), (.keep _), (.keep _)⟩
       · exact .nil
     repeat refine awp_seq ?_
     refine awp_then (by simp -implicitDefEqProofs (disch := first | omega | rfl) only [go_sem, simprocAttr, hc9]) ?_
     repeat refine awp_seq ?_
     refine rg (h := ?_)
     obtain rfl := som_inj h
     try dsimp only at hm3
     subst hm3
     simp only [Ou.on_ret] at hO3
     obtain rfl := som_inj hO3
     repeat refine awp_seq ?_
     refine awp_ret ?_
     repeat first | refine then_ret ?_ | refine blk_ret ?_
     exact rtp
   repeat refine awp_seq ?_
   refine awp_else (by simp -implicitDefEqProofs (disch := first | omega | rfl) only [go_sem, simprocAttr, eq_false hc4]) ?_
   repeat refine awp_seq ?_
   refine awp_exit ?_
   repeat' (first | refine then_exit ?_ | refine exit_here ?_ | refine exit_on rfl ?_)
   obtain rfl := som_inj h
   try dsimp only at hm3
   subst hm3
   simp only [Ou.on_brk] at hO3
   repeat refine awp_seq ?_
   refine rg (h := ?_)
   obtain rfl := som_inj hO3
   repeat refine awp_seq ?_
   refine awp_ret ?_
   repeat first | refine then_ret ?_ | refine blk_ret ?_
   exact rtp
 repeat refine awp_seq ?_
 refine awp_then (by simp -implicitDefEqProofs (disch := first | omega | rfl) only [go_sem, simprocAttr, eq_false hc1]) ?_
 repeat refine awp_seq ?_
 refine rg (h := ?_)
 obtain rfl := som_inj h
 repeat refine awp_seq ?_
 refine awp_ret ?_
 repeat first | refine then_ret ?_ | refine blk_ret ?_
 exact rtp
theorem cs_31_20 : ∀ N : Nat, (∀ (p1 : Item) (p2 : Item) (r : Bool), s31 N p1 p2 = some r → PureC Try.prog 31 [.agg (Item.cs p1), .agg (Item.cs p2)] (.bool r)) ∧ (∀ (p1 : List Item) (p2 : List Item) (r : Bool), s20 N p1 p2 = some r → PureC Try.prog 20 [.sl (List.map Item.av p1), .sl (List.map Item.av p2)] (.bool r)) := by
  intro N
  induction N with
  | zero => exact ⟨(fun _ _ r h => by cases h), (fun _ _ r h => by cases h)⟩
  | succ N ih => exact ⟨fun p1 p2 r h => c31_body (s31 N) (s20 N) ih.1 ih.2 N p1 p2 r h, fun p1 p2 r h => c20_body (s31 N) (s20 N) ih.1 ih.2 N p1 p2 r h⟩
theorem c20 (N : Nat) (p1 : List Item) (p2 : List Item) (r : Bool) (h : s20 N p1 p2 = some r) : PureC Try.prog 20 [.sl (List.map Item.av p1), .sl (List.map Item.av p2)] (.bool r) := (cs_31_20 N).2 p1 p2 r h
def zr14_0 : List AO := [⟨some 2, none, .box (.t 0)⟩,
  ⟨some 3, none, .box (.t 1)⟩,
  ⟨some 4, none, .mov (.c (.bool false))⟩]
def zr14_1 : List AO := [⟨some 5, none, .fadr 0 (.t 2)⟩,
  ⟨some 6, none, .load false 1 (.t 5)⟩,
  ⟨some 7, none, .fadr 0 (.t 3)⟩,
  ⟨some 8, none, .load false 1 (.t 7)⟩,
  ⟨some 9, none, .bin .eql (.t 6) (.t 8)⟩,
  ⟨some 10, none, .mov (.t 9)⟩,
  ⟨some 11, some (10, true), .fadr 1 (.t 2)⟩,
  ⟨some 12, some (10, true), .load true 3 (.t 11)⟩,
  ⟨some 13, some (10, true), .fadr 1 (.t 3)⟩,
  ⟨some 14, some (10, true), .load true 3 (.t 13)⟩,
  ⟨some 15, some (10, true), .eqS false [.i, .i, .i] (.t 12) (.t 14)⟩,
  ⟨some 16, none, .pick (.t 10) (.t 15) (.c (.bool false))⟩,
  ⟨some 17, none, .mov (.t 16)⟩,
  ⟨some 18, some (17, true), .fadr 4 (.t 2)⟩,
  ⟨some 19, some (17, true), .load false 1 (.t 18)⟩,
  ⟨some 20, some (17, true), .fadr 4 (.t 3)⟩,
  ⟨some 21, some (17, true), .load false 1 (.t 20)⟩,
  ⟨some 22, some (17, true), .bin .eql (.t 19) (.t 21)⟩,
  ⟨some 23, none, .pick (.t 17) (.t 22) (.c (.bool false))⟩,
  ⟨some 24, none, .mov (.t 23)⟩,
  ⟨some 25, some (24, true), .fadr 5 (.t 2)⟩,
  ⟨some 26, some (24, true), .load false 1 (.t 25)⟩,
  ⟨some 27, some (24, true), .fadr 5 (.t 3)⟩,
  ⟨some 28, some (24, true), .load false 1 (.t 27)⟩,
  ⟨some 29, some (24, true), .callF 20 [(.t 26), (.t 28)]⟩,
  ⟨some 30, none, .pick (.t 24) (.t 29) (.c (.bool false))⟩,
  ⟨some 4, none, .mov (.t 30)⟩]
def zc14_0 : AC := .seq (.reg zr14_1) .ret
def zc14_1 : AC := .seq (.reg zr14_0) zc14_0
def zc14 : AC := zc14_1
theorem ok14 : Try.f14.body.bind (compCode Try.prog 31) = some zc14 := by kernel_rfl
theorem nt14 : Try.f14.ntmps = 31 := by kernel_rfl
theorem res14 : compRes Try.prog Try.f14.results.toList = some [.tmp 4] := by kernel_rfl
def s14 (N : Nat) (p1 : Source) (p2 : Source) : Option Bool :=
  if p1.Name = p2.Name then
    if p1.From = p2.From then
      if p1.Days = p2.Days then
        (s20 N p1.Items p2.Items).bind fun x6 =>
        some x6
      else
        some false
    else
      some false
  else
    some false
set_option maxHeartbeats 4000000 in
theorem c14 (N : Nat) (p1 : Source) (p2 : Source) (r : Bool) (h : s14 N p1 p2 = some r) : PureC Try.prog 14 [.agg (Source.cs p1), .agg (Source.cs p2)] (.bool r) := by
 refine fn_intro' 31 Try.func14 nt14 ok14 res14 (by simp) fun X hP hn hd hr => ?_
 unfold s14 at h
 repeat refine awp_seq ?_
 refine awp_reg fun K Q hK hQ => ?_
 simp -implicitDefEqProofs (disch := first | omega | rfl) only [go_sem, simprocAttr, zr14_0, argS]
 intro b1 b2
 refine hK _ _ ?_; clear hK hQ K Q
 repeat refine awp_seq ?_
 refine awp_reg fun K Q hK hQ => ?_
 rcases ite_some h with ⟨hc3, h⟩ | ⟨hc3, h⟩
 · rcases ite_some h with ⟨hc4, h⟩ | ⟨hc4, h⟩
   · rcases ite_some h with ⟨hc5, h⟩ | ⟨hc5, h⟩
     · simp -implicitDefEqProofs (disch := first | omega | rfl) only [go_sem, simprocAttr, zr14_1, eq_true hc3, eq_true hc4, eq_true hc5]
       have hh := bnd_some h; clear h; obtain ⟨x6, hx7, h⟩ := hh
       refine call_pure hP (c20 N p1.Items p2.Items x6 hx7) ?_
       simp -implicitDefEqProofs (disch := first | omega | rfl) only [go_sem, simprocAttr]
       refine hK _ _ ?_; clear hK hQ K Q
       obtain rfl := som_inj h
       repeat refine awp_seq ?_
       refine awp_ret ?_
       repeat first | refine then_ret ?_ | refine blk_ret ?_
       exact rtp
     simp -implicitDefEqProofs (disch := first | omega | rfl) only [go_sem, simprocAttr, zr14_1, eq_true hc3, eq_true hc4, eq_false hc5]
     refine hK _ _ ?_; clear hK hQ K Q
     obtain rfl := som_inj h
     repeat refine awp_seq ?_
     refine awp_ret ?_
     repeat first | refine then_ret ?_ | refine blk_ret ?_
     exact rtp
   simp -implicitDefEqProofs (disch := first | omega | rfl) only [go_sem, simprocAttr, zr14_1, eq_true hc3, eq_false hc4]
   refine hK _ _ ?_; clear hK hQ K Q
   obtain rfl := som_inj h
   repeat refine awp_seq ?_
   refine awp_ret ?_
   repeat first | refine then_ret ?_ | refine blk_ret ?_
   exact rtp
 simp -implicitDefEqProofs (disch := first | omega | rfl) only [go_sem, simprocAttr, zr14_1, eq_false hc3]
 refine hK _ _ ?_; clear hK hQ K Q
 obtain rfl := som_inj h
 repeat refine awp_seq ?_
 refine awp_ret ?_
 repeat first | refine then_ret ?_ | refine blk_ret ?_
 exact rtp
def zr6_0 : List AO := [⟨some 4, none, .box (.t 0)⟩,
  ⟨some 8, none, .mov (.c (.bool false))⟩]
def zr6_1 : List AO := [⟨some 18, none, .callF 9 []⟩,
  ⟨some 9, none, .mov (.t 18)⟩]
def zr6_2 : List AO := [⟨some 19, none, .load true 6 (.t 4)⟩,
  ⟨some 20, none, .callF 10 [(.t 19), (.c (.int .i64 200))]⟩,
  ⟨some 21, none, .un .not (.t 20)⟩,
  ⟨some 22, none, .mov (.t 21)⟩,
  ⟨some 23, some (22, false), .fadr 5 (.t 4)⟩,
  ⟨some 24, some (22, false), .load false 1 (.t 23)⟩,
  ⟨some 25, some (22, false), .len (.t 24)⟩,
  ⟨some 26, some (22, false), .bin .eql (.t 25) (.c (.int .i64 0))⟩,
  ⟨some 27, none, .pick (.t 22) (.c (.bool true)) (.t 26)⟩,
  ⟨some 28, none, .mov (.t 27)⟩,
  ⟨some 29, some (28, false), .mov (.t 3)⟩,
  ⟨some 30, some (28, false), .lenS (.t 29)⟩,
  ⟨some 31, some (28, false), .bin .gtr (.t 30) (.c (.int .i64 100))⟩,
  ⟨some 32, none, .pick (.t 28) (.c (.bool true)) (.t 31)⟩,
  ⟨some 33, none, .mov (.t 32)⟩,
  ⟨some 34, some (33, false), .mov (.t 3)⟩,
  ⟨some 35, some (33, false), .bin .eql (.t 34) (.c (.str []))⟩,
  ⟨some 36, none, .pick (.t 33) (.c (.bool true)) (.t 35)⟩]
def zr6_3 : List AO := [⟨some 37, none, .mov (.t 9)⟩,
  ⟨some 8, none, .mov (.t 37)⟩]
def zc6_0 : AC := .seq (.reg zr6_3) .ret
def zc6_1 : AC := .cond (.t 36) zc6_0 .skip
def zr6_4 : List AO := [⟨some 38, none, .mov (.t 1)⟩,
  ⟨some 39, none, .conv .i64 (.t 38)⟩,
  ⟨some 40, none, .fadr 5 (.t 4)⟩,
  ⟨some 41, none, .load false 1 (.t 40)⟩,
  ⟨some 42, none, .len (.t 41)⟩,
  ⟨some 43, none, .bin .rem (.t 39) (.t 42)⟩,
  ⟨some 10, none, .mov (.t 43)⟩]
def zr6_5 : List AO := [⟨some 44, none, .fadr 5 (.t 4)⟩,
  ⟨some 45, none, .load false 1 (.t 44)⟩,
  ⟨some 46, none, .mov (.t 10)⟩,
  ⟨some 47, none, .iadr 33 (.t 45) (.t 46)⟩,
  ⟨some 48, none, .load true 33 (.t 47)⟩,
  ⟨some 11, none, .alloc [.int .i64 0, .str [], .int .i64 0, .str [], .str [], .int .i64 0, .int .i64 0, .int .i64 0, .bool false, .str [], .int .i64 0, .bool false, .str [], .nil, .str [], .str [], .int .i64 0, .int .i64 0, .str [], .str [], .bool false, .str [], .str [], .bool false, .bool false, .bool false, .bool false, .bool false, .bool false, .bool false, .nil, .nil, .nil]⟩,
  ⟨none, none, .store 33 (.t 11) (.t 48)⟩]
def zr6_6 : List AO := [⟨some 49, none, .fadr 0 (.t 11)⟩,
  ⟨some 50, none, .load false 1 (.t 49)⟩,
  ⟨some 51, none, .bin .neq (.t 50) (.c (.int .i64 13))⟩,
  ⟨some 52, none, .mov (.t 51)⟩,
  ⟨some 53, some (52, false), .fadr 31 (.t 11)⟩,
  ⟨some 54, some (52, false), .load false 1 (.t 53)⟩,
  ⟨some 55, some (52, false), .len (.t 54)⟩,
  ⟨some 56, some (52, false), .bin .eql (.t 55) (.c (.int .i64 0))⟩,
  ⟨some 57, none, .pick (.t 52) (.c (.bool true)) (.t 56)⟩,
  ⟨some 58, none, .mov (.t 57)⟩,
  ⟨some 59, some (58, false), .load true 33 (.t 11)⟩,
  ⟨some 60, some (58, false), .mov (.t 3)⟩,
  ⟨some 61, some (58, false), .callF 17 [(.t 59), (.t 60)]⟩,
  ⟨some 62, none, .pick (.t 58) (.c (.bool true)) (.t 61)⟩]
def zr6_7 : List AO := [⟨some 63, none, .mov (.t 9)⟩,
  ⟨some 8, none, .mov (.t 63)⟩]
def zc6_2 : AC := .seq (.reg zr6_7) .ret
def zc6_3 : AC := .cond (.t 62) zc6_2 .skip
def zr6_8 : DT := (.pur ⟨some 64, none, .fadr 31 (.t 11)⟩ (.pur ⟨some 65, none, .load false 1 (.t 64)⟩ (.pur ⟨some 66, none, .mov (.t 2)⟩ (.pur ⟨some 67, none, .conv .i64 (.t 66)⟩ (.alt false ⟨some 68, none, .fadr 31 (.t 11)⟩ (.alt false ⟨some 69, none, .load false 1 (.t 68)⟩ (.alt false ⟨some 70, none, .len (.t 69)⟩ (.alt false ⟨some 71, none, .bin .rem (.t 67) (.t 70)⟩ (.alt false ⟨some 72, none, .iadr 1 (.t 65) (.t 71)⟩ (.alt false ⟨some 73, none, .load false 1 (.t 72)⟩ (.alt true ⟨some 12, none, .mov (.t 73)⟩ .done .stop) .stop) .stop) .stop) .stop) .stop) .stop)))))
def zr6_9 : List AO := [⟨some 74, none, .mov (.t 12)⟩,
  ⟨some 75, none, .bin .eql (.t 74) (.c (.str []))⟩]
def zr6_10 : List AO := [⟨some 76, none, .mov (.t 9)⟩,
  ⟨some 8, none, .mov (.t 76)⟩]
def zc6_4 : AC := .seq (.reg zr6_10) .ret
def zc6_5 : AC := .cond (.t 75) zc6_4 .skip
def zr6_11 : List AO := [⟨some 77, none, .fadr 0 (.t 4)⟩,
  ⟨some 78, none, .load false 1 (.t 77)⟩,
  ⟨some 79, none, .fadr 1 (.t 4)⟩,
  ⟨some 80, none, .load true 3 (.t 79)⟩,
  ⟨some 81, none, .fadr 4 (.t 4)⟩,
  ⟨some 82, none, .load false 1 (.t 81)⟩,
  ⟨some 83, none, .bld [.str [], .int .i64 0, .int .i64 0, .int .i64 0, .int .i64 0, .nil] [(0, 1, (.t 78)), (1, 3, (.t 80)), (4, 1, (.t 82))]⟩,
  ⟨some 13, none, .alloc [.str [], .int .i64 0, .int .i64 0, .int .i64 0, .int .i64 0, .nil]⟩,
  ⟨none, none, .store 6 (.t 13) (.t 83)⟩]
def zr6_12 : List AO := [⟨some 84, none, .fadr 5 (.t 13)⟩,
  ⟨some 85, none, .load false 1 (.t 84)⟩,
  ⟨some 86, none, .fadr 5 (.t 4)⟩,
  ⟨some 87, none, .load false 1 (.t 86)⟩,
  ⟨some 88, none, .app 33 368 (.t 85) (.t 87)⟩,
  ⟨some 89, none, .fadr 5 (.t 13)⟩,
  ⟨none, none, .store 1 (.t 89) (.t 88)⟩]
def zr6_13 : DT := (.pur ⟨some 90, none, .fadr 5 (.t 13)⟩ (.pur ⟨some 91, none, .load false 1 (.t 90)⟩ (.pur ⟨some 92, none, .mov (.t 10)⟩ (.pur ⟨some 93, none, .load true 33 (.t 11)⟩ (.pur ⟨some 94, none, .mov (.t 12)⟩ (.alt false ⟨some 95, none, .mov (.t 3)⟩ (.alt false ⟨some 96, none, .callF 18 [(.t 93), (.t 94), (.t 95)]⟩ (.alt false ⟨some 97, none, .iadr 33 (.t 91) (.t 92)⟩ (.alt true ⟨none, none, .store 33 (.t 97) (.t 96)⟩ .done .stop) .stop) .stop) .stop))))))
def zr6_14 : List AO := [⟨some 99, none, .load true 6 (.t 4)⟩,
  ⟨some 100, none, .callF 11 [(.t 99)]⟩,
  ⟨some 98, none, .mov (.t 100)⟩,
  ⟨some 101, none, .ext 0 (.t 98)⟩,
  ⟨some 102, none, .ext 1 (.t 98)⟩,
  ⟨some 14, none, .alloc [.str [], .int .i64 0, .int .i64 0, .int .i64 0, .int .i64 0, .nil]⟩,
  ⟨none, none, .store 6 (.t 14) (.t 101)⟩,
  ⟨some 15, none, .mov (.t 102)⟩]
def zr6_15 : List AO := [⟨some 104, none, .load true 6 (.t 13)⟩,
  ⟨some 105, none, .callF 11 [(.t 104)]⟩,
  ⟨some 103, none, .mov (.t 105)⟩,
  ⟨some 106, none, .ext 0 (.t 103)⟩,
  ⟨some 107, none, .ext 1 (.t 103)⟩,
  ⟨some 16, none, .alloc [.str [], .int .i64 0, .int .i64 0, .int .i64 0, .int .i64 0, .nil]⟩,
  ⟨none, none, .store 6 (.t 16) (.t 106)⟩,
  ⟨some 17, none, .mov (.t 107)⟩]
def zr6_16 : List AO := [⟨some 108, none, .mov (.t 9)⟩,
  ⟨some 109, none, .mov (.t 108)⟩,
  ⟨some 110, some (109, true), .mov (.t 15)⟩,
  ⟨some 111, some (109, true), .mov (.t 17)⟩,
  ⟨some 112, some (109, true), .callF 19 [(.t 110), (.t 111)]⟩,
  ⟨some 113, none, .pick (.t 109) (.t 112) (.c (.bool false))⟩,
  ⟨some 114, none, .mov (.t 113)⟩,
  ⟨some 115, some (114, true), .load true 6 (.t 14)⟩,
  ⟨some 116, some (114, true), .load true 6 (.t 16)⟩,
  ⟨some 117, some (114, true), .callF 14 [(.t 115), (.t 116)]⟩,
  ⟨some 118, none, .pick (.t 114) (.t 117) (.c (.bool false))⟩,
  ⟨some 8, none, .mov (.t 118)⟩]
def zc6_6 : AC := .seq (.reg zr6_16) .ret
def zc6_7 : AC := .seq (.reg zr6_15) zc6_6
def zc6_8 : AC := .seq (.reg zr6_14) zc6_7
def zc6_9 : AC := .seq (.regD zr6_13) zc6_8
def zc6_10 : AC := .seq (.reg zr6_12) zc6_9
def zc6_11 : AC := .seq (.reg zr6_11) zc6_10
def zc6_12 : AC := .seq (.seq (.reg zr6_9) zc6_5) zc6_11
def zc6_13 : AC := .seq (.regD zr6_8) zc6_12
def zc6_14 : AC := .seq (.seq (.reg zr6_6) zc6_3) zc6_13
def zc6_15 : AC := .seq (.reg zr6_5) zc6_14
def zc6_16 : AC := .seq (.reg zr6_4) zc6_15
def zc6_17 : AC := .seq (.seq (.reg zr6_2) zc6_1) zc6_16
def zc6_18 : AC := .seq (.reg zr6_1) zc6_17
def zc6_19 : AC := .seq (.reg zr6_0) zc6_18
def zc6 : AC := zc6_19
theorem ok6 : Try.f6.body.bind (compCode Try.prog 119) = some zc6 := by kernel_rfl
theorem nt6 : Try.f6.ntmps = 119 := by kernel_rfl
theorem res6 : compRes Try.prog Try.f6.results.toList = some [.tmp 8] := by kernel_rfl
attribute [go_sem] zr6_10 zr6_3 zr6_4 zr6_7 zr6_9
def s6 (N : Nat) (p1 : Source) (p2 : Int) (p3 : Int) (p4 : List UInt8) : Option Bool :=
  (s9 N).bind fun x2 =>
  (s10 N p1 200).bind fun x4 =>
  bif x4 then
    if (List.length p1.Items : Int) = 0 then
      some x2
    else
      if 100 < (List.length p4 : Int) then
        some x2
      else
        if p4 = [] then
          some x2
        else
          grd ((List.length p1.Items : Int) ≠ 0) <|
          grd (0 ≤ Int.tmod (IntKind.wrap .i64 p2) (List.length p1.Items : Int) ∧ Int.tmod (IntKind.wrap .i64 p2) (List.length p1.Items : Int) < (List.length p1.Items : Int)) <|
          if (p1.Items[(Int.tmod (IntKind.wrap .i64 p2) (List.length p1.Items : Int)).toNat]!).Kind = 13 then
            if (List.length ((p1.Items[(Int.tmod (IntKind.wrap .i64 p2) (List.length p1.Items : Int)).toNat]!).Names) : Int) = 0 then
              some x2
            else
              (s17 N (p1.Items[(Int.tmod (IntKind.wrap .i64 p2) (List.length p1.Items : Int)).toNat]!) p4).bind fun x16 =>
              bif x16 then
                some x2
              else
                grd ((List.length ((p1.Items[(Int.tmod (IntKind.wrap .i64 p2) (List.length p1.Items : Int)).toNat]!).Names) : Int) ≠ 0) <|
                grd (0 ≤ Int.tmod (IntKind.wrap .i64 p3) ((List.length ((p1.Items[(Int.tmod (IntKind.wrap .i64 p2) (List.length p1.Items : Int)).toNat]!).Names) : Int)) ∧ Int.tmod (IntKind.wrap .i64 p3) ((List.length ((p1.Items[(Int.tmod (IntKind.wrap .i64 p2) (List.length p1.Items : Int)).toNat]!).Names) : Int)) < (List.length ((p1.Items[(Int.tmod (IntKind.wrap .i64 p2) (List.length p1.Items : Int)).toNat]!).Names) : Int)) <|
                if ((p1.Items[(Int.tmod (IntKind.wrap .i64 p2) (List.length p1.Items : Int)).toNat]!).Names)[(Int.tmod (IntKind.wrap .i64 p3) ((List.length ((p1.Items[(Int.tmod (IntKind.wrap .i64 p2) (List.length p1.Items : Int)).toNat]!).Names) : Int))).toNat]! = [] then
                  some x2
                else
                  grd (List.length p1.Items * 368 ≤ 140737488355328 ∧ List.length p1.Items ≤ 140737488355328) <|
                  (s18 N (p1.Items[(Int.tmod (IntKind.wrap .i64 p2) (List.length p1.Items : Int)).toNat]!) (((p1.Items[(Int.tmod (IntKind.wrap .i64 p2) (List.length p1.Items : Int)).toNat]!).Names)[(Int.tmod (IntKind.wrap .i64 p3) ((List.length ((p1.Items[(Int.tmod (IntKind.wrap .i64 p2) (List.length p1.Items : Int)).toNat]!).Names) : Int))).toNat]!) p4).bind fun x28 =>
                  (s11 N p1).bind fun x32 =>
                  (s11 N (({ Name := p1.Name, From := p1.From, Days := p1.Days, Items := List.set p1.Items (Int.tmod (IntKind.wrap .i64 p2) (List.length p1.Items : Int)).toNat x28 } : Source))).bind fun x35 =>
                  bif x2 then
                    (s19 N x32.2 x35.2).bind fun x39 =>
                    bif x39 then
                      (s14 N x32.1 x35.1).bind fun x42 =>
                      some x42
                    else
                      some false
                  else
                    some false
          else
            some x2
  else
    some x2
set_option maxHeartbeats 4000000 in
theorem c6 (N : Nat) (p1 : Source) (p2 : Int) (p3 : Int) (p4 : List UInt8) (r : Bool) (h : s6 N p1 p2 p3 p4 = some r) : PureC Try.prog 6 [.agg (Source.cs p1), .int .u16 p2, .int .u8 p3, .str p4] (.bool r) := by
 refine fn_intro' 119 Try.func6 nt6 ok6 res6 (by simp) fun X hP hn hd hr => ?_
 unfold s6 at h
 repeat refine awp_seq ?_
 refine awp_reg fun K Q hK hQ => ?_
 simp -implicitDefEqProofs (disch := first | omega | rfl) only [go_sem, simprocAttr, zr6_0, argS]
 intro b1
 refine hK _ _ ?_; clear hK hQ K Q
 repeat refine awp_seq ?_
 refine awp_reg fun K Q hK hQ => ?_
 simp -implicitDefEqProofs (disch := first | omega | rfl) only [go_sem, simprocAttr, zr6_1]
 have hh := bnd_some h; clear h; obtain ⟨x2, hx3, h⟩ := hh
 refine call_pure hP (c9 N  x2 hx3) ?_
 simp -implicitDefEqProofs (disch := first | omega | rfl) only [go_sem, simprocAttr]
 refine hK _ _ ?_; clear hK hQ K Q
 repeat refine awp_seq ?_
 refine awp_reg fun K Q hK hQ => ?_
 simp -implicitDefEqProofs (disch := first | omega | rfl) only [go_sem, simprocAttr, zr6_2]
 have hh := bnd_some h; clear h; obtain ⟨x4, hx5, h⟩ := hh
 refine call_pure hP (c10 N p1 200 x4 hx5) ?_
 rcases cnd_some h with ⟨hc6, h⟩ | ⟨hc6, h⟩
 · rcases ite_some h with ⟨hc7, h⟩ | ⟨hc7, h⟩
   · simp -implicitDefEqProofs (disch := first | omega | rfl) only [go_sem, simprocAttr, hc6, eq_true hc7]
     refine hK _ _ ?_; clear hK hQ K Q
     repeat refine awp_seq ?_
     refine awp_then (by rfl) ?_
     repeat refine awp_seq ?_
     refine rg (h := ?_)
     obtain rfl := som_inj h
     repeat refine awp_seq ?_
     refine awp_ret ?_
     repeat first | refine then_ret ?_ | refine blk_ret ?_
     exact rtp
   rcases ite_some h with ⟨hc8, h⟩ | ⟨hc8, h⟩
   · simp -implicitDefEqProofs (disch := first | omega | rfl) only [go_sem, simprocAttr, hc6, eq_false hc7, eq_true hc8]
     refine hK _ _ ?_; clear hK hQ K Q
     repeat refine awp_seq ?_
     refine awp_then (by rfl) ?_
     repeat refine awp_seq ?_
     refine rg (h := ?_)
     obtain rfl := som_inj h
     repeat refine awp_seq ?_
     refine awp_ret ?_
     repeat first | refine then_ret ?_ | refine blk_ret ?_
     exact rtp
   simp -implicitDefEqProofs (disch := first | omega | rfl) only [go_sem, simprocAttr, hc6, eq_false hc7, eq_false hc8]
   refine hK _ _ ?_; clear hK hQ K Q
   rcases ite_some h with ⟨hc9, h⟩ | ⟨hc9, h⟩
   · repeat refine awp_seq ?_
     refine awp_then (by simp -implicitDefEqProofs (disch := first | omega | rfl) only [go_sem, simprocAttr, eq_true hc9]) ?_
     repeat refine awp_seq ?_
     refine rg (h := ?_)
     obtain rfl := som_inj h
     repeat refine awp_seq ?_
     refine awp_ret ?_
     repeat first | refine then_ret ?_ | refine blk_ret ?_
     exact rtp
   repeat refine awp_seq ?_
   refine awp_else (by simp -implicitDefEqProofs (disch := first | omega | rfl) only [go_sem, simprocAttr, eq_false hc9]) ?_
   repeat refine awp_seq ?_
   refine awp_skip ?_
   repeat refine awp_seq ?_
   obtain ⟨hg10, h⟩ := grd_some h
   refine rgf (eq_true hg10) ?_
   repeat refine awp_seq ?_
   refine awp_reg fun K Q hK hQ => ?_
   obtain ⟨⟨hg11, hg12⟩, h⟩ := grd_some h
   simp -implicitDefEqProofs (disch := first | omega | rfl) only [go_sem, simprocAttr, zr6_5, eq_true hg11, eq_true hg12]
   intro b13
   refine hK _ _ ?_; clear hK hQ K Q
   repeat refine awp_seq ?_
   refine awp_reg fun K Q hK hQ => ?_
   rcases ite_some h with ⟨hc14, h⟩ | ⟨hc14, h⟩
   · rcases ite_some h with ⟨hc15, h⟩ | ⟨hc15, h⟩
     · simp -implicitDefEqProofs (disch := first | omega | rfl) only [go_sem, simprocAttr, zr6_6, eq_true hc14, eq_true hc15]
       refine hK _ _ ?_; clear hK hQ K Q
       repeat refine awp_seq ?_
       refine awp_then (by rfl) ?_
       repeat refine awp_seq ?_
       refine rg (h := ?_)
       obtain rfl := som_inj h
       repeat refine awp_seq ?_
       refine awp_ret ?_
       repeat first | refine then_ret ?_ | refine blk_ret ?_
       exact rtp
     simp -implicitDefEqProofs (disch := first | omega | rfl) only [go_sem, simprocAttr, zr6_6, eq_true hc14, eq_false hc15]
     have hh := bnd_some h; clear h; obtain ⟨x16, hx17, h⟩ := hh
     refine call_pure hP (c17 N (p1.Items[(Int.tmod (IntKind.wrap .i64 p2) (List.length p1.Items : Int)).toNat]!) p4 x16 hx17) ?_
     simp -implicitDefEqProofs (disch := first | omega | rfl) only [go_sem, simprocAttr]
     refine hK _ _ ?_; clear hK hQ K Q
     rcases cnd_some h with ⟨hc18, h⟩ | ⟨hc18, h⟩
     · repeat refine awp_seq ?_
       refine awp_then (by simp -implicitDefEqProofs (disch := first | omega | rfl) only [go_sem, simprocAttr, hc18]) ?_
       repeat refine awp_seq ?_
       refine rg (h := ?_)
       obtain rfl := som_inj h
       repeat refine awp_seq ?_
       refine awp_ret ?_
       repeat first | refine then_ret ?_ | refine blk_ret ?_
       exact rtp
     repeat refine awp_seq ?_
     refine awp_else (by simp -implicitDefEqProofs (disch := first | omega | rfl) only [go_sem, simprocAttr, hc18]) ?_
     repeat refine awp_seq ?_
     refine awp_skip ?_
     repeat refine awp_seq ?_
     refine awp_regD' (_ :: _ :: []) ([]) (_ :: _ :: []) (by rw [hP]; exact mixed) rfl (List.Perm.refl _) fun K hK => ?_
     obtain ⟨hg19, h⟩ := grd_some h
     obtain ⟨⟨hg20, hg21⟩, h⟩ := grd_some h
     simp -implicitDefEqProofs (disch := first | omega | rfl) only [go_sem, simprocAttr, zr6_8, eq_true hg19, eq_true hg20, eq_true hg21]
     refine hK _ _ ?_; clear hK K
     repeat refine awp_seq ?_
     refine rg (h := ?_)
     rcases ite_some h with ⟨hc22, h⟩ | ⟨hc22, h⟩
     · repeat refine awp_seq ?_
       refine awp_then (by simp -implicitDefEqProofs (disch := first | omega | rfl) only [go_sem, simprocAttr, eq_true hc22]) ?_
       repeat refine awp_seq ?_
       refine rg (h := ?_)
       obtain rfl := som_inj h
       repeat refine awp_seq ?_
       refine awp_ret ?_
       repeat first | refine then_ret ?_ | refine blk_ret ?_
       exact rtp
     repeat refine awp_seq ?_
     refine awp_else (by simp -implicitDefEqProofs (disch := first | omega | rfl) only [go_sem, simprocAttr, eq_false hc22]) ?_
     repeat refine awp_seq ?_
     refine awp_skip ?_
     repeat refine awp_seq ?_
     refine awp_reg fun K Q hK hQ => ?_
     simp -implicitDefEqProofs (disch := first | omega | rfl) only [go_sem, simprocAttr, zr6_11, Civil.cs_eq]
     intro b23
     refine hK _ _ ?_; clear hK hQ K Q
     repeat refine awp_seq ?_
     refine awp_reg fun K Q hK hQ => ?_
     obtain ⟨⟨hg24, hg25⟩, h⟩ := grd_some h
     simp -implicitDefEqProofs (disch := first | omega | rfl) only [go_sem, simprocAttr, zr6_12, eq_true hg24, eq_true hg25]
     refine app_niln ?_
     simp -implicitDefEqProofs (disch := first | omega | rfl) only [go_sem, simprocAttr, eq_true hg24, eq_true hg25]
     intro bo26 hb27
     try simp -implicitDefEqProofs (disch := first | omega | rfl) only [go_sem, simprocAttr]
     refine hK _ _ ?_; clear hK hQ K Q
     repeat refine awp_seq ?_
     refine awp_regD' (accO _ _ _ (_ :: _ :: _ :: [])) ([]) (accO _ _ _ (_ :: _ :: _ :: [])) (by rw [hP]; exact mixed) (by first | rfl | (simp only [accO_app, List.cons_append, List.nil_append]; rfl) | simp only [accO_app, List.cons_append, List.nil_append]) (List.Perm.refl _) fun K hK => ?_
     simp -implicitDefEqProofs (disch := first | omega | rfl) only [go_sem, simprocAttr, zr6_13]
     have hh := bnd_some h; clear h; obtain ⟨x28, hx29, h⟩ := hh
     refine call_pure hP (c18 N (p1.Items[(Int.tmod (IntKind.wrap .i64 p2) (List.length p1.Items : Int)).toNat]!) (((p1.Items[(Int.tmod (IntKind.wrap .i64 p2) (List.length p1.Items : Int)).toNat]!).Names)[(Int.tmod (IntKind.wrap .i64 p3) ((List.length ((p1.Items[(Int.tmod (IntKind.wrap .i64 p2) (List.length p1.Items : Int)).toNat]!).Names) : Int))).toNat]!) p4 x28 hx29) ?_
     obtain ⟨b30, hs31⟩ := acc_some (acc_len (fun h => List.length_eq_zero_iff.1 (by simpa using hb27 h))) (show 0 < List.length p1.Items by first | omega | simp)
     subst hs31
     simp -implicitDefEqProofs (disch := first | omega | rfl) only [go_sem, simprocAttr, accV_some, accO_some, eq_true (show (Int.tmod (IntKind.wrap .i64 p2) (List.length p1.Items : Int)).toNat * 33 + 33 ≤ List.length p1.Items * 33 by omega), eq_true hg11, eq_true hg12]
     refine hK _ _ ?_; clear hK K
     repeat refine awp_seq ?_
     refine awp_reg fun K Q hK hQ => ?_
     simp -implicitDefEqProofs (disch := first | omega | rfl) only [go_sem, simprocAttr, zr6_14]
     have hh := bnd_some h; clear h; obtain ⟨x32, hx33, h⟩ := hh
     refine call_pure hP (c11 N p1 x32 hx33) ?_
     simp -implicitDefEqProofs (disch := first | omega | rfl) only [go_sem, simprocAttr]
     intro b34
     refine hK _ _ ?_; clear hK hQ K Q
     repeat refine awp_seq ?_
     refine awp_reg fun K Q hK hQ => ?_
     simp -implicitDefEqProofs (disch := first | omega | rfl) only [go_sem, simprocAttr, zr6_15]
     have hh := bnd_some h; clear h; obtain ⟨x35, hx36, h⟩ := hh
     refine call_pureF' hP (_ :: []) (_ :: _ :: _ :: _ :: []) (_ :: _ :: _ :: _ :: _ :: []) rfl (List.Perm.trans perm_cc (List.Perm.refl _)) (.cons (by rw [Source.cs_eq]; exact .aggL (.cons (.keep _) (.cons (.keep _) (.cons (.keep _) (.cons (.keep _) (.cons (.keep _) (.cons (frz_row (fun _ => Item.avl) (by simp -implicitDefEqProofs (disch := first | omega | rfl) only [go_sem, simprocAttr]) (by first | rfl | (simp; done) | ((try simp only [List.length_set, List.length_take]); omega))) .nil))))))) .nil) (c11 N (({ Name := p1.Name, From := p1.From, Days := p1.Days, Items := List.set p1.Items (Int.tmod (IntKind.wrap .i64 p2) (List.length p1.Items : Int)).toNat x28 } : Source)) x35 hx36) ?_
     simp -implicitDefEqProofs (disch := first | omega | rfl) only [go_sem, simprocAttr]
     intro b37
     refine hK _ _ ?_; clear hK hQ K Q
     repeat refine awp_seq ?_
     refine awp_reg fun K Q hK hQ => ?_
     rcases cnd_some h with ⟨hc38, h⟩ | ⟨hc38, h⟩
     · simp -implicitDefEqProofs (disch := first | omega | rfl) only [go_sem, simprocAttr, zr6_16, hc38]
       have hh := bnd_some h; clear h; obtain ⟨x39, hx40, h⟩ := hh
       refine call_pure hP (c19 N x32.2 x35.2 x39 hx40) ?_
       rcases cnd_some h with ⟨hc41, h⟩ | ⟨hc41, h⟩
       · simp -implicitDefEqProofs (disch := first | omega | rfl) only [go_sem, simprocAttr, hc41]
         have hh := bnd_some h; clear h; obtain ⟨x42, hx43, h⟩ := hh
         refine call_pure hP (c14 N x32.1 x35.1 x42 hx43) ?_
         simp -implicitDefEqProofs (disch := first | omega | rfl) only [go_sem, simprocAttr]
         refine hK _ _ ?_; clear hK hQ K Q
         obtain rfl := som_inj h
         repeat refine awp_seq ?_
         refine awp_ret ?_
         repeat first | refine then_ret ?_ | refine blk_ret ?_
         exact rtp
       simp -implicitDefEqProofs (disch := first | omega | rfl) only [go_sem, simprocAttr, hc41]
       refine hK _ _ ?_; clear hK hQ K Q
       obtain rfl := som_inj h
       repeat refine awp_seq ?_
       refine awp_ret ?_
       repeat first | refine then_ret ?_ | refine blk_ret ?_
       exact rtp
     simp -implicitDefEqProofs (disch := first | omega | rfl) only [go_sem, simprocAttr, zr6_16, hc38]
     refine hK _ _ ?_; clear hK hQ K Q
     obtain rfl := som_inj h
     repeat refine awp_seq ?_
     refine awp_ret ?_
     repeat first | refine then_ret ?_ | refine blk_ret ?_
     exact rtp
   simp -implicitDefEqProofs (disch := first | omega | rfl) only [go_sem, simprocAttr, zr6_6, eq_false hc14]
   refine hK _ _ ?_; clear hK hQ K Q
   repeat refine awp_seq ?_
   refine awp_then (by rfl) ?_
   repeat refine awp_seq ?_
   refine rg (h := ?_)
   obtain rfl := som_inj h
   repeat refine awp_seq ?_
   refine awp_ret ?_
   repeat first | refine then_ret ?_ | refine blk_ret ?_
   exact rtp
 simp -implicitDefEqProofs (disch := first | omega | rfl) only [go_sem, simprocAttr, hc6]
 refine hK _ _ ?_; clear hK hQ K Q
 repeat refine awp_seq ?_
 refine awp_then (by rfl) ?_
 repeat refine awp_seq ?_
 refine rg (h := ?_)
 obtain rfl := som_inj h
 repeat refine awp_seq ?_
 refine awp_ret ?_
 repeat first | refine then_ret ?_ | refine blk_ret ?_
 exact rtp
end Go.Proofs.Inc
namespace Go.Aw
theorem wr {n : Int} (h1 : -9223372036854775808 ≤ n) (h2 : n ≤ 9223372036854775807) : IntKind.wrap .i64 n = n := w64 h1 h2
theorem wr_succ {i : Nat} (h : i < 9223372036854775807) : IntKind.wrap .i64 ((i : Int) + 1) = ((i + 1 : Nat) : Int) := by
  rw [wr (by omega) (by omega)]
  omega
section
variable {α σ ρ τ : Type}
def runL (f : Nat → σ → α → σ ⊕ ρ) (fin : σ → ρ) : Nat → σ → List α → ρ
  | _, s, [] => fin s
  | i, s, a :: l => match f i s a with | .inl s' => runL f fin (i + 1) s' l | .inr r => r
theorem iter_step {body : τ → Option (τ ⊕ ρ)} {N : Nat} {s s' : τ} (h : body s = some (.inl s')) : iter body (N + 1) s = iter body N s' := by
  rw [iter, h]; rfl
theorem iter_end {body : τ → Option (τ ⊕ ρ)} {N : Nat} {s : τ} {r : ρ} (h : body s = some (.inr r)) : iter body (N + 1) s = some r := by
  rw [iter, h]; rfl
theorem iter_from {body : τ → Option (τ ⊕ ρ)} (mk : σ → Int → τ) (f : Nat → σ → α → σ ⊕ ρ) (fin : σ → ρ) (Inv : Nat → σ → Prop) (L : Nat) :
    ∀ (l : List α) (i : Nat), i + l.length = L →
    (∀ (j : Nat) s a, l[j]? = some a → Inv (i + j) s → (body (mk s ((i + j : Nat) : Int)) = some (match f (i + j) s a with | .inl s' => .inl (mk s' ((i + j + 1 : Nat) : Int)) | .inr r => .inr r)) ∧ ∀ s', f (i + j) s a = .inl s' → Inv (i + j + 1) s') →
    (∀ s, Inv L s → body (mk s (L : Int)) = some (.inr (fin s))) → ∀ {N : Nat}, l.length < N → ∀ {s0 : σ}, Inv i s0 → iter body N (mk s0 (i : Int)) = some (runL f fin i s0 l)
  | [], i, hL, _, he, N, hN, s0, h0 => by
    obtain ⟨M, rfl⟩ : ∃ M, N = M + 1 := ⟨N - 1, by simp at hN; omega⟩
    simp only [List.length_nil, Nat.add_zero] at hL
    subst hL
    exact iter_end (he s0 h0)
  | a :: l, i, hL, hb, he, N, hN, s0, h0 => by
    obtain ⟨M, rfl⟩ : ∃ M, N = M + 1 := ⟨N - 1, by simp at hN; omega⟩
    obtain ⟨h1, h2⟩ := hb 0 s0 a rfl h0
    simp only [Nat.add_zero] at h1 h2
    rw [runL]
    cases hf : f i s0 a with
    | inl s' =>
      rw [hf] at h1
      rw [iter_step h1]
      refine iter_from mk f fin Inv L l (i + 1) (by simp only [List.length_cons] at hL; omega) (fun j s b hj hs => ?_) he (by simp only [List.length_cons] at hN; omega) (h2 s' hf)
      have := hb (j + 1) s b (by simpa using hj) (by rw [show i + (j + 1) = i + 1 + j by omega]; exact hs)
      rw [show i + (j + 1) = i + 1 + j by omega] at this
      exact this
    | inr r =>
      rw [hf] at h1
      exact iter_end h1
theorem iter_list {body : τ → Option (τ ⊕ ρ)} (mk : σ → Int → τ) (s0 : σ) (l : List α) (f : Nat → σ → α → σ ⊕ ρ) (fin : σ → ρ) (Inv : Nat → σ → Prop)
    (hb : ∀ (i : Nat) s a, l[i]? = some a → Inv i s → (body (mk s (i : Int)) = some (match f i s a with | .inl s' => .inl (mk s' ((i + 1 : Nat) : Int)) | .inr r => .inr r)) ∧ ∀ s', f i s a = .inl s' → Inv (i + 1) s')
    (he : ∀ s, Inv l.length s → body (mk s (l.length : Int)) = some (.inr (fin s))) {N : Nat} (hN : l.length < N) (h0 : Inv 0 s0) : iter body N (mk s0 0) = some (runL f fin 0 s0 l) := by
  have := iter_from (body := body) mk f fin Inv l.length l 0 (by simp) (fun j s a hj hs => by
    have := hb j s a hj (by simpa using hs)
    simpa using this) he hN h0
  simpa using this
theorem runL_fold {g : σ → α → σ} {fin : σ → ρ} : ∀ (l : List α) (i : Nat) (s : σ), runL (fun _ s a => .inl (g s a)) fin i s l = fin (l.foldl g s)
  | [], _, _ => rfl
  | a :: l, i, s => by rw [runL]; exact runL_fold l (i + 1) (g s a)
theorem runL_map {g : α → σ} : ∀ (l : List α) (i : Nat) (s : List σ), runL (fun _ s a => .inl (s ++ [g a])) (fun s => (s : List σ)) i s l = s ++ l.map g
  | [], _, _ => by simp [runL]
  | a :: l, i, s => by rw [runL]; simp only; rw [runL_map l (i + 1)]; simp
end
theorem getI {α : Type} [Inhabited α] {l : List α} {i : Nat} {a : α} (h : l[i]? = some a) : l[i]! = a ∧ i < l.length := by
  obtain ⟨h1, h2⟩ := List.getElem?_eq_some_iff.1 h
  exact ⟨by rw [getElem!_pos l i h1, h2], h1⟩
theorem toNat_nat {i : Nat} : ((i : Int)).toNat = i := rfl
end Go.Aw
namespace Go.Proofs.Inc
open Go.Aw
mutual
def isz : Item → Nat
  | ⟨_, _, _, _, _, _, _, _, _, _, _, _, _, _, _, _, _, _, _, _, _, l⟩ => 1 + iszl l
def iszl : List Item → Nat
  | [] => 0
  | x :: l => isz x + iszl l
end
theorem isz_eq (x : Item) : isz x = 1 + iszl x.Items := by cases x; rw [isz]
theorem iszl_nil : iszl [] = 0 := by rw [iszl]
theorem iszl_cons (x : Item) (l : List Item) : iszl (x :: l) = 1 + iszl x.Items + iszl l := by rw [iszl, isz_eq]
theorem iszl_len (l : List Item) : l.length ≤ iszl l := by
  induction l with
  | nil => simp
  | cons x l ih => rw [iszl_cons, List.length_cons]; omega
theorem iszl_mem {x : Item} {l : List Item} (h : x ∈ l) : 1 + iszl x.Items ≤ iszl l := by
  induction l with
  | nil => cases h
  | cons y l ih =>
    rw [iszl_cons]
    rcases List.mem_cons.1 h with rfl | h
    · omega
    · have := ih h; omega
abbrev Lim (f : List Item → Int → Option Int) (l : List Item) (lim : Nat) : Prop :=
  ∃ t : Nat, f l (lim : Int) = some (t : Int) ∧ t ≤ iszl l ∧ (iszl l ≤ lim → t = iszl l) ∧ (lim < iszl l → lim < t)
theorem s24_loop (N : Nat) (l : List Item) (lim : Nat) (hl : lim ≤ 1099511627776) (hs : iszl l ≤ 1099511627776) (ih : ∀ x, x ∈ l → ∀ k, k ≤ lim → Lim (s24 N) x.Items k) :
    ∀ (l' : List Item) (i n : Nat), l.drop i = l' → n ≤ lim → n + iszl l' ≤ iszl l → ∀ M, l'.length < M →
      ∃ t : Nat, iter (fun p => s24_b1 N l lim (s24 N) p.1 p.2) M ((n : Int), (i : Int)) = some (t : Int) ∧ t ≤ n + iszl l' ∧ (n + iszl l' ≤ lim → t = n + iszl l') ∧ (lim < n + iszl l' → lim < t)
  | [], i, n, hd, hn, hsz, M, hM => by
    obtain ⟨M, rfl⟩ : ∃ k, M = k + 1 := ⟨M - 1, by simp at hM; omega⟩
    have hi : l.length ≤ i := List.drop_eq_nil_iff.1 hd
    refine ⟨n, iter_end ?_, by simp [iszl_nil], by simp [iszl_nil], by simp [iszl_nil]; try omega⟩
    simp only [s24_b1]
    rw [if_neg (by omega)]
  | x :: l', i, n, hd, hn, hsz, M, hM => by
    obtain ⟨M, rfl⟩ : ∃ k, M = k + 1 := ⟨M - 1, by simp at hM; omega⟩
    have hi : l[i]? = some x := by rw [← List.head?_drop, hd]; rfl
    obtain ⟨hx, hlt⟩ := getI hi
    have hmem : x ∈ l := List.mem_of_getElem? hi
    obtain ⟨t, ht, h1, h2, h3⟩ := ih x hmem (lim - n) (by omega)
    have hm := iszl_mem hmem
    rw [iszl_cons] at hsz ⊢
    have hcast : ((lim : Int) - (n : Int)) = ((lim - n : Nat) : Int) := by omega
    have hb : s24_b1 N l lim (s24 N) (n : Int) (i : Int) = if (lim : Int) < ((n + 1 + t : Nat) : Int) then some (.inr ((n + 1 + t : Nat) : Int)) else some (.inl (((n + 1 + t : Nat) : Int), ((i + 1 : Nat) : Int))) := by
      simp only [s24_b1]
      have hlt2 : i + 1 ≤ iszl l := Nat.le_trans hlt (iszl_len l)
      rw [if_pos (by omega), grd_pos (by omega), toNat_nat, hx, hcast, wr (by omega) (by omega), ht]
      simp only [Option.bind_some]
      rw [wr (n := 1 + (t : Int)) (by omega) (by omega), wr (by omega) (by omega), wr_succ (by omega), show (n : Int) + (1 + (t : Int)) = ((n + 1 + t : Nat) : Int) by omega]
    by_cases hc : lim < n + 1 + t
    · refine ⟨n + 1 + t, iter_end (by simp only [hb]; rw [if_pos (by omega)]), by omega, by omega, by omega⟩
    · obtain ⟨t', e1, e2, e3, e4⟩ := s24_loop N l lim hl hs ih l' (i + 1) (n + 1 + t) (by rw [← List.drop_drop, hd]; rfl) (by omega) (by omega) M (by simp at hM; omega)
      refine ⟨t', by rw [iter_step (s' := (((n + 1 + t : Nat) : Int), ((i + 1 : Nat) : Int))) (by simp only [hb]; rw [if_neg (by omega)])]; exact e1, by omega, by omega, by omega⟩
theorem s24_lim : ∀ (N : Nat) (l : List Item) (lim : Nat), iszl l + 1 < N → lim ≤ 1099511627776 → iszl l ≤ 1099511627776 → Lim (s24 N) l lim
  | 0, l, lim, h, _, _ => by omega
  | N + 1, l, lim, h, hl, hs => by
    obtain ⟨t, e1, e2, e3, e4⟩ := s24_loop N l lim hl hs (fun x hx k hk => by
      have := iszl_mem hx
      exact s24_lim N x.Items k (by omega) (by omega) (by omega)) l 0 0 rfl (by omega) (by omega) N (by have := iszl_len l; omega)
    refine ⟨t, ?_, by omega, by omega, by omega⟩
    simp only [s24, s24_body]
    rw [show ((0 : Int), (0 : Int)) = (((0 : Nat) : Int), ((0 : Nat) : Int)) by rfl, e1]
    rfl
theorem s22_loop (N : Nat) (l : List Item) (lim : Nat) (hl : lim ≤ 1099511627776) (hs : iszl l ≤ 1099511627776) (ih : ∀ x, x ∈ l → ∀ k, k ≤ lim → Lim (s22 N) x.Items k) :
    ∀ (l' : List Item) (i n : Nat), l.drop i = l' → n + iszl l' ≤ iszl l → ∀ M, l'.length < M →
      ∃ t : Nat, iter (fun p => s22_b1 N l lim (s22 N) p.1 p.2) M ((n : Int), (i : Int)) = some (t : Int) ∧ t ≤ n + iszl l' ∧ (n + iszl l' ≤ lim → t = n + iszl l') ∧ (lim < n + iszl l' → lim < t)
  | [], i, n, hd, hsz, M, hM => by
    obtain ⟨M, rfl⟩ : ∃ k, M = k + 1 := ⟨M - 1, by simp at hM; omega⟩
    have hi : l.length ≤ i := List.drop_eq_nil_iff.1 hd
    refine ⟨n, iter_end ?_, by simp [iszl_nil], by simp [iszl_nil], by simp [iszl_nil]⟩
    simp only [s22_b1]
    rw [if_neg (by omega)]
  | x :: l', i, n, hd, hsz, M, hM => by
    obtain ⟨M, rfl⟩ : ∃ k, M = k + 1 := ⟨M - 1, by simp at hM; omega⟩
    have hi : l[i]? = some x := by rw [← List.head?_drop, hd]; rfl
    obtain ⟨hx, hlt⟩ := getI hi
    have hmem : x ∈ l := List.mem_of_getElem? hi
    have hm := iszl_mem hmem
    rw [iszl_cons] at hsz ⊢
    by_cases hn : n ≤ lim
    · obtain ⟨t, ht, h1, h2, h3⟩ := ih x hmem (lim - n) (by omega)
      have hcast : ((lim : Int) - (n : Int)) = ((lim - n : Nat) : Int) := by omega
      have hb : s22_b1 N l lim (s22 N) (n : Int) (i : Int) = some (.inl (((n + 1 + t : Nat) : Int), ((i + 1 : Nat) : Int))) := by
        simp only [s22_b1]
        have hlt2 : i + 1 ≤ iszl l := Nat.le_trans hlt (iszl_len l)
        rw [if_pos (by omega), if_pos (by omega), grd_pos (by omega), toNat_nat, hx, hcast, wr (by omega) (by omega), ht]
        simp only [Option.bind_some]
        rw [wr_succ (i := n) (by omega), wr (by omega) (by omega), wr_succ (by omega)]
        rfl
      obtain ⟨t', e1, e2, e3, e4⟩ := s22_loop N l lim hl hs ih l' (i + 1) (n + 1 + t) (by rw [← List.drop_drop, hd]; rfl) (by omega) M (by simp at hM; omega)
      refine ⟨t', by rw [iter_step (s' := (((n + 1 + t : Nat) : Int), ((i + 1 : Nat) : Int))) (by simp only [hb])]; exact e1, by omega, by omega, by omega⟩
    · refine ⟨n, iter_end ?_, by omega, by omega, by omega⟩
      simp only [s22_b1]
      rw [if_pos (by omega), if_neg (by omega)]
theorem s22_lim : ∀ (N : Nat) (l : List Item) (lim : Nat), iszl l + 1 < N → lim ≤ 1099511627776 → iszl l ≤ 1099511627776 → Lim (s22 N) l lim
  | 0, l, lim, h, _, _ => by omega
  | N + 1, l, lim, h, hl, hs => by
    obtain ⟨t, e1, e2, e3, e4⟩ := s22_loop N l lim hl hs (fun x hx k hk => by
      have := iszl_mem hx
      exact s22_lim N x.Items k (by omega) (by omega) (by omega)) l 0 0 rfl (by omega) N (by have := iszl_len l; omega)
    refine ⟨t, ?_, by omega, by omega, by omega⟩
    simp only [s22, s22_body]
    rw [show ((0 : Int), (0 : Int)) = (((0 : Nat) : Int), ((0 : Nat) : Int)) by rfl, e1]
    rfl
theorem s23_def : ∀ (N : Nat) (l : List Item), iszl l + 1 < N → iszl l ≤ 1099511627776 → ∃ b, s23 N l = some b
  | 0, l, h, _ => by omega
  | N + 1, l, h, hs => by
    have hrec : ∀ x, x ∈ l → ∃ b, s23 N x.Items = some b := fun x hx => by
      have := iszl_mem hx
      exact s23_def N x.Items (by omega) (by omega)
    have hb : iter (fun p => s23_b1 N l (s23 N) p) N 0 = some _ := iter_list (fun (_ : Unit) i => i) () l
      (fun _ _ a => if 30 < a.Names.length ∨ 30 < a.Conds.length ∨ 30 < a.Dates.length ∨ 100 < a.Name.length ∨ s23 N a.Items = some false then .inr (.ret false) else .inl ()) (fun _ => .brk ()) (fun _ _ => True) (fun i s a hi _ => by
        obtain ⟨ha, hlt⟩ := getI hi
        obtain ⟨b, hb⟩ := hrec a (List.mem_of_getElem? hi)
        have := Nat.le_trans hlt (iszl_len l)
        refine ⟨?_, fun _ _ => trivial⟩
        simp only [s23_b1]
        rw [if_pos (by omega), grd_pos (by omega), toNat_nat, ha, hb, wr_succ (by omega)]
        simp only [Option.bind_some]
        by_cases h1 : 30 < a.Names.length
        · simp [h1, show (30 : Int) < a.Names.length by omega]
        by_cases h2 : 30 < a.Conds.length
        · simp [h1, h2, show (30 : Int) < a.Conds.length by omega]
        by_cases h3 : 30 < a.Dates.length
        · simp [h1, h2, h3, show (30 : Int) < a.Dates.length by omega]
        by_cases h4 : 100 < a.Name.length
        · simp [h1, h2, h3, h4, show (100 : Int) < a.Name.length by omega]
        rw [if_neg (by omega), if_neg (by omega), if_neg (by omega), if_neg (by omega)]
        cases b <;> simp [h1, h2, h3, h4]) (fun s _ => by
        simp only [s23_b1]
        rw [if_neg (by omega)]) (by have := iszl_len l; omega) trivial
    simp only [s23, s23_body]
    rw [hb]
    simp only [Option.bind_some]
    generalize runL _ _ 0 () l = o
    cases o with
    | brk a => exact ⟨true, rfl⟩
    | ret b => exact ⟨b, rfl⟩
theorem s10_def {N : Nat} {s : Source} {lim : Nat} (h : iszl s.Items + 1 < N) (hl : lim ≤ 1099511627776) (hs : iszl s.Items ≤ 1099511627776) : ∃ b, s10 N s lim = some b ∧ (b = true → iszl s.Items ≤ lim) := by
  obtain ⟨t, e1, e2, e3, e4⟩ := s22_lim N s.Items lim h hl hs
  obtain ⟨b, hb⟩ := s23_def N s.Items h hs
  simp only [s10]
  rw [e1]
  simp only [Option.bind_some, hb]
  by_cases hc : (t : Int) ≤ (lim : Int)
  · rw [if_pos hc]
    exact ⟨b, rfl, fun _ => by omega⟩
  · rw [if_neg hc]
    exact ⟨false, rfl, fun h => by cases h⟩
end Go.Proofs.Inc
namespace Go.Proofs.Inc
open Go.Aw
abbrev Str := List UInt8
def NB : Nat := 4194304
theorem runL_find {α ρ : Type} {p : α → Bool} {g : Nat → ρ} {y : ρ} : ∀ (l : List α) (i : Nat), runL (fun i (_ : Unit) a => if p a then .inr (g i) else .inl ()) (fun _ => y) i () l = match l.findIdx? p with | some j => g (i + j) | none => y
  | [], i => by simp [runL]
  | a :: l, i => by
    rw [runL, List.findIdx?_cons]
    cases hp : p a with
    | true => simp
    | false =>
      simp only [Bool.false_eq_true, if_false]
      rw [runL_find l (i + 1)]
      cases l.findIdx? p with
      | none => rfl
      | some j => simp only [Option.map_some]; rw [show i + 1 + j = i + (j + 1) by omega]
def find (l : List Str) (n : Str) : Option Nat := l.findIdx? (fun a => decide (n = a))
theorem find_lt {l : List Str} {n : Str} {i : Nat} (h : find l n = some i) : i < l.length := by
  unfold find at h
  exact (List.findIdx?_eq_some_iff_getElem.1 h).1
theorem s38_eq {N : Nat} {l : List Str} {n : Str} (hN : l.length < N) (hl : l.length ≤ NB) : s38 N l n = some (match find l n with | some i => (i : Int) | none => -1) := by
  have hb : iter (fun p => s38_b1 N l n p) N 0 = some _ := iter_list (fun (_ : Unit) i => i) () l (fun i _ a => if decide (n = a) then .inr (.ret (i : Int)) else .inl ()) (fun _ => .brk ()) (fun _ _ => True) (fun i s a hi _ => by
    obtain ⟨ha, hlt⟩ := getI hi
    refine ⟨?_, fun _ _ => trivial⟩
    simp only [s38_b1, NB] at *
    rw [if_pos (by omega), grd_pos (by omega), toNat_nat, ha, wr_succ (by omega)]
    by_cases h : n = a <;> simp [h]) (fun s _ => by
    simp only [s38_b1]
    rw [if_neg (by omega)]) hN trivial
  simp only [s38]
  rw [hb, runL_find]
  simp only [Option.bind_some, find]
  cases l.findIdx? (fun a => decide (n = a)) with
  | none => rfl
  | some j => simp [Ou.on]
theorem s33_eq {N : Nat} {l : List Str} {n : Str} (hN : l.length < N) (hl : l.length ≤ NB) : s33 N l n = some (find l n).isSome := by
  simp only [s33]
  rw [s38_eq hN hl]
  cases find l n <;> simp
def hit (l : List Str) (s : Str) : Bool := decide (s ≠ []) && (find l s).isSome
def rep (l args : List Str) (s : Str) : Str := if s = [] then s else match find l s with | some i => args[i]! | none => s
theorem rep_miss {l args : List Str} {s : Str} (h : hit l s = false) : rep l args s = s := by
  unfold hit at h
  unfold rep
  by_cases hs : s = []
  · simp [hs]
  · rw [if_neg hs]
    cases hf : find l s with
    | none => rfl
    | some i => simp [hs, hf] at h
theorem rep_gen {β : Type} {N : Nat} {l args : List Str} (s : Str) (x : β) (F : Str → β) (hN : l.length < N) (hl : l.length ≤ NB) (ha : l.length = args.length) (hF : F s = x) :
    ((s38 N l s).bind fun x1 => if s = [] then some (false, x) else if x1 < 0 then some (false, x) else grd (0 ≤ x1 ∧ x1 < (List.length args : Int)) (some (true, F (args[x1.toNat]!)))) = some (hit l s, F (rep l args s)) := by
  rw [s38_eq hN hl]
  simp only [Option.bind_some, hit, rep]
  by_cases hs : s = []
  · simp [hs, ← hF]
  · rw [if_neg hs, if_neg hs]
    cases hf : find l s with
    | none => simp [hs, hF]
    | some i =>
      have := find_lt hf
      simp only [hs]
      rw [if_neg (by omega), grd_pos (by omega), toNat_nat]
      simp [hs]
theorem s39_1e {N : Nat} {t u y : Item} (hN : t.Names.length < N) (hl : t.Names.length ≤ NB) (ha : t.Names.length = u.Names.length) : s39 N y t u = some (hit t.Names y.Of, { y with Of := rep t.Names u.Names y.Of }) := rep_gen y.Of y (fun v => { y with Of := v }) hN hl ha (by cases y; rfl)
theorem s39_2e {N : Nat} {t u y : Item} (hN : t.Names.length < N) (hl : t.Names.length ≤ NB) (ha : t.Names.length = u.Names.length) : s39_2 N y t u = some (hit t.Names y.Act, { y with Act := rep t.Names u.Names y.Act }) := rep_gen y.Act y (fun v => { y with Act := v }) hN hl ha (by cases y; rfl)
theorem s39_3e {N : Nat} {t u y : Item} (hN : t.Names.length < N) (hl : t.Names.length ≤ NB) (ha : t.Names.length = u.Names.length) : s39_3 N y t u = some (hit t.Names y.By, { y with By := rep t.Names u.Names y.By }) := rep_gen y.By y (fun v => { y with By := v }) hN hl ha (by cases y; rfl)
theorem s39_4e {N : Nat} {t u y : Item} (hN : t.Names.length < N) (hl : t.Names.length ≤ NB) (ha : t.Names.length = u.Names.length) : s39_4 N y t u = some (hit t.Names y.Until, { y with Until := rep t.Names u.Names y.Until }) := rep_gen y.Until y (fun v => { y with Until := v }) hN hl ha (by cases y; rfl)
theorem s39_5e {N : Nat} {t u y : Item} (hN : t.Names.length < N) (hl : t.Names.length ≤ NB) (ha : t.Names.length = u.Names.length) : s39_5 N y t u = some (hit t.Names y.Unit, { y with Unit := rep t.Names u.Names y.Unit }) := rep_gen y.Unit y (fun v => { y with Unit := v }) hN hl ha (by cases y; rfl)
theorem s39_6e {N : Nat} {t u y : Item} (hN : t.Names.length < N) (hl : t.Names.length ≤ NB) (ha : t.Names.length = u.Names.length) : s39_6 N y t u = some (hit t.Names y.Sum, { y with Sum := rep t.Names u.Names y.Sum }) := rep_gen y.Sum y (fun v => { y with Sum := v }) hN hl ha (by cases y; rfl)
theorem s39_7e {N : Nat} {t u y : Item} (hN : t.Names.length < N) (hl : t.Names.length ≤ NB) (ha : t.Names.length = u.Names.length) : s39_7 N y t u = some (hit t.Names y.To, { y with To := rep t.Names u.Names y.To }) := rep_gen y.To y (fun v => { y with To := v }) hN hl ha (by cases y; rfl)
theorem s39_8e {N : Nat} {t u y : Item} (hN : t.Names.length < N) (hl : t.Names.length ≤ NB) (ha : t.Names.length = u.Names.length) : s39_8 N y t u = some (hit t.Names y.Within.Name, { y with Within := { y.Within with Name := rep t.Names u.Names y.Within.Name } }) := rep_gen y.Within.Name y (fun v => { y with Within := { y.Within with Name := v } }) hN hl ha (by cases y; rfl)
theorem s39_9e {N : Nat} {t u y : Item} (hN : t.Names.length < N) (hl : t.Names.length ≤ NB) (ha : t.Names.length = u.Names.length) : s39_9 N y t u = some (hit t.Names y.Grace.Name, { y with Grace := { y.Grace with Name := rep t.Names u.Names y.Grace.Name } }) := rep_gen y.Grace.Name y (fun v => { y with Grace := { y.Grace with Name := v } }) hN hl ha (by cases y; rfl)
theorem s39_10e {N : Nat} {t u : Item} (hN : t.Names.length < N) (hl : t.Names.length ≤ NB) (ha : t.Names.length = u.Names.length) {l : List Named} {i : Nat} (hi : i < l.length) : s39_10 N l i t u = some (hit t.Names (l[i]!).Name, l.set i { l[i]! with Name := rep t.Names u.Names (l[i]!).Name }) := by
  refine rep_gen (l[i]!).Name l (fun v => l.set i { l[i]! with Name := v }) hN hl ha ?_
  show l.set i l[i]! = l
  rw [getElem!_pos l i hi, List.set_getElem_self]
theorem s39_11e {N : Nat} {t u : Item} (hN : t.Names.length < N) (hl : t.Names.length ≤ NB) (ha : t.Names.length = u.Names.length) {l : List Str} {i : Nat} (hi : i < l.length) : s39_11 N l i t u = some (hit t.Names (l[i]!), l.set i (rep t.Names u.Names (l[i]!))) := by
  refine rep_gen (l[i]!) l (fun v => l.set i v) hN hl ha ?_
  rw [getElem!_pos l i hi, List.set_getElem_self]
def clause (k : Int) : Bool := decide (9 ≤ k ∧ k ≤ 12)
theorem s35_eq {N : Nat} {k : Int} : s35 N k = some (clause k) := by
  simp only [s35, clause]
  by_cases h : 9 ≤ k <;> simp [h]
def defines (k : Int) : Bool := decide (k = 13 ∨ k = 6 ∨ k = 7)
end Go.Proofs.Inc
