/- For every argument of bulk at most 1048576, estoppellaw09.IncludePrefix returns true and leaves its arguments as they were. (Part 6 of what its proof rests on.) -/
import Derived.ChangeShapes
import Derived.ChangeReads
import Derived.ChangeOld
import Derived.ChangeArms
import Derived.OpenShut
import Derived.ChangeSame
import Derived.RowKit
import Derived.Test.YtpbhebjfblidlaaPe
set_option linter.unusedSimpArgs false
set_option linter.unusedVariables false
set_option linter.deprecated false
namespace Go.Proofs.Inc
open Go.Aw
set_option maxRecDepth 100000
attribute [-go_sem] nisA_sl appA_nil
def zr22_0 : List AO := [⟨some 4, none, .mov (.c (.int .i64 0))⟩]
def zr22_1 : List AO := [⟨some 5, none, .mov (.c (.int .i64 0))⟩]
def zr22_2 : List AO := [⟨some 6, none, .mov (.c (.int .i64 0))⟩]
def zr22_3 : List AO := [⟨some 7, none, .mov (.t 6)⟩,
  ⟨some 8, none, .mov (.t 0)⟩,
  ⟨some 9, none, .len (.t 8)⟩,
  ⟨some 10, none, .bin .lss (.t 7) (.t 9)⟩,
  ⟨some 11, none, .mov (.t 10)⟩,
  ⟨some 12, some (11, true), .mov (.t 5)⟩,
  ⟨some 13, some (11, true), .mov (.t 1)⟩,
  ⟨some 14, some (11, true), .bin .leq (.t 12) (.t 13)⟩,
  ⟨some 15, none, .pick (.t 11) (.t 14) (.c (.bool false))⟩]
def zc22_0 : AC := .cond (.t 15) .skip (.exit 0)
def zr22_4 : List AO := [⟨some 18, none, .mov (.t 5)⟩,
  ⟨some 19, none, .bin .add (.t 18) (.c (.int .i64 1))⟩,
  ⟨some 20, none, .mov (.t 0)⟩,
  ⟨some 21, none, .mov (.t 6)⟩,
  ⟨some 22, none, .iadr 33 (.t 20) (.t 21)⟩,
  ⟨some 23, none, .fadr 32 (.t 22)⟩,
  ⟨some 24, none, .load false 1 (.t 23)⟩,
  ⟨some 25, none, .mov (.t 1)⟩,
  ⟨some 26, none, .mov (.t 5)⟩,
  ⟨some 27, none, .bin .sub (.t 25) (.t 26)⟩,
  ⟨some 28, none, .callF 22 [(.t 24), (.t 27)]⟩,
  ⟨some 29, none, .bin .add (.t 19) (.t 28)⟩,
  ⟨some 5, none, .mov (.t 29)⟩]
def zc22_1 : AC := .reg zr22_4
def zr22_5 : List AO := [⟨some 16, none, .mov (.t 6)⟩,
  ⟨some 17, none, .bin .add (.t 16) (.c (.int .i64 1))⟩,
  ⟨some 6, none, .mov (.t 17)⟩]
def zc22_2 : AC := .reg zr22_5
def zc22_3 : AC := .seq (.block 1 zc22_1) zc22_2
def zc22_4 : AC := .seq (.seq (.reg zr22_3) zc22_0) zc22_3
def zc22_5 : AC := .loop zc22_4
def zc22_6 : AC := .block 0 zc22_5
def zr22_6 : List AO := [⟨some 30, none, .mov (.t 5)⟩,
  ⟨some 4, none, .mov (.t 30)⟩]
def zc22_7 : AC := .seq (.reg zr22_6) .ret
def zc22_8 : AC := .seq (.seq (.reg zr22_2) zc22_6) zc22_7
def zc22_9 : AC := .seq (.reg zr22_1) zc22_8
def zc22_10 : AC := .seq (.reg zr22_0) zc22_9
def zc22 : AC := zc22_10
theorem ok22 : Try.f22.body.bind (compCode Try.prog 31) = some zc22 := by kernel_rfl
theorem nt22 : Try.f22.ntmps = 31 := by kernel_rfl
theorem res22 : compRes Try.prog Try.f22.results.toList = some [.tmp 4] := by kernel_rfl
def s22_b1 (N : Nat) (p1 : List Item) (p2 : Int) (rec22 : (List Item) → Int → Option Int) (x1 : Int) (x2 : Int) : Option (((Int × Int) ⊕ (Int))) :=
  if x2 < (List.length p1 : Int) then
    if x1 ≤ p2 then
      grd (0 ≤ x2) <|
      (rec22 ((p1[x2.toNat]!).Items) (IntKind.wrap .i64 (p2 - x1))).bind fun x8 =>
      some (.inl (IntKind.wrap .i64 ((IntKind.wrap .i64 (x1 + 1)) + x8), IntKind.wrap .i64 (x2 + 1)))
    else
      some (.inr x1)
  else
    some (.inr x1)
def s22_body (rec22 : (List Item) → Int → Option Int) (N : Nat) (p1 : List Item) (p2 : Int) : Option Int :=
  (iter (fun p => s22_b1 N p1 p2 rec22 p.1 p.2) N (0, 0)).bind fun a3 =>
  some a3
def s22 : Nat → (List Item) → Int → Option Int
  | 0, _, _ => none
  | N + 1, p1, p2 => s22_body (s22 N) N p1 p2
set_option maxHeartbeats 4000000 in
theorem c22_body (rec22 : (List Item) → Int → Option Int) (hrec22 : ∀ (p1 : List Item) (p2 : Int) (r : Int), rec22 p1 p2 = some r → PureC Try.prog 22 [.sl (List.map Item.av p1), .int .i64 p2] (.int .i64 r)) (N : Nat) (p1 : List Item) (p2 : Int) (r : Int) (h : s22_body rec22 N p1 p2 = some r) : PureC Try.prog 22 [.sl (List.map Item.av p1), .int .i64 p2] (.int .i64 r) := by
  refine fn_intro' 31 Try.func22 nt22 ok22 res22 (by simp) fun X hP hn hd hr => ?_
  unfold s22_body at h
  repeat refine awp_seq ?_
  refine awp_reg fun K Q hK hQ => ?_
  simp -implicitDefEqProofs (disch := first | omega | rfl) only [go_sem, simprocAttr, zr22_0, argS]
  refine hK _ _ ?_; clear hK hQ K Q
  repeat refine awp_seq ?_
  refine awp_reg fun K Q hK hQ => ?_
  simp -implicitDefEqProofs (disch := first | omega | rfl) only [go_sem, simprocAttr, zr22_1]
  refine hK _ _ ?_; clear hK hQ K Q
  repeat refine awp_seq ?_
  refine awp_reg fun K Q hK hQ => ?_
  simp -implicitDefEqProofs (disch := first | omega | rfl) only [go_sem, simprocAttr, zr22_2]
  refine hK _ _ ?_; clear hK hQ K Q
  repeat refine awp_seq ?_
  refine awp_block ?_
  obtain ⟨o3, ho3, hO3⟩ := bnd_some h
  repeat refine awp_seq ?_
  refine awp_loop (ι := {p : Nat × Int × Int // iter (fun p => s22_b1 N p1 p2 rec22 p.1 p.2) p.1 (p.2.1, p.2.2) = some o3}) (fun p => [(0, .sl (List.map Item.av p1)), (1, .int .i64 p2), (5, .int .i64 p.1.2.1), (6, .int .i64 p.1.2.2)]) (fun p => []) (fun p => p.1.1) ⟨⟨N, 0, 0⟩, ho3⟩ ?_ ?_
  · refine ent_le' ([]) ([]) ([]) rfl (List.Perm.refl _) ?_ ?_
    · simp -implicitDefEqProofs (disch := first | omega | rfl) only [go_sem, simprocAttr, subF_cons, subF_nil]
      exact ⟨(.keep _), (.keep _), (.keep _), (.keep _)⟩
    · exact .nil
  rintro ⟨⟨n3, x1, x2⟩, hi3⟩
  obtain ⟨m3, q3, rfl, h, hm3⟩ := iter_some hi3
  try dsimp only at h
  try dsimp only
  unfold s22_b1 at h
  repeat refine awp_seq ?_
  refine awp_reg fun K Q hK hQ => ?_
  have hh := ite_some h; clear h; rcases hh with ⟨hc5, h⟩ | ⟨hc5, h⟩
  · simp -implicitDefEqProofs (disch := first | omega | rfl) only [go_sem, simprocAttr, zr22_3, eq_true hc5]
    refine hK _ _ ?_; clear hK hQ K Q
    have hh := ite_some h; clear h; rcases hh with ⟨hc6, h⟩ | ⟨hc6, h⟩
    · repeat refine awp_seq ?_
      refine awp_then (by simp -implicitDefEqProofs (disch := first | omega | rfl) only [go_sem, simprocAttr, eq_true hc6]) ?_
      repeat refine awp_seq ?_
      refine awp_skip ?_
      repeat refine awp_seq ?_
      refine awp_block ?_
      repeat refine awp_seq ?_
      refine awp_reg fun K Q hK hQ => ?_
      have hh := grd_some h; clear h; obtain ⟨hg7, h⟩ := hh
      simp -implicitDefEqProofs (disch := first | omega | rfl) only [go_sem, simprocAttr, zr22_4, eq_true hc5, eq_true hg7]
      have hh := bnd_some h; clear h; obtain ⟨x8, hx9, h⟩ := hh
      refine call_pure hP (hrec22 ((p1[x2.toNat]!).Items) (IntKind.wrap .i64 (p2 - x1)) x8 hx9) ?_
      simp -implicitDefEqProofs (disch := first | omega | rfl) only [go_sem, simprocAttr]
      refine hK _ _ ?_; clear hK hQ K Q
      repeat refine awp_seq ?_
      refine awp_reg fun K Q hK hQ => ?_
      simp -implicitDefEqProofs (disch := first | omega | rfl) only [go_sem, simprocAttr, zr22_5]
      refine hK _ _ ?_; clear hK hQ K Q
      obtain rfl := som_inj h
      try dsimp only at hm3
      refine ⟨⟨⟨m3, IntKind.wrap .i64 ((IntKind.wrap .i64 (x1 + 1)) + x8), IntKind.wrap .i64 (x2 + 1)⟩, hm3⟩, Nat.lt_succ_self _, ?_⟩
      refine ent_le' ([]) ([]) ([]) rfl (List.Perm.refl _) ?_ ?_
      · simp -implicitDefEqProofs (disch := first | omega | rfl) only [go_sem, simprocAttr, subF_cons, subF_nil]
        exact ⟨(.keep _), (.keep _), (.keep _), (.keep _)⟩
      · exact .nil
    repeat refine awp_seq ?_
    refine awp_else (by simp -implicitDefEqProofs (disch := first | omega | rfl) only [go_sem, simprocAttr, eq_false hc6]) ?_
    repeat refine awp_seq ?_
    refine awp_exit ?_
    repeat' (first | refine then_exit ?_ | refine exit_here ?_ | refine exit_on rfl ?_)
    obtain rfl := som_inj h
    try dsimp only at hm3
    subst hm3
    try dsimp only at hO3
    repeat refine awp_seq ?_
    refine awp_reg fun K Q hK hQ => ?_
    simp -implicitDefEqProofs (disch := first | omega | rfl) only [go_sem, simprocAttr, zr22_6]
    refine hK _ _ ?_; clear hK hQ K Q
    obtain rfl := som_inj hO3
    repeat refine awp_seq ?_
    refine awp_ret ?_
    repeat' (first | refine then_ret ?_ | refine blk_ret ?_)
    refine ret_q ?_
    simp -implicitDefEqProofs (disch := first | omega | rfl) only [go_sem, simprocAttr]
    first | exact leaves_none (by first | rfl | simp) | exact leaves_nil
  simp -implicitDefEqProofs (disch := first | omega | rfl) only [go_sem, simprocAttr, zr22_3, eq_false hc5]
  refine hK _ _ ?_; clear hK hQ K Q
  repeat refine awp_seq ?_
  refine awp_else (by rfl) ?_
  repeat refine awp_seq ?_
  refine awp_exit ?_
  repeat' (first | refine then_exit ?_ | refine exit_here ?_ | refine exit_on rfl ?_)
  obtain rfl := som_inj h
  try dsimp only at hm3
  subst hm3
  try dsimp only at hO3
  repeat refine awp_seq ?_
  refine awp_reg fun K Q hK hQ => ?_
  simp -implicitDefEqProofs (disch := first | omega | rfl) only [go_sem, simprocAttr, zr22_6]
  refine hK _ _ ?_; clear hK hQ K Q
  obtain rfl := som_inj hO3
  repeat refine awp_seq ?_
  refine awp_ret ?_
  repeat' (first | refine then_ret ?_ | refine blk_ret ?_)
  refine ret_q ?_
  simp -implicitDefEqProofs (disch := first | omega | rfl) only [go_sem, simprocAttr]
  first | exact leaves_none (by first | rfl | simp) | exact leaves_nil
theorem cs_22 : ∀ N : Nat, (∀ (p1 : List Item) (p2 : Int) (r : Int), s22 N p1 p2 = some r → PureC Try.prog 22 [.sl (List.map Item.av p1), .int .i64 p2] (.int .i64 r)) := by
  intro N
  induction N with
  | zero => exact fun _ _ r h => by cases h
  | succ N ih => exact fun p1 p2 r h => c22_body (s22 N) ih N p1 p2 r h
theorem c22 (N : Nat) (p1 : List Item) (p2 : Int) (r : Int) (h : s22 N p1 p2 = some r) : PureC Try.prog 22 [.sl (List.map Item.av p1), .int .i64 p2] (.int .i64 r) := (cs_22 N) p1 p2 r h
def zr23_0 : List AO := [⟨some 2, none, .mov (.c (.bool false))⟩]
def zr23_1 : List AO := [⟨some 3, none, .mov (.c (.int .i64 0))⟩]
def zr23_2 : List AO := [⟨some 5, none, .mov (.t 3)⟩,
  ⟨some 6, none, .mov (.t 0)⟩,
  ⟨some 7, none, .len (.t 6)⟩,
  ⟨some 8, none, .bin .lss (.t 5) (.t 7)⟩]
def zc23_0 : AC := .cond (.t 8) .skip (.exit 0)
def zr23_3 : List AO := [⟨some 11, none, .mov (.t 0)⟩,
  ⟨some 12, none, .mov (.t 3)⟩,
  ⟨some 13, none, .iadr 33 (.t 11) (.t 12)⟩,
  ⟨some 14, none, .load true 33 (.t 13)⟩,
  ⟨some 4, none, .alloc [.int .i64 0, .str [], .int .i64 0, .str [], .str [], .int .i64 0, .int .i64 0, .int .i64 0, .bool false, .str [], .int .i64 0, .bool false, .str [], .nil, .str [], .str [], .int .i64 0, .int .i64 0, .str [], .str [], .bool false, .str [], .str [], .bool false, .bool false, .bool false, .bool false, .bool false, .bool false, .bool false, .nil, .nil, .nil]⟩,
  ⟨none, none, .store 33 (.t 4) (.t 14)⟩]
def zr23_4 : List AO := [⟨some 15, none, .fadr 31 (.t 4)⟩,
  ⟨some 16, none, .load false 1 (.t 15)⟩,
  ⟨some 17, none, .len (.t 16)⟩,
  ⟨some 18, none, .bin .gtr (.t 17) (.c (.int .i64 30))⟩,
  ⟨some 19, none, .mov (.t 18)⟩,
  ⟨some 20, some (19, false), .fadr 13 (.t 4)⟩,
  ⟨some 21, some (19, false), .load false 1 (.t 20)⟩,
  ⟨some 22, some (19, false), .len (.t 21)⟩,
  ⟨some 23, some (19, false), .bin .gtr (.t 22) (.c (.int .i64 30))⟩,
  ⟨some 24, none, .pick (.t 19) (.c (.bool true)) (.t 23)⟩,
  ⟨some 25, none, .mov (.t 24)⟩,
  ⟨some 26, some (25, false), .fadr 30 (.t 4)⟩,
  ⟨some 27, some (25, false), .load false 1 (.t 26)⟩,
  ⟨some 28, some (25, false), .len (.t 27)⟩,
  ⟨some 29, some (25, false), .bin .gtr (.t 28) (.c (.int .i64 30))⟩,
  ⟨some 30, none, .pick (.t 25) (.c (.bool true)) (.t 29)⟩,
  ⟨some 31, none, .mov (.t 30)⟩,
  ⟨some 32, some (31, false), .fadr 1 (.t 4)⟩,
  ⟨some 33, some (31, false), .load false 1 (.t 32)⟩,
  ⟨some 34, some (31, false), .lenS (.t 33)⟩,
  ⟨some 35, some (31, false), .bin .gtr (.t 34) (.c (.int .i64 100))⟩,
  ⟨some 36, none, .pick (.t 31) (.c (.bool true)) (.t 35)⟩,
  ⟨some 37, none, .mov (.t 36)⟩,
  ⟨some 38, some (37, false), .fadr 32 (.t 4)⟩,
  ⟨some 39, some (37, false), .load false 1 (.t 38)⟩,
  ⟨some 40, some (37, false), .callF 23 [(.t 39)]⟩,
  ⟨some 41, some (37, false), .un .not (.t 40)⟩,
  ⟨some 42, none, .pick (.t 37) (.c (.bool true)) (.t 41)⟩]
def zr23_5 : List AO := [⟨some 2, none, .mov (.c (.bool false))⟩]
def zc23_1 : AC := .seq (.reg zr23_5) .ret
def zc23_2 : AC := .cond (.t 42) zc23_1 .skip
def zc23_3 : AC := .seq (.reg zr23_4) zc23_2
def zc23_4 : AC := .seq (.reg zr23_3) zc23_3
def zr23_6 : List AO := [⟨some 9, none, .mov (.t 3)⟩,
  ⟨some 10, none, .bin .add (.t 9) (.c (.int .i64 1))⟩,
  ⟨some 3, none, .mov (.t 10)⟩]
def zc23_5 : AC := .reg zr23_6
def zc23_6 : AC := .seq (.block 1 zc23_4) zc23_5
def zc23_7 : AC := .seq (.seq (.reg zr23_2) zc23_0) zc23_6
def zc23_8 : AC := .loop zc23_7
def zc23_9 : AC := .block 0 zc23_8
def zr23_7 : List AO := [⟨some 2, none, .mov (.c (.bool true))⟩]
def zc23_10 : AC := .seq (.reg zr23_7) .ret
def zc23_11 : AC := .seq (.seq (.reg zr23_1) zc23_9) zc23_10
def zc23_12 : AC := .seq (.reg zr23_0) zc23_11
def zc23 : AC := zc23_12
theorem ok23 : Try.f23.body.bind (compCode Try.prog 43) = some zc23 := by kernel_rfl
theorem nt23 : Try.f23.ntmps = 43 := by kernel_rfl
theorem res23 : compRes Try.prog Try.f23.results.toList = some [.tmp 2] := by kernel_rfl
def s23_b1 (N : Nat) (p1 : List Item) (rec23 : (List Item) → Option Bool) (x1 : Int) : Option (((Int) ⊕ (Ou (Unit) (Bool)))) :=
  if x1 < (List.length p1 : Int) then
    grd (0 ≤ x1) <|
    if 30 < (List.length ((p1[x1.toNat]!).Names) : Int) then
      some (.inr (.ret false))
    else
      if 30 < (List.length ((p1[x1.toNat]!).Conds) : Int) then
        some (.inr (.ret false))
      else
        if 30 < (List.length ((p1[x1.toNat]!).Dates) : Int) then
          some (.inr (.ret false))
        else
          if 100 < (List.length ((p1[x1.toNat]!).Name) : Int) then
            some (.inr (.ret false))
          else
            (rec23 ((p1[x1.toNat]!).Items)).bind fun x10 =>
            bif x10 then
              some (.inl (IntKind.wrap .i64 (x1 + 1)))
            else
              some (.inr (.ret false))
  else
    some (.inr (.brk ()))
def s23_body (rec23 : (List Item) → Option Bool) (N : Nat) (p1 : List Item) : Option Bool :=
  (iter (fun p => s23_b1 N p1 rec23 p) N 0).bind fun o2 => o2.on (fun a2 =>
    some true)
    (fun a2r => some a2r)
def s23 : Nat → (List Item) → Option Bool
  | 0, _ => none
  | N + 1, p1 => s23_body (s23 N) N p1
set_option maxHeartbeats 4000000 in
theorem c23_body (rec23 : (List Item) → Option Bool) (hrec23 : ∀ (p1 : List Item) (r : Bool), rec23 p1 = some r → PureC Try.prog 23 [.sl (List.map Item.av p1)] (.bool r)) (N : Nat) (p1 : List Item) (r : Bool) (h : s23_body rec23 N p1 = some r) : PureC Try.prog 23 [.sl (List.map Item.av p1)] (.bool r) := by
  refine fn_intro' 43 Try.func23 nt23 ok23 res23 (by simp) fun X hP hn hd hr => ?_
  unfold s23_body at h
  repeat refine awp_seq ?_
  refine awp_reg fun K Q hK hQ => ?_
  simp -implicitDefEqProofs (disch := first | omega | rfl) only [go_sem, simprocAttr, zr23_0, argS]
  refine hK _ _ ?_; clear hK hQ K Q
  repeat refine awp_seq ?_
  refine awp_reg fun K Q hK hQ => ?_
  simp -implicitDefEqProofs (disch := first | omega | rfl) only [go_sem, simprocAttr, zr23_1]
  refine hK _ _ ?_; clear hK hQ K Q
  repeat refine awp_seq ?_
  refine awp_block ?_
  obtain ⟨o2, ho2, hO2⟩ := bnd_some h
  repeat refine awp_seq ?_
  refine awp_loop (ι := {p : Nat × Int // iter (fun p => s23_b1 N p1 rec23 p) p.1 p.2 = some o2}) (fun p => [(0, .sl (List.map Item.av p1)), (3, .int .i64 p.1.2)]) (fun p => []) (fun p => p.1.1) ⟨⟨N, 0⟩, ho2⟩ ?_ ?_
  · refine ent_le' ([]) ([]) ([]) rfl (List.Perm.refl _) ?_ ?_
    · simp -implicitDefEqProofs (disch := first | omega | rfl) only [go_sem, simprocAttr, subF_cons, subF_nil]
      exact ⟨(.keep _), (.keep _)⟩
    · exact .nil
  rintro ⟨⟨n2, x1⟩, hi2⟩
  obtain ⟨m2, q2, rfl, h, hm2⟩ := iter_some hi2
  try dsimp only at h
  try dsimp only
  unfold s23_b1 at h
  repeat refine awp_seq ?_
  refine awp_reg fun K Q hK hQ => ?_
  simp -implicitDefEqProofs (disch := first | omega | rfl) only [go_sem, simprocAttr, zr23_2]
  refine hK _ _ ?_; clear hK hQ K Q
  have hh := ite_some h; clear h; rcases hh with ⟨hc3, h⟩ | ⟨hc3, h⟩
  · repeat refine awp_seq ?_
    refine awp_then (by simp -implicitDefEqProofs (disch := first | omega | rfl) only [go_sem, simprocAttr, eq_true hc3]) ?_
    repeat refine awp_seq ?_
    refine awp_skip ?_
    repeat refine awp_seq ?_
    refine awp_block ?_
    repeat refine awp_seq ?_
    refine awp_reg fun K Q hK hQ => ?_
    have hh := grd_some h; clear h; obtain ⟨hg4, h⟩ := hh
    simp -implicitDefEqProofs (disch := first | omega | rfl) only [go_sem, simprocAttr, zr23_3, eq_true hc3, eq_true hg4]
    intro b5
    refine hK _ _ ?_; clear hK hQ K Q
    repeat refine awp_seq ?_
    refine awp_reg fun K Q hK hQ => ?_
    have hh := ite_some h; clear h; rcases hh with ⟨hc6, h⟩ | ⟨hc6, h⟩
    · simp -implicitDefEqProofs (disch := first | omega | rfl) only [go_sem, simprocAttr, zr23_4, eq_true hc6]
      refine hK _ _ ?_; clear hK hQ K Q
      repeat refine awp_seq ?_
      refine awp_then (by rfl) ?_
      repeat refine awp_seq ?_
      refine awp_reg fun K Q hK hQ => ?_
      simp -implicitDefEqProofs (disch := first | omega | rfl) only [go_sem, simprocAttr, zr23_5]
      refine hK _ _ ?_; clear hK hQ K Q
      obtain rfl := som_inj h
      try dsimp only at hm2
      subst hm2
      simp only [Ou.on_ret] at hO2
      obtain rfl := som_inj hO2
      repeat refine awp_seq ?_
      refine awp_ret ?_
      repeat' (first | refine then_ret ?_ | refine blk_ret ?_)
      refine ret_q ?_
      simp -implicitDefEqProofs (disch := first | omega | rfl) only [go_sem, simprocAttr]
      first | exact leaves_none (by first | rfl | simp) | exact leaves_nil
    have hh := ite_some h; clear h; rcases hh with ⟨hc7, h⟩ | ⟨hc7, h⟩
    · simp -implicitDefEqProofs (disch := first | omega | rfl) only [go_sem, simprocAttr, zr23_4, eq_false hc6, eq_true hc7]
      refine hK _ _ ?_; clear hK hQ K Q
      repeat refine awp_seq ?_
      refine awp_then (by rfl) ?_
      repeat refine awp_seq ?_
      refine awp_reg fun K Q hK hQ => ?_
      simp -implicitDefEqProofs (disch := first | omega | rfl) only [go_sem, simprocAttr, zr23_5]
      refine hK _ _ ?_; clear hK hQ K Q
      obtain rfl := som_inj h
      try dsimp only at hm2
      subst hm2
      simp only [Ou.on_ret] at hO2
      obtain rfl := som_inj hO2
      repeat refine awp_seq ?_
      refine awp_ret ?_
      repeat' (first | refine then_ret ?_ | refine blk_ret ?_)
      refine ret_q ?_
      simp -implicitDefEqProofs (disch := first | omega | rfl) only [go_sem, simprocAttr]
      first | exact leaves_none (by first | rfl | simp) | exact leaves_nil
    have hh := ite_some h; clear h; rcases hh with ⟨hc8, h⟩ | ⟨hc8, h⟩
    · simp -implicitDefEqProofs (disch := first | omega | rfl) only [go_sem, simprocAttr, zr23_4, eq_false hc6, eq_false hc7, eq_true hc8]
      refine hK _ _ ?_; clear hK hQ K Q
      repeat refine awp_seq ?_
      refine awp_then (by rfl) ?_
      repeat refine awp_seq ?_
      refine awp_reg fun K Q hK hQ => ?_
      simp -implicitDefEqProofs (disch := first | omega | rfl) only [go_sem, simprocAttr, zr23_5]
      refine hK _ _ ?_; clear hK hQ K Q
      obtain rfl := som_inj h
      try dsimp only at hm2
      subst hm2
      simp only [Ou.on_ret] at hO2
      obtain rfl := som_inj hO2
      repeat refine awp_seq ?_
      refine awp_ret ?_
      repeat' (first | refine then_ret ?_ | refine blk_ret ?_)
      refine ret_q ?_
      simp -implicitDefEqProofs (disch := first | omega | rfl) only [go_sem, simprocAttr]
      first | exact leaves_none (by first | rfl | simp) | exact leaves_nil
    have hh := ite_some h; clear h; rcases hh with ⟨hc9, h⟩ | ⟨hc9, h⟩
    · simp -implicitDefEqProofs (disch := first | omega | rfl) only [go_sem, simprocAttr, zr23_4, eq_false hc6, eq_false hc7, eq_false hc8, eq_true hc9]
      refine hK _ _ ?_; clear hK hQ K Q
      repeat refine awp_seq ?_
      refine awp_then (by rfl) ?_
      repeat refine awp_seq ?_
      refine awp_reg fun K Q hK hQ => ?_
      simp -implicitDefEqProofs (disch := first | omega | rfl) only [go_sem, simprocAttr, zr23_5]
      refine hK _ _ ?_; clear hK hQ K Q
      obtain rfl := som_inj h
      try dsimp only at hm2
      subst hm2
      simp only [Ou.on_ret] at hO2
      obtain rfl := som_inj hO2
      repeat refine awp_seq ?_
      refine awp_ret ?_
      repeat' (first | refine then_ret ?_ | refine blk_ret ?_)
      refine ret_q ?_
      simp -implicitDefEqProofs (disch := first | omega | rfl) only [go_sem, simprocAttr]
      first | exact leaves_none (by first | rfl | simp) | exact leaves_nil
    simp -implicitDefEqProofs (disch := first | omega | rfl) only [go_sem, simprocAttr, zr23_4, eq_false hc6, eq_false hc7, eq_false hc8, eq_false hc9]
    have hh := bnd_some h; clear h; obtain ⟨x10, hx11, h⟩ := hh
    refine call_pure hP (hrec23 ((p1[x1.toNat]!).Items) x10 hx11) ?_
    simp -implicitDefEqProofs (disch := first | omega | rfl) only [go_sem, simprocAttr]
    refine hK _ _ ?_; clear hK hQ K Q
    have hh := cnd_some h; clear h; rcases hh with ⟨hc12, h⟩ | ⟨hc12, h⟩
    · repeat refine awp_seq ?_
      refine awp_else (by simp -implicitDefEqProofs (disch := first | omega | rfl) only [go_sem, simprocAttr, hc12]) ?_
      repeat refine awp_seq ?_
      refine awp_skip ?_
      repeat refine awp_seq ?_
      refine awp_reg fun K Q hK hQ => ?_
      simp -implicitDefEqProofs (disch := first | omega | rfl) only [go_sem, simprocAttr, zr23_6]
      refine hK _ _ ?_; clear hK hQ K Q
      obtain rfl := som_inj h
      try dsimp only at hm2
      refine ⟨⟨⟨m2, IntKind.wrap .i64 (x1 + 1)⟩, hm2⟩, Nat.lt_succ_self _, ?_⟩
      refine ent_le' ([]) (_ :: []) (_ :: []) rfl (List.Perm.refl _) ?_ ?_
      · simp -implicitDefEqProofs (disch := first | omega | rfl) only [go_sem, simprocAttr, subF_cons, subF_nil]
        exact ⟨(.keep _), (.keep _)⟩
      · exact (.drop .nil)
    repeat refine awp_seq ?_
    refine awp_then (by simp -implicitDefEqProofs (disch := first | omega | rfl) only [go_sem, simprocAttr, hc12]) ?_
    repeat refine awp_seq ?_
    refine awp_reg fun K Q hK hQ => ?_
    simp -implicitDefEqProofs (disch := first | omega | rfl) only [go_sem, simprocAttr, zr23_5]
    refine hK _ _ ?_; clear hK hQ K Q
    obtain rfl := som_inj h
    try dsimp only at hm2
    subst hm2
    simp only [Ou.on_ret] at hO2
    obtain rfl := som_inj hO2
    repeat refine awp_seq ?_
    refine awp_ret ?_
    repeat' (first | refine then_ret ?_ | refine blk_ret ?_)
    refine ret_q ?_
    simp -implicitDefEqProofs (disch := first | omega | rfl) only [go_sem, simprocAttr]
    first | exact leaves_none (by first | rfl | simp) | exact leaves_nil
  repeat refine awp_seq ?_
  refine awp_else (by simp -implicitDefEqProofs (disch := first | omega | rfl) only [go_sem, simprocAttr, eq_false hc3]) ?_
  repeat refine awp_seq ?_
  refine awp_exit ?_
  repeat' (first | refine then_exit ?_ | refine exit_here ?_ | refine exit_on rfl ?_)
  obtain rfl := som_inj h
  try dsimp only at hm2
  subst hm2
  simp only [Ou.on_brk] at hO2
  repeat refine awp_seq ?_
  refine awp_reg fun K Q hK hQ => ?_
  simp -implicitDefEqProofs (disch := first | omega | rfl) only [go_sem, simprocAttr, zr23_7]
  refine hK _ _ ?_; clear hK hQ K Q
  obtain rfl := som_inj hO2
  repeat refine awp_seq ?_
  refine awp_ret ?_
  repeat' (first | refine then_ret ?_ | refine blk_ret ?_)
  refine ret_q ?_
  simp -implicitDefEqProofs (disch := first | omega | rfl) only [go_sem, simprocAttr]
  first | exact leaves_none (by first | rfl | simp) | exact leaves_nil
theorem cs_23 : ∀ N : Nat, (∀ (p1 : List Item) (r : Bool), s23 N p1 = some r → PureC Try.prog 23 [.sl (List.map Item.av p1)] (.bool r)) := by
  intro N
  induction N with
  | zero => exact fun _ r h => by cases h
  | succ N ih => exact fun p1 r h => c23_body (s23 N) ih N p1 r h
theorem c23 (N : Nat) (p1 : List Item) (r : Bool) (h : s23 N p1 = some r) : PureC Try.prog 23 [.sl (List.map Item.av p1)] (.bool r) := (cs_23 N) p1 r h
def zr10_0 : List AO := [⟨some 2, none, .box (.t 0)⟩,
  ⟨some 4, none, .mov (.c (.bool false))⟩]
def zr10_1 : List AO := [⟨some 5, none, .fadr 5 (.t 2)⟩,
  ⟨some 6, none, .load false 1 (.t 5)⟩,
  ⟨some 7, none, .mov (.t 1)⟩,
  ⟨some 8, none, .callF 22 [(.t 6), (.t 7)]⟩,
  ⟨some 9, none, .mov (.t 1)⟩,
  ⟨some 10, none, .bin .leq (.t 8) (.t 9)⟩,
  ⟨some 11, none, .mov (.t 10)⟩,
  ⟨some 12, some (11, true), .fadr 5 (.t 2)⟩,
  ⟨some 13, some (11, true), .load false 1 (.t 12)⟩,
  ⟨some 14, some (11, true), .callF 23 [(.t 13)]⟩,
  ⟨some 15, none, .pick (.t 11) (.t 14) (.c (.bool false))⟩,
  ⟨some 4, none, .mov (.t 15)⟩]
def zc10_0 : AC := .seq (.reg zr10_1) .ret
def zc10_1 : AC := .seq (.reg zr10_0) zc10_0
def zc10 : AC := zc10_1
theorem ok10 : Try.f10.body.bind (compCode Try.prog 16) = some zc10 := by kernel_rfl
theorem nt10 : Try.f10.ntmps = 16 := by kernel_rfl
theorem res10 : compRes Try.prog Try.f10.results.toList = some [.tmp 4] := by kernel_rfl
def s10 (N : Nat) (p1 : Source) (p2 : Int) : Option Bool :=
  (s22 N p1.Items p2).bind fun x2 =>
  if x2 ≤ p2 then
    (s23 N p1.Items).bind fun x5 =>
    some x5
  else
    some false
set_option maxHeartbeats 4000000 in
theorem c10 (N : Nat) (p1 : Source) (p2 : Int) (r : Bool) (h : s10 N p1 p2 = some r) : PureC Try.prog 10 [.agg (Source.cs p1), .int .i64 p2] (.bool r) := by
  refine fn_intro' 16 Try.func10 nt10 ok10 res10 (by simp) fun X hP hn hd hr => ?_
  unfold s10 at h
  repeat refine awp_seq ?_
  refine awp_reg fun K Q hK hQ => ?_
  simp -implicitDefEqProofs (disch := first | omega | rfl) only [go_sem, simprocAttr, zr10_0, argS]
  intro b1
  refine hK _ _ ?_; clear hK hQ K Q
  repeat refine awp_seq ?_
  refine awp_reg fun K Q hK hQ => ?_
  simp -implicitDefEqProofs (disch := first | omega | rfl) only [go_sem, simprocAttr, zr10_1]
  have hh := bnd_some h; clear h; obtain ⟨x2, hx3, h⟩ := hh
  refine call_pure hP (c22 N p1.Items p2 x2 hx3) ?_
  have hh := ite_some h; clear h; rcases hh with ⟨hc4, h⟩ | ⟨hc4, h⟩
  · simp -implicitDefEqProofs (disch := first | omega | rfl) only [go_sem, simprocAttr, eq_true hc4]
    have hh := bnd_some h; clear h; obtain ⟨x5, hx6, h⟩ := hh
    refine call_pure hP (c23 N p1.Items x5 hx6) ?_
    simp -implicitDefEqProofs (disch := first | omega | rfl) only [go_sem, simprocAttr]
    refine hK _ _ ?_; clear hK hQ K Q
    obtain rfl := som_inj h
    repeat refine awp_seq ?_
    refine awp_ret ?_
    repeat' (first | refine then_ret ?_ | refine blk_ret ?_)
    refine ret_q ?_
    simp -implicitDefEqProofs (disch := first | omega | rfl) only [go_sem, simprocAttr]
    first | exact leaves_none (by first | rfl | simp) | exact leaves_nil
  simp -implicitDefEqProofs (disch := first | omega | rfl) only [go_sem, simprocAttr, eq_false hc4]
  refine hK _ _ ?_; clear hK hQ K Q
  obtain rfl := som_inj h
  repeat refine awp_seq ?_
  refine awp_ret ?_
  repeat' (first | refine then_ret ?_ | refine blk_ret ?_)
  refine ret_q ?_
  simp -implicitDefEqProofs (disch := first | omega | rfl) only [go_sem, simprocAttr]
  first | exact leaves_none (by first | rfl | simp) | exact leaves_nil
def zr12_0 : List AO := [⟨some 2, none, .mov (.c (.bool false))⟩]
def zr12_1 : List AO := [⟨some 3, none, .mov (.t 0)⟩,
  ⟨some 4, none, .bin .eql (.t 3) (.c (.int .i64 13))⟩,
  ⟨some 5, none, .mov (.t 4)⟩,
  ⟨some 6, some (5, false), .mov (.t 0)⟩,
  ⟨some 7, some (5, false), .bin .eql (.t 6) (.c (.int .i64 6))⟩,
  ⟨some 8, none, .pick (.t 5) (.c (.bool true)) (.t 7)⟩,
  ⟨some 9, none, .mov (.t 8)⟩,
  ⟨some 10, some (9, false), .mov (.t 0)⟩,
  ⟨some 11, some (9, false), .bin .eql (.t 10) (.c (.int .i64 7))⟩,
  ⟨some 12, none, .pick (.t 9) (.c (.bool true)) (.t 11)⟩,
  ⟨some 2, none, .mov (.t 12)⟩]
def zc12_0 : AC := .seq (.reg zr12_1) .ret
def zc12_1 : AC := .seq (.reg zr12_0) zc12_0
def zc12 : AC := zc12_1
theorem ok12 : Try.f12.body.bind (compCode Try.prog 13) = some zc12 := by kernel_rfl
theorem nt12 : Try.f12.ntmps = 13 := by kernel_rfl
theorem res12 : compRes Try.prog Try.f12.results.toList = some [.tmp 2] := by kernel_rfl
def s12 (N : Nat) (p1 : Int) : Option Bool :=
  if p1 = 13 then
    some true
  else
    if p1 = 6 then
      some true
    else
      some (decide (p1 = 7))
set_option maxHeartbeats 4000000 in
theorem c12 (N : Nat) (p1 : Int) (r : Bool) (h : s12 N p1 = some r) : PureC Try.prog 12 [.int .i64 p1] (.bool r) := by
  refine fn_intro' 13 Try.func12 nt12 ok12 res12 (by simp) fun X hP hn hd hr => ?_
  unfold s12 at h
  repeat refine awp_seq ?_
  refine awp_reg fun K Q hK hQ => ?_
  simp -implicitDefEqProofs (disch := first | omega | rfl) only [go_sem, simprocAttr, zr12_0, argS]
  refine hK _ _ ?_; clear hK hQ K Q
  repeat refine awp_seq ?_
  refine awp_reg fun K Q hK hQ => ?_
  have hh := ite_some h; clear h; rcases hh with ⟨hc1, h⟩ | ⟨hc1, h⟩
  · simp -implicitDefEqProofs (disch := first | omega | rfl) only [go_sem, simprocAttr, zr12_1, eq_true hc1]
    refine hK _ _ ?_; clear hK hQ K Q
    obtain rfl := som_inj h
    repeat refine awp_seq ?_
    refine awp_ret ?_
    repeat' (first | refine then_ret ?_ | refine blk_ret ?_)
    refine ret_q ?_
    simp -implicitDefEqProofs (disch := first | omega | rfl) only [go_sem, simprocAttr]
    first | exact leaves_none (by first | rfl | simp) | exact leaves_nil
  have hh := ite_some h; clear h; rcases hh with ⟨hc2, h⟩ | ⟨hc2, h⟩
  · simp -implicitDefEqProofs (disch := first | omega | rfl) only [go_sem, simprocAttr, zr12_1, eq_false hc1, eq_true hc2]
    refine hK _ _ ?_; clear hK hQ K Q
    obtain rfl := som_inj h
    repeat refine awp_seq ?_
    refine awp_ret ?_
    repeat' (first | refine then_ret ?_ | refine blk_ret ?_)
    refine ret_q ?_
    simp -implicitDefEqProofs (disch := first | omega | rfl) only [go_sem, simprocAttr]
    first | exact leaves_none (by first | rfl | simp) | exact leaves_nil
  simp -implicitDefEqProofs (disch := first | omega | rfl) only [go_sem, simprocAttr, zr12_1, eq_false hc1, eq_false hc2]
  refine hK _ _ ?_; clear hK hQ K Q
  obtain rfl := som_inj h
  repeat refine awp_seq ?_
  refine awp_ret ?_
  repeat' (first | refine then_ret ?_ | refine blk_ret ?_)
  refine ret_q ?_
  simp -implicitDefEqProofs (disch := first | omega | rfl) only [go_sem, simprocAttr]
  first | exact leaves_none (by first | rfl | simp) | exact leaves_nil
def zr13_0 : List AO := [⟨some 2, none, .mov (.c (.bool false))⟩]
def zr13_1 : List AO := [⟨some 3, none, .mov (.t 0)⟩,
  ⟨some 4, none, .bin .eql (.t 3) (.c (.int .i64 9))⟩,
  ⟨some 5, none, .mov (.t 4)⟩,
  ⟨some 6, some (5, false), .mov (.t 0)⟩,
  ⟨some 7, some (5, false), .bin .eql (.t 6) (.c (.int .i64 10))⟩,
  ⟨some 8, none, .pick (.t 5) (.c (.bool true)) (.t 7)⟩,
  ⟨some 9, none, .mov (.t 8)⟩,
  ⟨some 10, some (9, false), .mov (.t 0)⟩,
  ⟨some 11, some (9, false), .bin .eql (.t 10) (.c (.int .i64 11))⟩,
  ⟨some 12, none, .pick (.t 9) (.c (.bool true)) (.t 11)⟩,
  ⟨some 13, none, .mov (.t 12)⟩,
  ⟨some 14, some (13, false), .mov (.t 0)⟩,
  ⟨some 15, some (13, false), .bin .eql (.t 14) (.c (.int .i64 12))⟩,
  ⟨some 16, none, .pick (.t 13) (.c (.bool true)) (.t 15)⟩,
  ⟨some 2, none, .mov (.t 16)⟩]
def zc13_0 : AC := .seq (.reg zr13_1) .ret
def zc13_1 : AC := .seq (.reg zr13_0) zc13_0
def zc13 : AC := zc13_1
theorem ok13 : Try.f13.body.bind (compCode Try.prog 17) = some zc13 := by kernel_rfl
theorem nt13 : Try.f13.ntmps = 17 := by kernel_rfl
theorem res13 : compRes Try.prog Try.f13.results.toList = some [.tmp 2] := by kernel_rfl
def s13 (N : Nat) (p1 : Int) : Option Bool :=
  if p1 = 9 then
    some true
  else
    if p1 = 10 then
      some true
    else
      if p1 = 11 then
        some true
      else
        some (decide (p1 = 12))
set_option maxHeartbeats 4000000 in
theorem c13 (N : Nat) (p1 : Int) (r : Bool) (h : s13 N p1 = some r) : PureC Try.prog 13 [.int .i64 p1] (.bool r) := by
  refine fn_intro' 17 Try.func13 nt13 ok13 res13 (by simp) fun X hP hn hd hr => ?_
  unfold s13 at h
  repeat refine awp_seq ?_
  refine awp_reg fun K Q hK hQ => ?_
  simp -implicitDefEqProofs (disch := first | omega | rfl) only [go_sem, simprocAttr, zr13_0, argS]
  refine hK _ _ ?_; clear hK hQ K Q
  repeat refine awp_seq ?_
  refine awp_reg fun K Q hK hQ => ?_
  have hh := ite_some h; clear h; rcases hh with ⟨hc1, h⟩ | ⟨hc1, h⟩
  · simp -implicitDefEqProofs (disch := first | omega | rfl) only [go_sem, simprocAttr, zr13_1, eq_true hc1]
    refine hK _ _ ?_; clear hK hQ K Q
    obtain rfl := som_inj h
    repeat refine awp_seq ?_
    refine awp_ret ?_
    repeat' (first | refine then_ret ?_ | refine blk_ret ?_)
    refine ret_q ?_
    simp -implicitDefEqProofs (disch := first | omega | rfl) only [go_sem, simprocAttr]
    first | exact leaves_none (by first | rfl | simp) | exact leaves_nil
  have hh := ite_some h; clear h; rcases hh with ⟨hc2, h⟩ | ⟨hc2, h⟩
  · simp -implicitDefEqProofs (disch := first | omega | rfl) only [go_sem, simprocAttr, zr13_1, eq_false hc1, eq_true hc2]
    refine hK _ _ ?_; clear hK hQ K Q
    obtain rfl := som_inj h
    repeat refine awp_seq ?_
    refine awp_ret ?_
    repeat' (first | refine then_ret ?_ | refine blk_ret ?_)
    refine ret_q ?_
    simp -implicitDefEqProofs (disch := first | omega | rfl) only [go_sem, simprocAttr]
    first | exact leaves_none (by first | rfl | simp) | exact leaves_nil
  have hh := ite_some h; clear h; rcases hh with ⟨hc3, h⟩ | ⟨hc3, h⟩
  · simp -implicitDefEqProofs (disch := first | omega | rfl) only [go_sem, simprocAttr, zr13_1, eq_false hc1, eq_false hc2, eq_true hc3]
    refine hK _ _ ?_; clear hK hQ K Q
    obtain rfl := som_inj h
    repeat refine awp_seq ?_
    refine awp_ret ?_
    repeat' (first | refine then_ret ?_ | refine blk_ret ?_)
    refine ret_q ?_
    simp -implicitDefEqProofs (disch := first | omega | rfl) only [go_sem, simprocAttr]
    first | exact leaves_none (by first | rfl | simp) | exact leaves_nil
  simp -implicitDefEqProofs (disch := first | omega | rfl) only [go_sem, simprocAttr, zr13_1, eq_false hc1, eq_false hc2, eq_false hc3]
  refine hK _ _ ?_; clear hK hQ K Q
  obtain rfl := som_inj h
  repeat refine awp_seq ?_
  refine awp_ret ?_
  repeat' (first | refine then_ret ?_ | refine blk_ret ?_)
  refine ret_q ?_
  simp -implicitDefEqProofs (disch := first | omega | rfl) only [go_sem, simprocAttr]
  first | exact leaves_none (by first | rfl | simp) | exact leaves_nil
def zr16_0 : List AO := [⟨some 4, none, .mov (.c (.bool false))⟩]
def zr16_1 : List AO := [⟨some 5, none, .mov (.t 0)⟩,
  ⟨some 6, none, .lenS (.t 5)⟩,
  ⟨some 7, none, .mov (.t 1)⟩,
  ⟨some 8, none, .lenS (.t 7)⟩,
  ⟨some 9, none, .bin .gtr (.t 6) (.t 8)⟩,
  ⟨some 10, none, .mov (.t 9)⟩,
  ⟨some 11, some (10, true), .mov (.t 0)⟩,
  ⟨some 12, some (10, true), .mov (.t 1)⟩,
  ⟨some 13, some (10, true), .lenS (.t 12)⟩,
  ⟨some 14, some (10, true), .slcS (.t 11) none (some (.t 13))⟩,
  ⟨some 15, some (10, true), .mov (.t 1)⟩,
  ⟨some 16, some (10, true), .bin .eql (.t 14) (.t 15)⟩,
  ⟨some 17, none, .pick (.t 10) (.t 16) (.c (.bool false))⟩,
  ⟨some 18, none, .mov (.t 17)⟩,
  ⟨some 19, some (18, true), .mov (.t 0)⟩,
  ⟨some 20, some (18, true), .mov (.t 1)⟩,
  ⟨some 21, some (18, true), .lenS (.t 20)⟩,
  ⟨some 22, some (18, true), .idxS (.t 19) (.t 21)⟩,
  ⟨some 23, some (18, true), .bin .eql (.t 22) (.c (.int .u8 46))⟩,
  ⟨some 24, none, .pick (.t 18) (.t 23) (.c (.bool false))⟩,
  ⟨some 4, none, .mov (.t 24)⟩]
def zc16_0 : AC := .seq (.reg zr16_1) .ret
def zc16_1 : AC := .seq (.reg zr16_0) zc16_0
def zc16 : AC := zc16_1
theorem ok16 : Try.f16.body.bind (compCode Try.prog 25) = some zc16 := by kernel_rfl
theorem nt16 : Try.f16.ntmps = 25 := by kernel_rfl
theorem res16 : compRes Try.prog Try.f16.results.toList = some [.tmp 4] := by kernel_rfl
def s16 (N : Nat) (p1 : List UInt8) (p2 : List UInt8) : Option Bool :=
  if (List.length p2 : Int) < (List.length p1 : Int) then
    grd ((List.length p2 : Int) ≤ (List.length p1 : Int)) <|
    if List.take (List.length p2) p1 = p2 then
      some (decide (((List.getD p1 (List.length p2) 0).toNat : Int) = 46))
    else
      some false
  else
    some false
set_option maxHeartbeats 4000000 in
theorem c16 (N : Nat) (p1 : List UInt8) (p2 : List UInt8) (r : Bool) (h : s16 N p1 p2 = some r) : PureC Try.prog 16 [.str p1, .str p2] (.bool r) := by
  refine fn_intro' 25 Try.func16 nt16 ok16 res16 (by simp) fun X hP hn hd hr => ?_
  unfold s16 at h
  repeat refine awp_seq ?_
  refine awp_reg fun K Q hK hQ => ?_
  simp -implicitDefEqProofs (disch := first | omega | rfl) only [go_sem, simprocAttr, zr16_0, argS]
  refine hK _ _ ?_; clear hK hQ K Q
  repeat refine awp_seq ?_
  refine awp_reg fun K Q hK hQ => ?_
  have hh := ite_some h; clear h; rcases hh with ⟨hc1, h⟩ | ⟨hc1, h⟩
  · have hh := grd_some h; clear h; obtain ⟨hg2, h⟩ := hh
    have hh := ite_some h; clear h; rcases hh with ⟨hc3, h⟩ | ⟨hc3, h⟩
    · simp -implicitDefEqProofs (disch := first | omega | rfl) only [go_sem, simprocAttr, zr16_1, eq_true hc1, eq_true hg2, eq_true hc3]
      refine hK _ _ ?_; clear hK hQ K Q
      obtain rfl := som_inj h
      repeat refine awp_seq ?_
      refine awp_ret ?_
      repeat' (first | refine then_ret ?_ | refine blk_ret ?_)
      refine ret_q ?_
      simp -implicitDefEqProofs (disch := first | omega | rfl) only [go_sem, simprocAttr]
      first | exact leaves_none (by first | rfl | simp) | exact leaves_nil
    simp -implicitDefEqProofs (disch := first | omega | rfl) only [go_sem, simprocAttr, zr16_1, eq_true hc1, eq_true hg2, eq_false hc3]
    refine hK _ _ ?_; clear hK hQ K Q
    obtain rfl := som_inj h
    repeat refine awp_seq ?_
    refine awp_ret ?_
    repeat' (first | refine then_ret ?_ | refine blk_ret ?_)
    refine ret_q ?_
    simp -implicitDefEqProofs (disch := first | omega | rfl) only [go_sem, simprocAttr]
    first | exact leaves_none (by first | rfl | simp) | exact leaves_nil
  simp -implicitDefEqProofs (disch := first | omega | rfl) only [go_sem, simprocAttr, zr16_1, eq_false hc1]
  refine hK _ _ ?_; clear hK hQ K Q
  obtain rfl := som_inj h
  repeat refine awp_seq ?_
  refine awp_ret ?_
  repeat' (first | refine then_ret ?_ | refine blk_ret ?_)
  refine ret_q ?_
  simp -implicitDefEqProofs (disch := first | omega | rfl) only [go_sem, simprocAttr]
  first | exact leaves_none (by first | rfl | simp) | exact leaves_nil
def zr5_0 : List AO := [⟨some 2, none, .box (.t 0)⟩,
  ⟨some 3, none, .box (.t 1)⟩,
  ⟨some 4, none, .mov (.c (.bool false))⟩]
def zr5_1 : List AO := [⟨some 12, none, .callF 9 []⟩,
  ⟨some 5, none, .mov (.t 12)⟩]
def zr5_2 : List AO := [⟨some 13, none, .fadr 0 (.t 3)⟩,
  ⟨none, none, .store 1 (.t 13) (.c (.int .i64 14))⟩]
def zr5_3 : List AO := [⟨some 14, none, .fadr 32 (.t 3)⟩,
  ⟨none, none, .store 1 (.t 14) (.c (.nil))⟩]
def zr5_4 : List AO := [⟨some 15, none, .load true 6 (.t 2)⟩,
  ⟨some 16, none, .callF 10 [(.t 15), (.c (.int .i64 200))]⟩,
  ⟨some 17, none, .un .not (.t 16)⟩,
  ⟨some 18, none, .mov (.t 17)⟩,
  ⟨some 19, some (18, false), .load true 33 (.t 3)⟩,
  ⟨some 20, some (18, false), .mkrow 33 1 [.int .i64 0, .str [], .int .i64 0, .str [], .str [], .int .i64 0, .int .i64 0, .int .i64 0, .bool false, .str [], .int .i64 0, .bool false, .str [], .nil, .str [], .str [], .int .i64 0, .int .i64 0, .str [], .str [], .bool false, .str [], .str [], .bool false, .bool false, .bool false, .bool false, .bool false, .bool false, .bool false, .nil, .nil, .nil] [(0, 33, (.t 19))]⟩,
  ⟨some 21, some (18, false), .bld [.str [], .int .i64 0, .int .i64 0, .int .i64 0, .int .i64 0, .nil] [(5, 1, (.t 20))]⟩,
  ⟨some 22, some (18, false), .callF 10 [(.t 21), (.c (.int .i64 1))]⟩,
  ⟨some 23, some (18, false), .un .not (.t 22)⟩,
  ⟨some 24, none, .pick (.t 18) (.c (.bool true)) (.t 23)⟩]
def zr5_5 : List AO := [⟨some 25, none, .mov (.t 5)⟩,
  ⟨some 4, none, .mov (.t 25)⟩]
def zc5_0 : AC := .seq (.reg zr5_5) .ret
def zc5_1 : AC := .cond (.t 24) zc5_0 .skip
def zr5_6 : List AO := [⟨some 26, none, .load true 33 (.t 3)⟩,
  ⟨some 27, none, .mkrow 33 1 [.int .i64 0, .str [], .int .i64 0, .str [], .str [], .int .i64 0, .int .i64 0, .int .i64 0, .bool false, .str [], .int .i64 0, .bool false, .str [], .nil, .str [], .str [], .int .i64 0, .int .i64 0, .str [], .str [], .bool false, .str [], .str [], .bool false, .bool false, .bool false, .bool false, .bool false, .bool false, .bool false, .nil, .nil, .nil] [(0, 33, (.t 26))]⟩,
  ⟨some 28, none, .bld [.str [], .int .i64 0, .int .i64 0, .int .i64 0, .int .i64 0, .nil] [(5, 1, (.t 27))]⟩,
  ⟨some 6, none, .alloc [.str [], .int .i64 0, .int .i64 0, .int .i64 0, .int .i64 0, .nil]⟩,
  ⟨none, none, .store 6 (.t 6) (.t 28)⟩]
def zr5_7 : List AO := [⟨some 7, none, .mov (.c (.int .i64 0))⟩]
def zr5_8 : List AO := [⟨some 29, none, .mov (.t 7)⟩,
  ⟨some 30, none, .fadr 5 (.t 2)⟩,
  ⟨some 31, none, .load false 1 (.t 30)⟩,
  ⟨some 32, none, .len (.t 31)⟩,
  ⟨some 33, none, .bin .lss (.t 29) (.t 32)⟩]
def zc5_2 : AC := .cond (.t 33) .skip (.exit 0)
def zr5_9 : List AO := [⟨some 36, none, .fadr 5 (.t 2)⟩,
  ⟨some 37, none, .load false 1 (.t 36)⟩,
  ⟨some 38, none, .mov (.t 7)⟩,
  ⟨some 39, none, .iadr 33 (.t 37) (.t 38)⟩,
  ⟨some 40, none, .fadr 0 (.t 39)⟩,
  ⟨some 41, none, .load false 1 (.t 40)⟩,
  ⟨some 42, none, .callF 12 [(.t 41)]⟩]
def zr5_10 : DT := (.pur ⟨some 43, none, .fadr 5 (.t 6)⟩ (.pur ⟨some 44, none, .load false 1 (.t 43)⟩ (.pur ⟨some 45, none, .fadr 5 (.t 2)⟩ (.pur ⟨some 46, none, .load false 1 (.t 45)⟩ (.alt false ⟨some 47, none, .mov (.t 7)⟩ (.alt false ⟨some 48, none, .iadr 33 (.t 46) (.t 47)⟩ (.alt false ⟨some 49, none, .load true 33 (.t 48)⟩ (.alt false ⟨some 50, none, .mkrow 33 1 [.int .i64 0, .str [], .int .i64 0, .str [], .str [], .int .i64 0, .int .i64 0, .int .i64 0, .bool false, .str [], .int .i64 0, .bool false, .str [], .nil, .str [], .str [], .int .i64 0, .int .i64 0, .str [], .str [], .bool false, .str [], .str [], .bool false, .bool false, .bool false, .bool false, .bool false, .bool false, .bool false, .nil, .nil, .nil] [(0, 33, (.t 49))]⟩ (.alt false ⟨some 51, none, .app 33 368 (.t 44) (.t 50)⟩ (.alt false ⟨some 52, none, .fadr 5 (.t 6)⟩ (.alt true ⟨none, none, .store 1 (.t 52) (.t 51)⟩ .done .stop) .stop) .stop) .stop) .stop) .stop) .stop)))))
def zc5_3 : AC := .regD zr5_10
def zc5_4 : AC := .cond (.t 42) zc5_3 .skip
def zc5_5 : AC := .seq (.reg zr5_9) zc5_4
def zr5_11 : List AO := [⟨some 34, none, .mov (.t 7)⟩,
  ⟨some 35, none, .bin .add (.t 34) (.c (.int .i64 1))⟩,
  ⟨some 7, none, .mov (.t 35)⟩]
def zc5_6 : AC := .reg zr5_11
def zc5_7 : AC := .seq (.block 1 zc5_5) zc5_6
def zc5_8 : AC := .seq (.seq (.reg zr5_8) zc5_2) zc5_7
def zc5_9 : AC := .loop zc5_8
def zc5_10 : AC := .block 0 zc5_9
def zr5_12 : List AO := [⟨some 54, none, .load true 6 (.t 6)⟩,
  ⟨some 55, none, .callF 11 [(.t 54)]⟩,
  ⟨some 53, none, .mov (.t 55)⟩,
  ⟨some 56, none, .ext 0 (.t 53)⟩,
  ⟨some 57, none, .ext 1 (.t 53)⟩,
  ⟨some 8, none, .alloc [.str [], .int .i64 0, .int .i64 0, .int .i64 0, .int .i64 0, .nil]⟩,
  ⟨none, none, .store 6 (.t 8) (.t 56)⟩,
  ⟨some 9, none, .mov (.t 57)⟩]
def zr5_13 : List AO := [⟨some 58, none, .mov (.t 9)⟩,
  ⟨some 59, none, .len (.t 58)⟩,
  ⟨some 60, none, .bin .gtr (.t 59) (.c (.int .i64 0))⟩]
def zr5_14 : List AO := [⟨some 61, none, .mov (.t 5)⟩,
  ⟨some 62, none, .mov (.t 61)⟩,
  ⟨some 63, some (62, true), .fadr 5 (.t 8)⟩,
  ⟨some 64, some (62, true), .load false 1 (.t 63)⟩,
  ⟨some 65, some (62, true), .len (.t 64)⟩,
  ⟨some 66, some (62, true), .bin .eql (.t 65) (.c (.int .i64 0))⟩,
  ⟨some 67, none, .pick (.t 62) (.t 66) (.c (.bool false))⟩,
  ⟨some 4, none, .mov (.t 67)⟩]
def zc5_11 : AC := .seq (.reg zr5_14) .ret
def zc5_12 : AC := .cond (.t 60) zc5_11 .skip
def zr5_15 : List AO := [⟨some 10, none, .mov (.c (.int .i64 0))⟩]
def zr5_16 : List AO := [⟨some 68, none, .mov (.t 10)⟩,
  ⟨some 69, none, .fadr 5 (.t 8)⟩,
  ⟨some 70, none, .load false 1 (.t 69)⟩,
  ⟨some 71, none, .len (.t 70)⟩,
  ⟨some 72, none, .bin .lss (.t 68) (.t 71)⟩]
def zc5_13 : AC := .cond (.t 72) .skip (.exit 2)
def zr5_17 : List AO := [⟨some 75, none, .fadr 5 (.t 8)⟩,
  ⟨some 76, none, .load false 1 (.t 75)⟩,
  ⟨some 77, none, .mov (.t 10)⟩,
  ⟨some 78, none, .iadr 33 (.t 76) (.t 77)⟩,
  ⟨some 79, none, .load true 33 (.t 78)⟩,
  ⟨some 11, none, .alloc [.int .i64 0, .str [], .int .i64 0, .str [], .str [], .int .i64 0, .int .i64 0, .int .i64 0, .bool false, .str [], .int .i64 0, .bool false, .str [], .nil, .str [], .str [], .int .i64 0, .int .i64 0, .str [], .str [], .bool false, .str [], .str [], .bool false, .bool false, .bool false, .bool false, .bool false, .bool false, .bool false, .nil, .nil, .nil]⟩,
  ⟨none, none, .store 33 (.t 11) (.t 79)⟩]
def zr5_18 : List AO := [⟨some 80, none, .fadr 0 (.t 11)⟩,
  ⟨some 81, none, .load false 1 (.t 80)⟩,
  ⟨some 82, none, .callF 13 [(.t 81)]⟩,
  ⟨some 83, none, .un .not (.t 82)⟩,
  ⟨some 84, none, .mov (.t 83)⟩,
  ⟨some 85, some (84, false), .fadr 1 (.t 11)⟩,
  ⟨some 86, some (84, false), .load false 1 (.t 85)⟩,
  ⟨some 87, some (84, false), .fadr 1 (.t 3)⟩,
  ⟨some 88, some (84, false), .load false 1 (.t 87)⟩,
  ⟨some 89, some (84, false), .callF 16 [(.t 86), (.t 88)]⟩,
  ⟨some 90, some (84, false), .un .not (.t 89)⟩,
  ⟨some 91, none, .pick (.t 84) (.c (.bool true)) (.t 90)⟩,
  ⟨some 92, none, .mov (.t 91)⟩,
  ⟨some 93, some (92, false), .fadr 2 (.t 11)⟩,
  ⟨some 94, some (92, false), .load false 1 (.t 93)⟩,
  ⟨some 95, some (92, false), .fadr 2 (.t 3)⟩,
  ⟨some 96, some (92, false), .load false 1 (.t 95)⟩,
  ⟨some 97, some (92, false), .bin .neq (.t 94) (.t 96)⟩,
  ⟨some 98, none, .pick (.t 92) (.c (.bool true)) (.t 97)⟩,
  ⟨some 99, none, .mov (.t 98)⟩,
  ⟨some 100, some (99, false), .fadr 1 (.t 11)⟩,
  ⟨some 101, some (99, false), .load false 1 (.t 100)⟩,
  ⟨some 102, some (99, false), .lenS (.t 101)⟩,
  ⟨some 103, some (99, false), .bin .gtr (.t 102) (.c (.int .i64 24))⟩,
  ⟨some 104, none, .pick (.t 99) (.c (.bool true)) (.t 103)⟩]
def zr5_19 : List AO := [⟨some 4, none, .mov (.c (.bool false))⟩]
def zc5_14 : AC := .seq (.reg zr5_19) .ret
def zc5_15 : AC := .cond (.t 104) zc5_14 .skip
def zc5_16 : AC := .seq (.reg zr5_18) zc5_15
def zc5_17 : AC := .seq (.reg zr5_17) zc5_16
def zr5_20 : List AO := [⟨some 73, none, .mov (.t 10)⟩,
  ⟨some 74, none, .bin .add (.t 73) (.c (.int .i64 1))⟩,
  ⟨some 10, none, .mov (.t 74)⟩]
def zc5_18 : AC := .reg zr5_20
def zc5_19 : AC := .seq (.block 3 zc5_17) zc5_18
def zc5_20 : AC := .seq (.seq (.reg zr5_16) zc5_13) zc5_19
def zc5_21 : AC := .loop zc5_20
def zc5_22 : AC := .block 2 zc5_21
def zr5_21 : List AO := [⟨some 105, none, .mov (.t 5)⟩,
  ⟨some 4, none, .mov (.t 105)⟩]
def zc5_23 : AC := .seq (.reg zr5_21) .ret
def zc5_24 : AC := .seq (.seq (.reg zr5_15) zc5_22) zc5_23
def zc5_25 : AC := .seq (.seq (.reg zr5_13) zc5_12) zc5_24
def zc5_26 : AC := .seq (.reg zr5_12) zc5_25
def zc5_27 : AC := .seq (.seq (.reg zr5_7) zc5_10) zc5_26
def zc5_28 : AC := .seq (.reg zr5_6) zc5_27
def zc5_29 : AC := .seq (.seq (.reg zr5_4) zc5_1) zc5_28
def zc5_30 : AC := .seq (.reg zr5_3) zc5_29
def zc5_31 : AC := .seq (.reg zr5_2) zc5_30
def zc5_32 : AC := .seq (.reg zr5_1) zc5_31
def zc5_33 : AC := .seq (.reg zr5_0) zc5_32
def zc5 : AC := zc5_33
theorem ok5 : Try.f5.body.bind (compCode Try.prog 106) = some zc5 := by kernel_rfl
theorem nt5 : Try.f5.ntmps = 106 := by kernel_rfl
theorem res5 : compRes Try.prog Try.f5.results.toList = some [.tmp 4] := by kernel_rfl
def s5_b1 (N : Nat) (p2 : Item) (x17 : Source × (List Fault)) (x22 : Int) : Option (((Int) ⊕ (Ou (Unit) (Bool)))) :=
  if x22 < (List.length x17.1.Items : Int) then
    grd (0 ≤ x22) <|
    (s13 N ((x17.1.Items[x22.toNat]!).Kind)).bind fun x27 =>
    bif x27 then
      (s16 N ((x17.1.Items[x22.toNat]!).Name) p2.Name).bind fun x30 =>
      bif x30 then
        if (x17.1.Items[x22.toNat]!).At = p2.At then
          if 24 < (List.length ((x17.1.Items[x22.toNat]!).Name) : Int) then
            some (.inr (.ret false))
          else
            some (.inl (IntKind.wrap .i64 (x22 + 1)))
        else
          some (.inr (.ret false))
      else
        some (.inr (.ret false))
    else
      some (.inr (.ret false))
  else
    some (.inr (.brk ()))
def s5_k2 (N : Nat) (p2 : Item) (x3 : Bool) (l14 : List Item) : Option Bool :=
  (s11 N ({ Name := [], From := ({ Year := 0, Month := 0, Day := 0 } : Civil), Days := 0, Items := l14 } : Source)).bind fun x17 =>
  if 0 < (List.length x17.2 : Int) then
    bif x3 then
      some (decide ((List.length x17.1.Items : Int) = 0))
    else
      some false
  else
    (iter (fun p => s5_b1 N p2 x17 p) N 0).bind fun o23 => o23.on (fun a23 =>
      some x3)
      (fun a23r => some a23r)
def s5_b3 (N : Nat) (p1 : Source) (l35 : List Item) (x38 : Int) : Option ((((List Item) × Int) ⊕ ((List Item)))) :=
  if x38 < (List.length p1.Items : Int) then
    grd (0 ≤ x38) <|
    (s12 N ((p1.Items[x38.toNat]!).Kind)).bind fun x45 =>
    bif x45 then
      grd ((List.length l35 + 1) * 368 ≤ 140737488355328 ∧ List.length l35 + 1 ≤ 140737488355328) <|
      some (.inl (l35 ++ ([p1.Items[x38.toNat]!]), IntKind.wrap .i64 (x38 + 1)))
    else
      some (.inl (l35, IntKind.wrap .i64 (x38 + 1)))
  else
    some (.inr l35)
def s5 (N : Nat) (p1 : Source) (p2 : Item) : Option Bool :=
  (s9 N).bind fun x3 =>
  (s10 N p1 200).bind fun x5 =>
  bif x5 then
    (s10 N ({ Name := [], From := ({ Year := 0, Month := 0, Day := 0 } : Civil), Days := 0, Items := [{ p2 with Kind := 14, Items := [] }] } : Source) 1).bind fun x9 =>
    bif x9 then
      (iter (fun p => s5_b3 N p1 p.1 p.2) N ([{ p2 with Kind := 14, Items := [] }], 0)).bind fun a39 =>
      s5_k2 N p2 x3 a39
    else
      some x3
  else
    some x3
set_option maxHeartbeats 4000000 in
theorem c5 (N : Nat) (p1 : Source) (p2 : Item) (r : Bool) (h : s5 N p1 p2 = some r) : PureC Try.prog 5 [.agg (Source.cs p1), .agg (Item.cs p2)] (.bool r) := by
  refine fn_intro' 106 Try.func5 nt5 ok5 res5 (by simp) fun X hP hn hd hr => ?_
  unfold s5 at h
  repeat refine awp_seq ?_
  refine awp_reg fun K Q hK hQ => ?_
  simp -implicitDefEqProofs (disch := first | omega | rfl) only [go_sem, simprocAttr, zr5_0, argS]
  intro b1 b2
  refine hK _ _ ?_; clear hK hQ K Q
  repeat refine awp_seq ?_
  refine awp_reg fun K Q hK hQ => ?_
  simp -implicitDefEqProofs (disch := first | omega | rfl) only [go_sem, simprocAttr, zr5_1]
  have hh := bnd_some h; clear h; obtain ⟨x3, hx4, h⟩ := hh
  refine call_pure hP (c9 N  x3 hx4) ?_
  simp -implicitDefEqProofs (disch := first | omega | rfl) only [go_sem, simprocAttr]
  refine hK _ _ ?_; clear hK hQ K Q
  repeat refine awp_seq ?_
  refine awp_reg fun K Q hK hQ => ?_
  simp -implicitDefEqProofs (disch := first | omega | rfl) only [go_sem, simprocAttr, zr5_2]
  refine hK _ _ ?_; clear hK hQ K Q
  repeat refine awp_seq ?_
  refine awp_reg fun K Q hK hQ => ?_
  simp -implicitDefEqProofs (disch := first | omega | rfl) only [go_sem, simprocAttr, zr5_3, Item.cs_eq]
  refine hK _ _ ?_; clear hK hQ K Q
  repeat refine awp_seq ?_
  refine awp_reg fun K Q hK hQ => ?_
  simp -implicitDefEqProofs (disch := first | omega | rfl) only [go_sem, simprocAttr, zr5_4]
  have hh := bnd_some h; clear h; obtain ⟨x5, hx6, h⟩ := hh
  refine call_pure hP (c10 N p1 200 x5 hx6) ?_
  have hh := cnd_some h; clear h; rcases hh with ⟨hc7, h⟩ | ⟨hc7, h⟩
  · simp -implicitDefEqProofs (disch := first | omega | rfl) only [go_sem, simprocAttr, hc7]
    intro b8
    have hh := bnd_some h; clear h; obtain ⟨x9, hx10, h⟩ := hh
    refine call_pureF' hP (_ :: []) (_ :: _ :: []) (_ :: _ :: _ :: []) rfl (List.Perm.refl _) (.cons (by rw [Source.cs_eq]; exact .aggL (.cons (.keep _) (.cons (.keep _) (.cons (.keep _) (.cons (.keep _) (.cons (.keep _) (.cons (frz_rowP (f := Item.av) (fun _ => Item.avl) (by simp -implicitDefEqProofs (disch := first | omega | rfl) only [go_sem, simprocAttr]; first | done | rfl) (by rw [show flt Item.av _ = [.int .i64 14, .str p2.Name, .int .i64 p2.At, .str p2.Of, .str p2.Act, .int .i64 p2.Word, .int .i64 p2.Times, .int .i64 p2.Within.Days, .bool p2.Within.Business, .str p2.Within.Name, .int .i64 p2.Grace.Days, .bool p2.Grace.Business, .str p2.Grace.Name, .sl (List.map Named.av p2.Conds), .str p2.By, .str p2.Until, .int .i64 p2.Num.Num, .int .i64 p2.Num.Den, .str p2.Unit, .str p2.Sum, .bool p2.Final, .str p2.Give, .str p2.To, .bool p2.Days.e0, .bool p2.Days.e1, .bool p2.Days.e2, .bool p2.Days.e3, .bool p2.Days.e4, .bool p2.Days.e5, .bool p2.Days.e6, .sl (List.map Civil.av p2.Dates), .sl (List.map AV.str p2.Names), .sl (List.map Item.av [])] from by simp only [flt, List.flatMap_cons, List.flatMap_nil, Item.av_eq, AV.cells, Item.cs_eq, List.cons_append, List.nil_append, List.append_nil]]; exact (.cons (.keep _) (.cons (.keep _) (.cons (.keep _) (.cons (.keep _) (.cons (.keep _) (.cons (.keep _) (.cons (.keep _) (.cons (.keep _) (.cons (.keep _) (.cons (.keep _) (.cons (.keep _) (.cons (.keep _) (.cons (.keep _) (.cons (.keep _) (.cons (.keep _) (.cons (.keep _) (.cons (.keep _) (.cons (.keep _) (.cons (.keep _) (.cons (.keep _) (.cons (.keep _) (.cons (.keep _) (.cons (.keep _) (.cons (.keep _) (.cons (.keep _) (.cons (.keep _) (.cons (.keep _) (.cons (.keep _) (.cons (.keep _) (.cons (.keep _) (.cons (.keep _) (.cons (.keep _) (.cons .nil (.nil _))))))))))))))))))))))))))))))))))) (by first | rfl | simp)) .nil))))))) (.cons (.keep _) .nil)) (c10 N ({ Name := [], From := ({ Year := 0, Month := 0, Day := 0 } : Civil), Days := 0, Items := [{ p2 with Kind := 14, Items := [] }] } : Source) 1 x9 hx10) ?_
    simp -implicitDefEqProofs (disch := first | omega | rfl) only [go_sem, simprocAttr]
    refine hK _ _ ?_; clear hK hQ K Q
    have hh := cnd_some h; clear h; rcases hh with ⟨hc11, h⟩ | ⟨hc11, h⟩
    · repeat refine awp_seq ?_
      refine awp_else (by simp -implicitDefEqProofs (disch := first | omega | rfl) only [go_sem, simprocAttr, hc11]) ?_
      repeat refine awp_seq ?_
      refine awp_skip ?_
      repeat refine awp_seq ?_
      refine awp_reg fun K Q hK hQ => ?_
      simp -implicitDefEqProofs (disch := first | omega | rfl) only [go_sem, simprocAttr, zr5_6]
      intro b12 b13
      refine hK _ _ ?_; clear hK hQ K Q
      repeat refine awp_seq ?_
      refine awp_reg fun K Q hK hQ => ?_
      simp -implicitDefEqProofs (disch := first | omega | rfl) only [go_sem, simprocAttr, zr5_7]
      refine hK _ _ ?_; clear hK hQ K Q
      repeat refine awp_seq ?_
      refine awp_cut (ι := {p : (List Item) × (Option Nat) // s5_k2 N p2 x3 p.1 = some r ∧ (p.2 = none → p.1 = [])}) (fun p => [(3, .ptr 3 b2 0), (5, .bool x3), (6, .ptr 6 b13 0)]) (fun p => (3, b2, .cells ([.int .i64 14, .str p2.Name, .int .i64 p2.At, .str p2.Of, .str p2.Act, .int .i64 p2.Word, .int .i64 p2.Times, .int .i64 p2.Within.Days, .bool p2.Within.Business, .str p2.Within.Name, .int .i64 p2.Grace.Days, .bool p2.Grace.Business, .str p2.Grace.Name, .sl (List.map Named.av p2.Conds), .str p2.By, .str p2.Until, .int .i64 p2.Num.Num, .int .i64 p2.Num.Den, .str p2.Unit, .str p2.Sum, .bool p2.Final, .str p2.Give, .str p2.To, .bool p2.Days.e0, .bool p2.Days.e1, .bool p2.Days.e2, .bool p2.Days.e3, .bool p2.Days.e4, .bool p2.Days.e5, .bool p2.Days.e6, .sl (List.map Civil.av p2.Dates), .sl (List.map AV.str p2.Names), .nil])) :: (6, b13, .cells ([.str [], .int .i64 0, .int .i64 0, .int .i64 0, .int .i64 0, accV 501 p.1.2 (List.length p.1.1) 33])) :: accO 501 p.1.2 (flt Item.av p.1.1) []) ?_ ?_
      · repeat refine awp_seq ?_
        refine awp_block ?_
        obtain ⟨o39, ho39, hO39⟩ := bnd_some h
        repeat refine awp_seq ?_
        refine awp_loop (ι := {p : Nat × (List Item) × (Option Nat) × Int // iter (fun p => s5_b3 N p1 p.1 p.2) p.1 (p.2.1, p.2.2.2) = some o39 ∧ (p.2.2.1 = none → p.2.1 = [])}) (fun p => [(2, .ptr 2 b1 0), (3, .ptr 3 b2 0), (5, .bool x3), (6, .ptr 6 b13 0), (7, .int .i64 p.1.2.2.2)]) (fun p => (2, b1, .cells (Source.cs p1)) :: (3, b2, .cells ([.int .i64 14, .str p2.Name, .int .i64 p2.At, .str p2.Of, .str p2.Act, .int .i64 p2.Word, .int .i64 p2.Times, .int .i64 p2.Within.Days, .bool p2.Within.Business, .str p2.Within.Name, .int .i64 p2.Grace.Days, .bool p2.Grace.Business, .str p2.Grace.Name, .sl (List.map Named.av p2.Conds), .str p2.By, .str p2.Until, .int .i64 p2.Num.Num, .int .i64 p2.Num.Den, .str p2.Unit, .str p2.Sum, .bool p2.Final, .str p2.Give, .str p2.To, .bool p2.Days.e0, .bool p2.Days.e1, .bool p2.Days.e2, .bool p2.Days.e3, .bool p2.Days.e4, .bool p2.Days.e5, .bool p2.Days.e6, .sl (List.map Civil.av p2.Dates), .sl (List.map AV.str p2.Names), .nil])) :: (6, b13, .cells ([.str [], .int .i64 0, .int .i64 0, .int .i64 0, .int .i64 0, accV 502 p.1.2.2.1 (List.length p.1.2.1) 33])) :: accO 502 p.1.2.2.1 (flt Item.av p.1.2.1) []) (fun p => p.1.1) ⟨⟨N, [{ p2 with Kind := 14, Items := [] }], (some b12), 0⟩, ho39, (fun h => by cases h)⟩ ?_ ?_
        · refine ent_le' ([]) (_ :: _ :: _ :: _ :: []) (_ :: _ :: _ :: _ :: []) rfl (List.Perm.trans (List.Perm.cons _ (List.Perm.cons _ perm_cc)) (List.Perm.trans (List.Perm.cons _ perm_cc) (List.Perm.trans perm_cc ((List.Perm.cons _ (List.Perm.trans (List.Perm.cons _ perm_cc) (List.Perm.trans perm_cc (List.Perm.refl _)))))))) ?_ ?_
          · simp -implicitDefEqProofs (disch := first | omega | rfl) only [go_sem, simprocAttr, subF_cons, subF_nil]
            exact ⟨(.lptr ..), (.lptr ..), (.keep _), (.lptr ..), (.keep _)⟩
          · exact (.cell (.cell (.cells (.cons (.keep _) (.cons (.keep _) (.cons (.keep _) (.cons (.keep _) (.cons (.keep _) (.cons (frz_lrow (by first | rfl | (simp; done) | ((try simp only [List.length_set, List.length_take]); omega))) (.nil _))))))) (.cells (by rw [show flt Item.av _ = [.int .i64 14, .str p2.Name, .int .i64 p2.At, .str p2.Of, .str p2.Act, .int .i64 p2.Word, .int .i64 p2.Times, .int .i64 p2.Within.Days, .bool p2.Within.Business, .str p2.Within.Name, .int .i64 p2.Grace.Days, .bool p2.Grace.Business, .str p2.Grace.Name, .sl (List.map Named.av p2.Conds), .str p2.By, .str p2.Until, .int .i64 p2.Num.Num, .int .i64 p2.Num.Den, .str p2.Unit, .str p2.Sum, .bool p2.Final, .str p2.Give, .str p2.To, .bool p2.Days.e0, .bool p2.Days.e1, .bool p2.Days.e2, .bool p2.Days.e3, .bool p2.Days.e4, .bool p2.Days.e5, .bool p2.Days.e6, .sl (List.map Civil.av p2.Dates), .sl (List.map AV.str p2.Names), .sl (List.map Item.av [])] from by simp only [flt, List.flatMap_cons, List.flatMap_nil, Item.av_eq, AV.cells, Item.cs_eq, List.cons_append, List.nil_append, List.append_nil]]; exact (.cons (.keep _) (.cons (.keep _) (.cons (.keep _) (.cons (.keep _) (.cons (.keep _) (.cons (.keep _) (.cons (.keep _) (.cons (.keep _) (.cons (.keep _) (.cons (.keep _) (.cons (.keep _) (.cons (.keep _) (.cons (.keep _) (.cons (.keep _) (.cons (.keep _) (.cons (.keep _) (.cons (.keep _) (.cons (.keep _) (.cons (.keep _) (.cons (.keep _) (.cons (.keep _) (.cons (.keep _) (.cons (.keep _) (.cons (.keep _) (.cons (.keep _) (.cons (.keep _) (.cons (.keep _) (.cons (.keep _) (.cons (.keep _) (.cons (.keep _) (.cons (.keep _) (.cons (.keep _) (.cons .nil (.nil _))))))))))))))))))))))))))))))))))) .nil))))
        rintro ⟨⟨n39, l35, bo36, x38⟩, hi39, hb37⟩
        obtain ⟨m39, q39, rfl, h, hm39⟩ := iter_some hi39
        try dsimp only at h
        try dsimp only
        unfold s5_b3 at h
        repeat refine awp_seq ?_
        refine awp_reg fun K Q hK hQ => ?_
        simp -implicitDefEqProofs (disch := first | omega | rfl) only [go_sem, simprocAttr, zr5_8]
        refine hK _ _ ?_; clear hK hQ K Q
        have hh := ite_some h; clear h; rcases hh with ⟨hc43, h⟩ | ⟨hc43, h⟩
        · repeat refine awp_seq ?_
          refine awp_then (by simp -implicitDefEqProofs (disch := first | omega | rfl) only [go_sem, simprocAttr, eq_true hc43]) ?_
          repeat refine awp_seq ?_
          refine awp_skip ?_
          repeat refine awp_seq ?_
          refine awp_block ?_
          repeat refine awp_seq ?_
          refine awp_reg fun K Q hK hQ => ?_
          have hh := grd_some h; clear h; obtain ⟨hg44, h⟩ := hh
          simp -implicitDefEqProofs (disch := first | omega | rfl) only [go_sem, simprocAttr, zr5_9, eq_true hc43, eq_true hg44]
          have hh := bnd_some h; clear h; obtain ⟨x45, hx46, h⟩ := hh
          refine call_pure hP (c12 N ((p1.Items[x38.toNat]!).Kind) x45 hx46) ?_
          simp -implicitDefEqProofs (disch := first | omega | rfl) only [go_sem, simprocAttr]
          refine hK _ _ ?_; clear hK hQ K Q
          have hh := cnd_some h; clear h; rcases hh with ⟨hc47, h⟩ | ⟨hc47, h⟩
          · repeat refine awp_seq ?_
            refine awp_then (by simp -implicitDefEqProofs (disch := first | omega | rfl) only [go_sem, simprocAttr, hc47]) ?_
            repeat refine awp_seq ?_
            refine awp_regD' (_ :: _ :: _ :: []) (accO _ _ _ []) (_ :: _ :: _ :: accO _ _ _ []) (by rw [hP]; exact mixed) rfl (List.Perm.refl _) fun K hK => ?_
            have hh := grd_some h; clear h; obtain ⟨⟨hg49, hg50⟩, h⟩ := hh
            simp -implicitDefEqProofs (disch := first | omega | rfl) only [go_sem, simprocAttr, zr5_10, eq_true hg44, eq_true hc43, eq_true hg49, eq_true hg50]
            intro b48
            refine app_acc (f := Item.av) (l := l35) ((50, b48, .cells (Item.cs (p1.Items[x38.toNat]!))) :: []) hb37 (by first | rfl | simp) (fun _ => Item.avl) (by intro b hb; subst hb; simp -implicitDefEqProofs (disch := first | omega | rfl) only [go_sem, simprocAttr]) (by intro b hb; subst hb; simp -implicitDefEqProofs (disch := first | omega | rfl) only [go_sem, simprocAttr]) (by intro hb; subst hb; simp -implicitDefEqProofs (disch := first | omega | rfl) only [go_sem, simprocAttr]) ?_
            simp -implicitDefEqProofs (disch := first | omega | rfl) only [go_sem, simprocAttr, eq_true hg49, eq_true hg50]
            intro bo51 hb52
            try simp -implicitDefEqProofs (disch := first | omega | rfl) only [go_sem, simprocAttr]
            refine hK _ _ ?_; clear hK K
            repeat refine awp_seq ?_
            refine awp_reg fun K Q hK hQ => ?_
            simp -implicitDefEqProofs (disch := first | omega | rfl) only [go_sem, simprocAttr, zr5_11]
            refine hK _ _ ?_; clear hK hQ K Q
            obtain rfl := som_inj h
            try dsimp only at hm39
            refine ⟨⟨⟨m39, l35 ++ ([p1.Items[x38.toNat]!]), bo51, IntKind.wrap .i64 (x38 + 1)⟩, hm39, (fun h => List.length_eq_zero_iff.1 (by simpa using hb52 h))⟩, Nat.lt_succ_self _, ?_⟩
            refine ent_le' ([]) (_ :: _ :: _ :: accO _ _ _ (_ :: [])) (_ :: _ :: _ :: accO _ _ _ (_ :: [])) rfl (List.Perm.refl _) ?_ ?_
            · simp -implicitDefEqProofs (disch := first | omega | rfl) only [go_sem, simprocAttr, subF_cons, subF_nil]
              exact ⟨(.lptr ..), (.lptr ..), (.keep _), (.lptr ..), (.keep _)⟩
            · exact (.cell (.cell (.cells (.cons (.keep _) (.cons (.keep _) (.cons (.keep _) (.cons (.keep _) (.cons (.keep _) (.cons (frz_lacc (by first | rfl | (simp; done) | ((try simp only [List.length_set, List.length_take]); omega))) (.nil _))))))) (.acc (FrzP.of_eq (by first | rfl | simp only [flt_app, flt_one, List.append_assoc])) (.drop .nil)))))
          repeat refine awp_seq ?_
          refine awp_else (by simp -implicitDefEqProofs (disch := first | omega | rfl) only [go_sem, simprocAttr, hc47]) ?_
          repeat refine awp_seq ?_
          refine awp_skip ?_
          repeat refine awp_seq ?_
          refine awp_reg fun K Q hK hQ => ?_
          simp -implicitDefEqProofs (disch := first | omega | rfl) only [go_sem, simprocAttr, zr5_11]
          refine hK _ _ ?_; clear hK hQ K Q
          obtain rfl := som_inj h
          try dsimp only at hm39
          refine ⟨⟨⟨m39, l35, bo36, IntKind.wrap .i64 (x38 + 1)⟩, hm39, hb37⟩, Nat.lt_succ_self _, ?_⟩
          refine ent_le' ([]) (_ :: _ :: _ :: accO _ _ _ []) (_ :: _ :: _ :: accO _ _ _ []) rfl (List.Perm.refl _) ?_ ?_
          · simp -implicitDefEqProofs (disch := first | omega | rfl) only [go_sem, simprocAttr, subF_cons, subF_nil]
            exact ⟨(.lptr ..), (.lptr ..), (.keep _), (.lptr ..), (.keep _)⟩
          · exact (.cell (.cell (.cell (.acc (FrzP.refl _ _) .nil))))
        repeat refine awp_seq ?_
        refine awp_else (by simp -implicitDefEqProofs (disch := first | omega | rfl) only [go_sem, simprocAttr, eq_false hc43]) ?_
        repeat refine awp_seq ?_
        refine awp_exit ?_
        repeat' (first | refine then_exit ?_ | refine exit_here ?_ | refine exit_on rfl ?_)
        obtain rfl := som_inj h
        try dsimp only at hm39
        subst hm39
        try dsimp only at hO39
        refine ⟨⟨⟨l35, bo36⟩, hO39, hb37⟩, ?_⟩
        refine ent_le' ([]) (_ :: _ :: accO _ _ _ (_ :: [])) (_ :: _ :: accO _ _ _ (_ :: [])) rfl (List.Perm.trans perm_cc ((List.Perm.cons _ (List.Perm.trans perm_cc ((List.Perm.cons _ (List.Perm.trans perm_ca (List.Perm.refl _)))))))) ?_ ?_
        · simp -implicitDefEqProofs (disch := first | omega | rfl) only [go_sem, simprocAttr, subF_cons, subF_nil]
          exact ⟨(.lptr ..), (.keep _), (.lptr ..)⟩
        · exact (.cell (.cells (.cons (.keep _) (.cons (.keep _) (.cons (.keep _) (.cons (.keep _) (.cons (.keep _) (.cons (frz_lacc (by first | rfl | (simp; done) | ((try simp only [List.length_set, List.length_take]); omega))) (.nil _))))))) (.acc (FrzP.of_eq (by first | rfl | simp only [flt_app, flt_one, List.append_assoc])) (.drop .nil))))
      rintro ⟨⟨l14, bo15⟩, h, hb16⟩
      try dsimp only at h hb16
      try dsimp only
      repeat refine awp_seq ?_
      refine awp_reg fun K Q hK hQ => ?_
      simp -implicitDefEqProofs (disch := first | omega | rfl) only [go_sem, simprocAttr, zr5_12]
      have hh := bnd_some h; clear h; obtain ⟨x17, hx18, h⟩ := hh
      refine call_pureF' hP (accO _ _ _ []) (_ :: _ :: []) (accO _ _ _ (_ :: _ :: [])) (by first | rfl | (simp only [accO_app, List.cons_append, List.nil_append]; rfl) | simp only [accO_app, List.cons_append, List.nil_append]) (List.Perm.trans (List.Perm.cons _ perm_ca) (List.Perm.trans perm_ca (List.Perm.refl _))) (.cons (by rw [Source.cs_eq]; exact .aggL (.cons (.keep _) (.cons (.keep _) (.cons (.keep _) (.cons (.keep _) (.cons (.keep _) (.cons (frz_acc (fun _ => Item.avl) hb16 (by intro b hb; subst hb; simp -implicitDefEqProofs (disch := first | omega | rfl) only [go_sem, simprocAttr]) (by first | rfl | (simp; done) | ((try simp only [List.length_set, List.length_take]); omega))) .nil))))))) .nil) (c11 N ({ Name := [], From := ({ Year := 0, Month := 0, Day := 0 } : Civil), Days := 0, Items := l14 } : Source) x17 hx18) ?_
      simp -implicitDefEqProofs (disch := first | omega | rfl) only [go_sem, simprocAttr]
      intro b19
      refine hK _ _ ?_; clear hK hQ K Q
      repeat refine awp_seq ?_
      refine awp_reg fun K Q hK hQ => ?_
      simp -implicitDefEqProofs (disch := first | omega | rfl) only [go_sem, simprocAttr, zr5_13]
      refine hK _ _ ?_; clear hK hQ K Q
      have hh := ite_some h; clear h; rcases hh with ⟨hc20, h⟩ | ⟨hc20, h⟩
      · repeat refine awp_seq ?_
        refine awp_then (by simp -implicitDefEqProofs (disch := first | omega | rfl) only [go_sem, simprocAttr, eq_true hc20]) ?_
        repeat refine awp_seq ?_
        refine awp_reg fun K Q hK hQ => ?_
        have hh := cnd_some h; clear h; rcases hh with ⟨hc21, h⟩ | ⟨hc21, h⟩
        · simp -implicitDefEqProofs (disch := first | omega | rfl) only [go_sem, simprocAttr, zr5_14, hc21]
          refine hK _ _ ?_; clear hK hQ K Q
          obtain rfl := som_inj h
          repeat refine awp_seq ?_
          refine awp_ret ?_
          repeat' (first | refine then_ret ?_ | refine blk_ret ?_)
          refine ret_q ?_
          simp -implicitDefEqProofs (disch := first | omega | rfl) only [go_sem, simprocAttr]
          first | exact leaves_none (by first | rfl | simp) | exact leaves_nil
        simp -implicitDefEqProofs (disch := first | omega | rfl) only [go_sem, simprocAttr, zr5_14, hc21]
        refine hK _ _ ?_; clear hK hQ K Q
        obtain rfl := som_inj h
        repeat refine awp_seq ?_
        refine awp_ret ?_
        repeat' (first | refine then_ret ?_ | refine blk_ret ?_)
        refine ret_q ?_
        simp -implicitDefEqProofs (disch := first | omega | rfl) only [go_sem, simprocAttr]
        first | exact leaves_none (by first | rfl | simp) | exact leaves_nil
      repeat refine awp_seq ?_
      refine awp_else (by simp -implicitDefEqProofs (disch := first | omega | rfl) only [go_sem, simprocAttr, eq_false hc20]) ?_
      repeat refine awp_seq ?_
      refine awp_skip ?_
      repeat refine awp_seq ?_
      refine awp_reg fun K Q hK hQ => ?_
      simp -implicitDefEqProofs (disch := first | omega | rfl) only [go_sem, simprocAttr, zr5_15]
      refine hK _ _ ?_; clear hK hQ K Q
      repeat refine awp_seq ?_
      refine awp_block ?_
      obtain ⟨o23, ho23, hO23⟩ := bnd_some h
      repeat refine awp_seq ?_
      refine awp_loop (ι := {p : Nat × Int // iter (fun p => s5_b1 N p2 x17 p) p.1 p.2 = some o23}) (fun p => [(3, .ptr 3 b2 0), (5, .bool x3), (8, .ptr 8 b19 0), (10, .int .i64 p.1.2)]) (fun p => (3, b2, .cells ([.int .i64 14, .str p2.Name, .int .i64 p2.At, .str p2.Of, .str p2.Act, .int .i64 p2.Word, .int .i64 p2.Times, .int .i64 p2.Within.Days, .bool p2.Within.Business, .str p2.Within.Name, .int .i64 p2.Grace.Days, .bool p2.Grace.Business, .str p2.Grace.Name, .sl (List.map Named.av p2.Conds), .str p2.By, .str p2.Until, .int .i64 p2.Num.Num, .int .i64 p2.Num.Den, .str p2.Unit, .str p2.Sum, .bool p2.Final, .str p2.Give, .str p2.To, .bool p2.Days.e0, .bool p2.Days.e1, .bool p2.Days.e2, .bool p2.Days.e3, .bool p2.Days.e4, .bool p2.Days.e5, .bool p2.Days.e6, .sl (List.map Civil.av p2.Dates), .sl (List.map AV.str p2.Names), .nil])) :: (8, b19, .cells (Source.cs x17.1)) :: []) (fun p => p.1.1) ⟨⟨N, 0⟩, ho23⟩ ?_ ?_
      · refine ent_le' ([]) (_ :: _ :: _ :: []) (_ :: _ :: _ :: []) rfl (List.Perm.trans perm_cc (List.Perm.refl _)) ?_ ?_
        · simp -implicitDefEqProofs (disch := first | omega | rfl) only [go_sem, simprocAttr, subF_cons, subF_nil]
          exact ⟨(.lptr ..), (.keep _), (.lptr ..), (.keep _)⟩
        · exact (.cell (.cell (.drop .nil)))
      rintro ⟨⟨n23, x22⟩, hi23⟩
      obtain ⟨m23, q23, rfl, h, hm23⟩ := iter_some hi23
      try dsimp only at h
      try dsimp only
      unfold s5_b1 at h
      repeat refine awp_seq ?_
      refine awp_reg fun K Q hK hQ => ?_
      simp -implicitDefEqProofs (disch := first | omega | rfl) only [go_sem, simprocAttr, zr5_16]
      refine hK _ _ ?_; clear hK hQ K Q
      have hh := ite_some h; clear h; rcases hh with ⟨hc24, h⟩ | ⟨hc24, h⟩
      · repeat refine awp_seq ?_
        refine awp_then (by simp -implicitDefEqProofs (disch := first | omega | rfl) only [go_sem, simprocAttr, eq_true hc24]) ?_
        repeat refine awp_seq ?_
        refine awp_skip ?_
        repeat refine awp_seq ?_
        refine awp_block ?_
        repeat refine awp_seq ?_
        refine awp_reg fun K Q hK hQ => ?_
        have hh := grd_some h; clear h; obtain ⟨hg25, h⟩ := hh
        simp -implicitDefEqProofs (disch := first | omega | rfl) only [go_sem, simprocAttr, zr5_17, eq_true hc24, eq_true hg25]
        intro b26
        refine hK _ _ ?_; clear hK hQ K Q
        repeat refine awp_seq ?_
        refine awp_reg fun K Q hK hQ => ?_
        simp -implicitDefEqProofs (disch := first | omega | rfl) only [go_sem, simprocAttr, zr5_18]
        have hh := bnd_some h; clear h; obtain ⟨x27, hx28, h⟩ := hh
        refine call_pure hP (c13 N ((x17.1.Items[x22.toNat]!).Kind) x27 hx28) ?_
        have hh := cnd_some h; clear h; rcases hh with ⟨hc29, h⟩ | ⟨hc29, h⟩
        · simp -implicitDefEqProofs (disch := first | omega | rfl) only [go_sem, simprocAttr, hc29]
          have hh := bnd_some h; clear h; obtain ⟨x30, hx31, h⟩ := hh
          refine call_pure hP (c16 N ((x17.1.Items[x22.toNat]!).Name) p2.Name x30 hx31) ?_
          have hh := cnd_some h; clear h; rcases hh with ⟨hc32, h⟩ | ⟨hc32, h⟩
          · have hh := ite_some h; clear h; rcases hh with ⟨hc33, h⟩ | ⟨hc33, h⟩
            · simp -implicitDefEqProofs (disch := first | omega | rfl) only [go_sem, simprocAttr, hc32, eq_true hc33]
              refine hK _ _ ?_; clear hK hQ K Q
              have hh := ite_some h; clear h; rcases hh with ⟨hc34, h⟩ | ⟨hc34, h⟩
              · repeat refine awp_seq ?_
                refine awp_then (by simp -implicitDefEqProofs (disch := first | omega | rfl) only [go_sem, simprocAttr, eq_true hc34]) ?_
                repeat refine awp_seq ?_
                refine awp_reg fun K Q hK hQ => ?_
                simp -implicitDefEqProofs (disch := first | omega | rfl) only [go_sem, simprocAttr, zr5_19]
                refine hK _ _ ?_; clear hK hQ K Q
                obtain rfl := som_inj h
                try dsimp only at hm23
                subst hm23
                simp only [Ou.on_ret] at hO23
                obtain rfl := som_inj hO23
                repeat refine awp_seq ?_
                refine awp_ret ?_
                repeat' (first | refine then_ret ?_ | refine blk_ret ?_)
                refine ret_q ?_
                simp -implicitDefEqProofs (disch := first | omega | rfl) only [go_sem, simprocAttr]
                first | exact leaves_none (by first | rfl | simp) | exact leaves_nil
              repeat refine awp_seq ?_
              refine awp_else (by simp -implicitDefEqProofs (disch := first | omega | rfl) only [go_sem, simprocAttr, eq_false hc34]) ?_
              repeat refine awp_seq ?_
              refine awp_skip ?_
              repeat refine awp_seq ?_
              refine awp_reg fun K Q hK hQ => ?_
              simp -implicitDefEqProofs (disch := first | omega | rfl) only [go_sem, simprocAttr, zr5_20]
              refine hK _ _ ?_; clear hK hQ K Q
              obtain rfl := som_inj h
              try dsimp only at hm23
              refine ⟨⟨⟨m23, IntKind.wrap .i64 (x22 + 1)⟩, hm23⟩, Nat.lt_succ_self _, ?_⟩
              refine ent_le' ([]) (_ :: _ :: _ :: []) (_ :: _ :: _ :: []) rfl (List.Perm.trans perm_cc ((List.Perm.cons _ (List.Perm.trans perm_cc (List.Perm.refl _))))) ?_ ?_
              · simp -implicitDefEqProofs (disch := first | omega | rfl) only [go_sem, simprocAttr, subF_cons, subF_nil]
                exact ⟨(.lptr ..), (.keep _), (.lptr ..), (.keep _)⟩
              · exact (.cell (.cell (.drop .nil)))
            simp -implicitDefEqProofs (disch := first | omega | rfl) only [go_sem, simprocAttr, hc32, eq_false hc33]
            refine hK _ _ ?_; clear hK hQ K Q
            repeat refine awp_seq ?_
            refine awp_then (by rfl) ?_
            repeat refine awp_seq ?_
            refine awp_reg fun K Q hK hQ => ?_
            simp -implicitDefEqProofs (disch := first | omega | rfl) only [go_sem, simprocAttr, zr5_19]
            refine hK _ _ ?_; clear hK hQ K Q
            obtain rfl := som_inj h
            try dsimp only at hm23
            subst hm23
            simp only [Ou.on_ret] at hO23
            obtain rfl := som_inj hO23
            repeat refine awp_seq ?_
            refine awp_ret ?_
            repeat' (first | refine then_ret ?_ | refine blk_ret ?_)
            refine ret_q ?_
            simp -implicitDefEqProofs (disch := first | omega | rfl) only [go_sem, simprocAttr]
            first | exact leaves_none (by first | rfl | simp) | exact leaves_nil
          simp -implicitDefEqProofs (disch := first | omega | rfl) only [go_sem, simprocAttr, hc32]
          refine hK _ _ ?_; clear hK hQ K Q
          repeat refine awp_seq ?_
          refine awp_then (by rfl) ?_
          repeat refine awp_seq ?_
          refine awp_reg fun K Q hK hQ => ?_
          simp -implicitDefEqProofs (disch := first | omega | rfl) only [go_sem, simprocAttr, zr5_19]
          refine hK _ _ ?_; clear hK hQ K Q
          obtain rfl := som_inj h
          try dsimp only at hm23
          subst hm23
          simp only [Ou.on_ret] at hO23
          obtain rfl := som_inj hO23
          repeat refine awp_seq ?_
          refine awp_ret ?_
          repeat' (first | refine then_ret ?_ | refine blk_ret ?_)
          refine ret_q ?_
          simp -implicitDefEqProofs (disch := first | omega | rfl) only [go_sem, simprocAttr]
          first | exact leaves_none (by first | rfl | simp) | exact leaves_nil
        simp -implicitDefEqProofs (disch := first | omega | rfl) only [go_sem, simprocAttr, hc29]
        refine hK _ _ ?_; clear hK hQ K Q
        repeat refine awp_seq ?_
        refine awp_then (by rfl) ?_
        repeat refine awp_seq ?_
        refine awp_reg fun K Q hK hQ => ?_
        simp -implicitDefEqProofs (disch := first | omega | rfl) only [go_sem, simprocAttr, zr5_19]
        refine hK _ _ ?_; clear hK hQ K Q
        obtain rfl := som_inj h
        try dsimp only at hm23
        subst hm23
        simp only [Ou.on_ret] at hO23
        obtain rfl := som_inj hO23
        repeat refine awp_seq ?_
        refine awp_ret ?_
        repeat' (first | refine then_ret ?_ | refine blk_ret ?_)
        refine ret_q ?_
        simp -implicitDefEqProofs (disch := first | omega | rfl) only [go_sem, simprocAttr]
        first | exact leaves_none (by first | rfl | simp) | exact leaves_nil
      repeat refine awp_seq ?_
      refine awp_else (by simp -implicitDefEqProofs (disch := first | omega | rfl) only [go_sem, simprocAttr, eq_false hc24]) ?_
      repeat refine awp_seq ?_
      refine awp_exit ?_
      repeat' (first | refine then_exit ?_ | refine exit_here ?_ | refine exit_on rfl ?_)
      obtain rfl := som_inj h
      try dsimp only at hm23
      subst hm23
      simp only [Ou.on_brk] at hO23
      repeat refine awp_seq ?_
      refine awp_reg fun K Q hK hQ => ?_
      simp -implicitDefEqProofs (disch := first | omega | rfl) only [go_sem, simprocAttr, zr5_21]
      refine hK _ _ ?_; clear hK hQ K Q
      obtain rfl := som_inj hO23
      repeat refine awp_seq ?_
      refine awp_ret ?_
      repeat' (first | refine then_ret ?_ | refine blk_ret ?_)
      refine ret_q ?_
      simp -implicitDefEqProofs (disch := first | omega | rfl) only [go_sem, simprocAttr]
      first | exact leaves_none (by first | rfl | simp) | exact leaves_nil
    repeat refine awp_seq ?_
    refine awp_then (by simp -implicitDefEqProofs (disch := first | omega | rfl) only [go_sem, simprocAttr, hc11]) ?_
    repeat refine awp_seq ?_
    refine awp_reg fun K Q hK hQ => ?_
    simp -implicitDefEqProofs (disch := first | omega | rfl) only [go_sem, simprocAttr, zr5_5]
    refine hK _ _ ?_; clear hK hQ K Q
    obtain rfl := som_inj h
    repeat refine awp_seq ?_
    refine awp_ret ?_
    repeat' (first | refine then_ret ?_ | refine blk_ret ?_)
    refine ret_q ?_
    simp -implicitDefEqProofs (disch := first | omega | rfl) only [go_sem, simprocAttr]
    first | exact leaves_none (by first | rfl | simp) | exact leaves_nil
  simp -implicitDefEqProofs (disch := first | omega | rfl) only [go_sem, simprocAttr, hc7]
  refine hK _ _ ?_; clear hK hQ K Q
  repeat refine awp_seq ?_
  refine awp_then (by rfl) ?_
  repeat refine awp_seq ?_
  refine awp_reg fun K Q hK hQ => ?_
  simp -implicitDefEqProofs (disch := first | omega | rfl) only [go_sem, simprocAttr, zr5_5]
  refine hK _ _ ?_; clear hK hQ K Q
  obtain rfl := som_inj h
  repeat refine awp_seq ?_
  refine awp_ret ?_
  repeat' (first | refine then_ret ?_ | refine blk_ret ?_)
  refine ret_q ?_
  simp -implicitDefEqProofs (disch := first | omega | rfl) only [go_sem, simprocAttr]
  first | exact leaves_none (by first | rfl | simp) | exact leaves_nil
end Go.Proofs.Inc
namespace Go.Aw
theorem wr {n : Int} (h1 : -9223372036854775808 ≤ n) (h2 : n ≤ 9223372036854775807) : IntKind.wrap .i64 n = n := w64 h1 h2
theorem wr_succ {i : Nat} (h : i < 9223372036854775807) : IntKind.wrap .i64 ((i : Int) + 1) = ((i + 1 : Nat) : Int) := by
  rw [wr (by omega) (by omega)]
  omega
section
variable {α σ ρ τ : Type}
def runL (f : Nat → σ → α → σ ⊕ ρ) (fin : σ → ρ) : Nat → σ → List α → ρ
  | _, s, [] => fin s
  | i, s, a :: l => match f i s a with | .inl s' => runL f fin (i + 1) s' l | .inr r => r
theorem iter_step {body : τ → Option (τ ⊕ ρ)} {N : Nat} {s s' : τ} (h : body s = some (.inl s')) : iter body (N + 1) s = iter body N s' := by
  rw [iter, h]; rfl
theorem iter_end {body : τ → Option (τ ⊕ ρ)} {N : Nat} {s : τ} {r : ρ} (h : body s = some (.inr r)) : iter body (N + 1) s = some r := by
  rw [iter, h]; rfl
theorem iter_from {body : τ → Option (τ ⊕ ρ)} (mk : σ → Int → τ) (f : Nat → σ → α → σ ⊕ ρ) (fin : σ → ρ) (Inv : Nat → σ → Prop) (L : Nat) :
    ∀ (l : List α) (i : Nat), i + l.length = L →
    (∀ (j : Nat) s a, l[j]? = some a → Inv (i + j) s → (body (mk s ((i + j : Nat) : Int)) = some (match f (i + j) s a with | .inl s' => .inl (mk s' ((i + j + 1 : Nat) : Int)) | .inr r => .inr r)) ∧ ∀ s', f (i + j) s a = .inl s' → Inv (i + j + 1) s') →
    (∀ s, Inv L s → body (mk s (L : Int)) = some (.inr (fin s))) → ∀ {N : Nat}, l.length < N → ∀ {s0 : σ}, Inv i s0 → iter body N (mk s0 (i : Int)) = some (runL f fin i s0 l)
  | [], i, hL, _, he, N, hN, s0, h0 => by
    obtain ⟨M, rfl⟩ : ∃ M, N = M + 1 := ⟨N - 1, by simp at hN; omega⟩
    simp only [List.length_nil, Nat.add_zero] at hL
    subst hL
    exact iter_end (he s0 h0)
  | a :: l, i, hL, hb, he, N, hN, s0, h0 => by
    obtain ⟨M, rfl⟩ : ∃ M, N = M + 1 := ⟨N - 1, by simp at hN; omega⟩
    obtain ⟨h1, h2⟩ := hb 0 s0 a rfl h0
    simp only [Nat.add_zero] at h1 h2
    rw [runL]
    cases hf : f i s0 a with
    | inl s' =>
      rw [hf] at h1
      rw [iter_step h1]
      refine iter_from mk f fin Inv L l (i + 1) (by simp only [List.length_cons] at hL; omega) (fun j s b hj hs => ?_) he (by simp only [List.length_cons] at hN; omega) (h2 s' hf)
      have := hb (j + 1) s b (by simpa using hj) (by rw [show i + (j + 1) = i + 1 + j by omega]; exact hs)
      rw [show i + (j + 1) = i + 1 + j by omega] at this
      exact this
    | inr r =>
      rw [hf] at h1
      exact iter_end h1
theorem iter_list {body : τ → Option (τ ⊕ ρ)} (mk : σ → Int → τ) (s0 : σ) (l : List α) (f : Nat → σ → α → σ ⊕ ρ) (fin : σ → ρ) (Inv : Nat → σ → Prop)
    (hb : ∀ (i : Nat) s a, l[i]? = some a → Inv i s → (body (mk s (i : Int)) = some (match f i s a with | .inl s' => .inl (mk s' ((i + 1 : Nat) : Int)) | .inr r => .inr r)) ∧ ∀ s', f i s a = .inl s' → Inv (i + 1) s')
    (he : ∀ s, Inv l.length s → body (mk s (l.length : Int)) = some (.inr (fin s))) {N : Nat} (hN : l.length < N) (h0 : Inv 0 s0) : iter body N (mk s0 0) = some (runL f fin 0 s0 l) := by
  have := iter_from (body := body) mk f fin Inv l.length l 0 (by simp) (fun j s a hj hs => by
    have := hb j s a hj (by simpa using hs)
    simpa using this) he hN h0
  simpa using this
theorem runL_fold {g : σ → α → σ} {fin : σ → ρ} : ∀ (l : List α) (i : Nat) (s : σ), runL (fun _ s a => .inl (g s a)) fin i s l = fin (l.foldl g s)
  | [], _, _ => rfl
  | a :: l, i, s => by rw [runL]; exact runL_fold l (i + 1) (g s a)
theorem runL_any {p : α → Bool} {x y : ρ} : ∀ (l : List α) (i : Nat), runL (fun _ (_ : Unit) a => if p a then .inr x else .inl ()) (fun _ => y) i () l = if l.any p then x else y
  | [], _ => rfl
  | a :: l, i => by
    rw [runL]
    cases hp : p a with
    | true => simp [hp]
    | false => simp only [hp, List.any_cons, Bool.false_or]; exact runL_any l (i + 1)
theorem runL_all {p : α → Bool} {x y : ρ} : ∀ (l : List α) (i : Nat), runL (fun _ (_ : Unit) a => if p a then .inl () else .inr x) (fun _ => y) i () l = if l.all p then y else x
  | [], _ => rfl
  | a :: l, i => by
    rw [runL]
    cases hp : p a with
    | true => simp only [hp, List.all_cons, Bool.true_and]; exact runL_all l (i + 1)
    | false => simp [hp]
theorem runL_map {g : α → σ} : ∀ (l : List α) (i : Nat) (s : List σ), runL (fun _ s a => .inl (s ++ [g a])) (fun s => (s : List σ)) i s l = s ++ l.map g
  | [], _, _ => by simp [runL]
  | a :: l, i, s => by rw [runL]; simp only; rw [runL_map l (i + 1)]; simp
theorem runL_filter {p : α → Bool} : ∀ (l : List α) (i : Nat) (s : List α), runL (fun _ s a => .inl (if p a then s ++ [a] else s)) (fun s => (s : List α)) i s l = s ++ l.filter p
  | [], _, _ => by simp [runL]
  | a :: l, i, s => by
    rw [runL]; simp only; rw [runL_filter l (i + 1)]
    cases hp : p a <;> simp [hp]
end
theorem getI {α : Type} [Inhabited α] {l : List α} {i : Nat} {a : α} (h : l[i]? = some a) : l[i]! = a ∧ i < l.length := by
  obtain ⟨h1, h2⟩ := List.getElem?_eq_some_iff.1 h
  exact ⟨by rw [getElem!_pos l i h1, h2], h1⟩
theorem toNat_nat {i : Nat} : ((i : Int)).toNat = i := rfl
end Go.Aw
namespace Go.Proofs.Inc
open Go.Aw
mutual
def isz : Item → Nat
  | ⟨_, _, _, _, _, _, _, _, _, _, _, _, _, _, _, _, _, _, _, _, _, l⟩ => 1 + iszl l
def iszl : List Item → Nat
  | [] => 0
  | x :: l => isz x + iszl l
end
theorem isz_eq (x : Item) : isz x = 1 + iszl x.Items := by cases x; rw [isz]
theorem iszl_nil : iszl [] = 0 := by rw [iszl]
theorem iszl_cons (x : Item) (l : List Item) : iszl (x :: l) = 1 + iszl x.Items + iszl l := by rw [iszl, isz_eq]
theorem iszl_app (l m : List Item) : iszl (l ++ m) = iszl l + iszl m := by
  induction l with
  | nil => simp [iszl_nil]
  | cons x l ih => rw [List.cons_append, iszl_cons, iszl_cons, ih]; omega
theorem iszl_len (l : List Item) : l.length ≤ iszl l := by
  induction l with
  | nil => simp
  | cons x l ih => rw [iszl_cons, List.length_cons]; omega
theorem iszl_mem {x : Item} {l : List Item} (h : x ∈ l) : 1 + iszl x.Items ≤ iszl l := by
  induction l with
  | nil => cases h
  | cons y l ih =>
    rw [iszl_cons]
    rcases List.mem_cons.1 h with rfl | h
    · omega
    · have := ih h; omega
abbrev Lim (f : List Item → Int → Option Int) (l : List Item) (lim : Nat) : Prop :=
  ∃ t : Nat, f l (lim : Int) = some (t : Int) ∧ t ≤ iszl l ∧ (iszl l ≤ lim → t = iszl l) ∧ (lim < iszl l → lim < t)
theorem s24_loop (N : Nat) (l : List Item) (lim : Nat) (hl : lim ≤ 1099511627776) (hs : iszl l ≤ 1099511627776) (ih : ∀ x, x ∈ l → ∀ k, k ≤ lim → Lim (s24 N) x.Items k) :
    ∀ (l' : List Item) (i n : Nat), l.drop i = l' → n ≤ lim → n + iszl l' ≤ iszl l → ∀ M, l'.length < M →
      ∃ t : Nat, iter (fun p => s24_b1 N l lim (s24 N) p.1 p.2) M ((n : Int), (i : Int)) = some (t : Int) ∧ t ≤ n + iszl l' ∧ (n + iszl l' ≤ lim → t = n + iszl l') ∧ (lim < n + iszl l' → lim < t)
  | [], i, n, hd, hn, hsz, M, hM => by
    obtain ⟨M, rfl⟩ : ∃ k, M = k + 1 := ⟨M - 1, by simp at hM; omega⟩
    have hi : l.length ≤ i := List.drop_eq_nil_iff.1 hd
    refine ⟨n, iter_end ?_, by simp [iszl_nil], by simp [iszl_nil], by simp [iszl_nil]; try omega⟩
    simp only [s24_b1]
    rw [if_neg (by omega)]
  | x :: l', i, n, hd, hn, hsz, M, hM => by
    obtain ⟨M, rfl⟩ : ∃ k, M = k + 1 := ⟨M - 1, by simp at hM; omega⟩
    have hi : l[i]? = some x := by rw [← List.head?_drop, hd]; rfl
    obtain ⟨hx, hlt⟩ := getI hi
    have hmem : x ∈ l := List.mem_of_getElem? hi
    obtain ⟨t, ht, h1, h2, h3⟩ := ih x hmem (lim - n) (by omega)
    have hm := iszl_mem hmem
    rw [iszl_cons] at hsz ⊢
    have hcast : ((lim : Int) - (n : Int)) = ((lim - n : Nat) : Int) := by omega
    have hb : s24_b1 N l lim (s24 N) (n : Int) (i : Int) = if (lim : Int) < ((n + 1 + t : Nat) : Int) then some (.inr ((n + 1 + t : Nat) : Int)) else some (.inl (((n + 1 + t : Nat) : Int), ((i + 1 : Nat) : Int))) := by
      simp only [s24_b1]
      have hlt2 : i + 1 ≤ iszl l := Nat.le_trans hlt (iszl_len l)
      rw [if_pos (by omega), grd_pos (by omega), toNat_nat, hx, hcast, wr (by omega) (by omega), ht]
      simp only [Option.bind_some]
      rw [wr (n := 1 + (t : Int)) (by omega) (by omega), wr (by omega) (by omega), wr_succ (by omega), show (n : Int) + (1 + (t : Int)) = ((n + 1 + t : Nat) : Int) by omega]
    by_cases hc : lim < n + 1 + t
    · refine ⟨n + 1 + t, iter_end (by simp only [hb]; rw [if_pos (by omega)]), by omega, by omega, by omega⟩
    · obtain ⟨t', e1, e2, e3, e4⟩ := s24_loop N l lim hl hs ih l' (i + 1) (n + 1 + t) (by rw [← List.drop_drop, hd]; rfl) (by omega) (by omega) M (by simp at hM; omega)
      refine ⟨t', by rw [iter_step (s' := (((n + 1 + t : Nat) : Int), ((i + 1 : Nat) : Int))) (by simp only [hb]; rw [if_neg (by omega)])]; exact e1, by omega, by omega, by omega⟩
theorem s24_lim : ∀ (N : Nat) (l : List Item) (lim : Nat), iszl l + 1 < N → lim ≤ 1099511627776 → iszl l ≤ 1099511627776 → Lim (s24 N) l lim
  | 0, l, lim, h, _, _ => by omega
  | N + 1, l, lim, h, hl, hs => by
    obtain ⟨t, e1, e2, e3, e4⟩ := s24_loop N l lim hl hs (fun x hx k hk => by
      have := iszl_mem hx
      exact s24_lim N x.Items k (by omega) (by omega) (by omega)) l 0 0 rfl (by omega) (by omega) N (by have := iszl_len l; omega)
    refine ⟨t, ?_, by omega, by omega, by omega⟩
    simp only [s24, s24_body]
    rw [show ((0 : Int), (0 : Int)) = (((0 : Nat) : Int), ((0 : Nat) : Int)) by rfl, e1]
    rfl
theorem s22_loop (N : Nat) (l : List Item) (lim : Nat) (hl : lim ≤ 1099511627776) (hs : iszl l ≤ 1099511627776) (ih : ∀ x, x ∈ l → ∀ k, k ≤ lim → Lim (s22 N) x.Items k) :
    ∀ (l' : List Item) (i n : Nat), l.drop i = l' → n + iszl l' ≤ iszl l → ∀ M, l'.length < M →
      ∃ t : Nat, iter (fun p => s22_b1 N l lim (s22 N) p.1 p.2) M ((n : Int), (i : Int)) = some (t : Int) ∧ t ≤ n + iszl l' ∧ (n + iszl l' ≤ lim → t = n + iszl l') ∧ (lim < n + iszl l' → lim < t)
  | [], i, n, hd, hsz, M, hM => by
    obtain ⟨M, rfl⟩ : ∃ k, M = k + 1 := ⟨M - 1, by simp at hM; omega⟩
    have hi : l.length ≤ i := List.drop_eq_nil_iff.1 hd
    refine ⟨n, iter_end ?_, by simp [iszl_nil], by simp [iszl_nil], by simp [iszl_nil]⟩
    simp only [s22_b1]
    rw [if_neg (by omega)]
  | x :: l', i, n, hd, hsz, M, hM => by
    obtain ⟨M, rfl⟩ : ∃ k, M = k + 1 := ⟨M - 1, by simp at hM; omega⟩
    have hi : l[i]? = some x := by rw [← List.head?_drop, hd]; rfl
    obtain ⟨hx, hlt⟩ := getI hi
    have hmem : x ∈ l := List.mem_of_getElem? hi
    have hm := iszl_mem hmem
    rw [iszl_cons] at hsz ⊢
    by_cases hn : n ≤ lim
    · obtain ⟨t, ht, h1, h2, h3⟩ := ih x hmem (lim - n) (by omega)
      have hcast : ((lim : Int) - (n : Int)) = ((lim - n : Nat) : Int) := by omega
      have hb : s22_b1 N l lim (s22 N) (n : Int) (i : Int) = some (.inl (((n + 1 + t : Nat) : Int), ((i + 1 : Nat) : Int))) := by
        simp only [s22_b1]
        have hlt2 : i + 1 ≤ iszl l := Nat.le_trans hlt (iszl_len l)
        rw [if_pos (by omega), if_pos (by omega), grd_pos (by omega), toNat_nat, hx, hcast, wr (by omega) (by omega), ht]
        simp only [Option.bind_some]
        rw [wr_succ (i := n) (by omega), wr (by omega) (by omega), wr_succ (by omega)]
        rfl
      obtain ⟨t', e1, e2, e3, e4⟩ := s22_loop N l lim hl hs ih l' (i + 1) (n + 1 + t) (by rw [← List.drop_drop, hd]; rfl) (by omega) M (by simp at hM; omega)
      refine ⟨t', by rw [iter_step (s' := (((n + 1 + t : Nat) : Int), ((i + 1 : Nat) : Int))) (by simp only [hb])]; exact e1, by omega, by omega, by omega⟩
    · refine ⟨n, iter_end ?_, by omega, by omega, by omega⟩
      simp only [s22_b1]
      rw [if_pos (by omega), if_neg (by omega)]
theorem s22_lim : ∀ (N : Nat) (l : List Item) (lim : Nat), iszl l + 1 < N → lim ≤ 1099511627776 → iszl l ≤ 1099511627776 → Lim (s22 N) l lim
  | 0, l, lim, h, _, _ => by omega
  | N + 1, l, lim, h, hl, hs => by
    obtain ⟨t, e1, e2, e3, e4⟩ := s22_loop N l lim hl hs (fun x hx k hk => by
      have := iszl_mem hx
      exact s22_lim N x.Items k (by omega) (by omega) (by omega)) l 0 0 rfl (by omega) N (by have := iszl_len l; omega)
    refine ⟨t, ?_, by omega, by omega, by omega⟩
    simp only [s22, s22_body]
    rw [show ((0 : Int), (0 : Int)) = (((0 : Nat) : Int), ((0 : Nat) : Int)) by rfl, e1]
    rfl
theorem s23_def : ∀ (N : Nat) (l : List Item), iszl l + 1 < N → iszl l ≤ 1099511627776 → ∃ b, s23 N l = some b
  | 0, l, h, _ => by omega
  | N + 1, l, h, hs => by
    have hrec : ∀ x, x ∈ l → ∃ b, s23 N x.Items = some b := fun x hx => by
      have := iszl_mem hx
      exact s23_def N x.Items (by omega) (by omega)
    have hb : iter (fun p => s23_b1 N l (s23 N) p) N 0 = some _ := iter_list (fun (_ : Unit) i => i) () l
      (fun _ _ a => if 30 < a.Names.length ∨ 30 < a.Conds.length ∨ 30 < a.Dates.length ∨ 100 < a.Name.length ∨ s23 N a.Items = some false then .inr (.ret false) else .inl ()) (fun _ => .brk ()) (fun _ _ => True) (fun i s a hi _ => by
        obtain ⟨ha, hlt⟩ := getI hi
        obtain ⟨b, hb⟩ := hrec a (List.mem_of_getElem? hi)
        have := Nat.le_trans hlt (iszl_len l)
        refine ⟨?_, fun _ _ => trivial⟩
        simp only [s23_b1]
        rw [if_pos (by omega), grd_pos (by omega), toNat_nat, ha, hb, wr_succ (by omega)]
        simp only [Option.bind_some]
        by_cases h1 : 30 < a.Names.length
        · simp [h1, show (30 : Int) < a.Names.length by omega]
        by_cases h2 : 30 < a.Conds.length
        · simp [h1, h2, show (30 : Int) < a.Conds.length by omega]
        by_cases h3 : 30 < a.Dates.length
        · simp [h1, h2, h3, show (30 : Int) < a.Dates.length by omega]
        by_cases h4 : 100 < a.Name.length
        · simp [h1, h2, h3, h4, show (100 : Int) < a.Name.length by omega]
        rw [if_neg (by omega), if_neg (by omega), if_neg (by omega), if_neg (by omega)]
        cases b <;> simp [h1, h2, h3, h4]) (fun s _ => by
        simp only [s23_b1]
        rw [if_neg (by omega)]) (by have := iszl_len l; omega) trivial
    simp only [s23, s23_body]
    rw [hb]
    simp only [Option.bind_some]
    generalize runL _ _ 0 () l = o
    cases o with
    | brk a => exact ⟨true, rfl⟩
    | ret b => exact ⟨b, rfl⟩
theorem s10_def {N : Nat} {s : Source} {lim : Nat} (h : iszl s.Items + 1 < N) (hl : lim ≤ 1099511627776) (hs : iszl s.Items ≤ 1099511627776) : ∃ b, s10 N s lim = some b ∧ (b = true → iszl s.Items ≤ lim) := by
  obtain ⟨t, e1, e2, e3, e4⟩ := s22_lim N s.Items lim h hl hs
  obtain ⟨b, hb⟩ := s23_def N s.Items h hs
  simp only [s10]
  rw [e1]
  simp only [Option.bind_some, hb]
  by_cases hc : (t : Int) ≤ (lim : Int)
  · rw [if_pos hc]
    exact ⟨b, rfl, fun _ => by omega⟩
  · rw [if_neg hc]
    exact ⟨false, rfl, fun h => by cases h⟩
end Go.Proofs.Inc
namespace Go.Proofs.Inc
open Go.Aw
abbrev Str := List UInt8
def NB : Nat := 4194304
theorem runL_find {α ρ : Type} {p : α → Bool} {g : Nat → ρ} {y : ρ} : ∀ (l : List α) (i : Nat), runL (fun i (_ : Unit) a => if p a then .inr (g i) else .inl ()) (fun _ => y) i () l = match l.findIdx? p with | some j => g (i + j) | none => y
  | [], i => by simp [runL]
  | a :: l, i => by
    rw [runL, List.findIdx?_cons]
    cases hp : p a with
    | true => simp
    | false =>
      simp only [Bool.false_eq_true, if_false]
      rw [runL_find l (i + 1)]
      cases l.findIdx? p with
      | none => rfl
      | some j => simp only [Option.map_some]; rw [show i + 1 + j = i + (j + 1) by omega]
def find (l : List Str) (n : Str) : Option Nat := l.findIdx? (fun a => decide (n = a))
theorem find_lt {l : List Str} {n : Str} {i : Nat} (h : find l n = some i) : i < l.length := by
  unfold find at h
  exact (List.findIdx?_eq_some_iff_getElem.1 h).1
theorem s38_eq {N : Nat} {l : List Str} {n : Str} (hN : l.length < N) (hl : l.length ≤ NB) : s38 N l n = some (match find l n with | some i => (i : Int) | none => -1) := by
  have hb : iter (fun p => s38_b1 N l n p) N 0 = some _ := iter_list (fun (_ : Unit) i => i) () l (fun i _ a => if decide (n = a) then .inr (.ret (i : Int)) else .inl ()) (fun _ => .brk ()) (fun _ _ => True) (fun i s a hi _ => by
    obtain ⟨ha, hlt⟩ := getI hi
    refine ⟨?_, fun _ _ => trivial⟩
    simp only [s38_b1, NB] at *
    rw [if_pos (by omega), grd_pos (by omega), toNat_nat, ha, wr_succ (by omega)]
    by_cases h : n = a <;> simp [h]) (fun s _ => by
    simp only [s38_b1]
    rw [if_neg (by omega)]) hN trivial
  simp only [s38]
  rw [hb, runL_find]
  simp only [Option.bind_some, find]
  cases l.findIdx? (fun a => decide (n = a)) with
  | none => rfl
  | some j => simp [Ou.on]
theorem s33_eq {N : Nat} {l : List Str} {n : Str} (hN : l.length < N) (hl : l.length ≤ NB) : s33 N l n = some (find l n).isSome := by
  simp only [s33]
  rw [s38_eq hN hl]
  cases find l n <;> simp
def hit (l : List Str) (s : Str) : Bool := decide (s ≠ []) && (find l s).isSome
def rep (l args : List Str) (s : Str) : Str := if s = [] then s else match find l s with | some i => args[i]! | none => s
theorem rep_miss {l args : List Str} {s : Str} (h : hit l s = false) : rep l args s = s := by
  unfold hit at h
  unfold rep
  by_cases hs : s = []
  · simp [hs]
  · rw [if_neg hs]
    cases hf : find l s with
    | none => rfl
    | some i => simp [hs, hf] at h
theorem rep_gen {β : Type} {N : Nat} {l args : List Str} (s : Str) (x : β) (F : Str → β) (hN : l.length < N) (hl : l.length ≤ NB) (ha : l.length = args.length) (hF : F s = x) :
    ((s38 N l s).bind fun x1 => if s = [] then some (false, x) else if x1 < 0 then some (false, x) else grd (0 ≤ x1 ∧ x1 < (List.length args : Int)) (some (true, F (args[x1.toNat]!)))) = some (hit l s, F (rep l args s)) := by
  rw [s38_eq hN hl]
  simp only [Option.bind_some, hit, rep]
  by_cases hs : s = []
  · simp [hs, ← hF]
  · rw [if_neg hs, if_neg hs]
    cases hf : find l s with
    | none => simp [hs, hF]
    | some i =>
      have := find_lt hf
      simp only [hs]
      rw [if_neg (by omega), grd_pos (by omega), toNat_nat]
      simp [hs]
theorem s39_1e {N : Nat} {t u y : Item} (hN : t.Names.length < N) (hl : t.Names.length ≤ NB) (ha : t.Names.length = u.Names.length) : s39 N y t u = some (hit t.Names y.Of, { y with Of := rep t.Names u.Names y.Of }) := rep_gen y.Of y (fun v => { y with Of := v }) hN hl ha (by cases y; rfl)
theorem s39_2e {N : Nat} {t u y : Item} (hN : t.Names.length < N) (hl : t.Names.length ≤ NB) (ha : t.Names.length = u.Names.length) : s39_2 N y t u = some (hit t.Names y.Act, { y with Act := rep t.Names u.Names y.Act }) := rep_gen y.Act y (fun v => { y with Act := v }) hN hl ha (by cases y; rfl)
theorem s39_3e {N : Nat} {t u y : Item} (hN : t.Names.length < N) (hl : t.Names.length ≤ NB) (ha : t.Names.length = u.Names.length) : s39_3 N y t u = some (hit t.Names y.By, { y with By := rep t.Names u.Names y.By }) := rep_gen y.By y (fun v => { y with By := v }) hN hl ha (by cases y; rfl)
theorem s39_4e {N : Nat} {t u y : Item} (hN : t.Names.length < N) (hl : t.Names.length ≤ NB) (ha : t.Names.length = u.Names.length) : s39_4 N y t u = some (hit t.Names y.Until, { y with Until := rep t.Names u.Names y.Until }) := rep_gen y.Until y (fun v => { y with Until := v }) hN hl ha (by cases y; rfl)
theorem s39_5e {N : Nat} {t u y : Item} (hN : t.Names.length < N) (hl : t.Names.length ≤ NB) (ha : t.Names.length = u.Names.length) : s39_5 N y t u = some (hit t.Names y.Unit, { y with Unit := rep t.Names u.Names y.Unit }) := rep_gen y.Unit y (fun v => { y with Unit := v }) hN hl ha (by cases y; rfl)
theorem s39_6e {N : Nat} {t u y : Item} (hN : t.Names.length < N) (hl : t.Names.length ≤ NB) (ha : t.Names.length = u.Names.length) : s39_6 N y t u = some (hit t.Names y.Sum, { y with Sum := rep t.Names u.Names y.Sum }) := rep_gen y.Sum y (fun v => { y with Sum := v }) hN hl ha (by cases y; rfl)
theorem s39_7e {N : Nat} {t u y : Item} (hN : t.Names.length < N) (hl : t.Names.length ≤ NB) (ha : t.Names.length = u.Names.length) : s39_7 N y t u = some (hit t.Names y.To, { y with To := rep t.Names u.Names y.To }) := rep_gen y.To y (fun v => { y with To := v }) hN hl ha (by cases y; rfl)
theorem s39_8e {N : Nat} {t u y : Item} (hN : t.Names.length < N) (hl : t.Names.length ≤ NB) (ha : t.Names.length = u.Names.length) : s39_8 N y t u = some (hit t.Names y.Within.Name, { y with Within := { y.Within with Name := rep t.Names u.Names y.Within.Name } }) := rep_gen y.Within.Name y (fun v => { y with Within := { y.Within with Name := v } }) hN hl ha (by cases y; rfl)
theorem s39_9e {N : Nat} {t u y : Item} (hN : t.Names.length < N) (hl : t.Names.length ≤ NB) (ha : t.Names.length = u.Names.length) : s39_9 N y t u = some (hit t.Names y.Grace.Name, { y with Grace := { y.Grace with Name := rep t.Names u.Names y.Grace.Name } }) := rep_gen y.Grace.Name y (fun v => { y with Grace := { y.Grace with Name := v } }) hN hl ha (by cases y; rfl)
theorem s39_10e {N : Nat} {t u : Item} (hN : t.Names.length < N) (hl : t.Names.length ≤ NB) (ha : t.Names.length = u.Names.length) {l : List Named} {i : Nat} (hi : i < l.length) : s39_10 N l i t u = some (hit t.Names (l[i]!).Name, l.set i { l[i]! with Name := rep t.Names u.Names (l[i]!).Name }) := by
  refine rep_gen (l[i]!).Name l (fun v => l.set i { l[i]! with Name := v }) hN hl ha ?_
  show l.set i l[i]! = l
  rw [getElem!_pos l i hi, List.set_getElem_self]
theorem s39_11e {N : Nat} {t u : Item} (hN : t.Names.length < N) (hl : t.Names.length ≤ NB) (ha : t.Names.length = u.Names.length) {l : List Str} {i : Nat} (hi : i < l.length) : s39_11 N l i t u = some (hit t.Names (l[i]!), l.set i (rep t.Names u.Names (l[i]!))) := by
  refine rep_gen (l[i]!) l (fun v => l.set i v) hN hl ha ?_
  rw [getElem!_pos l i hi, List.set_getElem_self]
def clause (k : Int) : Bool := decide (9 ≤ k ∧ k ≤ 12)
theorem s35_eq {N : Nat} {k : Int} : s35 N k = some (clause k) := by
  simp only [s35, clause]
  by_cases h : 9 ≤ k <;> simp [h]
def defines (k : Int) : Bool := decide (k = 13 ∨ k = 6 ∨ k = 7)
end Go.Proofs.Inc
namespace Go.Proofs.Inc
open Go.Aw
theorem indexByte_lt (c : UInt8) : ∀ (l : List UInt8), -1 ≤ Lib.indexByte l c ∧ Lib.indexByte l c < (l.length : Int)
  | [] => by simp [Lib.indexByte]
  | b :: l => by
    have := indexByte_lt c l
    simp only [Lib.indexByte, List.length_cons]
    split
    · omega
    · split
      · omega
      · rename_i h; simp at h; omega
def cutd (n : Str) : Str × Str × Bool := if 0 ≤ Lib.indexByte n 46 then (n.take (Lib.indexByte n 46).toNat, n.drop (Lib.indexByte n 46 + 1).toNat, true) else (n, [], false)
theorem s43_eq {N : Nat} {n : Str} (h : n.length ≤ 1099511627776) : s43 N n = some (cutd n) := by
  have := indexByte_lt 46 n
  simp only [s43, s46, Option.bind_some, cutd]
  by_cases h0 : 0 ≤ Lib.indexByte n 46
  · rw [if_pos h0, grd_pos (by omega), grd_pos ⟨by rw [wr (by omega) (by omega)]; omega, by rw [wr (by omega) (by omega)]; omega⟩, wr (by omega) (by omega), if_pos h0]
    rfl
  · rw [if_neg h0, if_neg h0]
    rfl
def means (n : Str) (y : Item) : Bool := (clause y.Kind && decide (y.Name = n)) || (decide (y.Kind = 14) && (cutd n).2.2 && decide (y.Name = (cutd n).1))
def loc (t : Item) (n : Str) : Bool := t.Items.any (means n)
theorem s45_eq {N : Nat} {y : Item} {n : Str} : s45 N y n (cutd n).2.2 (cutd n).1 = some (means n y) := by
  simp only [s45, s35_eq, Option.bind_some, means]
  cases clause y.Kind <;> cases (cutd n).2.2 <;> by_cases h1 : y.Name = n <;> by_cases h2 : y.Kind = 14 <;> simp [h1, h2]
theorem s41_eq {N : Nat} {t : Item} {n : Str} (hn : n.length ≤ 1099511627776) (hN : t.Items.length < N) (hl : t.Items.length ≤ NB) : s41 N t n = some (loc t n) := by
  have hb : iter (fun p => s47_b1 N t.Items n (cutd n).2.2 (cutd n).1 p) N 0 = some _ := iter_list (fun (_ : Unit) i => i) () t.Items (fun i _ a => if means n a then .inr (.ret (i : Int)) else .inl ()) (fun _ => .brk ()) (fun _ _ => True) (fun i s a hi _ => by
    obtain ⟨ha, hlt⟩ := getI hi
    refine ⟨?_, fun _ _ => trivial⟩
    simp only [s47_b1, NB] at *
    rw [if_pos (by omega), grd_pos (by omega), toNat_nat, ha, wr_succ (by omega), s45_eq]
    cases means n a <;> simp) (fun s _ => by
    simp only [s47_b1]
    rw [if_neg (by omega)]) hN trivial
  simp only [s41, s43_eq hn, Option.bind_some, s44, s47]
  rw [hb, runL_find]
  simp only [Option.bind_some, loc]
  have hany : t.Items.any (means n) = (t.Items.findIdx? (means n)).isSome := by rw [List.findIdx?_isSome]
  rw [hany]
  cases t.Items.findIdx? (means n) with
  | none => rfl
  | some j => simp [Ou.on]
theorem runL_set {α ρ : Type} {g : α → α} {fin : List α → ρ} : ∀ (l pre : List α), runL (fun i s (a : α) => .inl (s.set i (g a))) fin pre.length (pre ++ l) l = fin (pre ++ l.map g)
  | [], pre => by simp [runL]
  | a :: l, pre => by
    rw [runL]
    simp only [List.set_append_right pre.length (g a) (Nat.le_refl _), Nat.sub_self, List.set_cons_zero]
    have := runL_set (g := g) (fin := fin) l (pre ++ [g a])
    simpa using this
def MapInv {α : Type} (g : α → α) (l : List α) (i : Nat) (s : List α) : Prop := s = (l.take i).map g ++ l.drop i
theorem mapInv_get {α : Type} [Inhabited α] {g : α → α} {l s : List α} {i : Nat} {a : α} (h : l[i]? = some a) (hs : MapInv g l i s) : s[i]! = a ∧ s.length = l.length ∧ MapInv g l (i + 1) (s.set i (g a)) := by
  obtain ⟨h1, h2⟩ := List.getElem?_eq_some_iff.1 h
  unfold MapInv at hs ⊢
  subst hs
  have hlen : ((l.take i).map g).length = i := by simp; omega
  refine ⟨?_, by simp; omega, ?_⟩
  · rw [getElem!_pos _ i (by simp; omega), List.getElem_append_right (by omega)]
    simp only [hlen, List.getElem_drop]
    simp only [Nat.sub_self, Nat.add_zero]
    exact h2
  · rw [List.set_append_right _ _ (by omega), hlen, Nat.sub_self, List.drop_eq_getElem_cons h1, List.set_cons_zero, List.take_succ_eq_append_getElem h1, List.map_append]
    simp [h2]
def cnd (t u : Item) (c : Named) : Named := if hit t.Names c.Name then { c with Name := rep t.Names u.Names c.Name } else if loc t c.Name then { c with Name := (u.Name ++ [46]) ++ c.Name } else c
def inst (t u y : Item) : Item :=
  if clause y.Kind then { y with Of := rep t.Names u.Names y.Of, Act := rep t.Names u.Names y.Act, By := rep t.Names u.Names y.By, Until := rep t.Names u.Names y.Until, Unit := rep t.Names u.Names y.Unit, Sum := rep t.Names u.Names y.Sum, To := rep t.Names u.Names y.To, Within := { y.Within with Name := rep t.Names u.Names y.Within.Name }, Grace := { y.Grace with Name := rep t.Names u.Names y.Grace.Name }, Conds := y.Conds.map (cnd t u), Name := (u.Name ++ [46]) ++ y.Name, At := u.At }
  else if y.Kind = 14 then { y with Names := y.Names.map (rep t.Names u.Names), Name := (u.Name ++ [46]) ++ y.Name, At := u.At }
  else { y with Name := (u.Name ++ [46]) ++ y.Name, At := u.At }
structure Bd (y : Item) : Prop where
  name : y.Name.length ≤ 1099511627776
  conds : y.Conds.length ≤ NB
  cname : ∀ c, c ∈ y.Conds → c.Name.length ≤ 1099511627776
  names : y.Names.length ≤ NB
theorem s34_eq {N : Nat} {t u y : Item} (hN : NB < N) (hl : t.Names.length ≤ NB) (hti : t.Items.length ≤ NB) (ha : t.Names.length = u.Names.length) (hu : u.Name.length ≤ 1099511627776) (hy : Bd y) : s34 N t u y = some (inst t u y) := by
  have hN' : t.Names.length < N := by omega
  have hadd : ∀ (n : Str), n.length ≤ 1099511627776 → List.length (u.Name ++ [46]) + List.length n ≤ 9223372036854775807 := fun n hn => by simp; omega
  simp only [s34, s35_eq, Option.bind_some]
  cases hc : clause y.Kind with
  | true =>
    simp only [cond_true]
    obtain ⟨y1, e1⟩ : ∃ z : Item, z = { y with Of := rep t.Names u.Names y.Of } := ⟨_, rfl⟩
    rw [s39_1e hN' hl ha, ← e1]
    simp only [Option.bind_some]
    obtain ⟨y2, e2⟩ : ∃ z : Item, z = { y1 with Act := rep t.Names u.Names y1.Act } := ⟨_, rfl⟩
    rw [s39_2e hN' hl ha, ← e2]
    simp only [Option.bind_some]
    obtain ⟨y3, e3⟩ : ∃ z : Item, z = { y2 with By := rep t.Names u.Names y2.By } := ⟨_, rfl⟩
    rw [s39_3e hN' hl ha, ← e3]
    simp only [Option.bind_some]
    obtain ⟨y4, e4⟩ : ∃ z : Item, z = { y3 with Until := rep t.Names u.Names y3.Until } := ⟨_, rfl⟩
    rw [s39_4e hN' hl ha, ← e4]
    simp only [Option.bind_some]
    obtain ⟨y5, e5⟩ : ∃ z : Item, z = { y4 with Unit := rep t.Names u.Names y4.Unit } := ⟨_, rfl⟩
    rw [s39_5e hN' hl ha, ← e5]
    simp only [Option.bind_some]
    obtain ⟨y6, e6⟩ : ∃ z : Item, z = { y5 with Sum := rep t.Names u.Names y5.Sum } := ⟨_, rfl⟩
    rw [s39_6e hN' hl ha, ← e6]
    simp only [Option.bind_some]
    obtain ⟨y7, e7⟩ : ∃ z : Item, z = { y6 with To := rep t.Names u.Names y6.To } := ⟨_, rfl⟩
    rw [s39_7e hN' hl ha, ← e7]
    simp only [Option.bind_some]
    obtain ⟨y8, e8⟩ : ∃ z : Item, z = { y7 with Within := { y7.Within with Name := rep t.Names u.Names y7.Within.Name } } := ⟨_, rfl⟩
    rw [s39_8e hN' hl ha, ← e8]
    simp only [Option.bind_some]
    obtain ⟨y9, e9⟩ : ∃ z : Item, z = { y8 with Grace := { y8.Grace with Name := rep t.Names u.Names y8.Grace.Name } } := ⟨_, rfl⟩
    rw [s39_9e hN' hl ha, ← e9]
    simp only [Option.bind_some]
    have eC : y9.Conds = y.Conds := by rw [e9, e8, e7, e6, e5, e4, e3, e2, e1]
    simp only [s34_k2, s40, eC]
    have hcl := hy.conds
    rw [grd_pos (by unfold NB at hcl; omega)]
    simp only [Option.bind_some]
    have hb : iter (fun p => s34_b1 N t u y.Conds p.1 p.2) N (y.Conds, 0) = some _ := iter_list (fun (s : List Named) i => (s, i)) y.Conds y.Conds (fun i s a => .inl (s.set i (cnd t u a))) (fun s => s) (MapInv (cnd t u) y.Conds) (fun i s a hi hs => by
      obtain ⟨ha', hlt⟩ := getI hi
      obtain ⟨h1, h2, h3⟩ := mapInv_get hi hs
      refine ⟨?_, fun s' e => by cases e; exact h3⟩
      have hlen : i < s.length := by omega
      simp only [s34_b1, NB] at *
      rw [if_pos (by omega), grd_pos (by omega), toNat_nat, s39_10e (by omega) (by unfold NB; omega) ha hlen, h1, wr_succ (by omega)]
      simp only [Option.bind_some, cnd]
      have hname := hy.cname a (List.mem_of_getElem? hi)
      cases hh : hit t.Names a.Name with
      | true => simp
      | false =>
        have hset : (s.set i { a with Name := rep t.Names u.Names a.Name }) = s := by
          rw [rep_miss hh]
          have : s[i]! = a := h1
          rw [getElem!_pos s i hlen] at this
          rw [← this, List.set_getElem_self]
        have hset2 : s.set i a = s := by
          have : s[i]! = a := h1
          rw [getElem!_pos s i hlen] at this
          rw [← this, List.set_getElem_self]
        simp only [cond_false, hset, h1]
        rw [s41_eq (by omega) (by omega) (by unfold NB; omega)]
        simp only [Option.bind_some]
        cases hlo : loc t a.Name with
        | true =>
          simp only [cond_true]
          rw [grd_pos (by omega), grd_pos (hadd _ (by omega))]
          simp
        | false => simp [hset2]) (fun s hs => by
      simp only [s34_b1]
      rw [if_neg (by omega)]) (by omega) (by simp [MapInv])
    rw [hb]
    simp only [Option.bind_some]
    have eN : y9.Name = y.Name := by rw [e9, e8, e7, e6, e5, e4, e3, e2, e1]
    rw [grd_pos (by omega), eN, grd_pos (hadd _ hy.name)]
    have hrun := runL_set (g := cnd t u) (fin := fun s => s) y.Conds []
    simp only [List.nil_append, List.length_nil] at hrun
    rw [hrun]
    unfold inst
    rw [if_pos hc]
    subst e9 e8 e7 e6 e5 e4 e3 e2 e1
    rfl
  | false =>
    simp only [cond_false]
    by_cases h14 : y.Kind = 14
    · rw [if_pos h14]
      have hnl := hy.names
      simp only [s42]
      rw [grd_pos (by unfold NB at hnl; omega)]
      simp only [Option.bind_some]
      have hb : iter (fun p => s34_b3 N t u y.Names p.1 p.2) N (y.Names, 0) = some _ := iter_list (fun (s : List Str) i => (s, i)) y.Names y.Names (fun i s a => .inl (s.set i (rep t.Names u.Names a))) (fun s => s) (MapInv (rep t.Names u.Names) y.Names) (fun i s a hi hs => by
        obtain ⟨ha', hlt⟩ := getI hi
        obtain ⟨h1, h2, h3⟩ := mapInv_get hi hs
        refine ⟨?_, fun s' e => by cases e; exact h3⟩
        have hlen : i < s.length := by omega
        simp only [s34_b3, NB] at *
        rw [if_pos (by omega), grd_pos (by omega), toNat_nat, s39_11e (by omega) (by unfold NB; omega) ha hlen, h1, wr_succ (by omega)]
        simp) (fun s hs => by
        simp only [s34_b3]
        rw [if_neg (by omega)]) (by omega) (by simp [MapInv])
      rw [hb]
      simp only [Option.bind_some]
      rw [grd_pos (by omega), grd_pos (hadd _ hy.name)]
      have hrun := runL_set (g := rep t.Names u.Names) (fin := fun s => s) y.Names []
      simp only [List.nil_append, List.length_nil] at hrun
      rw [hrun]
      unfold inst
      rw [if_neg (by simp [hc]), if_pos h14]
    · rw [if_neg h14, grd_pos (by omega), grd_pos (hadd _ hy.name)]
      unfold inst
      rw [if_neg (by simp [hc]), if_neg h14]
end Go.Proofs.Inc
namespace Go.Proofs.Inc
open Go.Aw
structure Maps where
  t : List (Str × Item)
  s : List (Str × Span)
  m : List (Str × Item)
def dfn1 (M : Maps) (y : Item) : Option Item := if y.Within.Name = [] then some y else (mlook y.Within.Name M.s).map fun d => { y with Within := d }
def dfn2 (M : Maps) (y : Item) : Option Item := if y.Grace.Name = [] then some y else (mlook y.Grace.Name M.s).map fun d => { y with Grace := d }
def dfn3 (M : Maps) (y : Item) : Option Item := if y.Sum = [] then some y else (mlook y.Sum M.m).map fun d => { y with Num := d.Num, Unit := d.Unit, Sum := [] }
def dfn (M : Maps) (y : Item) : Option Item := ((dfn1 M y).bind (dfn2 M)).bind (dfn3 M)
theorem s36_eq {N : Nat} {M : Maps} {c : Int} {o : List Item} {q : List Str} {y : Item} : match dfn M y with
    | some z => s36 N M.t M.s M.m c o q y = some (true, z)
    | none => ∃ z, s36 N M.t M.s M.m c o q y = some (false, z) := by
  have h1 : ∀ x, match dfn3 M x with | some z => s36_k1 N M.m x = some (true, z) | none => ∃ z, s36_k1 N M.m x = some (false, z) := fun x => by
    simp only [dfn3, s36_k1]
    by_cases h : x.Sum = []
    · simp [h]
    · rw [if_neg h, if_neg h]
      cases mlook x.Sum M.m with
      | none => exact ⟨_, rfl⟩
      | some d => rfl
  have h2 : ∀ x, match (dfn2 M x).bind (dfn3 M) with | some z => s36_k3 N M.s M.m x = some (true, z) | none => ∃ z, s36_k3 N M.s M.m x = some (false, z) := fun x => by
    simp only [dfn2, s36_k3, s36_k2]
    by_cases h : x.Grace.Name = []
    · rw [if_pos h, if_pos h]; exact h1 x
    · rw [if_neg h, if_neg h]
      cases mlook x.Grace.Name M.s with
      | none => exact ⟨_, rfl⟩
      | some d => exact h1 _
  simp only [dfn, s36]
  unfold dfn1
  by_cases h : y.Within.Name = []
  · rw [if_pos h, if_pos h]; exact h2 y
  · rw [if_neg h, if_neg h]
    cases mlook y.Within.Name M.s with
    | none => exact ⟨_, rfl⟩
    | some d => exact h2 _
abbrev R := Int × Bool × Int × List Item × List Str
def add (M : Maps) (c : Int) (o : List Item) (q : List Str) (y : Item) (most : Int) : R :=
  if 600 < c + 1 then (3, true, c + 1, o, q)
  else if most < (y.Name.length : Int) then (3, false, c + 1, o, q)
  else if clause y.Kind then match dfn M y with
    | some z => (0, false, c + 1, o ++ [z], q)
    | none => (8, false, c + 1, o, q)
  else (0, false, c + 1, o ++ [y], q)
theorem s27_eq {N : Nat} {M : Maps} {c : Int} {o : List Item} {q : List Str} {y : Item} {most : Int} (h0 : 0 ≤ c) (h1 : c ≤ 1099511627776) (ho : o.length ≤ 1073741824) : s27 N M.t M.s M.m c o q y most = some (add M c o q y most) := by
  simp only [s27, s32, Option.bind_some, add]
  rw [wr (by omega) (by omega)]
  by_cases hc : 600 < c + 1
  · simp [hc]
  simp only [hc, decide_false, cond_false]
  by_cases hm : most < (y.Name.length : Int)
  · simp [hm]
  rw [if_neg hm, if_neg (by simp), if_neg hm, s35_eq]
  simp only [Option.bind_some]
  cases hk : clause y.Kind with
  | false =>
    simp only [cond_false, s27_k2, s27_k1, cond_true]
    rw [grd_pos (by omega)]
    simp
  | true =>
    simp only [cond_true]
    have := s36_eq (N := N) (M := M) (c := c + 1) (o := o) (q := q) (y := y)
    cases hd : dfn M y with
    | none =>
      rw [hd] at this
      obtain ⟨z, hz⟩ := this
      rw [hz]
      simp [s27_k2]
    | some z =>
      rw [hd] at this
      rw [this]
      simp only [Option.bind_some, s27_k2, s27_k1, Bool.not_true, cond_false, cond_true]
      rw [grd_pos (by omega)]
      simp
def stepI (inc : Int → List Item → List Str → Item → R) (M : Maps) (t u : Item) (s : Int × List Item × List Str) (a : Item) : (Int × List Item × List Str) ⊕ R :=
  if (inst t u a).Kind = 14 then
    (if (inc s.1 s.2.1 s.2.2 (inst t u a)).1 = 0 then .inl (inc s.1 s.2.1 s.2.2 (inst t u a)).2.2 else .inr (inc s.1 s.2.1 s.2.2 (inst t u a)))
  else if clause (inst t u a).Kind then
    (if (add M s.1 s.2.1 s.2.2 (inst t u a) 24).1 = 0 then .inl (add M s.1 s.2.1 s.2.2 (inst t u a) 24).2.2 else .inr (add M s.1 s.2.1 s.2.2 (inst t u a) 24))
  else .inr (1, false, s)
def incl (M : Maps) : Nat → Int → List Item → List Str → Item → R
  | 0, c, o, q, _ => (3, true, c + 1, o, q)
  | k + 1, c, o, q, u =>
    if 600 < c + 1 then (3, true, c + 1, o, q)
    else match mlook u.Of M.t with
      | none => (8, false, c + 1, o, q)
      | some t =>
        if t.Names.length ≠ u.Names.length then (1, false, c + 1, o, q)
        else if (find q u.Of).isSome then (12, false, c + 1, o, q)
        else if 24 < u.Name.length then (3, false, c + 1, o, q)
        else runL (fun _ s a => stepI (incl M k) M t u s a) (fun s => (0, false, s.1, s.2.1, s.2.2.take (s.2.2.length - 1))) 0 (c + 1, o, q ++ [u.Of]) t.Items
structure BdT (t : Item) : Prop where
  names : t.Names.length ≤ NB
  items : t.Items.length ≤ NB
  bd : ∀ y, y ∈ t.Items → Bd y
structure Far (c : Int) (o : List Item) (q : List Str) : Prop where
  c0 : 0 ≤ c
  o : (o.length : Int) ≤ c
  q : (q.length : Int) ≤ c
theorem inst_kind (t u y : Item) : (inst t u y).Kind = y.Kind := by
  unfold inst
  split
  · rfl
  · split <;> rfl
theorem add_far {M : Maps} {c : Int} {o : List Item} {q : List Str} {y : Item} {most : Int} (h : Far c o q) : (add M c o q y most).1 = 0 → ∃ o', (add M c o q y most).2.2 = (c + 1, o', q) ∧ Far (c + 1) o' q ∧ c + 1 ≤ 600 := by
  have h1 := h.c0
  have h2 := h.o
  have h3 := h.q
  unfold add
  by_cases hc : 600 < c + 1
  · rw [if_pos hc]; simp
  rw [if_neg hc]
  by_cases hm : most < (y.Name.length : Int)
  · rw [if_pos hm]; simp
  rw [if_neg hm]
  by_cases hk : clause y.Kind = true
  · rw [if_pos hk]
    cases dfn M y with
    | none => simp
    | some z => exact fun _ => ⟨_, rfl, ⟨by omega, by simp; omega, by omega⟩, by omega⟩
  · rw [if_neg hk]
    exact fun _ => ⟨_, rfl, ⟨by omega, by simp; omega, by omega⟩, by omega⟩
theorem runL_inv {α σ ρ : Type} {f : Nat → σ → α → σ ⊕ ρ} {fin : σ → ρ} {Inv : σ → Prop} {Q : ρ → Prop} : ∀ (l : List α), (∀ i s a, a ∈ l → Inv s → match f i s a with | .inl s' => Inv s' | .inr r => Q r) → (∀ s, Inv s → Q (fin s)) → ∀ (i : Nat) (s : σ), Inv s → Q (runL f fin i s l)
  | [], _, hf, i, s, hs => hf s hs
  | a :: l, h, hf, i, s, hs => by
    have h1 := h i s a (List.mem_cons_self ..) hs
    rw [runL]
    cases hfa : f i s a with
    | inl s' => rw [hfa] at h1; exact runL_inv l (fun i s b hb hs => h i s b (List.mem_cons_of_mem _ hb) hs) hf (i + 1) s' h1
    | inr r => rw [hfa] at h1; exact h1
theorem incl_far (M : Maps) : ∀ (k : Nat) (c : Int) (o : List Item) (q : List Str) (u : Item), Far c o q → (incl M k c o q u).1 = 0 → ∃ c' o', (incl M k c o q u).2.2 = (c', o', q) ∧ Far c' o' q ∧ c + 1 ≤ c' ∧ c' ≤ 600
  | 0, c, o, q, u, h, h0 => by simp [incl] at h0
  | k + 1, c, o, q, u, h, h0 => by
    have g1 := h.c0
    have g2 := h.o
    have g3 := h.q
    unfold incl at h0 ⊢
    by_cases hc : 600 < c + 1
    · rw [if_pos hc] at h0; simp at h0
    rw [if_neg hc] at h0 ⊢
    cases ht : mlook u.Of M.t with
    | none => rw [ht] at h0; simp at h0
    | some t =>
      rw [ht] at h0
      simp only at h0 ⊢
      by_cases hn : t.Names.length ≠ u.Names.length
      · rw [if_pos hn] at h0; simp at h0
      rw [if_neg hn] at h0 ⊢
      by_cases hq : (find q u.Of).isSome = true
      · rw [if_pos hq] at h0; simp at h0
      rw [if_neg hq] at h0 ⊢
      by_cases hm : 24 < u.Name.length
      · rw [if_pos hm] at h0; simp at h0
      rw [if_neg hm] at h0 ⊢
      refine runL_inv (Inv := fun (s : Int × List Item × List Str) => s.2.2 = q ++ [u.Of] ∧ Far s.1 s.2.1 s.2.2 ∧ c + 1 ≤ s.1 ∧ s.1 ≤ 600) (Q := fun (r : R) => r.1 = 0 → ∃ c' o', r.2.2 = (c', o', q) ∧ Far c' o' q ∧ c + 1 ≤ c' ∧ c' ≤ 600) t.Items (fun i s a _ hs => ?_) (fun s hs _ => ?_) 0 _ ⟨rfl, ⟨by simp only; omega, by simp only; omega, by simp; omega⟩, by simp only; omega, by simp only; omega⟩ h0
      · obtain ⟨h1, h2, h3, h4⟩ := hs
        unfold stepI
        by_cases hk : (inst t u a).Kind = 14
        · rw [if_pos hk]
          by_cases hr : (incl M k s.1 s.2.1 s.2.2 (inst t u a)).1 = 0
          · rw [if_pos hr]
            obtain ⟨c', o', e1, e2, e3, e4⟩ := incl_far M k s.1 s.2.1 s.2.2 _ h2 hr
            simp only [e1]
            exact ⟨h1, e2, by omega, e4⟩
          · rw [if_neg hr]
            exact fun h => absurd h hr
        · rw [if_neg hk]
          by_cases hcl : clause (inst t u a).Kind = true
          · rw [if_pos hcl]
            by_cases hr : (add M s.1 s.2.1 s.2.2 (inst t u a) 24).1 = 0
            · rw [if_pos hr]
              obtain ⟨o', e1, e2, e3⟩ := add_far h2 hr
              simp only [e1]
              exact ⟨h1, e2, by omega, e3⟩
            · rw [if_neg hr]
              exact fun h => absurd h hr
          · rw [if_neg hcl]
            simp
      · obtain ⟨h1, h2, h3, h4⟩ := hs
        refine ⟨s.1, s.2.1, by rw [h1]; simp, ⟨h2.c0, h2.o, ?_⟩, h3, h4⟩
        have := h2.q
        rw [h1] at this
        simp at this
        omega
theorem s26_eq (M : Maps) (hM : ∀ n t, mlook n M.t = some t → BdT t) : ∀ (k : Nat) (N : Nat) (c : Int) (o : List Item) (q : List Str) (u : Item), NB + 1 + k < N → Far c o q → 600 ≤ (k : Int) + c → c ≤ 600 → s26 N M.t M.s M.m c o q u = some (incl M k c o q u)
  | k, 0, c, o, q, u, hN, _, _, _ => by omega
  | 0, N + 1, c, o, q, u, hN, h, hk, hc => by
    have g1 := h.c0
    simp only [s26, s26_body, s32, Option.bind_some, incl]
    rw [wr (by omega) (by omega)]
    simp [show 600 < c + 1 by omega]
  | k + 1, N + 1, c, o, q, u, hN, h, hk, hc => by
    have g1 := h.c0
    have g2 := h.o
    have g3 := h.q
    simp only [s26, s26_body, s32, Option.bind_some, incl]
    rw [wr (by omega) (by omega)]
    by_cases hc1 : 600 < c + 1
    · simp [hc1]
    simp only [hc1, decide_false, cond_false]
    rw [if_neg (by simp)]
    cases ht : mlook u.Of M.t with
    | none => rfl
    | some t =>
      have hb := hM _ _ ht
      simp only [Option.elim_some]
      by_cases hn : t.Names.length = u.Names.length
      · rw [if_pos (show (t.Names.length : Int) = (u.Names.length : Int) by omega), if_neg (show ¬ (t.Names.length ≠ u.Names.length) by simpa using hn), s33_eq (by unfold NB at hN; omega) (by unfold NB; omega)]
        simp only [Option.bind_some]
        by_cases hq : (find q u.Of).isSome = true
        · rw [hq]; simp
        have hq' : (find q u.Of).isSome = false := by simpa using hq
        rw [hq']
        simp only [cond_false]
        by_cases hm : 24 < u.Name.length
        · rw [if_pos (show (24 : Int) < (u.Name.length : Int) by omega), if_pos hm]
          simp
        rw [if_neg (show ¬ (24 : Int) < (u.Name.length : Int) by omega), if_neg hm, grd_pos (by omega), if_neg (by simp)]
        have hit : iter (fun p => s26_b1 N M.t M.s M.m u t (s26 N) p.1 p.2.1 p.2.2.1 p.2.2.2) N (c + 1, o, q ++ [u.Of], 0) = some _ := iter_list (fun (s : Int × List Item × List Str) i => (s.1, s.2.1, s.2.2, i)) (c + 1, o, q ++ [u.Of]) t.Items (fun _ s a => match stepI (incl M k) M t u s a with | .inl s' => .inl s' | .inr r => .inr (.ret r)) (fun s => .brk s)
          (fun _ s => s.2.2 = q ++ [u.Of] ∧ Far s.1 s.2.1 s.2.2 ∧ c + 1 ≤ s.1 ∧ s.1 ≤ 600) (fun i s a hi hs => by
          obtain ⟨ha, hlt⟩ := getI hi
          obtain ⟨h1, h2, h3, h4⟩ := hs
          have hlen := hb.items
          have hy := hb.bd a (List.mem_of_getElem? hi)
          have f1 := h2.c0
          have f2 := h2.o
          have hrec : ∀ z, s26 N M.t M.s M.m s.1 s.2.1 s.2.2 z = some (incl M k s.1 s.2.1 s.2.2 z) := fun z => s26_eq M hM k N s.1 s.2.1 s.2.2 z (by omega) h2 (by omega) (by omega)
          have hadd : ∀ z, s27 N M.t M.s M.m s.1 s.2.1 s.2.2 z 24 = some (add M s.1 s.2.1 s.2.2 z 24) := fun z => s27_eq f1 (by omega) (by omega)
          constructor
          · simp only [s26_b1]
            rw [if_pos (by omega), grd_pos (by omega), toNat_nat, ha, wr_succ (by unfold NB at hlen; omega), s34_eq (by omega) hb.names hb.items hn (by omega) hy]
            simp only [Option.bind_some, hrec, s35_eq, hadd]
            unfold stepI
            by_cases hk : (inst t u a).Kind = 14
            · rw [if_pos hk, if_pos hk]
              by_cases hr : (incl M k s.1 s.2.1 s.2.2 (inst t u a)).1 = 0
              · rw [if_pos hr, if_pos hr]
              · rw [if_neg hr, if_neg hr]
            · rw [if_neg hk, if_neg hk]
              cases hcl : clause (inst t u a).Kind with
              | true =>
                simp only [cond_true, if_true]
                by_cases hr : (add M s.1 s.2.1 s.2.2 (inst t u a) 24).1 = 0
                · rw [if_pos hr, if_pos hr]
                · rw [if_neg hr, if_neg hr]
              | false => rfl
          · intro s' he
            unfold stepI at he
            by_cases hk : (inst t u a).Kind = 14
            · rw [if_pos hk] at he
              by_cases hr : (incl M k s.1 s.2.1 s.2.2 (inst t u a)).1 = 0
              · rw [if_pos hr] at he
                obtain ⟨c', o', e1, e2, e3, e4⟩ := incl_far M k s.1 s.2.1 s.2.2 _ h2 hr
                cases he
                simp only [e1]
                exact ⟨h1, e2, by omega, e4⟩
              · rw [if_neg hr] at he; cases he
            · rw [if_neg hk] at he
              by_cases hcl : clause (inst t u a).Kind = true
              · rw [if_pos hcl] at he
                by_cases hr : (add M s.1 s.2.1 s.2.2 (inst t u a) 24).1 = 0
                · rw [if_pos hr] at he
                  obtain ⟨o', e1, e2, e3⟩ := add_far h2 hr
                  cases he
                  simp only [e1]
                  exact ⟨h1, e2, by omega, e3⟩
                · rw [if_neg hr] at he; cases he
              · rw [if_neg hcl] at he; cases he) (fun s hs => by
          simp only [s26_b1]
          rw [if_neg (by omega)]) (by have := hb.items; omega) ⟨rfl, ⟨by simp only; omega, by simp only; omega, by simp; omega⟩, by simp only; omega, by simp only; omega⟩
        rw [hit]
        simp only [Option.bind_some]
        have hout : ∀ (l : List Item) (i : Nat) (s : Int × List Item × List Str), (s.2.2 = q ++ [u.Of] ∧ Far s.1 s.2.1 s.2.2 ∧ c + 1 ≤ s.1 ∧ s.1 ≤ 600) →
            (Ou.on (runL (fun _ s a => match stepI (incl M k) M t u s a with | .inl s' => .inl s' | .inr r => .inr (Ou.ret r)) (fun s => Ou.brk s) i s l) (fun a27 =>
            grd (0 < List.length a27.2.2) <|
            grd (0 ≤ IntKind.wrap .i64 ((List.length a27.2.2 : Int) - 1) ∧ IntKind.wrap .i64 ((List.length a27.2.2 : Int) - 1) ≤ (List.length a27.2.2 : Int)) <|
            some ((0 : Int), false, a27.1, a27.2.1, List.take (IntKind.wrap .i64 ((List.length a27.2.2 : Int) - 1)).toNat a27.2.2)) (fun a27r => some a27r))
            = some (runL (fun _ s a => stepI (incl M k) M t u s a) (fun s => (0, false, s.1, s.2.1, s.2.2.take (s.2.2.length - 1))) i s l) := by
          intro l
          induction l with
          | nil =>
            intro i s hs
            obtain ⟨h1, h2, h3, h4⟩ := hs
            have := h2.q
            have hl : 0 < s.2.2.length := by rw [h1]; simp
            simp only [runL, Ou.on]
            rw [wr (by omega) (by omega), grd_pos hl, grd_pos (by omega)]
            simp only [Option.some.injEq, Prod.mk.injEq, true_and]
            congr 1
            omega
          | cons a l ih =>
            intro i s hs
            rw [runL, runL]
            cases he : stepI (incl M k) M t u s a with
            | inr r => rfl
            | inl s' =>
              refine ih (i + 1) s' ?_
              obtain ⟨h1, h2, h3, h4⟩ := hs
              unfold stepI at he
              by_cases hk : (inst t u a).Kind = 14
              · rw [if_pos hk] at he
                by_cases hr : (incl M k s.1 s.2.1 s.2.2 (inst t u a)).1 = 0
                · rw [if_pos hr] at he
                  obtain ⟨c', o', e1, e2, e3, e4⟩ := incl_far M k s.1 s.2.1 s.2.2 _ h2 hr
                  cases he
                  simp only [e1]
                  exact ⟨h1, e2, by omega, e4⟩
                · rw [if_neg hr] at he; cases he
              · rw [if_neg hk] at he
                by_cases hcl : clause (inst t u a).Kind = true
                · rw [if_pos hcl] at he
                  by_cases hr : (add M s.1 s.2.1 s.2.2 (inst t u a) 24).1 = 0
                  · rw [if_pos hr] at he
                    obtain ⟨o', e1, e2, e3⟩ := add_far h2 hr
                    cases he
                    simp only [e1]
                    exact ⟨h1, e2, by omega, e3⟩
                  · rw [if_neg hr] at he; cases he
                · rw [if_neg hcl] at he; cases he
        exact hout t.Items 0 _ ⟨rfl, ⟨by simp only; omega, by simp only; omega, by simp; omega⟩, by simp only; omega, by simp only; omega⟩
      · rw [if_neg (by omega), if_pos hn]
end Go.Proofs.Inc
namespace Go.Proofs.Inc
open Go.Aw
def dupS (s : Bool × List (Str × Bool)) (a : Str) : Bool × List (Str × Bool) := (s.1 || (mlook a s.2).getD false, mset a true s.2)
def dupB (l : List Str) : Bool := (l.foldl dupS (false, [])).1
def dcl (M : Maps) (y : Item) : Int × Maps :=
  if y.Kind = 13 then match mlook y.Name M.t with
    | none => (if dupB y.Names then 9 else 0, { M with t := mset y.Name y M.t })
    | some _ => (9, M)
  else if y.Kind = 6 then match mlook y.Name M.s with
    | none => (0, { M with s := mset y.Name { y.Within with Name := [] } M.s })
    | some _ => (9, M)
  else if y.Kind = 7 then match mlook y.Name M.m with
    | none => (0, { M with m := mset y.Name y M.m })
    | some _ => (9, M)
  else (0, M)
theorem s25_eq {N : Nat} {M : Maps} {y : Item} (hN : y.Names.length < N) (hl : y.Names.length ≤ NB) :
    s25 N M.t M.s M.m 0 [] [] y = some ((dcl M y).1, (dcl M y).2.t, (dcl M y).2.s, (dcl M y).2.m) := by
  simp only [s25, dcl]
  by_cases h13 : y.Kind = 13
  · rw [if_pos h13, if_pos h13]
    cases mlook y.Name M.t with
    | none =>
      have hit : iter (fun p => s25_b1 N y p.1 p.2.1 p.2.2) N (false, [], 0) = some _ := iter_list (fun (s : Bool × List (Str × Bool)) i => (s.1, s.2, i)) (false, []) y.Names (fun _ s a => .inl (dupS s a)) (fun s => s.1) (fun _ _ => True) (fun i s a hi _ => by
        obtain ⟨ha, hlt⟩ := getI hi
        refine ⟨?_, fun _ _ => trivial⟩
        simp only [s25_b1]
        rw [if_pos (by omega), grd_pos (by omega), toNat_nat, ha, wr_succ (by unfold NB at hl; omega)]
        obtain ⟨b, m⟩ := s
        cases b with
        | true => simp [dupS]
        | false => cases hm : mlook a m <;> simp [dupS, hm]) (fun s _ => by
        simp only [s25_b1]
        rw [if_neg (by omega)]) hN trivial
      simp only [Option.elim_none]
      rw [hit, runL_fold]
      simp only [Option.bind_some]
      show (bif dupB y.Names then _ else _) = _
      cases dupB y.Names <;> rfl
    | some v =>
      have hit : iter (fun p => s25_b2 N y p.1 p.2) N ([], 0) = some _ := iter_list (fun (s : List (Str × Bool)) i => (s, i)) [] y.Names (fun _ s a => .inl (mset a true s)) (fun s => ()) (fun _ _ => True) (fun i s a hi _ => by
        obtain ⟨ha, hlt⟩ := getI hi
        refine ⟨?_, fun _ _ => trivial⟩
        simp only [s25_b2]
        rw [if_pos (by omega), grd_pos (by omega), toNat_nat, ha, wr_succ (by unfold NB at hl; omega)]) (fun s _ => by
        simp only [s25_b2]
        rw [if_neg (by omega)]) hN trivial
      simp only [Option.elim_some]
      rw [hit]
      rfl
  rw [if_neg h13, if_neg h13]
  by_cases h6 : y.Kind = 6
  · rw [if_pos h6, if_pos h6]
    cases mlook y.Name M.s <;> rfl
  rw [if_neg h6, if_neg h6]
  by_cases h7 : y.Kind = 7
  · rw [if_pos h7, if_pos h7]
    cases mlook y.Name M.m <;> rfl
  rw [if_neg h7, if_neg h7]
def dcls (M : Maps) : List Item → List Int × Maps
  | [] => ([], M)
  | y :: l => ((dcl M y).1 :: (dcls (dcl M y).2 l).1, (dcls (dcl M y).2 l).2)
theorem dcls_len : ∀ (M : Maps) (l : List Item), (dcls M l).1.length = l.length
  | M, [] => rfl
  | M, y :: l => by simp [dcls, dcls_len]
theorem s11_b8_loop {N : Nat} {p1 : Source} (hN : NB < N) (hl : p1.Items.length ≤ NB) (hnames : ∀ y, y ∈ p1.Items → y.Names.length ≤ NB) : ∀ (l : List Item) (i : Nat) (M : Maps) (pre : List Int), p1.Items.drop i = l → pre.length = i → ∀ K, l.length < K →
    iter (fun p => s11_b8 N p1 p.1 p.2.1 p.2.2.1 p.2.2.2.1 p.2.2.2.2) K (M.t, M.s, M.m, pre ++ List.replicate l.length 0, (i : Int)) = some ((dcls M l).2.t, (dcls M l).2.s, (dcls M l).2.m, pre ++ (dcls M l).1)
  | [], i, M, pre, hd, hp, K, hK => by
    obtain ⟨K, rfl⟩ : ∃ k, K = k + 1 := ⟨K - 1, by simp at hK; omega⟩
    have hi : p1.Items.length ≤ i := List.drop_eq_nil_iff.1 hd
    refine iter_end ?_
    simp only [s11_b8]
    rw [if_neg (by omega)]
    simp [dcls]
  | y :: l, i, M, pre, hd, hp, K, hK => by
    obtain ⟨K, rfl⟩ : ∃ k, K = k + 1 := ⟨K - 1, by simp at hK; omega⟩
    have hi : p1.Items[i]? = some y := by rw [← List.head?_drop, hd]; rfl
    obtain ⟨hx, hlt⟩ := getI hi
    have hn := hnames y (List.mem_of_getElem? hi)
    have hb : s11_b8 N p1 M.t M.s M.m (pre ++ List.replicate (l.length + 1) 0) (i : Int) = some (.inl ((dcl M y).2.t, (dcl M y).2.s, (dcl M y).2.m, (pre ++ [(dcl M y).1]) ++ List.replicate l.length 0, ((i + 1 : Nat) : Int))) := by
      simp only [s11_b8]
      rw [if_pos (by omega), grd_pos (by omega), toNat_nat, hx, s25_eq (by omega) hn]
      simp only [Option.bind_some]
      rw [grd_pos (by simp; omega), wr_succ (by unfold NB at hl; omega), List.set_append_right i _ (by omega), hp, Nat.sub_self, List.replicate_succ, List.set_cons_zero]
      simp
    rw [List.length_cons, iter_step (by exact hb)]
    rw [s11_b8_loop hN hl hnames l (i + 1) (dcl M y).2 (pre ++ [(dcl M y).1]) (by rw [← List.drop_drop, hd]; rfl) (by simp [hp]) K (by simp at hK; omega)]
    simp [dcls]
def top (M : Maps) : Int → List Item → List Fault → List (Int × Item) → List Item × List Fault
  | _, o, F, [] => (o, F)
  | c, o, F, p :: l =>
    if defines p.2.Kind then top M c o (if p.1 = 0 then F else F ++ [⟨p.1, p.2.At⟩]) l
    else
      let r := if p.2.Kind = 14 then incl M 600 c o [] p.2 else add M c o [] p.2 p.2.Name.length
      let F' := if r.1 = 0 then F else F ++ [⟨r.1, p.2.At⟩]
      if r.2.1 then (r.2.2.2.1, F') else top M r.2.2.1 r.2.2.2.1 F' l
theorem add_q {M : Maps} {c : Int} {o : List Item} {q : List Str} {y : Item} {most : Int} : (add M c o q y most).1 = (add M c o [] y most).1 ∧ (add M c o q y most).2.1 = (add M c o [] y most).2.1 ∧ (add M c o q y most).2.2.1 = (add M c o [] y most).2.2.1 ∧ (add M c o q y most).2.2.2.1 = (add M c o [] y most).2.2.2.1 := by
  unfold add
  split
  · simp
  · split
    · simp
    · split
      · split <;> simp
      · simp
def Fine (c : Int) (r : R) : Prop := r.2.1 = false → c ≤ r.2.2.1 ∧ r.2.2.1 ≤ 600 ∧ (r.2.2.2.1.length : Int) ≤ r.2.2.1
theorem add_fine {M : Maps} {c : Int} {o : List Item} {q : List Str} {y : Item} {most : Int} (h : (o.length : Int) ≤ c) : Fine c (add M c o q y most) := by
  unfold Fine add
  by_cases hc : 600 < c + 1
  · rw [if_pos hc]; simp
  rw [if_neg hc]
  by_cases hm : most < (y.Name.length : Int)
  · rw [if_pos hm]; intro _; exact ⟨by simp only; omega, by simp only; omega, by simp only; omega⟩
  rw [if_neg hm]
  by_cases hk : clause y.Kind = true
  · rw [if_pos hk]
    cases dfn M y with
    | none => intro _; exact ⟨by simp only; omega, by simp only; omega, by simp only; omega⟩
    | some z => intro _; exact ⟨by simp only; omega, by simp only; omega, by simp; omega⟩
  · rw [if_neg hk]
    intro _; exact ⟨by simp only; omega, by simp only; omega, by simp; omega⟩
theorem incl_fine (M : Maps) : ∀ (k : Nat) (c : Int) (o : List Item) (q : List Str) (u : Item), Far c o q → Fine c (incl M k c o q u)
  | 0, c, o, q, u, h => by simp [Fine, incl]
  | k + 1, c, o, q, u, h => by
    have g1 := h.c0
    have g2 := h.o
    have g3 := h.q
    unfold Fine incl
    by_cases hc : 600 < c + 1
    · rw [if_pos hc]; simp
    rw [if_neg hc]
    have base : ∀ e : Int, ((e, false, c + 1, o, q) : R).2.1 = false → c ≤ ((e, false, c + 1, o, q) : R).2.2.1 ∧ ((e, false, c + 1, o, q) : R).2.2.1 ≤ 600 ∧ (((e, false, c + 1, o, q) : R).2.2.2.1.length : Int) ≤ ((e, false, c + 1, o, q) : R).2.2.1 := fun e _ => ⟨by simp only; omega, by simp only; omega, by simp only; omega⟩
    cases ht : mlook u.Of M.t with
    | none => exact base 8
    | some t =>
      simp only
      by_cases hn : t.Names.length ≠ u.Names.length
      · rw [if_pos hn]; exact base 1
      rw [if_neg hn]
      by_cases hq : (find q u.Of).isSome = true
      · rw [if_pos hq]; exact base 12
      rw [if_neg hq]
      by_cases hm : 24 < u.Name.length
      · rw [if_pos hm]; exact base 3
      rw [if_neg hm]
      refine runL_inv (Inv := fun (s : Int × List Item × List Str) => Far s.1 s.2.1 s.2.2 ∧ c + 1 ≤ s.1 ∧ s.1 ≤ 600) (Q := fun (r : R) => r.2.1 = false → c ≤ r.2.2.1 ∧ r.2.2.1 ≤ 600 ∧ (r.2.2.2.1.length : Int) ≤ r.2.2.1) t.Items (fun i s a _ hs => ?_) (fun s hs _ => ?_) 0 _ ⟨⟨by simp only; omega, by simp only; omega, by simp; omega⟩, by simp only; omega, by simp only; omega⟩
      · obtain ⟨h2, h3, h4⟩ := hs
        unfold stepI
        by_cases hk : (inst t u a).Kind = 14
        · rw [if_pos hk]
          by_cases hr : (incl M k s.1 s.2.1 s.2.2 (inst t u a)).1 = 0
          · rw [if_pos hr]
            obtain ⟨c', o', e1, e2, e3, e4⟩ := incl_far M k s.1 s.2.1 s.2.2 _ h2 hr
            simp only [e1]
            exact ⟨e2, by omega, e4⟩
          · rw [if_neg hr]
            intro h
            obtain ⟨f1, f2, f3⟩ := incl_fine M k s.1 s.2.1 s.2.2 (inst t u a) h2 h
            exact ⟨by omega, f2, f3⟩
        · rw [if_neg hk]
          by_cases hcl : clause (inst t u a).Kind = true
          · rw [if_pos hcl]
            by_cases hr : (add M s.1 s.2.1 s.2.2 (inst t u a) 24).1 = 0
            · rw [if_pos hr]
              obtain ⟨o', e1, e2, e3⟩ := add_far h2 hr
              simp only [e1]
              exact ⟨e2, by omega, e3⟩
            · rw [if_neg hr]
              intro h
              obtain ⟨f1, f2, f3⟩ := add_fine (M := M) (q := s.2.2) (y := inst t u a) (most := 24) h2.o h
              exact ⟨by omega, f2, f3⟩
          · rw [if_neg hcl]
            exact fun _ => ⟨by simp only; omega, by simp only; omega, h2.o⟩
      · obtain ⟨h2, h3, h4⟩ := hs
        exact ⟨by simp only; omega, by simp only; omega, h2.o⟩
theorem top_loop {N : Nat} {p1 : Source} {M : Maps} {errs : List Int} (hM : ∀ n t, mlook n M.t = some t → BdT t) (hN : NB + 602 < N) (hlen : p1.Items.length ≤ 600) (he : errs.length = p1.Items.length) :
    ∀ (l : List (Int × Item)) (i : Nat) (c : Int) (o : List Item) (q : List Str) (F : List Fault), (errs.zip p1.Items).drop i = l → 0 ≤ c → c ≤ 600 → (o.length : Int) ≤ c → F.length ≤ i → ∀ K, l.length < K →
      ∃ c' q', iter (fun p => s11_b6 N p1 M.t M.s M.m errs p.1 p.2.1 p.2.2.1 p.2.2.2.1 p.2.2.2.2) K (c, o, q, F, (i : Int)) = some (c', (top M c o F l).1, q', (top M c o F l).2)
  | [], i, c, o, q, F, hd, _, _, _, _, K, hK => by
    obtain ⟨K, rfl⟩ : ∃ k, K = k + 1 := ⟨K - 1, by simp at hK; omega⟩
    have hi : (errs.zip p1.Items).length ≤ i := List.drop_eq_nil_iff.1 hd
    rw [List.length_zip] at hi
    refine ⟨c, q, iter_end ?_⟩
    simp only [s11_b6]
    rw [if_neg (by omega)]
    rfl
  | p :: l, i, c, o, q, F, hd, hc0, hc, ho, hF, K, hK => by
    obtain ⟨K, rfl⟩ : ∃ k, K = k + 1 := ⟨K - 1, by simp at hK; omega⟩
    have hi : (errs.zip p1.Items)[i]? = some p := by rw [← List.head?_drop, hd]; rfl
    have hil : i < (errs.zip p1.Items).length := (List.getElem?_eq_some_iff.1 hi).1
    rw [List.length_zip] at hil
    have h1 : errs[i]? = some p.1 ∧ p1.Items[i]? = some p.2 := by
      rw [List.getElem?_zip_eq_some] at hi
      exact hi
    obtain ⟨hx1, hlt1⟩ := getI h1.1
    obtain ⟨hx2, hlt2⟩ := getI h1.2
    have hdn : (errs.zip p1.Items).drop (i + 1) = l := by rw [← List.drop_drop, hd]; rfl
    have next : ∀ c o q F, 0 ≤ c → c ≤ 600 → (o.length : Int) ≤ c → F.length ≤ i + 1 → ∃ c' q', iter (fun p => s11_b6 N p1 M.t M.s M.m errs p.1 p.2.1 p.2.2.1 p.2.2.2.1 p.2.2.2.2) K (c, o, q, F, ((i + 1 : Nat) : Int)) = some (c', (top M c o F l).1, q', (top M c o F l).2) :=
      fun c o q F h1 h2 h3 h4 => top_loop hM hN hlen he l (i + 1) c o q F hdn h1 h2 h3 h4 K (by simp at hK; omega)
    have hwr : IntKind.wrap .i64 ((i : Int) + 1) = ((i + 1 : Nat) : Int) := wr_succ (by omega)
    have hbody : s11_b6 N p1 M.t M.s M.m errs c o q F (i : Int) = s11_k5 N p1 M.t M.s M.m errs c o q F (i : Int) (defines p.2.Kind) := by
      simp only [s11_b6]
      rw [if_pos (by omega), grd_pos (by omega), grd_pos (by omega), toNat_nat, hx2]
      by_cases h13 : p.2.Kind = 13
      · simp [h13, defines]
      rw [if_neg h13]
      by_cases h6 : p.2.Kind = 6
      · simp [h6, defines]
      rw [if_neg h6]
      simp [h13, h6, defines]
    cases hdf : defines p.2.Kind with
    | true =>
      rw [hdf] at hbody
      simp only [s11_k5, cond_true, toNat_nat, hx1, hx2, s11_k2] at hbody
      rw [hwr] at hbody
      unfold top
      rw [if_pos hdf]
      by_cases h0 : p.1 = 0
      · rw [if_pos h0] at hbody ⊢
        obtain ⟨c', q', h⟩ := next c o q F hc0 hc ho (by omega)
        exact ⟨c', q', by rw [iter_step (by exact hbody)]; exact h⟩
      · rw [if_neg h0, grd_pos (by omega)] at hbody
        rw [if_neg h0]
        obtain ⟨c', q', h⟩ := next c o q (F ++ [⟨p.1, p.2.At⟩]) hc0 hc ho (by simp; omega)
        exact ⟨c', q', by rw [iter_step (by exact hbody)]; exact h⟩
    | false =>
      rw [hdf] at hbody
      simp only [s11_k5, cond_false, toNat_nat, hx1, hx2] at hbody
      unfold top
      rw [if_neg (by simp [hdf])]
      have hfar : Far c o [] := ⟨hc0, ho, by simpa using hc0⟩
      have fin : ∀ (r : R) (r1 : R), r1.1 = r.1 → r1.2.1 = r.2.1 → r1.2.2.1 = r.2.2.1 → r1.2.2.2.1 = r.2.2.2.1 → Fine c r →
          s11_b6 N p1 M.t M.s M.m errs c o q F (i : Int) = (if r1.1 = 0 then (bif r1.2.1 then some (.inr (r1.2.2.1, r1.2.2.2.1, r1.2.2.2.2, F)) else some (.inl (r1.2.2.1, r1.2.2.2.1, r1.2.2.2.2, F, ((i + 1 : Nat) : Int)))) else (bif r1.2.1 then some (.inr (r1.2.2.1, r1.2.2.2.1, r1.2.2.2.2, F ++ [⟨r1.1, p.2.At⟩])) else some (.inl (r1.2.2.1, r1.2.2.2.1, r1.2.2.2.2, F ++ [⟨r1.1, p.2.At⟩], ((i + 1 : Nat) : Int))))) →
          ∃ c' q', iter (fun p => s11_b6 N p1 M.t M.s M.m errs p.1 p.2.1 p.2.2.1 p.2.2.2.1 p.2.2.2.2) (K + 1) (c, o, q, F, (i : Int)) = some (c', (if r.2.1 = true then (r.2.2.2.1, if r.1 = 0 then F else F ++ [⟨r.1, p.2.At⟩]) else top M r.2.2.1 r.2.2.2.1 (if r.1 = 0 then F else F ++ [⟨r.1, p.2.At⟩]) l).1, q', (if r.2.1 = true then (r.2.2.2.1, if r.1 = 0 then F else F ++ [⟨r.1, p.2.At⟩]) else top M r.2.2.1 r.2.2.2.1 (if r.1 = 0 then F else F ++ [⟨r.1, p.2.At⟩]) l).2) := by
        intro r r1 e1 e2 e3 e4 hfine hb
        rw [e1, e2, e3, e4] at hb
        have hFl : (if r.1 = 0 then F else F ++ [⟨r.1, p.2.At⟩]).length ≤ i + 1 := by
          split
          · omega
          · simp; omega
        have hb' : s11_b6 N p1 M.t M.s M.m errs c o q F (i : Int) = (bif r.2.1 then some (.inr (r.2.2.1, r.2.2.2.1, r1.2.2.2.2, if r.1 = 0 then F else F ++ [⟨r.1, p.2.At⟩])) else some (.inl (r.2.2.1, r.2.2.2.1, r1.2.2.2.2, (if r.1 = 0 then F else F ++ [⟨r.1, p.2.At⟩]), ((i + 1 : Nat) : Int)))) := by
          rw [hb]; split <;> rfl
        cases hs : r.2.1 with
        | true =>
          rw [hs] at hb'
          exact ⟨r.2.2.1, r1.2.2.2.2, iter_end (by exact hb')⟩
        | false =>
          rw [hs] at hb'
          obtain ⟨f1, f2, f3⟩ := hfine hs
          obtain ⟨c', q', h⟩ := next r.2.2.1 r.2.2.2.1 r1.2.2.2.2 _ (by omega) f2 f3 hFl
          exact ⟨c', q', by rw [iter_step (by exact hb')]; simpa using h⟩
      by_cases h14 : p.2.Kind = 14
      · rw [if_pos h14, s26_eq M hM 600 N c o [] p.2 (by omega) hfar (by omega) hc] at hbody
        simp only [Option.bind_some, s11_k3] at hbody
        rw [grd_pos (by omega), hwr] at hbody
        simp only [if_pos h14]
        exact fin _ (incl M 600 c o [] p.2) rfl rfl rfl rfl (incl_fine M 600 c o [] p.2 hfar) (by rw [hbody])
      · rw [if_neg h14, s27_eq hc0 (by omega) (by omega)] at hbody
        simp only [Option.bind_some, s11_k4] at hbody
        rw [grd_pos (by omega), hwr] at hbody
        simp only [if_neg h14]
        obtain ⟨a1, a2, a3, a4⟩ := add_q (M := M) (c := c) (o := o) (q := q) (y := p.2) (most := p.2.Name.length)
        exact fin _ (add M c o q p.2 p.2.Name.length) a1 a2 a3 a4 (add_fine ho) (by rw [hbody])
def noSource : Source := ⟨[], ⟨0, 0, 0⟩, 0, []⟩
def M0 : Maps := ⟨[], [], []⟩
def expand (p : Source) : Source × List Fault :=
  if 600 < iszl p.Items then (noSource, [⟨3, 0⟩])
  else
    let d := dcls M0 p.Items
    let r := top d.2 0 [] [] (d.1.zip p.Items)
    if r.2 = [] then ({ p with Items := r.1 }, []) else (noSource, r.2)
theorem mlook_mset {α β : Type} [DecidableEq α] {k k' : α} {v : β} : ∀ {l : List (α × β)}, mlook k' (mset k v l) = if k' = k then some v else mlook k' l
  | [] => by simp [mset, mlook]
  | p :: l => by
    simp only [mset]
    by_cases hk : k = p.1
    · rw [if_pos hk]
      simp only [mlook]
      by_cases h' : k' = k
      · simp [h']
      · rw [if_neg h', if_neg h', if_neg (by rw [← hk]; exact h')]
    · rw [if_neg hk]
      simp only [mlook]
      by_cases h' : k' = p.1
      · rw [if_pos h', if_pos h', if_neg (by rw [h']; exact fun h => hk h.symm)]
      · rw [if_neg h', if_neg h']
        exact mlook_mset
theorem dcl_t {M : Maps} {y : Item} {n : Str} {t : Item} (h : mlook n (dcl M y).2.t = some t) : mlook n M.t = some t ∨ (t = y ∧ y.Kind = 13 ∧ n = y.Name) := by
  unfold dcl at h
  by_cases h13 : y.Kind = 13
  · rw [if_pos h13] at h
    cases hm : mlook y.Name M.t with
    | none =>
      rw [hm] at h
      simp only [mlook_mset] at h
      split at h
      · rename_i e; cases h; exact .inr ⟨rfl, h13, e⟩
      · exact .inl h
    | some _ => rw [hm] at h; exact .inl h
  rw [if_neg h13] at h
  by_cases h6 : y.Kind = 6
  · rw [if_pos h6] at h
    cases hm : mlook y.Name M.s <;> rw [hm] at h <;> exact .inl h
  rw [if_neg h6] at h
  by_cases h7 : y.Kind = 7
  · rw [if_pos h7] at h
    cases hm : mlook y.Name M.m <;> rw [hm] at h <;> exact .inl h
  rw [if_neg h7] at h
  exact .inl h
theorem dcls_t {n : Str} {t : Item} : ∀ {l : List Item} {M : Maps}, mlook n (dcls M l).2.t = some t → mlook n M.t = some t ∨ t ∈ l
  | [], M, h => .inl h
  | y :: l, M, h => by
    rcases dcls_t (l := l) h with h | h
    · rcases dcl_t h with h | ⟨rfl, _⟩
      · exact .inl h
      · exact .inr (List.mem_cons_self ..)
    · exact .inr (List.mem_cons_of_mem _ h)
structure BdS (p : Source) : Prop where
  size : iszl p.Items ≤ 1099511627776
  items : ∀ t, t ∈ p.Items → BdT t
set_option maxRecDepth 100000 in
theorem s11_eq {N : Nat} {p : Source} (hb : BdS p) (hN : NB + 602 < N) (hN' : iszl p.Items + 1 < N) : s11 N p = some (expand p) := by
  obtain ⟨t, e1, e2, e3, e4⟩ := s24_lim N p.Items 600 (by omega) (by omega) hb.size
  simp only [s11]
  rw [show ((600 : Nat) : Int) = 600 by rfl] at e1
  rw [e1]
  simp only [Option.bind_some, expand]
  by_cases hs : 600 < iszl p.Items
  · have h4 := e4 hs
    rw [if_pos hs, if_pos (show (600 : Int) < (t : Int) by omega)]; rfl
  have h3 := e3 (by omega)
  rw [if_neg hs, if_neg (show ¬ (600 : Int) < (t : Int) by omega)]
  have hlen := iszl_len p.Items
  rw [grd_pos (by omega)]
  have h1 := s11_b8_loop (N := N) (p1 := p) (by omega) (by unfold NB; omega) (fun y hy => (hb.items y hy).names) p.Items 0 M0 [] rfl rfl N (by omega)
  simp only [List.nil_append] at h1
  rw [show ((0 : Nat) : Int) = 0 by rfl] at h1
  rw [show ((([] : List (List UInt8 × Item)), ([] : List (List UInt8 × Span)), ([] : List (List UInt8 × Item)), List.replicate p.Items.length (0 : Int), (0 : Int)) : List (List UInt8 × Item) × List (List UInt8 × Span) × List (List UInt8 × Item) × List Int × Int) = (M0.t, M0.s, M0.m, List.replicate p.Items.length 0, 0) by rfl, h1]
  simp only [Option.bind_some, s11_k7]
  obtain ⟨c', q', h2⟩ := top_loop (N := N) (p1 := p) (M := (dcls M0 p.Items).2) (errs := (dcls M0 p.Items).1) (fun n t h => by
    rcases dcls_t h with h | h
    · simp [M0, mlook] at h
    · exact hb.items t h) hN (by omega) (dcls_len _ _) _ 0 0 [] [] [] rfl (by omega) (by omega) (by simp) (by simp) N (by rw [List.drop_zero, List.length_zip, dcls_len]; omega)
  rw [show ((0 : Nat) : Int) = 0 by rfl, List.drop_zero] at h2
  rw [h2]
  simp only [Option.bind_some, s11_k1]
  generalize top (dcls M0 p.Items).2 0 [] [] ((dcls M0 p.Items).1.zip p.Items) = r
  obtain ⟨o, F⟩ := r
  cases F with
  | nil => simp
  | cons f F => simp [noSource]
end Go.Proofs.Inc
namespace Go.Aw
open Go.WideShapes Go.ChangeShapes
def reach (P : Program) : List Field → Nat → Option Nat
  | [], n => some n
  | f :: r, n => if f.offset = n then reach P r (n + P.cellsOf f.type) else none
def laysT (P : Program) (d : Option TypeDesc) (c : Nat) : Bool := match d with
  | some (.slice e) => decide (e < P.types.size) && decide (0 < P.cellsOf e)
  | some (.pointer e) => decide (e < P.types.size)
  | some (.map k e) => decide (k < P.types.size) && decide (e < P.types.size)
  | some (.struct fs) => fs.toList.all (fun f => decide (f.type < P.types.size)) && (reach P fs.toList 0 == some c)
  | some (.array n e) => decide (e < P.types.size) && (n * P.cellsOf e == c)
  | _ => true
def lays (P : Program) : Bool := (List.range P.types.size).all fun t => laysT P (P.underlying t) (P.cellsOf t)
theorem lays_at {P : Program} (h : lays P = true) {t : TypeId} (ht : t < P.types.size) {d : TypeDesc} (hu : P.underlying t = some d) : laysT P (some d) (P.cellsOf t) = true := by
  have := List.all_eq_true.1 h t (List.mem_range.2 ht)
  rwa [hu] at this
section
variable {H : Type} {enc : TypeId × Value → H} {P : Program} {w : World} {base : Nat} {sp : Nat → Bool}
theorem step_spare (hl : lays P = true) {r r' : TypeId → List Value → Option (DataW H × List MemPlace)}
    (hr : ∀ t cs x, t < P.types.size → r t cs = some x → (∀ p ∈ x.2, sp p.block = true) → r' t cs = some x) {t : TypeId} (ht : t < P.types.size) {cs : List Value} {x : DataW H × List MemPlace}
    (h : DataW.trodStep enc P w base (fun _ => true) true r t cs = some x) (hs : ∀ p ∈ x.2, sp p.block = true) : DataW.trodStep enc P w base sp true r' t cs = some x := by
  unfold DataW.trodStep at h ⊢
  split at h
  case h_6 e a hu =>
    have he : e < P.types.size := by simpa [laysT] using lays_at hl ht hu
    simp only [Option.map_eq_some_iff, Option.bind_eq_some_iff] at h ⊢
    obtain ⟨y, ⟨cs', hc, hy⟩, rfl⟩ := h
    exact ⟨y, ⟨cs', hc, hr _ _ _ he hy (fun p hp => hs p (by simp [hp]))⟩, rfl⟩
  case h_8 e a len cap hu =>
    have hE : e < P.types.size ∧ 0 < P.cellsOf e := by simpa [laysT] using lays_at hl ht hu
    simp only at h ⊢
    split at h
    · rename_i hc
      rw [if_pos hc]
      simp only [Option.map_eq_some_iff, Option.bind_eq_some_iff, if_true] at h ⊢
      obtain ⟨elems, he, rest, hrest, rfl⟩ := h
      have hrl : rest.length = cap - len := by simpa using mapM_some_length hrest
      have one : ∀ (i : Nat) (y : DataW H × List MemPlace), y ∈ elems ++ rest →
          (w.cells? base (a.add (i * P.cellsOf e)) (P.cellsOf e)).bind (r e) = some y → (w.cells? base (a.add (i * P.cellsOf e)) (P.cellsOf e)).bind (r' e) = some y := by
        intro i y hy hv
        simp only [Option.bind_eq_some_iff] at hv ⊢
        obtain ⟨cs', hc', hy'⟩ := hv
        refine ⟨cs', hc', hr _ _ _ hE.1 hy' (fun p hp => hs p ?_)⟩
        simp only [List.mem_append, List.mem_flatMap]
        right
        exact ⟨y, by simpa using hy, hp⟩
      refine ⟨elems, mapM_carry he (fun i y hi hy => one i y (by simp [hy])), rest, ?_, rfl⟩
      by_cases hsp : sp a.block = true
      · rw [if_pos hsp]
        exact mapM_carry hrest (fun j y hj hy => one (len + j) y (by simp [hy]))
      · rw [if_neg hsp]
        have hpos := hE.2
        cases rest with
        | nil => rfl
        | cons z zs =>
          refine absurd (hs (.cell a.block (a.off + 0)) ?_) hsp
          simp only [List.mem_append]
          left
          exact MemPlace.mem_row.2 ⟨0, Nat.mul_pos (by simp only [List.length_cons]; omega) hpos, rfl⟩
    · cases h
  case h_9 fs cs hu =>
    have hE := lays_at hl ht hu
    simp only [laysT, Bool.and_eq_true, List.all_eq_true, decide_eq_true_eq] at hE
    split at h
    · rename_i hc
      rw [if_pos hc]
      simp only [Option.map_eq_some_iff] at h ⊢
      obtain ⟨xs, hx, rfl⟩ := h
      exact ⟨xs, mapM_carry hx (fun f y hf hy hv => hr _ _ _ (hE.1 f hf) hv (fun p hp => hs p (List.mem_flatMap.2 ⟨y, hy, hp⟩))), rfl⟩
    · cases h
  case h_10 n e cs hu =>
    have hE := lays_at hl ht hu
    simp only [laysT, Bool.and_eq_true, decide_eq_true_eq] at hE
    split at h
    · rename_i hc
      rw [if_pos hc]
      simp only [Option.map_eq_some_iff] at h ⊢
      obtain ⟨xs, hx, rfl⟩ := h
      exact ⟨xs, mapM_carry hx (fun f y _ hy hv => hr _ _ _ hE.1 hv (fun p hp => hs p (List.mem_flatMap.2 ⟨y, hy, hp⟩))), rfl⟩
    · cases h
  case h_12 =>
    exact h
  case h_14 k e b hu =>
    have hE : k < P.types.size ∧ e < P.types.size := by simpa [laysT] using lays_at hl ht hu
    split at h
    · rename_i es clock hb
      split at h
      · rename_i hc
        simp only [Option.bind_eq_some_iff] at h
        obtain ⟨entries, he, hd⟩ := h
        split at hd
        · rename_i hris
          have hx := Option.some.inj hd
          subst hx
          simp only [if_pos hc, Option.bind_eq_some_iff]
          refine ⟨entries, mapM_carry he (fun x y _ hy hv => ?_), by simp [hris]⟩
          simp only [Option.bind_eq_some_iff] at hv ⊢
          obtain ⟨key, hk, hz⟩ := hv
          refine ⟨key, hk, ?_⟩
          split at hz
          · rename_i hf
            rw [if_pos hf]
            simp only [Option.map_eq_some_iff] at hz ⊢
            obtain ⟨q, hq, rfl⟩ := hz
            exact ⟨q, hr _ _ _ hE.2 hq (fun p hp => hs p (by simp only [List.mem_cons, List.mem_flatMap]; right; exact ⟨_, hy, hp⟩)), rfl⟩
          · cases hz
        · cases hd
      · cases h
    · cases h
  all_goals first | exact h | cases h
theorem trod_spare (hl : lays P = true) : ∀ (n : Nat) (t : TypeId) (cs : List Value) (x : DataW H × List MemPlace), t < P.types.size →
    DataW.trod enc P w base (fun _ => true) true n t cs = some x → (∀ p ∈ x.2, sp p.block = true) → DataW.trod enc P w base sp true n t cs = some x := by
  intro n
  induction n with
  | zero => intro t cs x _ h; simp [DataW.trod] at h
  | succ n ih =>
    intro t cs x ht h hs
    rw [DataW.trod_step] at h ⊢
    exact step_spare hl ih ht h hs
theorem all_spare (hl : lays P = true) {w' : World} : ∀ (ts : List TypeId) (vs : List Value) (ds : List (DataW H)) (ps : List MemPlace), (∀ t ∈ ts, t < P.types.size) →
    DataW.TrodAll enc P w base (fun _ => true) true ts vs ds ps → (∀ p ∈ ps, sp p.block = true) → (∀ p ∈ ps, w.sameAt w' p) → DataW.TrodAll enc P w' base sp true ts vs ds ps
  | [], vs, ds, ps, _, h, _, _ => by
    obtain ⟨rfl, rfl, rfl⟩ := trodAll_nil h
    rfl
  | t :: ts, vs, ds, ps, ht, h, hs, hw => by
    obtain ⟨v, vs', d, ds', p, q, rfl, rfl, rfl, ⟨n, h1⟩, h2⟩ := trodAll_cons h
    refine ⟨p, q, ⟨n, ?_⟩, all_spare hl ts vs' ds' q (fun u hu => ht u (List.mem_cons_of_mem _ hu)) h2 (fun x hx => hs x (List.mem_append_right _ hx)) (fun x hx => hw x (List.mem_append_right _ hx)), rfl⟩
    exact DataW.trod_carry n t _ _ (trod_spare hl n t _ _ (ht t (List.mem_cons_self ..)) h1 (fun x hx => hs x (List.mem_append_left _ hx))) (fun x hx => hw x (List.mem_append_left _ hx))
end
def okOne (P : Program) (S : List TypeId) (t : TypeId) : Bool := decide (t < P.types.size) && match P.underlying t with
    | some .bool | some (.int _) | some .string => true
    | some (.pointer e) => decide (0 < P.cellsOf e) && S.contains e
    | some (.slice e) | some (.array _ e) => S.contains e
    | some (.struct fs) => fs.toList.all fun f => S.contains f.type
    | _ => false
def okS (P : Program) (S : List TypeId) : Bool := S.all (okOne P S)
def argAV (P : Program) (t : TypeId) (xs : List AV) : AV := match P.underlying t with
  | some (.struct _) | some (.array _ _) => .agg xs
  | _ => xs.headD .any
def Sh (P : Program) : Nat → TypeId → List AV → Prop
  | 0, _, _ => False
  | n + 1, t, xs => match P.underlying t with
    | some .bool => ∃ b, xs = [.bool b]
    | some (.int k) => ∃ i, xs = [.int k i] ∧ (Lit.int k i).wf = true
    | some .string => ∃ l, xs = [.str l] ∧ l.length ≤ maxLen
    | some (.pointer e) => xs = [.lit (.pointer none)] ∨ ∃ ys, xs = [.ref ys] ∧ Sh P n e ys
    | some (.slice e) => ∃ ys : List (List AV), xs = [.sl (ys.map (argAV P e))] ∧ ys.length ≤ maxLen ∧ ∀ y, y ∈ ys → Sh P n e y
    | some (.struct fs) => ∃ ys : List (List AV), xs = ys.flatten ∧ ys.length = fs.size ∧ ∀ (i : Nat) (f : Field) (y : List AV), fs[i]? = some f → ys[i]? = some y → Sh P n f.type y
    | some (.array m e) => ∃ ys : List (List AV), xs = ys.flatten ∧ ys.length = m ∧ ∀ y, y ∈ ys → Sh P n e y
    | _ => False
mutual
def AV.bulk : AV → Nat
  | .str l => l.length + 1
  | .sl xs => bulkL xs + 1
  | .ref cs => bulkL cs + 1
  | .agg cs => bulkL cs + 1
  | .any => 1
  | .int _ _ => 1
  | .bool _ => 1
  | .lit _ => 1
  | .ptr _ _ _ => 1
  | .row _ _ _ _ _ => 1
  | .nil => 1
  | .tup _ => 1
  | .fn _ _ _ => 1
  | .ifc _ _ => 1
  | .mapv _ _ => 1
def bulkL : List AV → Nat
  | [] => 0
  | x :: r => x.bulk + bulkL r
end
theorem bulk_sl (l : List AV) : (AV.sl l).bulk = bulkL l + 1 := by rw [AV.bulk]
theorem bulk_ref (l : List AV) : (AV.ref l).bulk = bulkL l + 1 := by rw [AV.bulk]
theorem bulk_agg (l : List AV) : (AV.agg l).bulk = bulkL l + 1 := by rw [AV.bulk]
theorem bulk_str (l : List UInt8) : (AV.str l).bulk = l.length + 1 := by rw [AV.bulk]
theorem bulk_int (k : IntKind) (n : Int) : (AV.int k n).bulk = 1 := by rw [AV.bulk]
theorem bulk_bool (b : Bool) : (AV.bool b).bulk = 1 := by rw [AV.bulk]
theorem bulk_lit (v : Value) : (AV.lit v).bulk = 1 := by rw [AV.bulk]
theorem bulkL_app : ∀ (l m : List AV), bulkL (l ++ m) = bulkL l + bulkL m
  | [], m => by simp [bulkL]
  | x :: l, m => by simp only [List.cons_append, bulkL, bulkL_app l m]; omega
structure Bulk (H : Type) where
  b : DataW H → Nat
  l : List (DataW H) → Nat
  str : ∀ s, b (.lit (.string s)) = s.length + 1
  one : ∀ d, 1 ≤ b d
  ptr : ∀ d, b (.ptr d) = b d + 1
  slice : ∀ x y, b (.slice x y) = l x + l y + 1
  agg : ∀ x, b (.agg x) = l x + 1
  nil : l [] = 0
  cons : ∀ d r, l (d :: r) = b d + l r
theorem bulk_flat {H : Type} (B : Bulk H) : ∀ (ys : List (List AV)) (ps : List (DataW H × List MemPlace)), ys.length = ps.length → (∀ (i : Nat) y p, ys[i]? = some y → ps[i]? = some p → bulkL y ≤ B.b p.1) → bulkL ys.flatten ≤ B.l (ps.map (·.1))
  | [], [], _, _ => by simp [bulkL]
  | y :: ys, p :: ps, hl, h => by
    have h0 := h 0 y p rfl rfl
    have := bulk_flat B ys ps (by simpa using hl) (fun i z q hz hq => h (i + 1) z q (by simpa using hz) (by simpa using hq))
    rw [List.flatten_cons, bulkL_app, List.map_cons, B.cons]
    omega
theorem bulk_map {H : Type} (B : Bulk H) (f : List AV → AV) : ∀ (ys : List (List AV)) (ps : List (DataW H × List MemPlace)), ys.length = ps.length → (∀ (i : Nat) y p, ys[i]? = some y → ps[i]? = some p → (f y).bulk ≤ B.b p.1) → bulkL (ys.map f) ≤ B.l (ps.map (·.1))
  | [], [], _, _ => by simp [bulkL]
  | y :: ys, p :: ps, hl, h => by
    have h0 := h 0 y p rfl rfl
    have := bulk_map B f ys ps (by simpa using hl) (fun i z q hz hq => h (i + 1) z q (by simpa using hz) (by simpa using hq))
    rw [List.map_cons, List.map_cons, B.cons, bulkL]
    omega
def BulkOk {H : Type} (P : Program) (t : TypeId) (xs : List AV) (d : DataW H) : Prop := ∀ B : Bulk H, bulkL xs ≤ B.b d ∧ (argAV P t xs).bulk ≤ B.b d
theorem bulkOk_one {H : Type} {P : Program} {t : TypeId} {x : AV} {d : DataW H} (hn : argAV P t [x] = x) (h : ∀ B : Bulk H, x.bulk ≤ B.b d) : BulkOk P t [x] d := fun B => by
  rw [hn]
  exact ⟨by simpa [bulkL] using h B, h B⟩
theorem argAV_cells {P : Program} {n : Nat} {t : TypeId} {xs : List AV} (h : Sh P n t xs) : (argAV P t xs).cells = xs := by
  cases n with
  | zero => exact h.elim
  | succ n =>
    unfold argAV
    unfold Sh at h
    cases hu : P.underlying t with
    | none => rw [hu] at h; exact h.elim
    | some d =>
      rw [hu] at h
      cases d with
      | bool => obtain ⟨_, rfl⟩ := h; rfl
      | int q => obtain ⟨_, rfl, _⟩ := h; rfl
      | string => obtain ⟨_, rfl, _⟩ := h; rfl
      | pointer e => rcases h with rfl | ⟨_, rfl, _⟩ <;> rfl
      | slice e => obtain ⟨_, rfl, _⟩ := h; rfl
      | struct fs => rfl
      | array m e => rfl
      | _ => exact h.elim
def RelL (w : World) (cs : List Value) (xs : List AV) : Prop := xs.length = cs.length ∧ ∀ (j : Nat) (v : Value) (y : AV), cs[j]? = some v → xs[j]? = some y → v.oneCell' = true ∧ Rel (fun _ => False) w v y
theorem relL_one {w : World} {v : Value} {x : AV} (h1 : v.oneCell' = true) (h2 : Rel (fun _ => False) w v x) : RelL w [v] [x] := ⟨rfl, fun j v y hv hy => by
  cases j with
  | zero =>
    simp only [List.getElem?_cons_zero, Option.some.injEq] at hv hy
    rw [← hv, ← hy]
    exact ⟨h1, h2⟩
  | succ j => simp at hv⟩
theorem relL_app {w : World} {cs ds : List Value} {xs ys : List AV} (h : RelL w cs xs) (h' : RelL w ds ys) : RelL w (cs ++ ds) (xs ++ ys) := by
  refine ⟨by simp [h.1, h'.1], fun j v y hv hy => ?_⟩
  by_cases hj : j < cs.length
  · rw [List.getElem?_append_left hj] at hv
    rw [List.getElem?_append_left (by rw [h.1]; exact hj)] at hy
    exact h.2 j v y hv hy
  · rw [List.getElem?_append_right (by omega)] at hv
    rw [List.getElem?_append_right (by rw [h.1]; omega), h.1] at hy
    exact h'.2 _ v y hv hy
theorem glue {w : World} {cs : List Value} : ∀ (ls : List Nat) (ys : List (List AV)) (acc : Nat), ys.length = ls.length → acc + ls.sum ≤ cs.length →
    (∀ (i c : Nat) (y : List AV), ls[i]? = some c → ys[i]? = some y → RelL w ((cs.drop (acc + (ls.take i).sum)).take c) y) → RelL w ((cs.drop acc).take ls.sum) ys.flatten
  | [], [], acc, _, _, _ => ⟨by simp, fun j v y hv => by simp at hv⟩
  | c :: ls, y :: ys, acc, hl, hs, h => by
    simp only [List.sum_cons] at hs
    have h0 := h 0 c y rfl rfl
    simp only [List.take_zero, List.sum_nil, Nat.add_zero] at h0
    have h1 := glue (w := w) (cs := cs) ls ys (acc + c) (by simpa using hl) (by omega) (fun i c' y' hi hy => by
      have := h (i + 1) c' y' (by simpa using hi) (by simpa using hy)
      simpa [Nat.add_assoc] using this)
    have := relL_app h0 h1
    rw [List.flatten_cons, List.sum_cons]
    rw [show (cs.drop acc).take (c + ls.sum) = (cs.drop acc).take c ++ (cs.drop (acc + c)).take ls.sum by rw [List.take_add, List.drop_drop]]
    exact this
theorem reach_sum (P : Program) : ∀ (fs : List Field) (acc n : Nat), reach P fs acc = some n → n = acc + (fs.map fun f => P.cellsOf f.type).sum ∧ ∀ (i : Nat) (f : Field), fs[i]? = some f → f.offset = acc + ((fs.map fun f => P.cellsOf f.type).take i).sum
  | [], acc, n, h => by
    simp only [reach, Option.some.injEq] at h
    exact ⟨by simp [h], fun i f hf => by simp at hf⟩
  | f :: fs, acc, n, h => by
    simp only [reach] at h
    split at h
    · rename_i he
      obtain ⟨h1, h2⟩ := reach_sum P fs _ n h
      refine ⟨by simp [h1, Nat.add_assoc], fun i g hg => ?_⟩
      cases i with
      | zero => simp at hg; subst hg; simpa using he
      | succ i =>
        have := h2 i g (by simpa using hg)
        simp [this, Nat.add_assoc]
    · cases h
theorem exists_list {β : Type} (p : Nat → β → Prop) : ∀ n, (∀ i, i < n → ∃ y, p i y) → ∃ l : List β, l.length = n ∧ ∀ (i : Nat) (y : β), l[i]? = some y → p i y
  | 0, _ => ⟨[], rfl, fun i y h => by simp at h⟩
  | n + 1, h => by
    obtain ⟨l, hl, hp⟩ := exists_list p n (fun i hi => h i (by omega))
    obtain ⟨y, hy⟩ := h n (by omega)
    refine ⟨l ++ [y], by simp [hl], fun i z hz => ?_⟩
    by_cases hi : i < n
    · rw [List.getElem?_append_left (by omega)] at hz
      exact hp i z hz
    · rw [List.getElem?_append_right (by omega)] at hz
      have hi' : i - l.length = 0 := by
        have := (List.getElem?_eq_some_iff.1 hz).1
        simp at this
        omega
      rw [hi'] at hz
      simp at hz
      rw [show i = n by omega, ← hz]
      exact hy
section
variable {H : Type} {enc : TypeId × Value → H} {P : Program} {w : World} {sp : Nat → Bool}
theorem cells_get {a : Addr} {n : Nat} {cs : List Value} (h : w.cells? 0 a n = some cs) : cs.length = n ∧ ∀ (i : Nat) (v : Value), cs[i]? = some v → w.cell? (a.add i) = some v := by
  unfold World.cells? at h
  rw [if_pos (Nat.zero_le _)] at h
  have hl : cs.length = n := by simpa using mapM_some_length h
  refine ⟨hl, fun i v hv => ?_⟩
  have hi : i < n := by rw [← hl]; exact (List.getElem?_eq_some_iff.1 hv).1
  have := mapM_some_get h i i (by simp [hi])
  rw [this]
  exact hv
theorem cell_spot {a : Addr} {v : Value} (h : w.cell? a = some v) : a.spot = none ∧ a.block < w.heap.size := by
  unfold World.cell? at h
  cases hb : w.heap[a.block]? with
  | none => simp [hb] at h
  | some o =>
    refine ⟨?_, (Array.getElem?_eq_some_iff.1 hb).1⟩
    cases o <;> simp [hb] at h
    cases hs : a.spot with
    | none => rfl
    | some _ => simp [hs] at h
theorem add_plain {a : Addr} (h : a.spot = none) (i : Nat) : a.add i = ⟨a.block, a.off + i, none⟩ := by
  unfold Addr.add
  split
  · rename_i h0
    subst h0
    cases a
    simp at h
    simp [h]
  · rfl
theorem trod_sh (hl : lays P = true) {S : List TypeId} (hS : okS P S = true) : ∀ (n : Nat) (t : TypeId) (cs : List Value) (x : DataW H × List MemPlace), t ∈ S → DataW.trod enc P w 0 sp true n t cs = some x → ∃ xs, Sh P n t xs ∧ RelL w cs xs ∧ BulkOk P t xs x.1 := by
  intro k
  induction k with
  | zero => intro t cs x _ h; simp [DataW.trod] at h
  | succ k ih =>
    intro t cs x hin h
    have hok := List.all_eq_true.1 hS t hin
    simp only [okOne, Bool.and_eq_true, decide_eq_true_eq] at hok
    obtain ⟨ht, hok⟩ := hok
    cases hu : P.underlying t with
    | none => simp [hu] at hok
    | some d =>
      rw [hu] at hok
      have hla := lays_at hl ht hu
      cases d with
      | bool =>
        obtain ⟨b, rfl, rfl⟩ := DataW.trod_bool hu h
        exact ⟨[.bool b], by simp [Sh, hu], relL_one rfl (.bool b), bulkOk_one (by simp [argAV, hu]) (fun B => by rw [bulk_bool]; exact B.one _)⟩
      | int q =>
        obtain ⟨i, rfl, rfl, hw⟩ := DataW.trod_int hu h
        exact ⟨[.int q i], by simp [Sh, hu, hw], relL_one rfl (.int q i), bulkOk_one (by simp [argAV, hu]) (fun B => by rw [bulk_int]; exact B.one _)⟩
      | string =>
        obtain ⟨s, rfl, rfl, hs⟩ := DataW.trod_string hu h
        refine ⟨[.str s.data.toList], by simp only [Sh, hu]; exact ⟨_, rfl, hs⟩, relL_one rfl ?_, bulkOk_one (by simp [argAV, hu]) (fun B => by rw [bulk_str, B.str]; exact Nat.le_refl _)⟩
        have := Rel.str (F := fun _ => False) (w := w) s.data.toList
        simpa using this
      | pointer e =>
        rcases DataW.trod_pointer hu h with ⟨rfl, rfl⟩ | ⟨a, cs', y, n', hn', rfl, rfl, hc, hy⟩
        · exact ⟨[.lit (.pointer none)], by simp [Sh, hu], relL_one rfl (.lit _), bulkOk_one (by simp [argAV, hu]) (fun B => by rw [bulk_lit]; exact B.one _)⟩
        · simp only [Bool.and_eq_true, decide_eq_true_eq] at hok
          obtain rfl : k = n' := by omega
          obtain ⟨ys, h1, h2, hbk⟩ := ih e cs' y (List.contains_iff_mem.1 hok.2) hy
          obtain ⟨hcl, hcell⟩ := cells_get hc
          obtain ⟨hsp, hlt⟩ := cell_spot (a := a) (v := cs'[0]'(by omega)) (by
            have := hcell 0 _ (List.getElem?_eq_getElem (by omega))
            simpa [Addr.add] using this)
          have hz : ∀ (j : Nat) (z : AV), ys[j]? = some z → ∃ v, w.cell? ⟨a.block, a.off + j, none⟩ = some v ∧ v.oneCell' = true ∧ Rel (fun _ => False) w v z := fun j z hj => by
            have hlt : j < cs'.length := by rw [← h2.1]; exact (List.getElem?_eq_some_iff.1 hj).1
            have hv := List.getElem?_eq_getElem hlt
            have := hcell j _ hv
            rw [add_plain hsp] at this
            exact ⟨_, this, h2.2 j _ z hv hj⟩
          have ha : a = ⟨a.block, a.off, none⟩ := by cases a; simp at hsp; simp [hsp]
          refine ⟨[.ref ys], by simp only [Sh, hu]; exact .inr ⟨ys, rfl, h1⟩, relL_one rfl ?_, bulkOk_one (by simp [argAV, hu]) (fun B => by rw [bulk_ref, B.ptr]; have := (hbk B).1; omega)⟩
          rw [ha]
          refine .ref a.block a.off ys (fun j => (w.cell? ⟨a.block, a.off + j, none⟩).getD undef) (fun f => f) hlt (fun j z hj => ?_) (fun j z hj => ?_) (fun j z hj => ?_)
          · obtain ⟨v, h3, _⟩ := hz j z hj
            simp [h3]
          · obtain ⟨v, h3, h4, _⟩ := hz j z hj
            simpa [h3] using h4
          · obtain ⟨v, h3, _, h5⟩ := hz j z hj
            simpa [h3] using h5
      | slice e =>
        rcases DataW.trod_slice hu h with ⟨rfl, rfl⟩ | ⟨a, len, cap, elems, rest, n', hn', rfl, rfl, _, hlc, hcm, hel, hE, _⟩
        · exact ⟨[.sl []], by simp only [Sh, hu]; exact ⟨[], rfl, by simp, by simp⟩, relL_one rfl .slnil, bulkOk_one (by simp [argAV, hu]) (fun B => by rw [bulk_sl]; simpa [bulkL] using B.one _)⟩
        · simp only [laysT, Bool.and_eq_true, decide_eq_true_eq] at hla
          obtain rfl : k = n' := by omega
          have hok := List.contains_iff_mem.1 hok
          obtain ⟨ys, hyl, hyp⟩ := exists_list (fun i ys => Sh P k e ys ∧ ∃ cs', w.cells? 0 (a.add (i * P.cellsOf e)) (P.cellsOf e) = some cs' ∧ RelL w cs' ys ∧ ∀ p, elems[i]? = some p → BulkOk P e ys p.1) len (fun i hi => by
            have hx : elems[i]? = some elems[i] := List.getElem?_eq_getElem (by omega)
            have := hE i hi
            rw [hx] at this
            obtain ⟨cs', hc, hy⟩ := Option.bind_eq_some_iff.1 this
            obtain ⟨ys, h1, h2, h3⟩ := ih e cs' _ hok hy
            exact ⟨ys, h1, cs', hc, h2, fun p hp => by rw [hx] at hp; cases hp; exact h3⟩)
          have hmem : ∀ y, y ∈ ys → Sh P k e y := fun y hy => by
            obtain ⟨i, hi⟩ := List.getElem?_of_mem hy
            exact (hyp i y hi).1
          refine ⟨[.sl (ys.map (argAV P e))], by simp only [Sh, hu]; exact ⟨ys, rfl, by omega, hmem⟩, relL_one rfl ?_, bulkOk_one (by simp [argAV, hu]) (fun B => by
            rw [bulk_sl, B.slice]
            have := bulk_map B (argAV P e) ys elems (by omega) (fun i y p hy hp => by
              obtain ⟨_, _, _, _, hb⟩ := hyp i y hy
              exact ((hb p hp) B).2)
            omega)⟩
          · by_cases h0 : len = 0
            · subst h0
              have : ys = [] := List.length_eq_zero_iff.1 hyl
              subst this
              exact .sl0 a cap
            · obtain ⟨y0, hy0⟩ : ∃ y, ys[0]? = some y := ⟨ys[0]'(by omega), List.getElem?_eq_getElem (by omega)⟩
              obtain ⟨_, c0, hc0, hr0, _⟩ := hyp 0 y0 hy0
              obtain ⟨hl0, hg0⟩ := cells_get hc0
              obtain ⟨hsp, hlt⟩ := cell_spot (a := a) (v := c0[0]'(by omega)) (by
                have := hg0 0 _ (List.getElem?_eq_getElem (by omega))
                simpa [Addr.add] using this)
              have hz : ∀ (i : Nat) (y : List AV) (j : Nat) (z : AV), ys[i]? = some y → y[j]? = some z → ∃ v, w.cell? ⟨a.block, a.off + (i * P.cellsOf e + j), none⟩ = some v ∧ v.oneCell' = true ∧ Rel (fun _ => False) w v z := fun i y j z hi hj => by
                obtain ⟨_, c1, hc1, hr1, _⟩ := hyp i y hi
                obtain ⟨hl1, hg1⟩ := cells_get hc1
                have hlt : j < c1.length := by rw [← hr1.1]; exact (List.getElem?_eq_some_iff.1 hj).1
                have hv := List.getElem?_eq_getElem hlt
                have := hg1 j _ hv
                rw [add_plain hsp, add_plain rfl] at this
                simp only [Nat.add_assoc] at this
                exact ⟨_, this, hr1.2 j _ z hv hj⟩
              have hget : ∀ (i : Nat) (x : AV), (ys.map (argAV P e))[i]? = some x → ∃ y, ys[i]? = some y ∧ x = argAV P e y := fun i x hx => by
                rw [List.getElem?_map] at hx
                obtain ⟨y, h1, h2⟩ := Option.map_eq_some_iff.1 hx
                exact ⟨y, h1, h2.symm⟩
              have ha : a = ⟨a.block, a.off, none⟩ := by cases a; simp at hsp; simp [hsp]
              rw [ha]
              refine .sl a.block a.off len cap (P.cellsOf e) _ (fun j => (w.cell? ⟨a.block, a.off + j, none⟩).getD undef) (fun f => f) hlt (by simp [hyl]) hlc (fun i x hx => ?_) (fun i x j z hx hj => ?_) (fun i x j z hx hj => ?_) (fun i x j z hx hj => ?_)
              · obtain ⟨y, hy, rfl⟩ := hget i x hx
                obtain ⟨hsh, c1, hc1, hr1, _⟩ := hyp i y hy
                rw [argAV_cells hsh, hr1.1, (cells_get hc1).1]
              · obtain ⟨y, hy, rfl⟩ := hget i x hx
                rw [argAV_cells (hyp i y hy).1] at hj
                obtain ⟨v, h3, _⟩ := hz i y j z hy hj
                rw [Nat.add_assoc, h3]
                simp [h3]
              · obtain ⟨y, hy, rfl⟩ := hget i x hx
                rw [argAV_cells (hyp i y hy).1] at hj
                obtain ⟨v, h3, h4, _⟩ := hz i y j z hy hj
                simpa [h3] using h4
              · obtain ⟨y, hy, rfl⟩ := hget i x hx
                rw [argAV_cells (hyp i y hy).1] at hj
                obtain ⟨v, h3, _, h5⟩ := hz i y j z hy hj
                simpa [h3] using h5
      | struct fs =>
        simp only [List.all_eq_true] at hok
        obtain ⟨ps, n', hn', rfl, hcl, hpl, hf⟩ := DataW.trod_struct hu h
        obtain rfl : k = n' := by omega
        simp only [laysT, Bool.and_eq_true, beq_iff_eq] at hla
        obtain ⟨hsum, hoff⟩ := reach_sum P fs.toList 0 _ hla.2
        obtain ⟨ys, hyl, hyp⟩ := exists_list (fun i ys => ∀ f, fs[i]? = some f → Sh P k f.type ys ∧ RelL w ((cs.drop f.offset).take (P.cellsOf f.type)) ys ∧ ∀ p, ps[i]? = some p → BulkOk P f.type ys p.1) fs.size (fun i hi => by
          have hfi : fs[i]? = some fs[i] := Array.getElem?_eq_getElem hi
          have hx : ps[i]? = some ps[i] := List.getElem?_eq_getElem (by omega)
          have := hf i _ hfi
          rw [hx] at this
          obtain ⟨ys, h1, h2, h3⟩ := ih _ _ _ (List.contains_iff_mem.1 (hok fs[i] (by simp))) this
          exact ⟨ys, fun f hff => by rw [hfi] at hff; cases hff; exact ⟨h1, h2, fun p hp => by rw [hx] at hp; cases hp; exact h3⟩⟩)
        have hbk : ∀ B : Bulk H, bulkL ys.flatten ≤ B.l (ps.map (·.1)) := fun B => bulk_flat B ys ps (by omega) (fun i y p hy hp => by
          have hi : i < fs.size := by have := (List.getElem?_eq_some_iff.1 hy).1; omega
          exact (((hyp i y hy fs[i] (Array.getElem?_eq_getElem hi)).2.2 p hp) B).1)
        refine ⟨ys.flatten, by simp only [Sh, hu]; exact ⟨ys, rfl, hyl, fun i f y hfi hy => (hyp i y hy f hfi).1⟩, ?_, fun B => by
          have := hbk B
          simp only [argAV, hu, bulk_agg, B.agg]
          omega⟩
        have hg := glue (w := w) (cs := cs) (fs.toList.map fun f => P.cellsOf f.type) ys 0 (by simp [hyl]) (by omega) (fun i c y hi hy => by
          rw [List.getElem?_map] at hi
          cases hfi : fs.toList[i]? with
          | none => simp [hfi] at hi
          | some f =>
            simp only [hfi, Option.map_some, Option.some.injEq] at hi
            rw [← hoff i f hfi, ← hi]
            exact (hyp i y hy f (by simpa using hfi)).2.1)
        rw [List.drop_zero, List.take_of_length_le (by omega)] at hg
        exact hg
      | array m e =>
        simp only [laysT, Bool.and_eq_true, decide_eq_true_eq, beq_iff_eq] at hla
        obtain ⟨ps, n', hn', rfl, hcl, hpl, hE⟩ := DataW.trod_array hu h
        obtain rfl : k = n' := by omega
        have hok := List.contains_iff_mem.1 hok
        obtain ⟨ys, hyl, hyp⟩ := exists_list (fun i ys => Sh P k e ys ∧ RelL w ((cs.drop (i * P.cellsOf e)).take (P.cellsOf e)) ys ∧ ∀ p, ps[i]? = some p → BulkOk P e ys p.1) m (fun i hi => by
          have := hE i hi
          have hx : ps[i]? = some ps[i] := List.getElem?_eq_getElem (by omega)
          rw [hx] at this
          obtain ⟨ys, h1, h2, h3⟩ := ih e _ _ hok this
          exact ⟨ys, h1, h2, fun p hp => by rw [hx] at hp; cases hp; exact h3⟩)
        have hmem : ∀ y, y ∈ ys → Sh P k e y := fun y hy => by
          obtain ⟨i, hi⟩ := List.getElem?_of_mem hy
          exact (hyp i y hi).1
        have hbk : ∀ B : Bulk H, bulkL ys.flatten ≤ B.l (ps.map (·.1)) := fun B => bulk_flat B ys ps (by omega) (fun i y p hy hp => (((hyp i y hy).2.2 p hp) B).1)
        refine ⟨ys.flatten, by simp only [Sh, hu]; exact ⟨ys, rfl, hyl, hmem⟩, ?_, fun B => by
          have := hbk B
          simp only [argAV, hu, bulk_agg, B.agg]
          omega⟩
        · have hg := glue (w := w) (cs := cs) (List.replicate m (P.cellsOf e)) ys 0 (by simp [hyl]) (by simp; omega) (fun i c y hi hy => by
            have him : i < m := by have := (List.getElem?_eq_some_iff.1 hi).1; simpa using this
            have hc : c = P.cellsOf e := by
              rw [List.getElem?_replicate, if_pos him] at hi
              exact (Option.some.inj hi).symm
            rw [List.take_replicate, List.sum_replicate_nat, Nat.min_eq_left (by omega), hc, Nat.zero_add]
            exact (hyp i y hy).2.1)
          rw [List.drop_zero, List.sum_replicate_nat, List.take_of_length_le (by omega)] at hg
          exact hg
      | _ => simp at hok
theorem cell_one {t : TypeId} {v : Value} {r : Reach} {base : Nat} (h : Cell.okWide P w r base t v) : v.oneCell' = true := by
  cases v with
  | agg cs =>
    unfold Cell.okWide Cell.ok at h
    cases hu : P.underlying t with
    | none => simp [hu] at h
    | some d => cases d <;> simp [hu] at h
  | tuple cs =>
    unfold Cell.okWide Cell.ok at h
    cases hu : P.underlying t with
    | none => simp [hu] at h
    | some d => cases d <;> simp [hu] at h
  | _ => rfl
theorem arg_rel {t : TypeId} {v : Value} {xs : List AV} {r : Reach} {base : Nat} (hval : Value.okWide P w r base t v) (h : RelL w v.cells.toList xs) : Rel (fun _ => False) w v (argAV P t xs) := by
  unfold Value.okWide at hval
  unfold argAV
  have one : v.oneCell' = true → Rel (fun _ => False) w v (xs.headD .any) := fun h1 => by
    have hc : v.cells = #[v] := by cases v <;> first | rfl | cases h1
    rw [hc] at h
    obtain ⟨hl, hr⟩ := h
    obtain ⟨x, rfl⟩ := List.length_eq_one_iff.1 (show xs.length = 1 by simpa using hl)
    exact (hr 0 v x rfl rfl).2
  split at hval
  · rename_i fs hu
    obtain ⟨cs, rfl, _⟩ := hval
    rw [hu]
    exact .agg cs xs (by simpa [Value.cells] using h.1.symm) (fun j u hj => by
      have hlt := (Array.getElem?_eq_some_iff.1 hj).1
      have hx : xs[j]? = some (xs[j]'(by rw [h.1]; simpa [Value.cells] using hlt)) := List.getElem?_eq_getElem _
      exact (h.2 j u _ (by simpa [Value.cells] using hj) hx).1) (fun j u y hj hy => (h.2 j u y (by simpa [Value.cells] using hj) hy).2)
  · rename_i m e hu
    obtain ⟨cs, rfl, _⟩ := hval
    rw [hu]
    exact .agg cs xs (by simpa [Value.cells] using h.1.symm) (fun j u hj => by
      have hlt := (Array.getElem?_eq_some_iff.1 hj).1
      have hx : xs[j]? = some (xs[j]'(by rw [h.1]; simpa [Value.cells] using hlt)) := List.getElem?_eq_getElem _
      exact (h.2 j u _ (by simpa [Value.cells] using hj) hx).1) (fun j u y hj hy => (h.2 j u y (by simpa [Value.cells] using hj) hy).2)
  · rename_i h1 h2
    have : (match P.underlying t with | some (.struct _) | some (.array _ _) => AV.agg xs | _ => xs.headD .any) = xs.headD .any := by
      split
      · rename_i hu; exact absurd hu (h1 _)
      · rename_i hu; exact absurd hu (h2 _ _)
      · rfl
    rw [this]
    exact one (cell_one hval)
inductive Args (P : Program) : List TypeId → List AV → Prop
  | nil : Args P [] []
  | cons (t : TypeId) (ts : List TypeId) (xs : List AV) (ar : List AV) (n : Nat) (h : Sh P n t xs) (hr : Args P ts ar) : Args P (t :: ts) (argAV P t xs :: ar)
theorem args_of (hl : lays P = true) {S : List TypeId} (hS : okS P S = true) {r : Reach} {base : Nat} : ∀ (ts : List TypeId) (vs : List Value) (ds : List (DataW H)) (ps : List MemPlace), (∀ t ∈ ts, t ∈ S) → DataW.TrodAll enc P w 0 sp true ts vs ds ps →
    (∀ (j : Nat) t v, ts[j]? = some t → vs[j]? = some v → Value.okWide P w r base t v) → ∃ ar, Args P ts ar ∧ (∀ B : Bulk H, bulkL ar ≤ B.l ds) ∧ vs.length = ar.length ∧ ∀ (j : Nat) (v : Value) (y : AV), vs[j]? = some v → ar[j]? = some y → Rel (fun _ => False) w v y
  | [], vs, ds, ps, _, h, _ => by
    obtain ⟨rfl, rfl, rfl⟩ := trodAll_nil h
    exact ⟨[], .nil, fun B => by simp [bulkL], rfl, fun j v y hv => by simp at hv⟩
  | t :: ts, vs, ds, ps, hok, h, hval => by
    obtain ⟨v, vs', d, ds', p, q, rfl, rfl, rfl, ⟨n, h1⟩, h2⟩ := trodAll_cons h
    obtain ⟨xs, hx, hr, hb⟩ := trod_sh hl hS n t _ _ (hok t (List.mem_cons_self ..)) h1
    obtain ⟨ar, ha, hba, hal, har⟩ := args_of hl hS ts vs' ds' q (fun u hu => hok u (List.mem_cons_of_mem _ hu)) h2 (fun j u z hu hz => hval (j + 1) u z (by simpa using hu) (by simpa using hz))
    refine ⟨argAV P t xs :: ar, .cons t ts xs ar n hx ha, fun B => by rw [B.cons, bulkL]; have := hba B; have := (hb B).2; simp only at this; omega, by simp [hal], fun j u y hu hy => ?_⟩
    cases j with
    | zero =>
      simp only [List.getElem?_cons_zero, Option.some.injEq] at hu hy
      rw [← hu, ← hy]
      exact arg_rel (hval 0 t v rfl rfl) hr
    | succ j => exact har j u y (by simpa using hu) (by simpa using hy)
end
end Go.Aw
namespace Go.Aw
open Go.WideShapes Go.ChangeShapes Go.RowKit
section
variable {H : Type} {enc : TypeId × Value → H} {P : Program}
theorem law_contract {f : Func} {fid : FuncId} {s : ChangeSpec} {tb : TypeId} {S : List TypeId} (hl : lays P = true) (hS : okS P S = true) (hts : f.params.toList.all (fun t => S.contains t) = true) (hvars : s.vars = [])
    (hfn : ∀ ds : List (DataW H), ds.length = f.params.size → s.fn H ds = { results := [.lit (.bool true)], args := ds }) (hres : f.resultTypes = #[tb]) (hub : P.underlying tb = some .bool)
    (W : World) (base : Nat) (args : Array Value) (ds gs : List (DataW H)) (before : List MemPlace) (law : ∀ ar, Args P f.params.toList ar → (∀ B : Bulk H, bulkL ar ≤ B.l (ds ++ gs)) → PureC P fid ar (.bool true))
    (hval : ∀ (j : Nat) t v, f.params[j]? = some t → args[j]? = some v → Value.okWide P W .any base t v)
    (hW : DataW.Whole enc P f.params.toList s.vars false W args.toList ds gs before) :
    Calls P fid args W fun e W' => ∃ v, e = .returned v ∧ s.post enc P f false true false false W args v W' := by
  have hW' := hW
  obtain ⟨p, q, hA, hV, rfl, hfz, hnd⟩ := hW
  rw [hvars] at hV
  obtain ⟨rfl, rfl⟩ := trodVars_none hV
  simp only [List.append_nil] at hW' hfz hnd
  have hok : ∀ t ∈ f.params.toList, t ∈ S := fun t ht => List.contains_iff_mem.1 (List.all_eq_true.1 hts t ht)
  obtain ⟨ar, hargs, hbk, hal, har⟩ := args_of hl hS f.params.toList args.toList ds p hok hA (fun j t v ht hv => hval j t v (by simpa using ht) (by simpa using hv))
  have hlt : ∀ t ∈ f.params.toList, t < P.types.size := fun t ht => by
    have := List.all_eq_true.1 hS t (hok t ht)
    simp only [okOne, Bool.and_eq_true, decide_eq_true_eq] at this
    exact this.1
  have hdl : ds.length = f.params.size := by
    have : ∀ (ts : List TypeId) (vs : List Value) (ds : List (DataW H)) (ps : List MemPlace), DataW.TrodAll enc P W 0 (fun _ => true) true ts vs ds ps → ds.length = ts.length := by
      intro ts
      induction ts with
      | nil => intro vs ds ps h; obtain ⟨_, rfl, _⟩ := trodAll_nil h; rfl
      | cons t ts ih =>
        intro vs ds ps h
        obtain ⟨_, _, _, _, _, _, _, rfl, _, _, h2⟩ := trodAll_cons h
        simp [ih _ _ _ h2]
    simpa using this _ _ _ _ hA
  refine (law ar hargs (fun B => by simpa using hbk B) (fun _ => False) args W (by simpa using hal) (fun j v y hv hy => (har j v y (by simpa using hv) hy).mono (Grow.refl _ _) (fun b _ hb => hb.elim (fun f => f) (fun h => by simp [Own.has] at h))) ⟨fun e he => by simp at he, List.nodup_nil, fun b hb => by simp [Own.has] at hb, fun b hb => hb.elim⟩).mono ?_
  rintro e W' ⟨r, own', ⟨rfl, rfl⟩, ⟨v, rfl, hv⟩, _, hg, _⟩
  cases hv
  have hb : Below W.heap.size W W' := ⟨hg.os, hg.tape, hg.out, hg.sz, fun b hb => hg.same b hb (fun h => by simp [Own.has] at h)⟩
  have hps : ∀ x ∈ p, x.block < W.heap.size := fun x hx => hW'.lt x hx
  have again : ∀ sp : Nat → Bool, (∀ x ∈ p, sp x.block = true) → DataW.TrodAll enc P W' 0 sp true f.params.toList args.toList ds p := fun sp hsp =>
    all_spare hl _ _ _ _ hlt hA hsp (fun x hx => hb.same (hps x hx))
  have hfn' := hfn ds hdl
  have res : ∀ (b : Nat) (sp : Nat → Bool) (hd : Bool), DataW.TrodAll enc P W' b sp hd f.resultTypes.toList ((Value.bool true).resultList f.resultTypes.size) (s.fn H (ds ++ [])).results [] := fun b sp hd => by
    rw [List.append_nil, hfn', hres]
    exact trodAll_cons_mk (shut_bool hub true) trodAll_mk0
  have arg : ∀ sp : Nat → Bool, (∀ x ∈ p, sp x.block = true) → DataW.TrodAll enc P W' 0 sp true f.params.toList args.toList (s.fn H (ds ++ [])).args p := fun sp hsp => by
    rw [List.append_nil, hfn']
    exact again sp hsp
  have vr : ∀ sp : Nat → Bool, DataW.TrodVars enc P W' sp s.vars (s.fn H (ds ++ [])).vars [] := fun sp => by
    rw [hvars, List.append_nil, hfn']
    rfl
  refine ⟨_, rfl, ds, [], p, [], p, [], hW', res _ _ _, arg _ (fun x hx => by simpa using hps x hx), vr _, hb.frame _, fun _ => ?_⟩
  refine ⟨ok_one hres rfl (okWide_bool_mk hub _), _, _, ([] ++ p) ++ [], ⟨[] ++ p, [], trodAll_append (arg _ (fun _ _ => rfl)) (res _ _ _), vr _, rfl, ?_, ?_⟩, ?_⟩
  · intro b off hp
    have hp' : MemPlace.cell b off ∈ p := by simpa using hp
    rw [hb.frozen (p := ⟨b, off, none⟩) (hps _ hp')]
    exact hfz b off hp'
  · intro ha
    simpa using hnd ha
  · intro x hp _
    simpa using hp
end
end Go.Aw
namespace Go.Aw
section
variable {P : Program} {k : Nat} {t : TypeId} {xs : List AV}
theorem sh_int {q : IntKind} (hu : P.underlying t = some (.int q)) (h : Sh P (k + 1) t xs) : ∃ n, xs = [.int q n] ∧ (Lit.int q n).wf = true := by simpa only [Sh, hu] using h
theorem sh_bool (hu : P.underlying t = some .bool) (h : Sh P (k + 1) t xs) : ∃ b, xs = [.bool b] := by simpa only [Sh, hu] using h
theorem sh_string (hu : P.underlying t = some .string) (h : Sh P (k + 1) t xs) : ∃ l, xs = [.str l] ∧ l.length ≤ maxLen := by simpa only [Sh, hu] using h
theorem sh_slice {e : TypeId} (hu : P.underlying t = some (.slice e)) (h : Sh P (k + 1) t xs) : ∃ ys : List (List AV), xs = [.sl (ys.map (argAV P e))] ∧ ys.length ≤ maxLen ∧ ∀ y, y ∈ ys → Sh P k e y := by simpa only [Sh, hu] using h
theorem sh_struct {fs : Array Field} (hu : P.underlying t = some (.struct fs)) (h : Sh P (k + 1) t xs) : ∃ ys : List (List AV), xs = ys.flatten ∧ ys.length = fs.size ∧ ∀ (i : Nat) (f : Field) (y : List AV), fs[i]? = some f → ys[i]? = some y → Sh P k f.type y := by simpa only [Sh, hu] using h
theorem sh_array {m : Nat} {e : TypeId} (hu : P.underlying t = some (.array m e)) (h : Sh P (k + 1) t xs) : ∃ ys : List (List AV), xs = ys.flatten ∧ ys.length = m ∧ ∀ y, y ∈ ys → Sh P k e y := by simpa only [Sh, hu] using h
theorem sh_struct2 {f0 f1 : Field} (hu : P.underlying t = some (.struct #[f0, f1])) (h : Sh P (k + 1) t xs) : ∃ y0 y1, xs = y0 ++ y1 ∧ Sh P k f0.type y0 ∧ Sh P k f1.type y1 := by
  obtain ⟨ys, rfl, hl, hy⟩ := sh_struct hu h
  match ys, hl with
  | [y0, y1], _ => exact ⟨y0, y1, by simp, hy 0 f0 y0 rfl rfl, hy 1 f1 y1 rfl rfl⟩
theorem arg_one (hu : ∀ fs, P.underlying t ≠ some (.struct fs)) (hu' : ∀ n e, P.underlying t ≠ some (.array n e)) {x : AV} : argAV P t [x] = x := by
  unfold argAV
  split
  · rename_i h; exact absurd h (hu _)
  · rename_i h; exact absurd h (hu' _ _)
  · rfl
theorem arg_int {q : IntKind} (hu : P.underlying t = some (.int q)) {x : AV} : argAV P t [x] = x := by simp [argAV, hu]
theorem arg_bool (hu : P.underlying t = some .bool) {x : AV} : argAV P t [x] = x := by simp [argAV, hu]
theorem arg_string (hu : P.underlying t = some .string) {x : AV} : argAV P t [x] = x := by simp [argAV, hu]
theorem arg_slice {e : TypeId} (hu : P.underlying t = some (.slice e)) {x : AV} : argAV P t [x] = x := by simp [argAV, hu]
theorem arg_struct {fs : Array Field} (hu : P.underlying t = some (.struct fs)) : argAV P t xs = .agg xs := by simp [argAV, hu]
theorem args_nil {ar : List AV} (h : Args P [] ar) : ar = [] := by cases h; rfl
theorem args_cons {ts : List TypeId} {ar : List AV} (h : Args P (t :: ts) ar) : ∃ xs ar' n, ar = argAV P t xs :: ar' ∧ Sh P n t xs ∧ Args P ts ar' := by
  cases h with
  | cons _ _ xs ar' n h hr => exact ⟨xs, ar', n, rfl, h, hr⟩
theorem all_of {α : Type} {β : Type} (f : α → β) : ∀ (l : List β), (∀ y, y ∈ l → ∃ c, y = f c) → ∃ cs : List α, l = cs.map f
  | [], _ => ⟨[], rfl⟩
  | y :: l, h => by
    obtain ⟨c, hc⟩ := h y (List.mem_cons_self ..)
    obtain ⟨cs, hcs⟩ := all_of f l (fun z hz => h z (List.mem_cons_of_mem _ hz))
    exact ⟨c :: cs, by rw [hc, hcs]; rfl⟩
theorem sh_zero (h : Sh P 0 t xs) : False := h
theorem rdl {α : Type} {f : α → List AV} {g : α → AV} {ok : α → Prop} {e : TypeId} {n : Nat} (hu : P.underlying t = some (.slice e)) (hg : ∀ a, argAV P e (f a) = g a)
    (H : ∀ m, m < n + 1 → ∀ y, Sh P m e y → ∃ a, y = f a ∧ ok a) (h : Sh P (n + 1) t xs) : ∃ l : List α, xs = [.sl (l.map g)] ∧ ∀ a, a ∈ l → ok a := by
  obtain ⟨ys, rfl, hlen, hy⟩ := sh_slice hu h
  have : ∃ l : List α, ys = l.map f ∧ ∀ a, a ∈ l → ok a := by
    clear h hlen
    induction ys with
    | nil => exact ⟨[], rfl, fun a ha => by simp at ha⟩
    | cons y ys ih =>
      obtain ⟨a, rfl, oa⟩ := H n (by omega) y (hy y (List.mem_cons_self ..))
      obtain ⟨l, rfl, ol⟩ := ih (fun z hz => hy z (List.mem_cons_of_mem _ hz))
      exact ⟨a :: l, rfl, fun b hb => by rcases List.mem_cons.1 hb with rfl | hb; exact oa; exact ol b hb⟩
  obtain ⟨l, rfl, ol⟩ := this
  refine ⟨l, ?_, ol⟩
  rw [List.map_map]
  congr 2
  exact List.map_congr_left fun a _ => hg a
theorem rdl0 {α : Type} {f : α → List AV} {g : α → AV} {ok : α → Prop} {e : TypeId} {n : Nat} (hu : P.underlying t = some (.slice e)) (hg : ∀ a, argAV P e (f a) = g a)
    (H : ∀ m, m < n + 1 → ∀ y, Sh P m e y → ∃ a, y = f a ∧ ok a) (h : Sh P n t xs) : ∃ l : List α, xs = [.sl (l.map g)] ∧ ∀ a, a ∈ l → ok a := by
  cases n with
  | zero => exact h.elim
  | succ n => exact rdl hu hg (fun m hm => H m (by omega)) h
theorem arg_array {m : Nat} {e : TypeId} (hu : P.underlying t = some (.array m e)) : argAV P t xs = .agg xs := by simp [argAV, hu]
theorem rng_i8 {n : Int} (h : (Lit.int .i8 n).wf = true) : -128 ≤ n ∧ n ≤ 127 := by simpa [Lit.wf, IntKind.min, IntKind.max, IntKind.signed, IntKind.bits] using h
theorem rng_i16 {n : Int} (h : (Lit.int .i16 n).wf = true) : -32768 ≤ n ∧ n ≤ 32767 := by simpa [Lit.wf, IntKind.min, IntKind.max, IntKind.signed, IntKind.bits] using h
theorem rng_i32 {n : Int} (h : (Lit.int .i32 n).wf = true) : -2147483648 ≤ n ∧ n ≤ 2147483647 := by simpa [Lit.wf, IntKind.min, IntKind.max, IntKind.signed, IntKind.bits] using h
theorem rng_i64 {n : Int} (h : (Lit.int .i64 n).wf = true) : -9223372036854775808 ≤ n ∧ n ≤ 9223372036854775807 := by simpa [Lit.wf, IntKind.min, IntKind.max, IntKind.signed, IntKind.bits] using h
theorem rng_u8 {n : Int} (h : (Lit.int .u8 n).wf = true) : 0 ≤ n ∧ n ≤ 255 := by simpa [Lit.wf, IntKind.min, IntKind.max, IntKind.signed, IntKind.bits] using h
theorem rng_u16 {n : Int} (h : (Lit.int .u16 n).wf = true) : 0 ≤ n ∧ n ≤ 65535 := by simpa [Lit.wf, IntKind.min, IntKind.max, IntKind.signed, IntKind.bits] using h
theorem rng_u32 {n : Int} (h : (Lit.int .u32 n).wf = true) : 0 ≤ n ∧ n ≤ 4294967295 := by simpa [Lit.wf, IntKind.min, IntKind.max, IntKind.signed, IntKind.bits] using h
theorem rng_u64 {n : Int} (h : (Lit.int .u64 n).wf = true) : 0 ≤ n ∧ n ≤ 18446744073709551615 := by simpa [Lit.wf, IntKind.min, IntKind.max, IntKind.signed, IntKind.bits] using h
theorem bulkL_mem {α : Type} {g : α → AV} {a : α} : ∀ {l : List α}, a ∈ l → (g a).bulk ≤ bulkL (l.map g)
  | b :: l, h => by
    rw [List.map_cons, bulkL]
    rcases List.mem_cons.1 h with rfl | h
    · omega
    · have := bulkL_mem (g := g) h; omega
theorem bulk_pos (x : AV) : 1 ≤ x.bulk := by cases x <;> simp [AV.bulk]
theorem bulkL_len {α : Type} {g : α → AV} : ∀ (l : List α), l.length ≤ bulkL (l.map g)
  | [] => by simp
  | b :: l => by
    rw [List.map_cons, bulkL, List.length_cons]
    have := bulkL_len (g := g) l
    have := bulk_pos (g b)
    omega
end
end Go.Aw
set_option maxRecDepth 100000
namespace Go.Proofs.Inc
open Go.Aw
structure Civil.ok (x : Civil) : Prop where
  Year : -9223372036854775808 ≤ x.Year ∧ x.Year ≤ 9223372036854775807
  Month : -9223372036854775808 ≤ x.Month ∧ x.Month ≤ 9223372036854775807
  Day : -9223372036854775808 ≤ x.Day ∧ x.Day ≤ 9223372036854775807
structure Span.ok (x : Span) : Prop where
  Days : -9223372036854775808 ≤ x.Days ∧ x.Days ≤ 9223372036854775807
  Name : List.length x.Name ≤ 9223372036854775807
structure Named.ok (x : Named) : Prop where
  Name : List.length x.Name ≤ 9223372036854775807
  Is : -9223372036854775808 ≤ x.Is ∧ x.Is ≤ 9223372036854775807
structure Ratio.ok (x : Ratio) : Prop where
  Num : -9223372036854775808 ≤ x.Num ∧ x.Num ≤ 9223372036854775807
  Den : -9223372036854775808 ≤ x.Den ∧ x.Den ≤ 9223372036854775807
structure Arr7B.ok (x : Arr7B) : Prop where
inductive Item.ok : Item → Prop
  | mk (x : Item) (hKind : -9223372036854775808 ≤ x.Kind ∧ x.Kind ≤ 9223372036854775807) (hName : List.length x.Name ≤ 9223372036854775807) (hAt : -9223372036854775808 ≤ x.At ∧ x.At ≤ 9223372036854775807) (hOf : List.length x.Of ≤ 9223372036854775807) (hAct : List.length x.Act ≤ 9223372036854775807) (hWord : -9223372036854775808 ≤ x.Word ∧ x.Word ≤ 9223372036854775807) (hTimes : -9223372036854775808 ≤ x.Times ∧ x.Times ≤ 9223372036854775807) (hWithin : Span.ok x.Within) (hGrace : Span.ok x.Grace) (hConds : ∀ a7, a7 ∈ x.Conds → Named.ok a7) (hBy : List.length x.By ≤ 9223372036854775807) (hUntil : List.length x.Until ≤ 9223372036854775807) (hNum : Ratio.ok x.Num) (hUnit : List.length x.Unit ≤ 9223372036854775807) (hSum : List.length x.Sum ≤ 9223372036854775807) (hGive : List.length x.Give ≤ 9223372036854775807) (hTo : List.length x.To ≤ 9223372036854775807) (hDays : Arr7B.ok x.Days) (hDates : ∀ a7, a7 ∈ x.Dates → Civil.ok a7) (hNames : ∀ a7, a7 ∈ x.Names → List.length a7 ≤ 9223372036854775807) (hItems : ∀ a7, a7 ∈ x.Items → Item.ok a7) : Item.ok x
theorem Item.ok.Kind {x : Item} (h : Item.ok x) : -9223372036854775808 ≤ x.Kind ∧ x.Kind ≤ 9223372036854775807 := by cases h; assumption
theorem Item.ok.Name {x : Item} (h : Item.ok x) : List.length x.Name ≤ 9223372036854775807 := by cases h; assumption
theorem Item.ok.At {x : Item} (h : Item.ok x) : -9223372036854775808 ≤ x.At ∧ x.At ≤ 9223372036854775807 := by cases h; assumption
theorem Item.ok.Of {x : Item} (h : Item.ok x) : List.length x.Of ≤ 9223372036854775807 := by cases h; assumption
theorem Item.ok.Act {x : Item} (h : Item.ok x) : List.length x.Act ≤ 9223372036854775807 := by cases h; assumption
theorem Item.ok.Word {x : Item} (h : Item.ok x) : -9223372036854775808 ≤ x.Word ∧ x.Word ≤ 9223372036854775807 := by cases h; assumption
theorem Item.ok.Times {x : Item} (h : Item.ok x) : -9223372036854775808 ≤ x.Times ∧ x.Times ≤ 9223372036854775807 := by cases h; assumption
theorem Item.ok.Within {x : Item} (h : Item.ok x) : Span.ok x.Within := by cases h; assumption
theorem Item.ok.Grace {x : Item} (h : Item.ok x) : Span.ok x.Grace := by cases h; assumption
theorem Item.ok.Conds {x : Item} (h : Item.ok x) : ∀ a7, a7 ∈ x.Conds → Named.ok a7 := by cases h; assumption
theorem Item.ok.By {x : Item} (h : Item.ok x) : List.length x.By ≤ 9223372036854775807 := by cases h; assumption
theorem Item.ok.Until {x : Item} (h : Item.ok x) : List.length x.Until ≤ 9223372036854775807 := by cases h; assumption
theorem Item.ok.Num {x : Item} (h : Item.ok x) : Ratio.ok x.Num := by cases h; assumption
theorem Item.ok.Unit {x : Item} (h : Item.ok x) : List.length x.Unit ≤ 9223372036854775807 := by cases h; assumption
theorem Item.ok.Sum {x : Item} (h : Item.ok x) : List.length x.Sum ≤ 9223372036854775807 := by cases h; assumption
theorem Item.ok.Give {x : Item} (h : Item.ok x) : List.length x.Give ≤ 9223372036854775807 := by cases h; assumption
theorem Item.ok.To {x : Item} (h : Item.ok x) : List.length x.To ≤ 9223372036854775807 := by cases h; assumption
theorem Item.ok.Days {x : Item} (h : Item.ok x) : Arr7B.ok x.Days := by cases h; assumption
theorem Item.ok.Dates {x : Item} (h : Item.ok x) : ∀ a7, a7 ∈ x.Dates → Civil.ok a7 := by cases h; assumption
theorem Item.ok.Names {x : Item} (h : Item.ok x) : ∀ a7, a7 ∈ x.Names → List.length a7 ≤ 9223372036854775807 := by cases h; assumption
theorem Item.ok.Items {x : Item} (h : Item.ok x) : ∀ a7, a7 ∈ x.Items → Item.ok a7 := by cases h; assumption
structure Source.ok (x : Source) : Prop where
  Name : List.length x.Name ≤ 9223372036854775807
  From : Civil.ok x.From
  Days : -9223372036854775808 ≤ x.Days ∧ x.Days ≤ 9223372036854775807
  Items : ∀ a7, a7 ∈ x.Items → Item.ok a7
theorem rd9 : ∀ (n : Nat) (xs : List AV), Sh Try.prog n 9 xs → ∃ a : List UInt8, xs = [.str a] ∧ (List.length a ≤ 9223372036854775807) := by
  intro n xs h
  cases n with
  | zero => exact (sh_zero h).elim
  | succ n =>
    obtain ⟨a, rfl, w⟩ := sh_string Try.underlying9 h
    exact ⟨a, rfl, w⟩
theorem rd3 : ∀ (n : Nat) (xs : List AV), Sh Try.prog n 3 xs → ∃ a : Int, xs = [.int .i64 a] ∧ (-9223372036854775808 ≤ a ∧ a ≤ 9223372036854775807) := by
  intro n xs h
  cases n with
  | zero => exact (sh_zero h).elim
  | succ n =>
    obtain ⟨a, rfl, w⟩ := sh_int Try.underlying3 h
    exact ⟨a, rfl, rng_i64 w⟩
theorem rd23 : ∀ (n : Nat) (xs : List AV), Sh Try.prog n 23 xs → ∃ a : Civil, xs = Civil.cs a ∧ (Civil.ok a) := by
  intro n xs h
  cases n with
  | zero => exact (sh_zero h).elim
  | succ n =>
    obtain ⟨ys, rfl, hl, hy⟩ := sh_struct Try.underlying23 h
    match ys, hl with
    | [y0, y1, y2], _ =>
      obtain ⟨a0, e0, o0⟩ := rd3 n y0 (hy 0 _ y0 rfl rfl)
      obtain ⟨a1, e1, o1⟩ := rd3 n y1 (hy 1 _ y1 rfl rfl)
      obtain ⟨a2, e2, o2⟩ := rd3 n y2 (hy 2 _ y2 rfl rfl)
      subst e0 e1 e2
      refine ⟨⟨a0, a1, a2⟩, ?_, ⟨o0, o1, o2⟩⟩
      simp only [Civil.cs_eq, List.flatten_cons, List.flatten_nil, List.append_nil, List.cons_append, List.nil_append]
theorem rd4 : ∀ (n : Nat) (xs : List AV), Sh Try.prog n 4 xs → ∃ a : Bool, xs = [.bool a] ∧ True := by
  intro n xs h
  cases n with
  | zero => exact (sh_zero h).elim
  | succ n =>
    obtain ⟨a, rfl⟩ := sh_bool Try.underlying4 h
    exact ⟨a, rfl, trivial⟩
theorem rd33 : ∀ (n : Nat) (xs : List AV), Sh Try.prog n 33 xs → ∃ a : Span, xs = Span.cs a ∧ (Span.ok a) := by
  intro n xs h
  cases n with
  | zero => exact (sh_zero h).elim
  | succ n =>
    obtain ⟨ys, rfl, hl, hy⟩ := sh_struct Try.underlying33 h
    match ys, hl with
    | [y0, y1, y2], _ =>
      obtain ⟨a0, e0, o0⟩ := rd3 n y0 (hy 0 _ y0 rfl rfl)
      obtain ⟨a1, e1, o1⟩ := rd4 n y1 (hy 1 _ y1 rfl rfl)
      obtain ⟨a2, e2, o2⟩ := rd9 n y2 (hy 2 _ y2 rfl rfl)
      subst e0 e1 e2
      refine ⟨⟨a0, a1, a2⟩, ?_, ⟨o0, o2⟩⟩
      simp only [Span.cs_eq, List.flatten_cons, List.flatten_nil, List.append_nil, List.cons_append, List.nil_append]
theorem rd57 : ∀ (n : Nat) (xs : List AV), Sh Try.prog n 57 xs → ∃ a : Named, xs = Named.cs a ∧ (Named.ok a) := by
  intro n xs h
  cases n with
  | zero => exact (sh_zero h).elim
  | succ n =>
    obtain ⟨ys, rfl, hl, hy⟩ := sh_struct Try.underlying57 h
    match ys, hl with
    | [y0, y1], _ =>
      obtain ⟨a0, e0, o0⟩ := rd9 n y0 (hy 0 _ y0 rfl rfl)
      obtain ⟨a1, e1, o1⟩ := rd3 n y1 (hy 1 _ y1 rfl rfl)
      subst e0 e1
      refine ⟨⟨a0, a1⟩, ?_, ⟨o0, o1⟩⟩
      simp only [Named.cs_eq, List.flatten_cons, List.flatten_nil, List.append_nil, List.cons_append, List.nil_append]
theorem rd34 : ∀ (n : Nat) (xs : List AV), Sh Try.prog n 34 xs → ∃ a : List Named, xs = [.sl (List.map Named.av a)] ∧ (∀ a1, a1 ∈ a → Named.ok a1) := by
  intro n xs h
  cases n with
  | zero => exact (sh_zero h).elim
  | succ n => exact rdl (f := fun a => Named.cs a) (g := fun a => Named.av a) (ok := fun a => Named.ok a) Try.underlying34 (fun a => arg_struct Try.underlying57) (fun m hm y hy => rd57 m y hy) h
theorem rd36 : ∀ (n : Nat) (xs : List AV), Sh Try.prog n 36 xs → ∃ a : Ratio, xs = Ratio.cs a ∧ (Ratio.ok a) := by
  intro n xs h
  cases n with
  | zero => exact (sh_zero h).elim
  | succ n =>
    obtain ⟨ys, rfl, hl, hy⟩ := sh_struct Try.underlying36 h
    match ys, hl with
    | [y0, y1], _ =>
      obtain ⟨a0, e0, o0⟩ := rd3 n y0 (hy 0 _ y0 rfl rfl)
      obtain ⟨a1, e1, o1⟩ := rd3 n y1 (hy 1 _ y1 rfl rfl)
      subst e0 e1
      refine ⟨⟨a0, a1⟩, ?_, ⟨o0, o1⟩⟩
      simp only [Ratio.cs_eq, List.flatten_cons, List.flatten_nil, List.append_nil, List.cons_append, List.nil_append]
theorem rd37 : ∀ (n : Nat) (xs : List AV), Sh Try.prog n 37 xs → ∃ a : Arr7B, xs = Arr7B.cs a ∧ (Arr7B.ok a) := by
  intro n xs h
  cases n with
  | zero => exact (sh_zero h).elim
  | succ n =>
    obtain ⟨ys, rfl, hl, hy⟩ := sh_array Try.underlying37 h
    match ys, hl with
    | [y0, y1, y2, y3, y4, y5, y6], _ =>
      obtain ⟨a0, e0, o0⟩ := rd4 n y0 (hy y0 (by simp))
      obtain ⟨a1, e1, o1⟩ := rd4 n y1 (hy y1 (by simp))
      obtain ⟨a2, e2, o2⟩ := rd4 n y2 (hy y2 (by simp))
      obtain ⟨a3, e3, o3⟩ := rd4 n y3 (hy y3 (by simp))
      obtain ⟨a4, e4, o4⟩ := rd4 n y4 (hy y4 (by simp))
      obtain ⟨a5, e5, o5⟩ := rd4 n y5 (hy y5 (by simp))
      obtain ⟨a6, e6, o6⟩ := rd4 n y6 (hy y6 (by simp))
      subst e0 e1 e2 e3 e4 e5 e6
      refine ⟨⟨a0, a1, a2, a3, a4, a5, a6⟩, ?_, ⟨⟩⟩
      simp only [Arr7B.cs_eq, List.flatten_cons, List.flatten_nil, List.append_nil, List.cons_append, List.nil_append]
theorem rd38 : ∀ (n : Nat) (xs : List AV), Sh Try.prog n 38 xs → ∃ a : List Civil, xs = [.sl (List.map Civil.av a)] ∧ (∀ a1, a1 ∈ a → Civil.ok a1) := by
  intro n xs h
  cases n with
  | zero => exact (sh_zero h).elim
  | succ n => exact rdl (f := fun a => Civil.cs a) (g := fun a => Civil.av a) (ok := fun a => Civil.ok a) Try.underlying38 (fun a => arg_struct Try.underlying23) (fun m hm y hy => rd23 m y hy) h
theorem rd39 : ∀ (n : Nat) (xs : List AV), Sh Try.prog n 39 xs → ∃ a : List (List UInt8), xs = [.sl (List.map AV.str a)] ∧ (∀ a1, a1 ∈ a → List.length a1 ≤ 9223372036854775807) := by
  intro n xs h
  cases n with
  | zero => exact (sh_zero h).elim
  | succ n => exact rdl (f := fun a => [.str a]) (g := fun a => .str a) (ok := fun a => List.length a ≤ 9223372036854775807) Try.underlying39 (fun a => arg_string Try.underlying9) (fun m hm y hy => rd9 m y hy) h
theorem rd41 : ∀ (n : Nat) (xs : List AV), Sh Try.prog n 41 xs → ∃ a : Item, xs = Item.cs a ∧ (Item.ok a) := by
  intro n
  induction n using Nat.strongRecOn with
  | _ n ih =>
  intro xs h
  cases n with
  | zero => exact (sh_zero h).elim
  | succ n =>
    obtain ⟨ys, rfl, hl, hy⟩ := sh_struct Try.underlying41 h
    match ys, hl with
    | [y0, y1, y2, y3, y4, y5, y6, y7, y8, y9, y10, y11, y12, y13, y14, y15, y16, y17, y18, y19, y20, y21], _ =>
      obtain ⟨a0, e0, o0⟩ := rd3 n y0 (hy 0 _ y0 rfl rfl)
      obtain ⟨a1, e1, o1⟩ := rd9 n y1 (hy 1 _ y1 rfl rfl)
      obtain ⟨a2, e2, o2⟩ := rd3 n y2 (hy 2 _ y2 rfl rfl)
      obtain ⟨a3, e3, o3⟩ := rd9 n y3 (hy 3 _ y3 rfl rfl)
      obtain ⟨a4, e4, o4⟩ := rd9 n y4 (hy 4 _ y4 rfl rfl)
      obtain ⟨a5, e5, o5⟩ := rd3 n y5 (hy 5 _ y5 rfl rfl)
      obtain ⟨a6, e6, o6⟩ := rd3 n y6 (hy 6 _ y6 rfl rfl)
      obtain ⟨a7, e7, o7⟩ := rd33 n y7 (hy 7 _ y7 rfl rfl)
      obtain ⟨a8, e8, o8⟩ := rd33 n y8 (hy 8 _ y8 rfl rfl)
      obtain ⟨a9, e9, o9⟩ := rd34 n y9 (hy 9 _ y9 rfl rfl)
      obtain ⟨a10, e10, o10⟩ := rd9 n y10 (hy 10 _ y10 rfl rfl)
      obtain ⟨a11, e11, o11⟩ := rd9 n y11 (hy 11 _ y11 rfl rfl)
      obtain ⟨a12, e12, o12⟩ := rd36 n y12 (hy 12 _ y12 rfl rfl)
      obtain ⟨a13, e13, o13⟩ := rd9 n y13 (hy 13 _ y13 rfl rfl)
      obtain ⟨a14, e14, o14⟩ := rd9 n y14 (hy 14 _ y14 rfl rfl)
      obtain ⟨a15, e15, o15⟩ := rd4 n y15 (hy 15 _ y15 rfl rfl)
      obtain ⟨a16, e16, o16⟩ := rd9 n y16 (hy 16 _ y16 rfl rfl)
      obtain ⟨a17, e17, o17⟩ := rd9 n y17 (hy 17 _ y17 rfl rfl)
      obtain ⟨a18, e18, o18⟩ := rd37 n y18 (hy 18 _ y18 rfl rfl)
      obtain ⟨a19, e19, o19⟩ := rd38 n y19 (hy 19 _ y19 rfl rfl)
      obtain ⟨a20, e20, o20⟩ := rd39 n y20 (hy 20 _ y20 rfl rfl)
      obtain ⟨a21, e21, o21⟩ : ∃ a : List Item, y21 = [.sl (List.map Item.av a)] ∧ (∀ a1, a1 ∈ a → Item.ok a1) := rdl0 (f := fun a => Item.cs a) (g := fun a => Item.av a) (ok := fun a => Item.ok a) Try.underlying24 (fun a => arg_struct Try.underlying41) (fun m hm y hy => ih m hm y hy) (hy 21 _ y21 rfl rfl)
      subst e0 e1 e2 e3 e4 e5 e6 e7 e8 e9 e10 e11 e12 e13 e14 e15 e16 e17 e18 e19 e20 e21
      refine ⟨⟨a0, a1, a2, a3, a4, a5, a6, a7, a8, a9, a10, a11, a12, a13, a14, a15, a16, a17, a18, a19, a20, a21⟩, ?_, .mk _ o0 o1 o2 o3 o4 o5 o6 o7 o8 o9 o10 o11 o12 o13 o14 o16 o17 o18 o19 o20 o21⟩
      simp only [Item.cs_eq, List.flatten_cons, List.flatten_nil, List.append_nil, List.cons_append, List.nil_append, Arr7B.cs_eq, Ratio.cs_eq, Span.cs_eq]
theorem rd24 : ∀ (n : Nat) (xs : List AV), Sh Try.prog n 24 xs → ∃ a : List Item, xs = [.sl (List.map Item.av a)] ∧ (∀ a1, a1 ∈ a → Item.ok a1) := by
  intro n xs h
  cases n with
  | zero => exact (sh_zero h).elim
  | succ n => exact rdl (f := fun a => Item.cs a) (g := fun a => Item.av a) (ok := fun a => Item.ok a) Try.underlying24 (fun a => arg_struct Try.underlying41) (fun m hm y hy => rd41 m y hy) h
theorem rd26 : ∀ (n : Nat) (xs : List AV), Sh Try.prog n 26 xs → ∃ a : Source, xs = Source.cs a ∧ (Source.ok a) := by
  intro n xs h
  cases n with
  | zero => exact (sh_zero h).elim
  | succ n =>
    obtain ⟨ys, rfl, hl, hy⟩ := sh_struct Try.underlying26 h
    match ys, hl with
    | [y0, y1, y2, y3], _ =>
      obtain ⟨a0, e0, o0⟩ := rd9 n y0 (hy 0 _ y0 rfl rfl)
      obtain ⟨a1, e1, o1⟩ := rd23 n y1 (hy 1 _ y1 rfl rfl)
      obtain ⟨a2, e2, o2⟩ := rd3 n y2 (hy 2 _ y2 rfl rfl)
      obtain ⟨a3, e3, o3⟩ := rd24 n y3 (hy 3 _ y3 rfl rfl)
      subst e0 e1 e2 e3
      refine ⟨⟨a0, a1, a2, a3⟩, ?_, ⟨o0, o1, o2, o3⟩⟩
      simp only [Source.cs_eq, List.flatten_cons, List.flatten_nil, List.append_nil, List.cons_append, List.nil_append, Civil.cs_eq]
end Go.Proofs.Inc
namespace Go.Proofs.Inc
open Go.Aw
inductive Dp (B : Nat) : Item → Prop
  | mk (x : Item) (name : x.Name.length ≤ B) (conds : x.Conds.length ≤ NB) (cname : ∀ c, c ∈ x.Conds → c.Name.length ≤ B) (names : x.Names.length ≤ NB) (dates : x.Dates.length ≤ NB) (items : x.Items.length ≤ NB) (rec : ∀ y, y ∈ x.Items → Dp B y) : Dp B x
theorem Dp.name {B : Nat} {x : Item} (h : Dp B x) : x.Name.length ≤ B := by cases h; assumption
theorem Dp.conds {B : Nat} {x : Item} (h : Dp B x) : x.Conds.length ≤ NB := by cases h; assumption
theorem Dp.cname {B : Nat} {x : Item} (h : Dp B x) : ∀ c, c ∈ x.Conds → c.Name.length ≤ B := by cases h; assumption
theorem Dp.names {B : Nat} {x : Item} (h : Dp B x) : x.Names.length ≤ NB := by cases h; assumption
theorem Dp.dates {B : Nat} {x : Item} (h : Dp B x) : x.Dates.length ≤ NB := by cases h; assumption
theorem Dp.items {B : Nat} {x : Item} (h : Dp B x) : x.Items.length ≤ NB := by cases h; assumption
theorem Dp.sub {B : Nat} {x : Item} (h : Dp B x) : ∀ y, y ∈ x.Items → Dp B y := by cases h; assumption
theorem Dp.mono {B C : Nat} (hBC : B ≤ C) {x : Item} (h : Dp B x) : Dp C x := by
  induction h with
  | mk x h1 h2 h3 h4 h5 h6 h7 ih => exact .mk x (by omega) h2 (fun c hc => by have := h3 c hc; omega) h4 h5 h6 ih
theorem Dp.bd {B : Nat} (hB : B ≤ 1099511627776) {x : Item} (h : Dp B x) : Bd x := ⟨by have := h.name; omega, h.conds, fun c hc => by have := h.cname c hc; omega, h.names⟩
theorem Dp.bdT {B : Nat} (hB : B ≤ 1099511627776) {x : Item} (h : Dp B x) : BdT x := ⟨h.names, h.items, fun y hy => (h.sub y hy).bd hB⟩
inductive Dq : Item → Prop
  | mk (x : Item) (conds : x.Conds.length ≤ NB) (names : x.Names.length ≤ NB) (dates : x.Dates.length ≤ NB) (items : x.Items.length ≤ NB) (rec : ∀ y, y ∈ x.Items → Dq y) : Dq x
theorem Dq.conds {x : Item} (h : Dq x) : x.Conds.length ≤ NB := by cases h; assumption
theorem Dq.names {x : Item} (h : Dq x) : x.Names.length ≤ NB := by cases h; assumption
theorem Dq.dates {x : Item} (h : Dq x) : x.Dates.length ≤ NB := by cases h; assumption
theorem Dq.items {x : Item} (h : Dq x) : x.Items.length ≤ NB := by cases h; assumption
theorem Dq.sub {x : Item} (h : Dq x) : ∀ y, y ∈ x.Items → Dq y := by cases h; assumption
theorem Dp.dq {B : Nat} {x : Item} (h : Dp B x) : Dq x := by
  induction h with
  | mk x h1 h2 h3 h4 h5 h6 h7 ih => exact .mk x h2 h4 h5 h6 ih
theorem item_bulk {x : Item} {K : Nat} (h : bulkL (Item.cs x) ≤ K) : x.Name.length ≤ K ∧ bulkL (x.Conds.map Named.av) ≤ K ∧ bulkL (x.Names.map AV.str) ≤ K ∧ bulkL (x.Dates.map Civil.av) ≤ K ∧ bulkL (x.Items.map Item.av) + 1 ≤ K := by
  rw [Item.cs_eq] at h
  simp only [bulkL, bulk_str, bulk_sl, bulk_int, bulk_bool] at h
  omega
theorem named_bulk {c : Named} : c.Name.length ≤ (Named.av c).bulk := by
  rw [Named.av, bulk_agg, Named.cs_eq]
  simp only [bulkL, bulk_str, bulk_int]
  omega
theorem iszl_bulk : ∀ (n : Nat) (l : List Item), iszl l ≤ n → iszl l ≤ bulkL (l.map Item.av)
  | _, [], _ => by simp [iszl_nil]
  | 0, x :: l, h => by rw [iszl_cons] at h; omega
  | n + 1, x :: l, h => by
    rw [iszl_cons] at h
    rw [iszl_cons, List.map_cons, bulkL]
    have h1 := iszl_bulk n l (by omega)
    have h2 := iszl_bulk n x.Items (by omega)
    have h3 := item_bulk (Nat.le_refl (bulkL (Item.cs x)))
    rw [Item.av, bulk_agg]
    omega
theorem dp_of : ∀ (n : Nat) (x : Item), iszl x.Items ≤ n → bulkL (Item.cs x) ≤ 1048576 → Dp 1048576 x := by
  intro n
  induction n with
  | zero =>
    intro x hn h
    obtain ⟨h1, h2, h3, h4, h5⟩ := item_bulk h
    have hnil : x.Items = [] := by
      cases hx : x.Items with
      | nil => rfl
      | cons y l => rw [hx, iszl_cons] at hn; omega
    refine .mk x h1 (by have := bulkL_len (g := Named.av) x.Conds; unfold NB; omega) (fun c hc => by have := bulkL_mem (g := Named.av) hc; have := named_bulk (c := c); omega) (by have := bulkL_len (g := AV.str) x.Names; unfold NB; omega) (by have := bulkL_len (g := Civil.av) x.Dates; unfold NB; omega) (by simp [hnil]) (by simp [hnil])
  | succ n ih =>
    intro x hn h
    obtain ⟨h1, h2, h3, h4, h5⟩ := item_bulk h
    refine .mk x h1 (by have := bulkL_len (g := Named.av) x.Conds; unfold NB; omega) (fun c hc => by have := bulkL_mem (g := Named.av) hc; have := named_bulk (c := c); omega) (by have := bulkL_len (g := AV.str) x.Names; unfold NB; omega) (by have := bulkL_len (g := Civil.av) x.Dates; unfold NB; omega) (by have := bulkL_len (g := Item.av) x.Items; unfold NB; omega) (fun y hy => ?_)
    have := iszl_mem hy
    have hb := bulkL_mem (g := Item.av) hy
    rw [Item.av, bulk_agg] at hb
    exact ih y (by omega) (by omega)
theorem source_bulk {p : Source} (h : bulkL [.agg (Source.cs p)] ≤ 1048576) : bulkL (p.Items.map Item.av) ≤ 1048576 := by
  simp only [bulkL, bulk_agg] at h
  rw [Source.cs_eq] at h
  simp only [bulkL, bulk_str, bulk_sl, bulk_int, bulk_bool] at h
  omega
theorem items_dp {l : List Item} (h : bulkL (l.map Item.av) ≤ 1048576) : iszl l ≤ 1048576 ∧ ∀ x, x ∈ l → Dp 1048576 x := by
  refine ⟨Nat.le_trans (iszl_bulk _ l (Nat.le_refl _)) h, fun x hx => ?_⟩
  have hb := bulkL_mem (g := Item.av) hx
  rw [Item.av, bulk_agg] at hb
  exact dp_of _ x (Nat.le_refl _) (by omega)
theorem bdS_of {p : Source} {B : Nat} (hB : B ≤ 1099511627776) (h1 : iszl p.Items ≤ 1099511627776) (h2 : ∀ x, x ∈ p.Items → Dp B x) : BdS p := ⟨h1, fun t ht => (h2 t ht).bdT hB⟩
set_option maxRecDepth 100000 in
theorem s9_true : s9 8388608 = some true := by kernel_rfl
end Go.Proofs.Inc
namespace Go.Proofs.Inc
open Go.Aw
theorem incl_stop (M : Maps) : ∀ (k : Nat) (c : Int) (o : List Item) (q : List Str) (u : Item), (incl M k c o q u).2.1 = true → (incl M k c o q u).1 ≠ 0
  | 0, c, o, q, u, _ => by simp [incl]
  | k + 1, c, o, q, u, h => by
    revert h
    unfold incl
    by_cases hc : 600 < c + 1
    · rw [if_pos hc]; simp
    rw [if_neg hc]
    cases ht : mlook u.Of M.t with
    | none => simp
    | some t =>
      simp only
      by_cases hn : t.Names.length ≠ u.Names.length
      · rw [if_pos hn]; simp
      rw [if_neg hn]
      by_cases hq : (find q u.Of).isSome = true
      · rw [if_pos hq]; simp
      rw [if_neg hq]
      by_cases hm : 24 < u.Name.length
      · rw [if_pos hm]; simp
      rw [if_neg hm]
      refine runL_inv (Inv := fun (s : Int × List Item × List Str) => True) (Q := fun (r : R) => r.2.1 = true → r.1 ≠ 0) t.Items (fun i s a ha hs => ?_) (fun s hs => by simp) 0 _ trivial
      unfold stepI
      by_cases hk : (inst t u a).Kind = 14
      · rw [if_pos hk]
        by_cases hr : (incl M k s.1 s.2.1 s.2.2 (inst t u a)).1 = 0
        · rw [if_pos hr]; trivial
        · rw [if_neg hr]; exact fun _ => hr
      · rw [if_neg hk]
        by_cases hcl : clause (inst t u a).Kind = true
        · rw [if_pos hcl]
          by_cases hr : (add M s.1 s.2.1 s.2.2 (inst t u a) 24).1 = 0
          · rw [if_pos hr]; trivial
          · rw [if_neg hr]; exact fun _ => hr
        · rw [if_neg hcl]; simp
theorem add_stop {M : Maps} {c : Int} {o : List Item} {q : List Str} {y : Item} {most : Int} : (add M c o q y most).2.1 = true → (add M c o q y most).1 ≠ 0 := by
  unfold add
  by_cases hc : 600 < c + 1
  · rw [if_pos hc]; simp
  rw [if_neg hc]
  by_cases hm : most < (y.Name.length : Int)
  · rw [if_pos hm]; simp
  rw [if_neg hm]
  by_cases hk : clause y.Kind = true
  · rw [if_pos hk]; cases dfn M y <;> simp
  · rw [if_neg hk]; simp
def one (M : Maps) (c : Int) (o : List Item) (y : Item) : R := if y.Kind = 14 then incl M 600 c o [] y else add M c o [] y y.Name.length
theorem one_stop {M : Maps} {c : Int} {o : List Item} {y : Item} : (one M c o y).2.1 = true → (one M c o y).1 ≠ 0 := by
  unfold one
  split
  · exact incl_stop M 600 c o [] y
  · exact add_stop
def gd (M : Maps) : Int → List Item → List (Int × Item) → Option (List Item)
  | _, o, [] => some o
  | c, o, p :: l => if defines p.2.Kind then (if p.1 = 0 then gd M c o l else none) else (if (one M c o p.2).1 = 0 then gd M (one M c o p.2).2.2.1 (one M c o p.2).2.2.2.1 l else none)
theorem top_grow (M : Maps) : ∀ (l : List (Int × Item)) (c : Int) (o : List Item) (F : List Fault), F ≠ [] → (top M c o F l).2 ≠ []
  | [], c, o, F, h => h
  | p :: l, c, o, F, h => by
    have hF : ∀ e : Int, (if e = 0 then F else F ++ [(⟨e, p.2.At⟩ : Fault)]) ≠ [] := fun e => by
      by_cases he : e = 0
      · simpa [he] using h
      · rw [if_neg he]; simp
    unfold top
    by_cases hd : defines p.2.Kind = true
    · rw [if_pos hd]; exact top_grow M l c o _ (hF _)
    rw [if_neg hd]
    have step : ∀ r : R, (if r.2.1 = true then (r.2.2.2.1, (if r.1 = 0 then F else F ++ [(⟨r.1, p.2.At⟩ : Fault)])) else top M r.2.2.1 r.2.2.2.1 (if r.1 = 0 then F else F ++ [(⟨r.1, p.2.At⟩ : Fault)]) l).2 ≠ [] := fun r => by
      split
      · exact hF _
      · exact top_grow M l _ _ _ (hF _)
    exact step (one M c o p.2)
theorem top_gd (M : Maps) : ∀ (l : List (Int × Item)) (c : Int) (o : List Item), match gd M c o l with
    | some o' => top M c o [] l = (o', [])
    | none => (top M c o [] l).2 ≠ []
  | [], c, o => rfl
  | p :: l, c, o => by
    unfold gd top
    by_cases hd : defines p.2.Kind = true
    · rw [if_pos hd, if_pos hd]
      by_cases h0 : p.1 = 0
      · rw [if_pos h0, if_pos h0]; exact top_gd M l c o
      · rw [if_neg h0, if_neg h0]; exact top_grow M l c o _ (by simp)
    · rw [if_neg hd, if_neg hd]
      show match (if (one M c o p.2).1 = 0 then gd M (one M c o p.2).2.2.1 (one M c o p.2).2.2.2.1 l else none) with
        | some o' => (let r := one M c o p.2; let F' := if r.1 = 0 then [] else [] ++ [(⟨r.1, p.2.At⟩ : Fault)]; if r.2.1 = true then (r.2.2.2.1, F') else top M r.2.2.1 r.2.2.2.1 F' l) = (o', [])
        | none => (let r := one M c o p.2; let F' := if r.1 = 0 then [] else [] ++ [(⟨r.1, p.2.At⟩ : Fault)]; if r.2.1 = true then (r.2.2.2.1, F') else top M r.2.2.1 r.2.2.2.1 F' l).2 ≠ []
      simp only
      by_cases h0 : (one M c o p.2).1 = 0
      · rw [if_pos h0, if_pos h0]
        have hs : (one M c o p.2).2.1 = false := by
          cases h : (one M c o p.2).2.1 with
          | false => rfl
          | true => exact absurd h0 (one_stop h)
        rw [hs]
        simp only [Bool.false_eq_true, if_false]
        exact top_gd M l _ _
      · rw [if_neg h0, if_neg h0]
        simp only
        split
        · simp
        · exact top_grow M l _ _ _ (by simp)
def exg (p : Source) : Option (List Item) := if 600 < iszl p.Items then none else gd (dcls M0 p.Items).2 0 [] ((dcls M0 p.Items).1.zip p.Items)
theorem expand_exg (p : Source) : match exg p with
    | some o => expand p = ({ p with Items := o }, [])
    | none => (expand p).2 ≠ [] ∧ (expand p).1 = noSource := by
  unfold exg expand
  by_cases hs : 600 < iszl p.Items
  · rw [if_pos hs, if_pos hs]; simp
  rw [if_neg hs, if_neg hs]
  have := top_gd (dcls M0 p.Items).2 ((dcls M0 p.Items).1.zip p.Items) 0 []
  cases hg : gd (dcls M0 p.Items).2 0 [] ((dcls M0 p.Items).1.zip p.Items) with
  | some o =>
    rw [hg] at this
    simp only at this ⊢
    rw [this]
    simp
  | none =>
    rw [hg] at this
    simp only at this ⊢
    rw [if_neg this]
    exact ⟨this, rfl⟩
def isD (x : Item) : Bool := defines x.Kind
theorem dcl_nd {M : Maps} {y : Item} (h : isD y = false) : dcl M y = (0, M) := by
  simp only [isD, defines, decide_eq_false_iff_not] at h
  unfold dcl
  rw [if_neg (by omega), if_neg (by omega), if_neg (by omega)]
theorem dcls_filter : ∀ (l : List Item) (M : Maps), (dcls M l).2 = (dcls M (l.filter isD)).2 ∧ (((dcls M l).1.zip l).filter fun p => isD p.2) = (dcls M (l.filter isD)).1.zip (l.filter isD) ∧ (((dcls M l).1.zip l).filter fun p => !isD p.2) = (l.filter fun x => !isD x).map fun x => (0, x)
  | [], M => ⟨rfl, rfl, rfl⟩
  | y :: l, M => by
    cases hd : isD y with
    | true =>
      obtain ⟨h1, h2, h3⟩ := dcls_filter l (dcl M y).2
      simp [dcls, hd, h1, h2, h3]
    | false =>
      obtain ⟨h1, h2, h3⟩ := dcls_filter l M
      simp [dcls, hd, h1, h2, h3, dcl_nd hd]
theorem gd_split (M : Maps) : ∀ (l : List (Int × Item)) (c : Int) (o : List Item), gd M c o l = if (l.filter fun p => isD p.2).all (fun p => p.1 = 0) then gd M c o (l.filter fun p => !isD p.2) else none
  | [], c, o => rfl
  | p :: l, c, o => by
    have ih := gd_split M l
    cases hd : isD p.2 with
    | true =>
      have hd' : defines p.2.Kind = true := hd
      simp only [gd, hd', if_true, List.filter_cons, hd, Bool.not_true, Bool.false_eq_true, if_false, List.all_cons]
      by_cases h0 : p.1 = 0
      · simp only [h0, if_true, decide_true, Bool.true_and]; exact ih c o
      · simp [h0]
    | false =>
      have hd' : defines p.2.Kind = false := hd
      simp only [gd, hd', Bool.false_eq_true, if_false, List.filter_cons, hd, Bool.not_false, if_true]
      by_cases h0 : (one M c o p.2).1 = 0
      · simp only [h0, if_true]; exact ih _ _
      · simp [h0]
theorem iszl_filter (f : Item → Bool) : ∀ l : List Item, iszl (l.filter (fun x => !f x)) + iszl (l.filter f) = iszl l
  | [] => by simp [iszl_nil]
  | x :: l => by
    have ih := iszl_filter f l
    rw [List.filter_cons, List.filter_cons, iszl_cons]
    cases hf : f x with
    | true => simp only [Bool.not_true, Bool.false_eq_true, if_false, if_true, iszl_cons]; omega
    | false => simp only [Bool.not_false, if_true, Bool.false_eq_true, if_false, iszl_cons]; omega
theorem exg_split (p : Source) : exg p = if 600 < iszl p.Items then none else if ((dcls M0 (p.Items.filter isD)).1.zip (p.Items.filter isD)).all (fun p => p.1 = 0) then gd (dcls M0 (p.Items.filter isD)).2 0 [] ((p.Items.filter fun x => !isD x).map fun x => (0, x)) else none := by
  unfold exg
  obtain ⟨h1, h2, h3⟩ := dcls_filter p.Items M0
  split
  · rfl
  · rw [gd_split, h2, h3, h1]
end Go.Proofs.Inc
namespace Go.Proofs.Inc
open Go.Aw
def Pl (x : Item) : Prop := defines x.Kind = false ∧ x.Kind ≠ 14 ∧ (clause x.Kind = true → x.Within.Name = [] ∧ x.Grace.Name = [] ∧ x.Sum = [])
theorem clause_nd {k : Int} (h : clause k = true) : defines k = false ∧ k ≠ 14 := by
  simp only [clause, decide_eq_true_eq] at h
  simp only [defines, decide_eq_false_iff_not]
  omega
def NoN (M : Maps) : Prop := ∀ n d, mlook n M.s = some d → d.Name = []
theorem dcl_s {M : Maps} {y : Item} (h : NoN M) : NoN (dcl M y).2 := by
  unfold dcl
  by_cases h13 : y.Kind = 13
  · rw [if_pos h13]; cases mlook y.Name M.t <;> exact h
  rw [if_neg h13]
  by_cases h6 : y.Kind = 6
  · rw [if_pos h6]
    cases hm : mlook y.Name M.s with
    | none =>
      intro n d hd
      simp only [mlook_mset] at hd
      split at hd
      · cases hd; rfl
      · exact h n d hd
    | some _ => exact h
  rw [if_neg h6]
  by_cases h7 : y.Kind = 7
  · rw [if_pos h7]; cases mlook y.Name M.m <;> exact h
  rw [if_neg h7]; exact h
theorem dcls_s : ∀ (l : List Item) {M : Maps}, NoN M → NoN (dcls M l).2
  | [], M, h => h
  | y :: l, M, h => dcls_s l (dcl_s h)
structure Kept (y z : Item) : Prop where
  kind : z.Kind = y.Kind
  name : z.Name = y.Name
  at_ : z.At = y.At
  conds : z.Conds = y.Conds
  names : z.Names = y.Names
  dates : z.Dates = y.Dates
  items : z.Items = y.Items
theorem Kept.refl (y : Item) : Kept y y := ⟨rfl, rfl, rfl, rfl, rfl, rfl, rfl⟩
theorem Kept.trans {x y z : Item} (h : Kept x y) (k : Kept y z) : Kept x z := ⟨k.1.trans h.1, k.2.trans h.2, k.3.trans h.3, k.4.trans h.4, k.5.trans h.5, k.6.trans h.6, k.7.trans h.7⟩
theorem dfn1_k {M : Maps} {y z : Item} (hM : NoN M) (h : dfn1 M y = some z) : Kept y z ∧ z.Within.Name = [] := by
  unfold dfn1 at h
  split at h
  · rename_i hn; cases h; exact ⟨.refl _, hn⟩
  · obtain ⟨d, hd, rfl⟩ := Option.map_eq_some_iff.1 h
    exact ⟨⟨rfl, rfl, rfl, rfl, rfl, rfl, rfl⟩, hM _ _ hd⟩
theorem dfn2_k {M : Maps} {y z : Item} (hM : NoN M) (h : dfn2 M y = some z) : Kept y z ∧ z.Within = y.Within ∧ z.Grace.Name = [] := by
  unfold dfn2 at h
  split at h
  · rename_i hn; cases h; exact ⟨.refl _, rfl, hn⟩
  · obtain ⟨d, hd, rfl⟩ := Option.map_eq_some_iff.1 h
    exact ⟨⟨rfl, rfl, rfl, rfl, rfl, rfl, rfl⟩, rfl, hM _ _ hd⟩
theorem dfn3_k {M : Maps} {y z : Item} (h : dfn3 M y = some z) : Kept y z ∧ z.Within = y.Within ∧ z.Grace = y.Grace ∧ z.Sum = [] := by
  unfold dfn3 at h
  split at h
  · rename_i hn; cases h; exact ⟨.refl _, rfl, rfl, hn⟩
  · obtain ⟨d, hd, rfl⟩ := Option.map_eq_some_iff.1 h
    exact ⟨⟨rfl, rfl, rfl, rfl, rfl, rfl, rfl⟩, rfl, rfl, rfl⟩
theorem dfn_k {M : Maps} {y z : Item} (hM : NoN M) (h : dfn M y = some z) : Kept y z ∧ z.Within.Name = [] ∧ z.Grace.Name = [] ∧ z.Sum = [] := by
  obtain ⟨b, hb, h3⟩ := Option.bind_eq_some_iff.1 h
  obtain ⟨a, ha, h2⟩ := Option.bind_eq_some_iff.1 hb
  obtain ⟨k1, e1⟩ := dfn1_k hM ha
  obtain ⟨k2, e2, e2'⟩ := dfn2_k hM h2
  obtain ⟨k3, e3, e3', e3''⟩ := dfn3_k h3
  exact ⟨(k1.trans k2).trans k3, by rw [e3, e2, e1], by rw [e3', e2'], e3''⟩
theorem dfn_same {M : Maps} {y : Item} (h1 : y.Within.Name = []) (h2 : y.Grace.Name = []) (h3 : y.Sum = []) : dfn M y = some y := by
  simp [dfn, dfn1, dfn2, dfn3, h1, h2, h3]
theorem incl_out (M : Maps) (Q P : Item → Prop)
    (hQ : ∀ u t y, Q u → mlook u.Of M.t = some t → y ∈ t.Items → u.Name.length ≤ 24 → (inst t u y).Kind = 14 → Q (inst t u y))
    (hP : ∀ u t y z, Q u → mlook u.Of M.t = some t → y ∈ t.Items → u.Name.length ≤ 24 → (inst t u y).Name.length ≤ 24 → clause (inst t u y).Kind = true → dfn M (inst t u y) = some z → P z) :
    ∀ (k : Nat) (c : Int) (o : List Item) (q : List Str) (u : Item), Q u → ∃ o2, (incl M k c o q u).2.2.2.1 = o ++ o2 ∧ ∀ z, z ∈ o2 → P z
  | 0, c, o, q, u, _ => ⟨[], by simp [incl], by simp⟩
  | k + 1, c, o, q, u, hu => by
    unfold incl
    have base : ∃ o2, o = o ++ o2 ∧ ∀ z, z ∈ o2 → P z := ⟨[], by simp, by simp⟩
    by_cases hc : 600 < c + 1
    · rw [if_pos hc]; exact base
    rw [if_neg hc]
    cases ht : mlook u.Of M.t with
    | none => exact base
    | some t =>
      simp only
      by_cases hn : t.Names.length ≠ u.Names.length
      · rw [if_pos hn]; exact base
      rw [if_neg hn]
      by_cases hq : (find q u.Of).isSome = true
      · rw [if_pos hq]; exact base
      rw [if_neg hq]
      by_cases hm : 24 < u.Name.length
      · rw [if_pos hm]; exact base
      rw [if_neg hm]
      refine runL_inv (Inv := fun (s : Int × List Item × List Str) => ∃ o2, s.2.1 = o ++ o2 ∧ ∀ z, z ∈ o2 → P z) (Q := fun (r : R) => ∃ o2, r.2.2.2.1 = o ++ o2 ∧ ∀ z, z ∈ o2 → P z) t.Items (fun i s a ha hs => ?_) (fun s hs => hs) 0 _ base
      obtain ⟨o1, e1, p1⟩ := hs
      have grow : ∀ r : R, (∃ o2, r.2.2.2.1 = s.2.1 ++ o2 ∧ ∀ z, z ∈ o2 → P z) → ∃ o2, r.2.2.2.1 = o ++ o2 ∧ ∀ z, z ∈ o2 → P z := fun r ⟨o2, e2, p2⟩ => ⟨o1 ++ o2, by rw [e2, e1, List.append_assoc], fun z hz => by
        rcases List.mem_append.1 hz with h | h
        · exact p1 z h
        · exact p2 z h⟩
      unfold stepI
      by_cases hk : (inst t u a).Kind = 14
      · rw [if_pos hk]
        have := grow _ (incl_out M Q P hQ hP k s.1 s.2.1 s.2.2 (inst t u a) (hQ u t a hu ht ha (by omega) hk))
        by_cases hr : (incl M k s.1 s.2.1 s.2.2 (inst t u a)).1 = 0
        · rw [if_pos hr]; exact this
        · rw [if_neg hr]; exact this
      · rw [if_neg hk]
        by_cases hcl : clause (inst t u a).Kind = true
        · rw [if_pos hcl]
          have : ∃ o2, (add M s.1 s.2.1 s.2.2 (inst t u a) 24).2.2.2.1 = s.2.1 ++ o2 ∧ ∀ z, z ∈ o2 → P z := by
            unfold add
            have base' : ∃ o2, s.2.1 = s.2.1 ++ o2 ∧ ∀ z, z ∈ o2 → P z := ⟨[], by simp, by simp⟩
            by_cases hc : 600 < s.1 + 1
            · rw [if_pos hc]; exact base'
            rw [if_neg hc]
            by_cases hm2 : (24 : Int) < ((inst t u a).Name.length : Int)
            · rw [if_pos hm2]; exact base'
            rw [if_neg hm2, if_pos hcl]
            cases hd : dfn M (inst t u a) with
            | none => exact base'
            | some z => exact ⟨[z], rfl, fun x hx => by rw [List.mem_singleton.1 hx]; exact hP u t a z hu ht ha (by omega) (by omega) hcl hd⟩
          have := grow _ this
          by_cases hr : (add M s.1 s.2.1 s.2.2 (inst t u a) 24).1 = 0
          · rw [if_pos hr]; exact this
          · rw [if_neg hr]; exact this
        · rw [if_neg hcl]
          exact ⟨o1, e1, p1⟩
theorem top_out (M : Maps) (P : Item → Prop) (hI : ∀ c o u, (u.Kind = 14) → (∃ e, (e, u) ∈ ([] : List (Int × Item)) ∨ True) → ∃ o2, (incl M 600 c o [] u).2.2.2.1 = o ++ o2 ∧ ∀ z, z ∈ o2 → P z)
    : ∀ (l : List (Int × Item)) (c : Int) (o : List Item) (F : List Fault), (∀ p, p ∈ l → defines p.2.Kind = false → p.2.Kind ≠ 14 → (clause p.2.Kind = true → ∀ z, dfn M p.2 = some z → P z) ∧ (clause p.2.Kind = false → P p.2)) → (∀ z, z ∈ o → P z) → ∀ z, z ∈ (top M c o F l).1 → P z
  | [], c, o, F, _, ho => ho
  | p :: l, c, o, F, hl, ho => by
    have hl' := fun p' hp' => hl p' (List.mem_cons_of_mem _ hp')
    unfold top
    by_cases hd : defines p.2.Kind = true
    · rw [if_pos hd]; exact top_out M P hI l c o _ hl' ho
    rw [if_neg hd]
    have step : ∀ r : R, (∃ o2, r.2.2.2.1 = o ++ o2 ∧ ∀ z, z ∈ o2 → P z) → ∀ F', ∀ z, z ∈ (if r.2.1 = true then (r.2.2.2.1, F') else top M r.2.2.1 r.2.2.2.1 F' l).1 → P z := by
      intro r ⟨o2, e2, p2⟩ F'
      have hall : ∀ z, z ∈ r.2.2.2.1 → P z := fun z hz => by
        rw [e2] at hz
        rcases List.mem_append.1 hz with h | h
        · exact ho z h
        · exact p2 z h
      by_cases hs : r.2.1 = true
      · rw [if_pos hs]; exact hall
      · rw [if_neg hs]; exact top_out M P hI l _ _ _ hl' hall
    by_cases h14 : p.2.Kind = 14
    · simp only [if_pos h14]
      exact step _ (hI c o p.2 h14 ⟨0, .inr trivial⟩) _
    · simp only [if_neg h14]
      refine step _ ?_ _
      obtain ⟨h1, h2⟩ := hl p (List.mem_cons_self ..) (by simpa using hd) h14
      have base : ∃ o2, o = o ++ o2 ∧ ∀ z, z ∈ o2 → P z := ⟨[], by simp, by simp⟩
      unfold add
      by_cases hc : 600 < c + 1
      · rw [if_pos hc]; exact base
      rw [if_neg hc, if_neg (by omega)]
      by_cases hcl : clause p.2.Kind = true
      · rw [if_pos hcl]
        cases hz : dfn M p.2 with
        | none => exact base
        | some z => exact ⟨[z], rfl, fun x hx => by rw [List.mem_singleton.1 hx]; exact h1 hcl z hz⟩
      · rw [if_neg hcl]
        exact ⟨[p.2], rfl, fun x hx => by rw [List.mem_singleton.1 hx]; exact h2 (by simpa using hcl)⟩
theorem inst_len (t u y : Item) : (inst t u y).Conds.length = y.Conds.length ∧ (inst t u y).Names.length = y.Names.length ∧ (inst t u y).Dates = y.Dates ∧ (inst t u y).Items = y.Items := by
  unfold inst
  by_cases hc : clause y.Kind = true
  · rw [if_pos hc]; simp
  rw [if_neg hc]
  by_cases h14 : y.Kind = 14
  · rw [if_pos h14]; simp
  · rw [if_neg h14]; simp
theorem Kept.dq {y z : Item} (h : Kept y z) (hy : Dq y) : Dq z := .mk z (by rw [h.conds]; exact hy.conds) (by rw [h.names]; exact hy.names) (by rw [h.dates]; exact hy.dates) (by rw [h.items]; exact hy.items) (by rw [h.items]; exact hy.sub)
theorem inst_dq {t u y : Item} (hy : Dq y) : Dq (inst t u y) := by
  obtain ⟨h1, h2, h3, h4⟩ := inst_len t u y
  exact .mk _ (by rw [h1]; exact hy.conds) (by rw [h2]; exact hy.names) (by rw [h3]; exact hy.dates) (by rw [h4]; exact hy.items) (by rw [h4]; exact hy.sub)
def Pz (K : Nat) (z : Item) : Prop := Pl z ∧ Dq z ∧ z.Names.length ≤ NB ∧ z.Items.length ≤ NB ∧ iszl z.Items ≤ K ∧ ∀ y, y ∈ z.Items → Dp 1048576 y
theorem pz_of {M : Maps} {y z : Item} {K : Nat} (hK : iszl y.Items ≤ K) (hM : NoN M) (hc : clause y.Kind = true) (h : dfn M y = some z) (hq : Dq y) (hs : ∀ x, x ∈ y.Items → Dp 1048576 x) : Pz K z := by
  obtain ⟨k, e1, e2, e3⟩ := dfn_k hM h
  obtain ⟨c1, c2⟩ := clause_nd hc
  have hz := k.dq hq
  exact ⟨⟨by rw [k.kind]; exact c1, by rw [k.kind]; exact c2, fun _ => ⟨e1, e2, e3⟩⟩, hz, hz.names, hz.items, by rw [k.items]; exact hK, by rw [k.items]; exact hs⟩
theorem expand_pz {p : Source} (hdp : ∀ x, x ∈ p.Items → Dp 1048576 x) : ∀ z, z ∈ (expand p).1.Items → Pz (iszl p.Items) z := by
  unfold expand
  by_cases hs : 600 < iszl p.Items
  · rw [if_pos hs]; simp [noSource]
  rw [if_neg hs]
  simp only
  split
  · have hno : NoN (dcls M0 p.Items).2 := dcls_s p.Items (fun n d h => by simp [M0, mlook] at h)
    refine top_out _ (Pz (iszl p.Items)) (fun c o u hu _ => ?_) _ _ _ _ (fun q hq hd h14 => ?_) (by simp)
    · refine incl_out _ (fun _ => True) (Pz (iszl p.Items)) (fun _ _ _ _ _ _ _ _ => trivial) (fun u t y z _ ht hy _ _ hc hz => ?_) 600 c o [] u trivial
      have htm : t ∈ p.Items := by
        rcases dcls_t ht with h | h
        · simp [M0, mlook] at h
        · exact h
      have hy' := (hdp t htm).sub y hy
      have k1 := iszl_mem htm
      have k2 := iszl_mem hy
      exact pz_of (by rw [(inst_len t u y).2.2.2]; omega) hno hc hz (inst_dq hy'.dq) (by rw [(inst_len t u y).2.2.2]; exact hy'.sub)
    · have hm : q.2 ∈ p.Items := (List.of_mem_zip hq).2
      have hy' := hdp _ hm
      have k1 := iszl_mem hm
      exact ⟨fun hc z hz => pz_of (by omega) hno hc hz hy'.dq hy'.sub, fun hc => ⟨⟨hd, h14, fun h => by rw [h] at hc; cases hc⟩, hy'.dq, hy'.names, hy'.items, by omega, hy'.sub⟩⟩
  · simp [noSource]
theorem top_len (M : Maps) : ∀ (l : List (Int × Item)) (c : Int) (o : List Item) (F : List Fault), 0 ≤ c → c ≤ 600 → (o.length : Int) ≤ c → (top M c o F l).2 = [] → F = [] ∧ (top M c o F l).1.length ≤ 600
  | [], c, o, F, h0, hc, ho, h => ⟨h, by simp only [top]; omega⟩
  | p :: l, c, o, F, h0, hc, ho, h => by
    revert h
    unfold top
    have fnil : ∀ (e : Int), (if e = 0 then F else F ++ [(⟨e, p.2.At⟩ : Fault)]) = [] → F = [] ∧ e = 0 := fun e => by
      by_cases he : e = 0
      · simp [he]
      · rw [if_neg he]; simp
    by_cases hd : defines p.2.Kind = true
    · rw [if_pos hd]
      intro h
      obtain ⟨h1, h2⟩ := top_len M l c o _ h0 hc ho h
      exact ⟨(fnil _ h1).1, h2⟩
    rw [if_neg hd]
    have step : ∀ r : R, Fine c r → (r.2.1 = true → r.1 ≠ 0) → (if r.2.1 = true then (r.2.2.2.1, (if r.1 = 0 then F else F ++ [(⟨r.1, p.2.At⟩ : Fault)])) else top M r.2.2.1 r.2.2.2.1 (if r.1 = 0 then F else F ++ [(⟨r.1, p.2.At⟩ : Fault)]) l).2 = [] →
        F = [] ∧ (if r.2.1 = true then (r.2.2.2.1, (if r.1 = 0 then F else F ++ [(⟨r.1, p.2.At⟩ : Fault)])) else top M r.2.2.1 r.2.2.2.1 (if r.1 = 0 then F else F ++ [(⟨r.1, p.2.At⟩ : Fault)]) l).1.length ≤ 600 := by
      intro r hf hst
      by_cases hs : r.2.1 = true
      · rw [if_pos hs]
        intro h
        exact absurd (fnil _ h).2 (hst hs)
      · rw [if_neg hs]
        intro h
        obtain ⟨f1, f2, f3⟩ := hf (by simpa using hs)
        obtain ⟨h1, h2⟩ := top_len M l _ _ _ (by omega) f2 f3 h
        exact ⟨(fnil _ h1).1, h2⟩
    by_cases h14 : p.2.Kind = 14
    · simp only [if_pos h14]
      exact step _ (incl_fine M 600 c o [] p.2 ⟨h0, ho, by simpa using h0⟩) (incl_stop M 600 c o [] p.2)
    · simp only [if_neg h14]
      exact step _ (add_fine ho) add_stop
theorem expand_len {p : Source} (h : (expand p).2 = []) : (expand p).1.Items.length ≤ 600 ∧ (expand p).1.Name = p.Name ∧ (expand p).1.From = p.From ∧ (expand p).1.Days = p.Days := by
  unfold expand at h ⊢
  by_cases hs : 600 < iszl p.Items
  · rw [if_pos hs] at h; simp at h
  rw [if_neg hs] at h ⊢
  simp only at h ⊢
  split at h
  · rename_i hr
    rw [if_pos hr]
    exact ⟨(top_len _ _ 0 [] [] (by omega) (by omega) (by simp) hr).2, rfl, rfl, rfl⟩
  · rename_i hr; exact absurd h hr
theorem expand_faults {p : Source} (h : (expand p).2 ≠ []) : (expand p).1 = noSource := by
  unfold expand at h ⊢
  by_cases hs : 600 < iszl p.Items
  · rw [if_pos hs]
  rw [if_neg hs] at h ⊢
  simp only at h ⊢
  split
  · rename_i hr; rw [if_pos hr] at h; simp at h
  · rfl
theorem iszl_all {K : Nat} : ∀ (l : List Item), (∀ x, x ∈ l → iszl x.Items ≤ K) → iszl l ≤ l.length * (1 + K)
  | [], _ => by simp [iszl_nil]
  | x :: l, h => by
    have h1 := h x (List.mem_cons_self ..)
    have h2 := iszl_all l (fun y hy => h y (List.mem_cons_of_mem _ hy))
    rw [iszl_cons, List.length_cons, Nat.succ_mul]
    omega
end Go.Proofs.Inc
namespace Go.Proofs.Inc
open Go.Aw
theorem s12_eq {N : Nat} {k : Int} : s12 N k = some (defines k) := by
  simp only [s12, defines]
  by_cases h1 : k = 13
  · simp [h1]
  by_cases h2 : k = 6
  · simp [h2]
  simp [h1, h2]
end Go.Proofs.Inc
namespace Go.Proofs.Inc
open Go.Aw
theorem s13_eq {N : Nat} {k : Int} : s13 N k = some (clause k) := by
  simp only [s13, clause]
  by_cases h1 : k = 9
  · simp [h1]
  by_cases h2 : k = 10
  · simp [h2]
  by_cases h3 : k = 11
  · simp [h3]
  by_cases h4 : k = 12
  · simp [h4]
  rw [if_neg h1, if_neg h2, if_neg h3]
  simp only [h4, decide_false]
  exact congrArg some (decide_eq_false (by omega)).symm
end Go.Proofs.Inc
namespace Go.Proofs.Inc
open Go.Aw
theorem gd_out {M : Maps} {P : Item → Prop} : ∀ (l : List (Int × Item)) (c : Int) (o o' : List Item), gd M c o l = some o' → (∀ p, p ∈ l → isD p.2 = false → ∀ c o, ∃ o2, (one M c o p.2).2.2.2.1 = o ++ o2 ∧ ∀ z, z ∈ o2 → P z) → (∀ z, z ∈ o → P z) → ∀ z, z ∈ o' → P z
  | [], c, o, o', h, _, ho => by simp only [gd, Option.some.injEq] at h; rw [← h]; exact ho
  | p :: l, c, o, o', h, hl, ho => by
    have hl' := fun q hq => hl q (List.mem_cons_of_mem _ hq)
    unfold gd at h
    by_cases hd : defines p.2.Kind = true
    · rw [if_pos hd] at h
      split at h
      · exact gd_out l c o o' h hl' ho
      · cases h
    · rw [if_neg hd] at h
      split at h
      · obtain ⟨o2, e2, p2⟩ := hl p (List.mem_cons_self ..) (by simpa [isD] using hd) c o
        refine gd_out l _ _ o' h hl' (fun z hz => ?_)
        rw [e2] at hz
        rcases List.mem_append.1 hz with h | h
        · exact ho z h
        · exact p2 z h
      · cases h
def Pp (n : Str) (a : Int) (z : Item) : Prop := clause z.Kind = true ∧ z.At = a ∧ z.Name.length ≤ 24 ∧ ∃ w, z.Name = n ++ 46 :: w
theorem inst_name (t u y : Item) : (inst t u y).Name = u.Name ++ 46 :: y.Name ∧ (inst t u y).At = u.At := by
  unfold inst
  by_cases hc : clause y.Kind = true
  · rw [if_pos hc]; simp
  rw [if_neg hc]
  by_cases h14 : y.Kind = 14
  · rw [if_pos h14]; simp
  · rw [if_neg h14]; simp
theorem incl_pp {M : Maps} (hM : NoN M) {x : Item} (c : Int) (o : List Item) : ∃ o2, (incl M 600 c o [] x).2.2.2.1 = o ++ o2 ∧ ∀ z, z ∈ o2 → Pp x.Name x.At z := by
  refine incl_out M (fun u => u.At = x.At ∧ (u.Name = x.Name ∨ ∃ w, u.Name = x.Name ++ 46 :: w)) (Pp x.Name x.At) (fun u t y hu _ _ _ _ => ?_) (fun u t y z hu _ _ _ hl hc hz => ?_) 600 c o [] x ⟨rfl, .inl rfl⟩
  · obtain ⟨n1, n2⟩ := inst_name t u y
    refine ⟨by rw [n2]; exact hu.1, .inr ?_⟩
    rcases hu.2 with h | ⟨w, h⟩
    · exact ⟨y.Name, by rw [n1, h]⟩
    · exact ⟨w ++ 46 :: y.Name, by rw [n1, h]; simp⟩
  · obtain ⟨n1, n2⟩ := inst_name t u y
    obtain ⟨k, _⟩ := dfn_k hM hz
    refine ⟨by rw [k.kind]; exact hc, by rw [k.at_, n2]; exact hu.1, by rw [k.name]; exact hl, ?_⟩
    rw [k.name, n1]
    rcases hu.2 with h | ⟨w, h⟩
    · exact ⟨y.Name, by rw [h]⟩
    · exact ⟨w ++ 46 :: y.Name, by rw [h]; simp⟩
theorem s16_eq {N : Nat} {n w : Str} : s16 N (n ++ 46 :: w) n = some true := by
  simp only [s16]
  rw [if_pos (by simp; omega), grd_pos (by simp; omega), if_pos (by simp)]
  simp
theorem two_bulk {p : Source} {x : Item} (h : bulkL [.agg (Source.cs p), .agg (Item.cs x)] ≤ 1048576) : bulkL [.agg (Source.cs p)] ≤ 1048576 ∧ bulkL (Item.cs x) ≤ 1048576 := by
  simp only [bulkL, bulk_agg] at h ⊢
  omega
theorem s5_true {p : Source} {x : Item} (hb : bulkL [.agg (Source.cs p), .agg (Item.cs x)] ≤ 1048576) : s5 8388608 p x = some true := by
  obtain ⟨hb1, hb2⟩ := two_bulk hb
  obtain ⟨hsz, hdp⟩ := items_dp (source_bulk hb1)
  obtain ⟨b, e10, hb10⟩ := s10_def (N := 8388608) (s := p) (lim := 200) (by omega) (by omega) (by omega)
  simp only [s5, s9_true, Option.bind_some]
  rw [show ((200 : Nat) : Int) = 200 by rfl] at e10
  rw [e10]
  simp only [Option.bind_some]
  cases b with
  | false => rfl
  | true =>
    simp only [cond_true]
    obtain ⟨x', hx'⟩ : ∃ z : Item, z = { x with Kind := 14, Items := [] } := ⟨_, rfl⟩
    rw [← hx']
    have xk : x'.Kind = 14 := by rw [hx']
    have xi : x'.Items = [] := by rw [hx']
    have xn : x'.Name = x.Name := by rw [hx']
    have xa : x'.At = x.At := by rw [hx']
    have hxd : Dp 1048576 x' := by
      have h := dp_of _ x (Nat.le_refl _) hb2
      rw [hx']
      exact .mk _ h.name h.conds h.cname h.names h.dates (by simp) (by simp)
    have hone : iszl [x'] = 1 := by rw [iszl_cons, iszl_nil, xi, iszl_nil]
    obtain ⟨b2, f10, _⟩ := s10_def (N := 8388608) (s := (⟨[], ⟨0, 0, 0⟩, 0, [x']⟩ : Source)) (lim := 1) (by show iszl [x'] + 1 < _; omega) (by omega) (by show iszl [x'] ≤ _; omega)
    rw [show ((1 : Nat) : Int) = 1 by rfl] at f10
    rw [f10]
    simp only [Option.bind_some]
    cases b2 with
    | false => rfl
    | true =>
      simp only [cond_true]
      have hlen := iszl_len p.Items
      have hloop : iter (fun q => s5_b3 8388608 p q.1 q.2) 8388608 ([x'], 0) = some _ := iter_list (fun (s : List Item) i => (s, i)) [x'] p.Items (fun _ s a => .inl (if isD a then s ++ [a] else s)) (fun s => s) (fun i s => s.length ≤ 1 + i) (fun i s a hi hs => by
        obtain ⟨ha, hlt⟩ := getI hi
        constructor
        · simp only [s5_b3]
          rw [if_pos (by omega), grd_pos (by omega), toNat_nat, ha, s12_eq, wr_succ (by omega), grd_pos (by omega)]
          simp only [Option.bind_some, isD]
          by_cases hd : defines a.Kind = true <;> simp [hd]
        · intro s' e
          cases e
          cases hd : isD a <;> simp <;> omega) (fun s _ => by
        simp only [s5_b3]
        rw [if_neg (by omega)]) (by omega) (by simp)
      rw [hloop, runL_filter]
      simp only [Option.bind_some, s5_k2]
      obtain ⟨q, hq⟩ : ∃ q : Source, q = ⟨[], ⟨0, 0, 0⟩, 0, [x'] ++ p.Items.filter isD⟩ := ⟨_, rfl⟩
      rw [← hq]
      have qi : q.Items = x' :: p.Items.filter isD := by rw [hq]; rfl
      have hfs := iszl_filter isD p.Items
      have hqs : iszl q.Items ≤ 1048577 := by rw [qi, iszl_cons, xi, iszl_nil]; omega
      have hqd : ∀ y, y ∈ q.Items → Dp 1048576 y := fun y hy => by
        rw [qi] at hy
        rcases List.mem_cons.1 hy with h | h
        · rw [h]; exact hxd
        · exact hdp y (List.mem_filter.1 h).1
      rw [s11_eq (bdS_of (B := 1048576) (by omega) (by omega) hqd) (by unfold NB; omega) (by omega)]
      simp only [Option.bind_some]
      have e1 := expand_exg q
      cases hg : exg q with
      | none =>
        rw [hg] at e1
        obtain ⟨a1, a2⟩ := e1
        rw [a2, if_pos (by have := List.length_pos_iff.2 a1; omega)]
        rfl
      | some o =>
        rw [hg] at e1
        have hlen2 := (expand_len (p := q) (by rw [e1])).1
        rw [e1] at hlen2 ⊢
        have hno : NoN (dcls M0 q.Items).2 := dcls_s q.Items (fun n d h => by simp [M0, mlook] at h)
        have hall : ∀ z, z ∈ o → Pp x.Name x.At z := by
          unfold exg at hg
          split at hg
          · cases hg
          refine gd_out _ 0 [] o hg (fun r hr hd c o => ?_) (by simp)
          have hm : r.2 ∈ q.Items := (List.of_mem_zip hr).2
          rw [qi] at hm
          rcases List.mem_cons.1 hm with h | h
          · unfold one
            rw [h, if_pos xk, ← xn, ← xa]
            exact incl_pp hno c o
          · rw [(List.mem_filter.1 h).2] at hd; cases hd
        rw [if_neg (by simp)]
        have hl2 : iter (fun r => s5_b1 8388608 x (({ q with Items := o } : Source), []) r) 8388608 0 = some _ := iter_list (fun (_ : Unit) i => i) () o (fun i _ a => .inl ()) (fun _ => .brk ()) (fun _ _ => True) (fun i s a hi _ => by
          obtain ⟨ha, hlt⟩ := getI hi
          refine ⟨?_, fun _ _ => trivial⟩
          obtain ⟨p1, p2, p3, w, p4⟩ := hall a (List.mem_of_getElem? hi)
          simp only [s5_b1]
          simp only at hlen2
          rw [if_pos (by omega), grd_pos (by omega), toNat_nat, ha, s13_eq, p1, p2, p4, wr_succ (by omega)]
          simp only [Option.bind_some, cond_true]
          rw [s16_eq]
          simp only [Option.bind_some, cond_true]
          rw [p4] at p3
          rw [if_pos trivial, if_neg (by omega)]) (fun s _ => by
          simp only [s5_b1]
          rw [if_neg (by omega)]) (by simp only at hlen2; omega) trivial
        rw [hl2, runL_fold]
        rfl
theorem law5 (a0 : Source) (o0 : Source.ok a0) (a1 : Item) (o1 : Item.ok a1) (hb : bulkL [.agg (Source.cs a0), .agg (Item.cs a1)] ≤ 1048576) : PureC Try.prog 5 [.agg (Source.cs a0), .agg (Item.cs a1)] (.bool true) := c5 8388608 a0 a1 true (s5_true hb)
end Go.Proofs.Inc
