/- For every argument of bulk at most 1048576, estoppellaw09.IncludeParts returns true and leaves its arguments as they were. (Part 6 of what its proof rests on.) -/
import Derived.ChangeShapes
import Derived.ChangeReads
import Derived.ChangeOld
import Derived.ChangeArms
import Derived.OpenShut
import Derived.Test.YtpbhebjfblidlaaPe
set_option linter.unusedSimpArgs false
set_option linter.unusedVariables false
set_option linter.deprecated false
namespace Go.Proofs.Inc
open Go.Aw
set_option maxRecDepth 100000
attribute [-go_sem] nisA_sl appA_nil
def zr22_0 : List AO := [⟨some 4, none, .mov (.c (.int .i64 0))⟩]
def zr22_1 : List AO := [⟨some 5, none, .mov (.c (.int .i64 0))⟩]
def zr22_2 : List AO := [⟨some 6, none, .mov (.c (.int .i64 0))⟩]
def zr22_3 : List AO := [⟨some 7, none, .mov (.t 6)⟩,
  ⟨some 8, none, .mov (.t 0)⟩,
  ⟨some 9, none, .len (.t 8)⟩,
  ⟨some 10, none, .bin .lss (.t 7) (.t 9)⟩,
  ⟨some 11, none, .mov (.t 10)⟩,
  ⟨some 12, some (11, true), .mov (.t 5)⟩,
  ⟨some 13, some (11, true), .mov (.t 1)⟩,
  ⟨some 14, some (11, true), .bin .leq (.t 12) (.t 13)⟩,
  ⟨some 15, none, .pick (.t 11) (.t 14) (.c (.bool false))⟩]
def zc22_0 : AC := .cond (.t 15) .skip (.exit 0)
def zr22_4 : List AO := [⟨some 18, none, .mov (.t 5)⟩,
  ⟨some 19, none, .bin .add (.t 18) (.c (.int .i64 1))⟩,
  ⟨some 20, none, .mov (.t 0)⟩,
  ⟨some 21, none, .mov (.t 6)⟩,
  ⟨some 22, none, .iadr 33 (.t 20) (.t 21)⟩,
  ⟨some 23, none, .fadr 32 (.t 22)⟩,
  ⟨some 24, none, .load false 1 (.t 23)⟩,
  ⟨some 25, none, .mov (.t 1)⟩,
  ⟨some 26, none, .mov (.t 5)⟩,
  ⟨some 27, none, .bin .sub (.t 25) (.t 26)⟩,
  ⟨some 28, none, .callF 22 [(.t 24), (.t 27)]⟩,
  ⟨some 29, none, .bin .add (.t 19) (.t 28)⟩,
  ⟨some 5, none, .mov (.t 29)⟩]
def zc22_1 : AC := .reg zr22_4
def zr22_5 : List AO := [⟨some 16, none, .mov (.t 6)⟩,
  ⟨some 17, none, .bin .add (.t 16) (.c (.int .i64 1))⟩,
  ⟨some 6, none, .mov (.t 17)⟩]
def zc22_2 : AC := .reg zr22_5
def zc22_3 : AC := .seq (.block 1 zc22_1) zc22_2
def zc22_4 : AC := .seq (.seq (.reg zr22_3) zc22_0) zc22_3
def zc22_5 : AC := .loop zc22_4
def zc22_6 : AC := .block 0 zc22_5
def zr22_6 : List AO := [⟨some 30, none, .mov (.t 5)⟩,
  ⟨some 4, none, .mov (.t 30)⟩]
def zc22_7 : AC := .seq (.reg zr22_6) .ret
def zc22_8 : AC := .seq (.seq (.reg zr22_2) zc22_6) zc22_7
def zc22_9 : AC := .seq (.reg zr22_1) zc22_8
def zc22_10 : AC := .seq (.reg zr22_0) zc22_9
def zc22 : AC := zc22_10
theorem ok22 : Try.f22.body.bind (compCode Try.prog 31) = some zc22 := by kernel_rfl
theorem nt22 : Try.f22.ntmps = 31 := by kernel_rfl
theorem res22 : compRes Try.prog Try.f22.results.toList = some [.tmp 4] := by kernel_rfl
def s22_b1 (N : Nat) (p1 : List Item) (p2 : Int) (rec22 : (List Item) → Int → Option Int) (x1 : Int) (x2 : Int) : Option (((Int × Int) ⊕ (Int))) :=
  if x2 < (List.length p1 : Int) then
    if x1 ≤ p2 then
      grd (0 ≤ x2) <|
      (rec22 ((p1[x2.toNat]!).Items) (IntKind.wrap .i64 (p2 - x1))).bind fun x8 =>
      some (.inl (IntKind.wrap .i64 ((IntKind.wrap .i64 (x1 + 1)) + x8), IntKind.wrap .i64 (x2 + 1)))
    else
      some (.inr x1)
  else
    some (.inr x1)
def s22_body (rec22 : (List Item) → Int → Option Int) (N : Nat) (p1 : List Item) (p2 : Int) : Option Int :=
  (iter (fun p => s22_b1 N p1 p2 rec22 p.1 p.2) N (0, 0)).bind fun a3 =>
  some a3
def s22 : Nat → (List Item) → Int → Option Int
  | 0, _, _ => none
  | N + 1, p1, p2 => s22_body (s22 N) N p1 p2
set_option maxHeartbeats 4000000 in
theorem c22_body (rec22 : (List Item) → Int → Option Int) (hrec22 : ∀ (p1 : List Item) (p2 : Int) (r : Int), rec22 p1 p2 = some r → PureC Try.prog 22 [.sl (List.map Item.av p1), .int .i64 p2] (.int .i64 r)) (N : Nat) (p1 : List Item) (p2 : Int) (r : Int) (h : s22_body rec22 N p1 p2 = some r) : PureC Try.prog 22 [.sl (List.map Item.av p1), .int .i64 p2] (.int .i64 r) := by
  refine fn_intro' 31 Try.func22 nt22 ok22 res22 (by simp) fun X hP hn hd hr => ?_
  unfold s22_body at h
  repeat refine awp_seq ?_
  refine awp_reg fun K Q hK hQ => ?_
  simp -implicitDefEqProofs (disch := first | omega | rfl) only [go_sem, simprocAttr, zr22_0, argS]
  refine hK _ _ ?_; clear hK hQ K Q
  repeat refine awp_seq ?_
  refine awp_reg fun K Q hK hQ => ?_
  simp -implicitDefEqProofs (disch := first | omega | rfl) only [go_sem, simprocAttr, zr22_1]
  refine hK _ _ ?_; clear hK hQ K Q
  repeat refine awp_seq ?_
  refine awp_reg fun K Q hK hQ => ?_
  simp -implicitDefEqProofs (disch := first | omega | rfl) only [go_sem, simprocAttr, zr22_2]
  refine hK _ _ ?_; clear hK hQ K Q
  repeat refine awp_seq ?_
  refine awp_block ?_
  obtain ⟨o3, ho3, hO3⟩ := bnd_some h
  repeat refine awp_seq ?_
  refine awp_loop (ι := {p : Nat × Int × Int // iter (fun p => s22_b1 N p1 p2 rec22 p.1 p.2) p.1 (p.2.1, p.2.2) = some o3}) (fun p => [(0, .sl (List.map Item.av p1)), (1, .int .i64 p2), (5, .int .i64 p.1.2.1), (6, .int .i64 p.1.2.2)]) (fun p => []) (fun p => p.1.1) ⟨⟨N, 0, 0⟩, ho3⟩ ?_ ?_
  · refine ent_le' ([]) ([]) ([]) rfl (List.Perm.refl _) ?_ ?_
    · simp -implicitDefEqProofs (disch := first | omega | rfl) only [go_sem, simprocAttr, subF_cons, subF_nil]
      exact ⟨(.keep _), (.keep _), (.keep _), (.keep _)⟩
    · exact .nil
  rintro ⟨⟨n3, x1, x2⟩, hi3⟩
  obtain ⟨m3, q3, rfl, h, hm3⟩ := iter_some hi3
  try dsimp only at h
  try dsimp only
  unfold s22_b1 at h
  repeat refine awp_seq ?_
  refine awp_reg fun K Q hK hQ => ?_
  have hh := ite_some h; clear h; rcases hh with ⟨hc5, h⟩ | ⟨hc5, h⟩
  · simp -implicitDefEqProofs (disch := first | omega | rfl) only [go_sem, simprocAttr, zr22_3, eq_true hc5]
    refine hK _ _ ?_; clear hK hQ K Q
    have hh := ite_some h; clear h; rcases hh with ⟨hc6, h⟩ | ⟨hc6, h⟩
    · repeat refine awp_seq ?_
      refine awp_then (by simp -implicitDefEqProofs (disch := first | omega | rfl) only [go_sem, simprocAttr, eq_true hc6]) ?_
      repeat refine awp_seq ?_
      refine awp_skip ?_
      repeat refine awp_seq ?_
      refine awp_block ?_
      repeat refine awp_seq ?_
      refine awp_reg fun K Q hK hQ => ?_
      have hh := grd_some h; clear h; obtain ⟨hg7, h⟩ := hh
      simp -implicitDefEqProofs (disch := first | omega | rfl) only [go_sem, simprocAttr, zr22_4, eq_true hc5, eq_true hg7]
      have hh := bnd_some h; clear h; obtain ⟨x8, hx9, h⟩ := hh
      refine call_pure hP (hrec22 ((p1[x2.toNat]!).Items) (IntKind.wrap .i64 (p2 - x1)) x8 hx9) ?_
      simp -implicitDefEqProofs (disch := first | omega | rfl) only [go_sem, simprocAttr]
      refine hK _ _ ?_; clear hK hQ K Q
      repeat refine awp_seq ?_
      refine awp_reg fun K Q hK hQ => ?_
      simp -implicitDefEqProofs (disch := first | omega | rfl) only [go_sem, simprocAttr, zr22_5]
      refine hK _ _ ?_; clear hK hQ K Q
      obtain rfl := som_inj h
      try dsimp only at hm3
      refine ⟨⟨⟨m3, IntKind.wrap .i64 ((IntKind.wrap .i64 (x1 + 1)) + x8), IntKind.wrap .i64 (x2 + 1)⟩, hm3⟩, Nat.lt_succ_self _, ?_⟩
      refine ent_le' ([]) ([]) ([]) rfl (List.Perm.refl _) ?_ ?_
      · simp -implicitDefEqProofs (disch := first | omega | rfl) only [go_sem, simprocAttr, subF_cons, subF_nil]
        exact ⟨(.keep _), (.keep _), (.keep _), (.keep _)⟩
      · exact .nil
    repeat refine awp_seq ?_
    refine awp_else (by simp -implicitDefEqProofs (disch := first | omega | rfl) only [go_sem, simprocAttr, eq_false hc6]) ?_
    repeat refine awp_seq ?_
    refine awp_exit ?_
    repeat' (first | refine then_exit ?_ | refine exit_here ?_ | refine exit_on rfl ?_)
    obtain rfl := som_inj h
    try dsimp only at hm3
    subst hm3
    try dsimp only at hO3
    repeat refine awp_seq ?_
    refine awp_reg fun K Q hK hQ => ?_
    simp -implicitDefEqProofs (disch := first | omega | rfl) only [go_sem, simprocAttr, zr22_6]
    refine hK _ _ ?_; clear hK hQ K Q
    obtain rfl := som_inj hO3
    repeat refine awp_seq ?_
    refine awp_ret ?_
    repeat' (first | refine then_ret ?_ | refine blk_ret ?_)
    refine ret_q ?_
    simp -implicitDefEqProofs (disch := first | omega | rfl) only [go_sem, simprocAttr]
    first | exact leaves_none (by first | rfl | simp) | exact leaves_nil
  simp -implicitDefEqProofs (disch := first | omega | rfl) only [go_sem, simprocAttr, zr22_3, eq_false hc5]
  refine hK _ _ ?_; clear hK hQ K Q
  repeat refine awp_seq ?_
  refine awp_else (by rfl) ?_
  repeat refine awp_seq ?_
  refine awp_exit ?_
  repeat' (first | refine then_exit ?_ | refine exit_here ?_ | refine exit_on rfl ?_)
  obtain rfl := som_inj h
  try dsimp only at hm3
  subst hm3
  try dsimp only at hO3
  repeat refine awp_seq ?_
  refine awp_reg fun K Q hK hQ => ?_
  simp -implicitDefEqProofs (disch := first | omega | rfl) only [go_sem, simprocAttr, zr22_6]
  refine hK _ _ ?_; clear hK hQ K Q
  obtain rfl := som_inj hO3
  repeat refine awp_seq ?_
  refine awp_ret ?_
  repeat' (first | refine then_ret ?_ | refine blk_ret ?_)
  refine ret_q ?_
  simp -implicitDefEqProofs (disch := first | omega | rfl) only [go_sem, simprocAttr]
  first | exact leaves_none (by first | rfl | simp) | exact leaves_nil
theorem cs_22 : ∀ N : Nat, (∀ (p1 : List Item) (p2 : Int) (r : Int), s22 N p1 p2 = some r → PureC Try.prog 22 [.sl (List.map Item.av p1), .int .i64 p2] (.int .i64 r)) := by
  intro N
  induction N with
  | zero => exact fun _ _ r h => by cases h
  | succ N ih => exact fun p1 p2 r h => c22_body (s22 N) ih N p1 p2 r h
theorem c22 (N : Nat) (p1 : List Item) (p2 : Int) (r : Int) (h : s22 N p1 p2 = some r) : PureC Try.prog 22 [.sl (List.map Item.av p1), .int .i64 p2] (.int .i64 r) := (cs_22 N) p1 p2 r h
def zr23_0 : List AO := [⟨some 2, none, .mov (.c (.bool false))⟩]
def zr23_1 : List AO := [⟨some 3, none, .mov (.c (.int .i64 0))⟩]
def zr23_2 : List AO := [⟨some 5, none, .mov (.t 3)⟩,
  ⟨some 6, none, .mov (.t 0)⟩,
  ⟨some 7, none, .len (.t 6)⟩,
  ⟨some 8, none, .bin .lss (.t 5) (.t 7)⟩]
def zc23_0 : AC := .cond (.t 8) .skip (.exit 0)
def zr23_3 : List AO := [⟨some 11, none, .mov (.t 0)⟩,
  ⟨some 12, none, .mov (.t 3)⟩,
  ⟨some 13, none, .iadr 33 (.t 11) (.t 12)⟩,
  ⟨some 14, none, .load true 33 (.t 13)⟩,
  ⟨some 4, none, .alloc [.int .i64 0, .str [], .int .i64 0, .str [], .str [], .int .i64 0, .int .i64 0, .int .i64 0, .bool false, .str [], .int .i64 0, .bool false, .str [], .nil, .str [], .str [], .int .i64 0, .int .i64 0, .str [], .str [], .bool false, .str [], .str [], .bool false, .bool false, .bool false, .bool false, .bool false, .bool false, .bool false, .nil, .nil, .nil]⟩,
  ⟨none, none, .store 33 (.t 4) (.t 14)⟩]
def zr23_4 : List AO := [⟨some 15, none, .fadr 31 (.t 4)⟩,
  ⟨some 16, none, .load false 1 (.t 15)⟩,
  ⟨some 17, none, .len (.t 16)⟩,
  ⟨some 18, none, .bin .gtr (.t 17) (.c (.int .i64 30))⟩,
  ⟨some 19, none, .mov (.t 18)⟩,
  ⟨some 20, some (19, false), .fadr 13 (.t 4)⟩,
  ⟨some 21, some (19, false), .load false 1 (.t 20)⟩,
  ⟨some 22, some (19, false), .len (.t 21)⟩,
  ⟨some 23, some (19, false), .bin .gtr (.t 22) (.c (.int .i64 30))⟩,
  ⟨some 24, none, .pick (.t 19) (.c (.bool true)) (.t 23)⟩,
  ⟨some 25, none, .mov (.t 24)⟩,
  ⟨some 26, some (25, false), .fadr 30 (.t 4)⟩,
  ⟨some 27, some (25, false), .load false 1 (.t 26)⟩,
  ⟨some 28, some (25, false), .len (.t 27)⟩,
  ⟨some 29, some (25, false), .bin .gtr (.t 28) (.c (.int .i64 30))⟩,
  ⟨some 30, none, .pick (.t 25) (.c (.bool true)) (.t 29)⟩,
  ⟨some 31, none, .mov (.t 30)⟩,
  ⟨some 32, some (31, false), .fadr 1 (.t 4)⟩,
  ⟨some 33, some (31, false), .load false 1 (.t 32)⟩,
  ⟨some 34, some (31, false), .lenS (.t 33)⟩,
  ⟨some 35, some (31, false), .bin .gtr (.t 34) (.c (.int .i64 100))⟩,
  ⟨some 36, none, .pick (.t 31) (.c (.bool true)) (.t 35)⟩,
  ⟨some 37, none, .mov (.t 36)⟩,
  ⟨some 38, some (37, false), .fadr 32 (.t 4)⟩,
  ⟨some 39, some (37, false), .load false 1 (.t 38)⟩,
  ⟨some 40, some (37, false), .callF 23 [(.t 39)]⟩,
  ⟨some 41, some (37, false), .un .not (.t 40)⟩,
  ⟨some 42, none, .pick (.t 37) (.c (.bool true)) (.t 41)⟩]
def zr23_5 : List AO := [⟨some 2, none, .mov (.c (.bool false))⟩]
def zc23_1 : AC := .seq (.reg zr23_5) .ret
def zc23_2 : AC := .cond (.t 42) zc23_1 .skip
def zc23_3 : AC := .seq (.reg zr23_4) zc23_2
def zc23_4 : AC := .seq (.reg zr23_3) zc23_3
def zr23_6 : List AO := [⟨some 9, none, .mov (.t 3)⟩,
  ⟨some 10, none, .bin .add (.t 9) (.c (.int .i64 1))⟩,
  ⟨some 3, none, .mov (.t 10)⟩]
def zc23_5 : AC := .reg zr23_6
def zc23_6 : AC := .seq (.block 1 zc23_4) zc23_5
def zc23_7 : AC := .seq (.seq (.reg zr23_2) zc23_0) zc23_6
def zc23_8 : AC := .loop zc23_7
def zc23_9 : AC := .block 0 zc23_8
def zr23_7 : List AO := [⟨some 2, none, .mov (.c (.bool true))⟩]
def zc23_10 : AC := .seq (.reg zr23_7) .ret
def zc23_11 : AC := .seq (.seq (.reg zr23_1) zc23_9) zc23_10
def zc23_12 : AC := .seq (.reg zr23_0) zc23_11
def zc23 : AC := zc23_12
theorem ok23 : Try.f23.body.bind (compCode Try.prog 43) = some zc23 := by kernel_rfl
theorem nt23 : Try.f23.ntmps = 43 := by kernel_rfl
theorem res23 : compRes Try.prog Try.f23.results.toList = some [.tmp 2] := by kernel_rfl
def s23_b1 (N : Nat) (p1 : List Item) (rec23 : (List Item) → Option Bool) (x1 : Int) : Option (((Int) ⊕ (Ou (Unit) (Bool)))) :=
  if x1 < (List.length p1 : Int) then
    grd (0 ≤ x1) <|
    if 30 < (List.length ((p1[x1.toNat]!).Names) : Int) then
      some (.inr (.ret false))
    else
      if 30 < (List.length ((p1[x1.toNat]!).Conds) : Int) then
        some (.inr (.ret false))
      else
        if 30 < (List.length ((p1[x1.toNat]!).Dates) : Int) then
          some (.inr (.ret false))
        else
          if 100 < (List.length ((p1[x1.toNat]!).Name) : Int) then
            some (.inr (.ret false))
          else
            (rec23 ((p1[x1.toNat]!).Items)).bind fun x10 =>
            bif x10 then
              some (.inl (IntKind.wrap .i64 (x1 + 1)))
            else
              some (.inr (.ret false))
  else
    some (.inr (.brk ()))
def s23_body (rec23 : (List Item) → Option Bool) (N : Nat) (p1 : List Item) : Option Bool :=
  (iter (fun p => s23_b1 N p1 rec23 p) N 0).bind fun o2 => o2.on (fun a2 =>
    some true)
    (fun a2r => some a2r)
def s23 : Nat → (List Item) → Option Bool
  | 0, _ => none
  | N + 1, p1 => s23_body (s23 N) N p1
set_option maxHeartbeats 4000000 in
theorem c23_body (rec23 : (List Item) → Option Bool) (hrec23 : ∀ (p1 : List Item) (r : Bool), rec23 p1 = some r → PureC Try.prog 23 [.sl (List.map Item.av p1)] (.bool r)) (N : Nat) (p1 : List Item) (r : Bool) (h : s23_body rec23 N p1 = some r) : PureC Try.prog 23 [.sl (List.map Item.av p1)] (.bool r) := by
  refine fn_intro' 43 Try.func23 nt23 ok23 res23 (by simp) fun X hP hn hd hr => ?_
  unfold s23_body at h
  repeat refine awp_seq ?_
  refine awp_reg fun K Q hK hQ => ?_
  simp -implicitDefEqProofs (disch := first | omega | rfl) only [go_sem, simprocAttr, zr23_0, argS]
  refine hK _ _ ?_; clear hK hQ K Q
  repeat refine awp_seq ?_
  refine awp_reg fun K Q hK hQ => ?_
  simp -implicitDefEqProofs (disch := first | omega | rfl) only [go_sem, simprocAttr, zr23_1]
  refine hK _ _ ?_; clear hK hQ K Q
  repeat refine awp_seq ?_
  refine awp_block ?_
  obtain ⟨o2, ho2, hO2⟩ := bnd_some h
  repeat refine awp_seq ?_
  refine awp_loop (ι := {p : Nat × Int // iter (fun p => s23_b1 N p1 rec23 p) p.1 p.2 = some o2}) (fun p => [(0, .sl (List.map Item.av p1)), (3, .int .i64 p.1.2)]) (fun p => []) (fun p => p.1.1) ⟨⟨N, 0⟩, ho2⟩ ?_ ?_
  · refine ent_le' ([]) ([]) ([]) rfl (List.Perm.refl _) ?_ ?_
    · simp -implicitDefEqProofs (disch := first | omega | rfl) only [go_sem, simprocAttr, subF_cons, subF_nil]
      exact ⟨(.keep _), (.keep _)⟩
    · exact .nil
  rintro ⟨⟨n2, x1⟩, hi2⟩
  obtain ⟨m2, q2, rfl, h, hm2⟩ := iter_some hi2
  try dsimp only at h
  try dsimp only
  unfold s23_b1 at h
  repeat refine awp_seq ?_
  refine awp_reg fun K Q hK hQ => ?_
  simp -implicitDefEqProofs (disch := first | omega | rfl) only [go_sem, simprocAttr, zr23_2]
  refine hK _ _ ?_; clear hK hQ K Q
  have hh := ite_some h; clear h; rcases hh with ⟨hc3, h⟩ | ⟨hc3, h⟩
  · repeat refine awp_seq ?_
    refine awp_then (by simp -implicitDefEqProofs (disch := first | omega | rfl) only [go_sem, simprocAttr, eq_true hc3]) ?_
    repeat refine awp_seq ?_
    refine awp_skip ?_
    repeat refine awp_seq ?_
    refine awp_block ?_
    repeat refine awp_seq ?_
    refine awp_reg fun K Q hK hQ => ?_
    have hh := grd_some h; clear h; obtain ⟨hg4, h⟩ := hh
    simp -implicitDefEqProofs (disch := first | omega | rfl) only [go_sem, simprocAttr, zr23_3, eq_true hc3, eq_true hg4]
    intro b5
    refine hK _ _ ?_; clear hK hQ K Q
    repeat refine awp_seq ?_
    refine awp_reg fun K Q hK hQ => ?_
    have hh := ite_some h; clear h; rcases hh with ⟨hc6, h⟩ | ⟨hc6, h⟩
    · simp -implicitDefEqProofs (disch := first | omega | rfl) only [go_sem, simprocAttr, zr23_4, eq_true hc6]
      refine hK _ _ ?_; clear hK hQ K Q
      repeat refine awp_seq ?_
      refine awp_then (by rfl) ?_
      repeat refine awp_seq ?_
      refine awp_reg fun K Q hK hQ => ?_
      simp -implicitDefEqProofs (disch := first | omega | rfl) only [go_sem, simprocAttr, zr23_5]
      refine hK _ _ ?_; clear hK hQ K Q
      obtain rfl := som_inj h
      try dsimp only at hm2
      subst hm2
      simp only [Ou.on_ret] at hO2
      obtain rfl := som_inj hO2
      repeat refine awp_seq ?_
      refine awp_ret ?_
      repeat' (first | refine then_ret ?_ | refine blk_ret ?_)
      refine ret_q ?_
      simp -implicitDefEqProofs (disch := first | omega | rfl) only [go_sem, simprocAttr]
      first | exact leaves_none (by first | rfl | simp) | exact leaves_nil
    have hh := ite_some h; clear h; rcases hh with ⟨hc7, h⟩ | ⟨hc7, h⟩
    · simp -implicitDefEqProofs (disch := first | omega | rfl) only [go_sem, simprocAttr, zr23_4, eq_false hc6, eq_true hc7]
      refine hK _ _ ?_; clear hK hQ K Q
      repeat refine awp_seq ?_
      refine awp_then (by rfl) ?_
      repeat refine awp_seq ?_
      refine awp_reg fun K Q hK hQ => ?_
      simp -implicitDefEqProofs (disch := first | omega | rfl) only [go_sem, simprocAttr, zr23_5]
      refine hK _ _ ?_; clear hK hQ K Q
      obtain rfl := som_inj h
      try dsimp only at hm2
      subst hm2
      simp only [Ou.on_ret] at hO2
      obtain rfl := som_inj hO2
      repeat refine awp_seq ?_
      refine awp_ret ?_
      repeat' (first | refine then_ret ?_ | refine blk_ret ?_)
      refine ret_q ?_
      simp -implicitDefEqProofs (disch := first | omega | rfl) only [go_sem, simprocAttr]
      first | exact leaves_none (by first | rfl | simp) | exact leaves_nil
    have hh := ite_some h; clear h; rcases hh with ⟨hc8, h⟩ | ⟨hc8, h⟩
    · simp -implicitDefEqProofs (disch := first | omega | rfl) only [go_sem, simprocAttr, zr23_4, eq_false hc6, eq_false hc7, eq_true hc8]
      refine hK _ _ ?_; clear hK hQ K Q
      repeat refine awp_seq ?_
      refine awp_then (by rfl) ?_
      repeat refine awp_seq ?_
      refine awp_reg fun K Q hK hQ => ?_
      simp -implicitDefEqProofs (disch := first | omega | rfl) only [go_sem, simprocAttr, zr23_5]
      refine hK _ _ ?_; clear hK hQ K Q
      obtain rfl := som_inj h
      try dsimp only at hm2
      subst hm2
      simp only [Ou.on_ret] at hO2
      obtain rfl := som_inj hO2
      repeat refine awp_seq ?_
      refine awp_ret ?_
      repeat' (first | refine then_ret ?_ | refine blk_ret ?_)
      refine ret_q ?_
      simp -implicitDefEqProofs (disch := first | omega | rfl) only [go_sem, simprocAttr]
      first | exact leaves_none (by first | rfl | simp) | exact leaves_nil
    have hh := ite_some h; clear h; rcases hh with ⟨hc9, h⟩ | ⟨hc9, h⟩
    · simp -implicitDefEqProofs (disch := first | omega | rfl) only [go_sem, simprocAttr, zr23_4, eq_false hc6, eq_false hc7, eq_false hc8, eq_true hc9]
      refine hK _ _ ?_; clear hK hQ K Q
      repeat refine awp_seq ?_
      refine awp_then (by rfl) ?_
      repeat refine awp_seq ?_
      refine awp_reg fun K Q hK hQ => ?_
      simp -implicitDefEqProofs (disch := first | omega | rfl) only [go_sem, simprocAttr, zr23_5]
      refine hK _ _ ?_; clear hK hQ K Q
      obtain rfl := som_inj h
      try dsimp only at hm2
      subst hm2
      simp only [Ou.on_ret] at hO2
      obtain rfl := som_inj hO2
      repeat refine awp_seq ?_
      refine awp_ret ?_
      repeat' (first | refine then_ret ?_ | refine blk_ret ?_)
      refine ret_q ?_
      simp -implicitDefEqProofs (disch := first | omega | rfl) only [go_sem, simprocAttr]
      first | exact leaves_none (by first | rfl | simp) | exact leaves_nil
    simp -implicitDefEqProofs (disch := first | omega | rfl) only [go_sem, simprocAttr, zr23_4, eq_false hc6, eq_false hc7, eq_false hc8, eq_false hc9]
    have hh := bnd_some h; clear h; obtain ⟨x10, hx11, h⟩ := hh
    refine call_pure hP (hrec23 ((p1[x1.toNat]!).Items) x10 hx11) ?_
    simp -implicitDefEqProofs (disch := first | omega | rfl) only [go_sem, simprocAttr]
    refine hK _ _ ?_; clear hK hQ K Q
    have hh := cnd_some h; clear h; rcases hh with ⟨hc12, h⟩ | ⟨hc12, h⟩
    · repeat refine awp_seq ?_
      refine awp_else (by simp -implicitDefEqProofs (disch := first | omega | rfl) only [go_sem, simprocAttr, hc12]) ?_
      repeat refine awp_seq ?_
      refine awp_skip ?_
      repeat refine awp_seq ?_
      refine awp_reg fun K Q hK hQ => ?_
      simp -implicitDefEqProofs (disch := first | omega | rfl) only [go_sem, simprocAttr, zr23_6]
      refine hK _ _ ?_; clear hK hQ K Q
      obtain rfl := som_inj h
      try dsimp only at hm2
      refine ⟨⟨⟨m2, IntKind.wrap .i64 (x1 + 1)⟩, hm2⟩, Nat.lt_succ_self _, ?_⟩
      refine ent_le' ([]) (_ :: []) (_ :: []) rfl (List.Perm.refl _) ?_ ?_
      · simp -implicitDefEqProofs (disch := first | omega | rfl) only [go_sem, simprocAttr, subF_cons, subF_nil]
        exact ⟨(.keep _), (.keep _)⟩
      · exact (.drop .nil)
    repeat refine awp_seq ?_
    refine awp_then (by simp -implicitDefEqProofs (disch := first | omega | rfl) only [go_sem, simprocAttr, hc12]) ?_
    repeat refine awp_seq ?_
    refine awp_reg fun K Q hK hQ => ?_
    simp -implicitDefEqProofs (disch := first | omega | rfl) only [go_sem, simprocAttr, zr23_5]
    refine hK _ _ ?_; clear hK hQ K Q
    obtain rfl := som_inj h
    try dsimp only at hm2
    subst hm2
    simp only [Ou.on_ret] at hO2
    obtain rfl := som_inj hO2
    repeat refine awp_seq ?_
    refine awp_ret ?_
    repeat' (first | refine then_ret ?_ | refine blk_ret ?_)
    refine ret_q ?_
    simp -implicitDefEqProofs (disch := first | omega | rfl) only [go_sem, simprocAttr]
    first | exact leaves_none (by first | rfl | simp) | exact leaves_nil
  repeat refine awp_seq ?_
  refine awp_else (by simp -implicitDefEqProofs (disch := first | omega | rfl) only [go_sem, simprocAttr, eq_false hc3]) ?_
  repeat refine awp_seq ?_
  refine awp_exit ?_
  repeat' (first | refine then_exit ?_ | refine exit_here ?_ | refine exit_on rfl ?_)
  obtain rfl := som_inj h
  try dsimp only at hm2
  subst hm2
  simp only [Ou.on_brk] at hO2
  repeat refine awp_seq ?_
  refine awp_reg fun K Q hK hQ => ?_
  simp -implicitDefEqProofs (disch := first | omega | rfl) only [go_sem, simprocAttr, zr23_7]
  refine hK _ _ ?_; clear hK hQ K Q
  obtain rfl := som_inj hO2
  repeat refine awp_seq ?_
  refine awp_ret ?_
  repeat' (first | refine then_ret ?_ | refine blk_ret ?_)
  refine ret_q ?_
  simp -implicitDefEqProofs (disch := first | omega | rfl) only [go_sem, simprocAttr]
  first | exact leaves_none (by first | rfl | simp) | exact leaves_nil
theorem cs_23 : ∀ N : Nat, (∀ (p1 : List Item) (r : Bool), s23 N p1 = some r → PureC Try.prog 23 [.sl (List.map Item.av p1)] (.bool r)) := by
  intro N
  induction N with
  | zero => exact fun _ r h => by cases h
  | succ N ih => exact fun p1 r h => c23_body (s23 N) ih N p1 r h
theorem c23 (N : Nat) (p1 : List Item) (r : Bool) (h : s23 N p1 = some r) : PureC Try.prog 23 [.sl (List.map Item.av p1)] (.bool r) := (cs_23 N) p1 r h
def zr10_0 : List AO := [⟨some 2, none, .box (.t 0)⟩,
  ⟨some 4, none, .mov (.c (.bool false))⟩]
def zr10_1 : List AO := [⟨some 5, none, .fadr 5 (.t 2)⟩,
  ⟨some 6, none, .load false 1 (.t 5)⟩,
  ⟨some 7, none, .mov (.t 1)⟩,
  ⟨some 8, none, .callF 22 [(.t 6), (.t 7)]⟩,
  ⟨some 9, none, .mov (.t 1)⟩,
  ⟨some 10, none, .bin .leq (.t 8) (.t 9)⟩,
  ⟨some 11, none, .mov (.t 10)⟩,
  ⟨some 12, some (11, true), .fadr 5 (.t 2)⟩,
  ⟨some 13, some (11, true), .load false 1 (.t 12)⟩,
  ⟨some 14, some (11, true), .callF 23 [(.t 13)]⟩,
  ⟨some 15, none, .pick (.t 11) (.t 14) (.c (.bool false))⟩,
  ⟨some 4, none, .mov (.t 15)⟩]
def zc10_0 : AC := .seq (.reg zr10_1) .ret
def zc10_1 : AC := .seq (.reg zr10_0) zc10_0
def zc10 : AC := zc10_1
theorem ok10 : Try.f10.body.bind (compCode Try.prog 16) = some zc10 := by kernel_rfl
theorem nt10 : Try.f10.ntmps = 16 := by kernel_rfl
theorem res10 : compRes Try.prog Try.f10.results.toList = some [.tmp 4] := by kernel_rfl
def s10 (N : Nat) (p1 : Source) (p2 : Int) : Option Bool :=
  (s22 N p1.Items p2).bind fun x2 =>
  if x2 ≤ p2 then
    (s23 N p1.Items).bind fun x5 =>
    some x5
  else
    some false
set_option maxHeartbeats 4000000 in
theorem c10 (N : Nat) (p1 : Source) (p2 : Int) (r : Bool) (h : s10 N p1 p2 = some r) : PureC Try.prog 10 [.agg (Source.cs p1), .int .i64 p2] (.bool r) := by
  refine fn_intro' 16 Try.func10 nt10 ok10 res10 (by simp) fun X hP hn hd hr => ?_
  unfold s10 at h
  repeat refine awp_seq ?_
  refine awp_reg fun K Q hK hQ => ?_
  simp -implicitDefEqProofs (disch := first | omega | rfl) only [go_sem, simprocAttr, zr10_0, argS]
  intro b1
  refine hK _ _ ?_; clear hK hQ K Q
  repeat refine awp_seq ?_
  refine awp_reg fun K Q hK hQ => ?_
  simp -implicitDefEqProofs (disch := first | omega | rfl) only [go_sem, simprocAttr, zr10_1]
  have hh := bnd_some h; clear h; obtain ⟨x2, hx3, h⟩ := hh
  refine call_pure hP (c22 N p1.Items p2 x2 hx3) ?_
  have hh := ite_some h; clear h; rcases hh with ⟨hc4, h⟩ | ⟨hc4, h⟩
  · simp -implicitDefEqProofs (disch := first | omega | rfl) only [go_sem, simprocAttr, eq_true hc4]
    have hh := bnd_some h; clear h; obtain ⟨x5, hx6, h⟩ := hh
    refine call_pure hP (c23 N p1.Items x5 hx6) ?_
    simp -implicitDefEqProofs (disch := first | omega | rfl) only [go_sem, simprocAttr]
    refine hK _ _ ?_; clear hK hQ K Q
    obtain rfl := som_inj h
    repeat refine awp_seq ?_
    refine awp_ret ?_
    repeat' (first | refine then_ret ?_ | refine blk_ret ?_)
    refine ret_q ?_
    simp -implicitDefEqProofs (disch := first | omega | rfl) only [go_sem, simprocAttr]
    first | exact leaves_none (by first | rfl | simp) | exact leaves_nil
  simp -implicitDefEqProofs (disch := first | omega | rfl) only [go_sem, simprocAttr, eq_false hc4]
  refine hK _ _ ?_; clear hK hQ K Q
  obtain rfl := som_inj h
  repeat refine awp_seq ?_
  refine awp_ret ?_
  repeat' (first | refine then_ret ?_ | refine blk_ret ?_)
  refine ret_q ?_
  simp -implicitDefEqProofs (disch := first | omega | rfl) only [go_sem, simprocAttr]
  first | exact leaves_none (by first | rfl | simp) | exact leaves_nil
def zr12_0 : List AO := [⟨some 2, none, .mov (.c (.bool false))⟩]
def zr12_1 : List AO := [⟨some 3, none, .mov (.t 0)⟩,
  ⟨some 4, none, .bin .eql (.t 3) (.c (.int .i64 13))⟩,
  ⟨some 5, none, .mov (.t 4)⟩,
  ⟨some 6, some (5, false), .mov (.t 0)⟩,
  ⟨some 7, some (5, false), .bin .eql (.t 6) (.c (.int .i64 6))⟩,
  ⟨some 8, none, .pick (.t 5) (.c (.bool true)) (.t 7)⟩,
  ⟨some 9, none, .mov (.t 8)⟩,
  ⟨some 10, some (9, false), .mov (.t 0)⟩,
  ⟨some 11, some (9, false), .bin .eql (.t 10) (.c (.int .i64 7))⟩,
  ⟨some 12, none, .pick (.t 9) (.c (.bool true)) (.t 11)⟩,
  ⟨some 2, none, .mov (.t 12)⟩]
def zc12_0 : AC := .seq (.reg zr12_1) .ret
def zc12_1 : AC := .seq (.reg zr12_0) zc12_0
def zc12 : AC := zc12_1
theorem ok12 : Try.f12.body.bind (compCode Try.prog 13) = some zc12 := by kernel_rfl
theorem nt12 : Try.f12.ntmps = 13 := by kernel_rfl
theorem res12 : compRes Try.prog Try.f12.results.toList = some [.tmp 2] := by kernel_rfl
def s12 (N : Nat) (p1 : Int) : Option Bool :=
  if p1 = 13 then
    some true
  else
    if p1 = 6 then
      some true
    else
      some (decide (p1 = 7))
set_option maxHeartbeats 4000000 in
theorem c12 (N : Nat) (p1 : Int) (r : Bool) (h : s12 N p1 = some r) : PureC Try.prog 12 [.int .i64 p1] (.bool r) := by
  refine fn_intro' 13 Try.func12 nt12 ok12 res12 (by simp) fun X hP hn hd hr => ?_
  unfold s12 at h
  repeat refine awp_seq ?_
  refine awp_reg fun K Q hK hQ => ?_
  simp -implicitDefEqProofs (disch := first | omega | rfl) only [go_sem, simprocAttr, zr12_0, argS]
  refine hK _ _ ?_; clear hK hQ K Q
  repeat refine awp_seq ?_
  refine awp_reg fun K Q hK hQ => ?_
  have hh := ite_some h; clear h; rcases hh with ⟨hc1, h⟩ | ⟨hc1, h⟩
  · simp -implicitDefEqProofs (disch := first | omega | rfl) only [go_sem, simprocAttr, zr12_1, eq_true hc1]
    refine hK _ _ ?_; clear hK hQ K Q
    obtain rfl := som_inj h
    repeat refine awp_seq ?_
    refine awp_ret ?_
    repeat' (first | refine then_ret ?_ | refine blk_ret ?_)
    refine ret_q ?_
    simp -implicitDefEqProofs (disch := first | omega | rfl) only [go_sem, simprocAttr]
    first | exact leaves_none (by first | rfl | simp) | exact leaves_nil
  have hh := ite_some h; clear h; rcases hh with ⟨hc2, h⟩ | ⟨hc2, h⟩
  · simp -implicitDefEqProofs (disch := first | omega | rfl) only [go_sem, simprocAttr, zr12_1, eq_false hc1, eq_true hc2]
    refine hK _ _ ?_; clear hK hQ K Q
    obtain rfl := som_inj h
    repeat refine awp_seq ?_
    refine awp_ret ?_
    repeat' (first | refine then_ret ?_ | refine blk_ret ?_)
    refine ret_q ?_
    simp -implicitDefEqProofs (disch := first | omega | rfl) only [go_sem, simprocAttr]
    first | exact leaves_none (by first | rfl | simp) | exact leaves_nil
  simp -implicitDefEqProofs (disch := first | omega | rfl) only [go_sem, simprocAttr, zr12_1, eq_false hc1, eq_false hc2]
  refine hK _ _ ?_; clear hK hQ K Q
  obtain rfl := som_inj h
  repeat refine awp_seq ?_
  refine awp_ret ?_
  repeat' (first | refine then_ret ?_ | refine blk_ret ?_)
  refine ret_q ?_
  simp -implicitDefEqProofs (disch := first | omega | rfl) only [go_sem, simprocAttr]
  first | exact leaves_none (by first | rfl | simp) | exact leaves_nil
def zr37_0 : List AO := [⟨some 4, none, .mov (.c (.bool false))⟩]
def zr37_1 : List AO := [⟨some 6, none, .mov (.t 0)⟩,
  ⟨some 7, none, .len (.t 6)⟩,
  ⟨some 8, none, .mov (.t 1)⟩,
  ⟨some 9, none, .len (.t 8)⟩,
  ⟨some 10, none, .bin .neq (.t 7) (.t 9)⟩]
def zr37_2 : List AO := [⟨some 4, none, .mov (.c (.bool false))⟩]
def zc37_0 : AC := .seq (.reg zr37_2) .ret
def zc37_1 : AC := .cond (.t 10) zc37_0 .skip
def zr37_3 : List AO := [⟨some 5, none, .mov (.c (.int .i64 0))⟩]
def zr37_4 : List AO := [⟨some 11, none, .mov (.t 5)⟩,
  ⟨some 12, none, .mov (.t 0)⟩,
  ⟨some 13, none, .len (.t 12)⟩,
  ⟨some 14, none, .bin .lss (.t 11) (.t 13)⟩]
def zc37_2 : AC := .cond (.t 14) .skip (.exit 0)
def zr37_5 : DT := (.pur ⟨some 17, none, .mov (.t 0)⟩ (.pur ⟨some 18, none, .mov (.t 5)⟩ (.pur ⟨some 19, none, .iadr 1 (.t 17) (.t 18)⟩ (.pur ⟨some 20, none, .load false 1 (.t 19)⟩ (.pur ⟨some 21, none, .mov (.t 1)⟩ (.alt false ⟨some 22, none, .mov (.t 5)⟩ (.alt false ⟨some 23, none, .iadr 1 (.t 21) (.t 22)⟩ (.alt false ⟨some 24, none, .load false 1 (.t 23)⟩ (.alt true ⟨some 25, none, .bin .neq (.t 20) (.t 24)⟩ .done .stop) .stop) .stop) .stop))))))
def zr37_6 : List AO := [⟨some 4, none, .mov (.c (.bool false))⟩]
def zc37_3 : AC := .seq (.reg zr37_6) .ret
def zc37_4 : AC := .cond (.t 25) zc37_3 .skip
def zc37_5 : AC := .seq (.regD zr37_5) zc37_4
def zr37_7 : List AO := [⟨some 15, none, .mov (.t 5)⟩,
  ⟨some 16, none, .bin .add (.t 15) (.c (.int .i64 1))⟩,
  ⟨some 5, none, .mov (.t 16)⟩]
def zc37_6 : AC := .reg zr37_7
def zc37_7 : AC := .seq (.block 1 zc37_5) zc37_6
def zc37_8 : AC := .seq (.seq (.reg zr37_4) zc37_2) zc37_7
def zc37_9 : AC := .loop zc37_8
def zc37_10 : AC := .block 0 zc37_9
def zr37_8 : List AO := [⟨some 4, none, .mov (.c (.bool true))⟩]
def zc37_11 : AC := .seq (.reg zr37_8) .ret
def zc37_12 : AC := .seq (.seq (.reg zr37_3) zc37_10) zc37_11
def zc37_13 : AC := .seq (.seq (.reg zr37_1) zc37_1) zc37_12
def zc37_14 : AC := .seq (.reg zr37_0) zc37_13
def zc37 : AC := zc37_14
theorem ok37 : Try.f37.body.bind (compCode Try.prog 26) = some zc37 := by kernel_rfl
theorem nt37 : Try.f37.ntmps = 26 := by kernel_rfl
theorem res37 : compRes Try.prog Try.f37.results.toList = some [.tmp 4] := by kernel_rfl
def s37_b1 (N : Nat) (p1 : List (List UInt8)) (p2 : List (List UInt8)) (x2 : Int) : Option (((Int) ⊕ (Ou (Unit) (Bool)))) :=
  if x2 < (List.length p1 : Int) then
    grd (0 ≤ x2) <|
    grd (x2 < (List.length p2 : Int)) <|
    if p1[x2.toNat]! = p2[x2.toNat]! then
      some (.inl (IntKind.wrap .i64 (x2 + 1)))
    else
      some (.inr (.ret false))
  else
    some (.inr (.brk ()))
def s37 (N : Nat) (p1 : List (List UInt8)) (p2 : List (List UInt8)) : Option Bool :=
  if (List.length p1 : Int) = (List.length p2 : Int) then
    (iter (fun p => s37_b1 N p1 p2 p) N 0).bind fun o3 => o3.on (fun a3 =>
      some true)
      (fun a3r => some a3r)
  else
    some false
set_option maxHeartbeats 4000000 in
theorem c37 (N : Nat) (p1 : List (List UInt8)) (p2 : List (List UInt8)) (r : Bool) (h : s37 N p1 p2 = some r) : PureC Try.prog 37 [.sl (List.map AV.str p1), .sl (List.map AV.str p2)] (.bool r) := by
  refine fn_intro' 26 Try.func37 nt37 ok37 res37 (by simp) fun X hP hn hd hr => ?_
  unfold s37 at h
  repeat refine awp_seq ?_
  refine awp_reg fun K Q hK hQ => ?_
  simp -implicitDefEqProofs (disch := first | omega | rfl) only [go_sem, simprocAttr, zr37_0, argS]
  refine hK _ _ ?_; clear hK hQ K Q
  repeat refine awp_seq ?_
  refine awp_reg fun K Q hK hQ => ?_
  simp -implicitDefEqProofs (disch := first | omega | rfl) only [go_sem, simprocAttr, zr37_1]
  refine hK _ _ ?_; clear hK hQ K Q
  have hh := ite_some h; clear h; rcases hh with ⟨hc1, h⟩ | ⟨hc1, h⟩
  · repeat refine awp_seq ?_
    refine awp_else (by simp -implicitDefEqProofs (disch := first | omega | rfl) only [go_sem, simprocAttr, eq_true hc1]) ?_
    repeat refine awp_seq ?_
    refine awp_skip ?_
    repeat refine awp_seq ?_
    refine awp_reg fun K Q hK hQ => ?_
    simp -implicitDefEqProofs (disch := first | omega | rfl) only [go_sem, simprocAttr, zr37_3]
    refine hK _ _ ?_; clear hK hQ K Q
    repeat refine awp_seq ?_
    refine awp_block ?_
    obtain ⟨o3, ho3, hO3⟩ := bnd_some h
    repeat refine awp_seq ?_
    refine awp_loop (ι := {p : Nat × Int // iter (fun p => s37_b1 N p1 p2 p) p.1 p.2 = some o3}) (fun p => [(0, .sl (List.map AV.str p1)), (1, .sl (List.map AV.str p2)), (5, .int .i64 p.1.2)]) (fun p => []) (fun p => p.1.1) ⟨⟨N, 0⟩, ho3⟩ ?_ ?_
    · refine ent_le' ([]) ([]) ([]) rfl (List.Perm.refl _) ?_ ?_
      · simp -implicitDefEqProofs (disch := first | omega | rfl) only [go_sem, simprocAttr, subF_cons, subF_nil]
        exact ⟨(.keep _), (.keep _), (.keep _)⟩
      · exact .nil
    rintro ⟨⟨n3, x2⟩, hi3⟩
    obtain ⟨m3, q3, rfl, h, hm3⟩ := iter_some hi3
    try dsimp only at h
    try dsimp only
    unfold s37_b1 at h
    repeat refine awp_seq ?_
    refine awp_reg fun K Q hK hQ => ?_
    simp -implicitDefEqProofs (disch := first | omega | rfl) only [go_sem, simprocAttr, zr37_4]
    refine hK _ _ ?_; clear hK hQ K Q
    have hh := ite_some h; clear h; rcases hh with ⟨hc4, h⟩ | ⟨hc4, h⟩
    · repeat refine awp_seq ?_
      refine awp_then (by simp -implicitDefEqProofs (disch := first | omega | rfl) only [go_sem, simprocAttr, eq_true hc4]) ?_
      repeat refine awp_seq ?_
      refine awp_skip ?_
      repeat refine awp_seq ?_
      refine awp_block ?_
      repeat refine awp_seq ?_
      refine awp_regD' ([]) ([]) ([]) (by rw [hP]; exact mixed) rfl (List.Perm.refl _) fun K hK => ?_
      have hh := grd_some h; clear h; obtain ⟨hg5, h⟩ := hh
      have hh := grd_some h; clear h; obtain ⟨hg6, h⟩ := hh
      simp -implicitDefEqProofs (disch := first | omega | rfl) only [go_sem, simprocAttr, zr37_5, eq_true hc4, eq_true hg5, eq_true hg6]
      refine hK _ _ ?_; clear hK K
      have hh := ite_some h; clear h; rcases hh with ⟨hc7, h⟩ | ⟨hc7, h⟩
      · repeat refine awp_seq ?_
        refine awp_else (by simp -implicitDefEqProofs (disch := first | omega | rfl) only [go_sem, simprocAttr, eq_true hc7]) ?_
        repeat refine awp_seq ?_
        refine awp_skip ?_
        repeat refine awp_seq ?_
        refine awp_reg fun K Q hK hQ => ?_
        simp -implicitDefEqProofs (disch := first | omega | rfl) only [go_sem, simprocAttr, zr37_7]
        refine hK _ _ ?_; clear hK hQ K Q
        obtain rfl := som_inj h
        try dsimp only at hm3
        refine ⟨⟨⟨m3, IntKind.wrap .i64 (x2 + 1)⟩, hm3⟩, Nat.lt_succ_self _, ?_⟩
        refine ent_le' ([]) ([]) ([]) rfl (List.Perm.refl _) ?_ ?_
        · simp -implicitDefEqProofs (disch := first | omega | rfl) only [go_sem, simprocAttr, subF_cons, subF_nil]
          exact ⟨(.keep _), (.keep _), (.keep _)⟩
        · exact .nil
      repeat refine awp_seq ?_
      refine awp_then (by simp -implicitDefEqProofs (disch := first | omega | rfl) only [go_sem, simprocAttr, eq_false hc7]) ?_
      repeat refine awp_seq ?_
      refine awp_reg fun K Q hK hQ => ?_
      simp -implicitDefEqProofs (disch := first | omega | rfl) only [go_sem, simprocAttr, zr37_6]
      refine hK _ _ ?_; clear hK hQ K Q
      obtain rfl := som_inj h
      try dsimp only at hm3
      subst hm3
      simp only [Ou.on_ret] at hO3
      obtain rfl := som_inj hO3
      repeat refine awp_seq ?_
      refine awp_ret ?_
      repeat' (first | refine then_ret ?_ | refine blk_ret ?_)
      refine ret_q ?_
      simp -implicitDefEqProofs (disch := first | omega | rfl) only [go_sem, simprocAttr]
      first | exact leaves_none (by first | rfl | simp) | exact leaves_nil
    repeat refine awp_seq ?_
    refine awp_else (by simp -implicitDefEqProofs (disch := first | omega | rfl) only [go_sem, simprocAttr, eq_false hc4]) ?_
    repeat refine awp_seq ?_
    refine awp_exit ?_
    repeat' (first | refine then_exit ?_ | refine exit_here ?_ | refine exit_on rfl ?_)
    obtain rfl := som_inj h
    try dsimp only at hm3
    subst hm3
    simp only [Ou.on_brk] at hO3
    repeat refine awp_seq ?_
    refine awp_reg fun K Q hK hQ => ?_
    simp -implicitDefEqProofs (disch := first | omega | rfl) only [go_sem, simprocAttr, zr37_8]
    refine hK _ _ ?_; clear hK hQ K Q
    obtain rfl := som_inj hO3
    repeat refine awp_seq ?_
    refine awp_ret ?_
    repeat' (first | refine then_ret ?_ | refine blk_ret ?_)
    refine ret_q ?_
    simp -implicitDefEqProofs (disch := first | omega | rfl) only [go_sem, simprocAttr]
    first | exact leaves_none (by first | rfl | simp) | exact leaves_nil
  repeat refine awp_seq ?_
  refine awp_then (by simp -implicitDefEqProofs (disch := first | omega | rfl) only [go_sem, simprocAttr, eq_false hc1]) ?_
  repeat refine awp_seq ?_
  refine awp_reg fun K Q hK hQ => ?_
  simp -implicitDefEqProofs (disch := first | omega | rfl) only [go_sem, simprocAttr, zr37_2]
  refine hK _ _ ?_; clear hK hQ K Q
  obtain rfl := som_inj h
  repeat refine awp_seq ?_
  refine awp_ret ?_
  repeat' (first | refine then_ret ?_ | refine blk_ret ?_)
  refine ret_q ?_
  simp -implicitDefEqProofs (disch := first | omega | rfl) only [go_sem, simprocAttr]
  first | exact leaves_none (by first | rfl | simp) | exact leaves_nil
def zr20_0 : List AO := [⟨some 4, none, .mov (.c (.bool false))⟩]
def zr20_1 : List AO := [⟨some 6, none, .mov (.t 0)⟩,
  ⟨some 7, none, .len (.t 6)⟩,
  ⟨some 8, none, .mov (.t 1)⟩,
  ⟨some 9, none, .len (.t 8)⟩,
  ⟨some 10, none, .bin .neq (.t 7) (.t 9)⟩]
def zr20_2 : List AO := [⟨some 4, none, .mov (.c (.bool false))⟩]
def zc20_0 : AC := .seq (.reg zr20_2) .ret
def zc20_1 : AC := .cond (.t 10) zc20_0 .skip
def zr20_3 : List AO := [⟨some 5, none, .mov (.c (.int .i64 0))⟩]
def zr20_4 : List AO := [⟨some 11, none, .mov (.t 5)⟩,
  ⟨some 12, none, .mov (.t 0)⟩,
  ⟨some 13, none, .len (.t 12)⟩,
  ⟨some 14, none, .bin .lss (.t 11) (.t 13)⟩]
def zc20_2 : AC := .cond (.t 14) .skip (.exit 0)
def zr20_5 : DT := (.pur ⟨some 17, none, .mov (.t 0)⟩ (.pur ⟨some 18, none, .mov (.t 5)⟩ (.pur ⟨some 19, none, .iadr 33 (.t 17) (.t 18)⟩ (.pur ⟨some 20, none, .load true 33 (.t 19)⟩ (.pur ⟨some 21, none, .mov (.t 1)⟩ (.alt false ⟨some 22, none, .mov (.t 5)⟩ (.alt false ⟨some 23, none, .iadr 33 (.t 21) (.t 22)⟩ (.alt false ⟨some 24, none, .load true 33 (.t 23)⟩ (.alt false ⟨some 25, none, .callF 31 [(.t 20), (.t 24)]⟩ (.alt true ⟨some 26, none, .un .not (.t 25)⟩ .done .stop) .stop) .stop) .stop) .stop))))))
def zr20_6 : List AO := [⟨some 4, none, .mov (.c (.bool false))⟩]
def zc20_3 : AC := .seq (.reg zr20_6) .ret
def zc20_4 : AC := .cond (.t 26) zc20_3 .skip
def zc20_5 : AC := .seq (.regD zr20_5) zc20_4
def zr20_7 : List AO := [⟨some 15, none, .mov (.t 5)⟩,
  ⟨some 16, none, .bin .add (.t 15) (.c (.int .i64 1))⟩,
  ⟨some 5, none, .mov (.t 16)⟩]
def zc20_6 : AC := .reg zr20_7
def zc20_7 : AC := .seq (.block 1 zc20_5) zc20_6
def zc20_8 : AC := .seq (.seq (.reg zr20_4) zc20_2) zc20_7
def zc20_9 : AC := .loop zc20_8
def zc20_10 : AC := .block 0 zc20_9
def zr20_8 : List AO := [⟨some 4, none, .mov (.c (.bool true))⟩]
def zc20_11 : AC := .seq (.reg zr20_8) .ret
def zc20_12 : AC := .seq (.seq (.reg zr20_3) zc20_10) zc20_11
def zc20_13 : AC := .seq (.seq (.reg zr20_1) zc20_1) zc20_12
def zc20_14 : AC := .seq (.reg zr20_0) zc20_13
def zc20 : AC := zc20_14
theorem ok20 : Try.f20.body.bind (compCode Try.prog 27) = some zc20 := by kernel_rfl
theorem nt20 : Try.f20.ntmps = 27 := by kernel_rfl
theorem res20 : compRes Try.prog Try.f20.results.toList = some [.tmp 4] := by kernel_rfl
def zr31_0 : List AO := [⟨some 2, none, .box (.t 0)⟩,
  ⟨some 3, none, .box (.t 1)⟩,
  ⟨some 4, none, .mov (.c (.bool false))⟩]
def zr31_1 : List AO := [⟨some 7, none, .fadr 0 (.t 2)⟩,
  ⟨some 8, none, .load false 1 (.t 7)⟩,
  ⟨some 9, none, .fadr 0 (.t 3)⟩,
  ⟨some 10, none, .load false 1 (.t 9)⟩,
  ⟨some 11, none, .bin .neq (.t 8) (.t 10)⟩,
  ⟨some 12, none, .mov (.t 11)⟩,
  ⟨some 13, some (12, false), .fadr 1 (.t 2)⟩,
  ⟨some 14, some (12, false), .load false 1 (.t 13)⟩,
  ⟨some 15, some (12, false), .fadr 1 (.t 3)⟩,
  ⟨some 16, some (12, false), .load false 1 (.t 15)⟩,
  ⟨some 17, some (12, false), .bin .neq (.t 14) (.t 16)⟩,
  ⟨some 18, none, .pick (.t 12) (.c (.bool true)) (.t 17)⟩,
  ⟨some 19, none, .mov (.t 18)⟩,
  ⟨some 20, some (19, false), .fadr 2 (.t 2)⟩,
  ⟨some 21, some (19, false), .load false 1 (.t 20)⟩,
  ⟨some 22, some (19, false), .fadr 2 (.t 3)⟩,
  ⟨some 23, some (19, false), .load false 1 (.t 22)⟩,
  ⟨some 24, some (19, false), .bin .neq (.t 21) (.t 23)⟩,
  ⟨some 25, none, .pick (.t 19) (.c (.bool true)) (.t 24)⟩,
  ⟨some 26, none, .mov (.t 25)⟩,
  ⟨some 27, some (26, false), .fadr 3 (.t 2)⟩,
  ⟨some 28, some (26, false), .load false 1 (.t 27)⟩,
  ⟨some 29, some (26, false), .fadr 3 (.t 3)⟩,
  ⟨some 30, some (26, false), .load false 1 (.t 29)⟩,
  ⟨some 31, some (26, false), .bin .neq (.t 28) (.t 30)⟩,
  ⟨some 32, none, .pick (.t 26) (.c (.bool true)) (.t 31)⟩,
  ⟨some 33, none, .mov (.t 32)⟩,
  ⟨some 34, some (33, false), .fadr 4 (.t 2)⟩,
  ⟨some 35, some (33, false), .load false 1 (.t 34)⟩,
  ⟨some 36, some (33, false), .fadr 4 (.t 3)⟩,
  ⟨some 37, some (33, false), .load false 1 (.t 36)⟩,
  ⟨some 38, some (33, false), .bin .neq (.t 35) (.t 37)⟩,
  ⟨some 39, none, .pick (.t 33) (.c (.bool true)) (.t 38)⟩,
  ⟨some 40, none, .mov (.t 39)⟩,
  ⟨some 41, some (40, false), .fadr 5 (.t 2)⟩,
  ⟨some 42, some (40, false), .load false 1 (.t 41)⟩,
  ⟨some 43, some (40, false), .fadr 5 (.t 3)⟩,
  ⟨some 44, some (40, false), .load false 1 (.t 43)⟩,
  ⟨some 45, some (40, false), .bin .neq (.t 42) (.t 44)⟩,
  ⟨some 46, none, .pick (.t 40) (.c (.bool true)) (.t 45)⟩,
  ⟨some 47, none, .mov (.t 46)⟩,
  ⟨some 48, some (47, false), .fadr 6 (.t 2)⟩,
  ⟨some 49, some (47, false), .load false 1 (.t 48)⟩,
  ⟨some 50, some (47, false), .fadr 6 (.t 3)⟩,
  ⟨some 51, some (47, false), .load false 1 (.t 50)⟩,
  ⟨some 52, some (47, false), .bin .neq (.t 49) (.t 51)⟩,
  ⟨some 53, none, .pick (.t 47) (.c (.bool true)) (.t 52)⟩,
  ⟨some 54, none, .mov (.t 53)⟩,
  ⟨some 55, some (54, false), .fadr 7 (.t 2)⟩,
  ⟨some 56, some (54, false), .load true 3 (.t 55)⟩,
  ⟨some 57, some (54, false), .fadr 7 (.t 3)⟩,
  ⟨some 58, some (54, false), .load true 3 (.t 57)⟩,
  ⟨some 59, some (54, false), .eqS true [.i, .b, .s] (.t 56) (.t 58)⟩,
  ⟨some 60, none, .pick (.t 54) (.c (.bool true)) (.t 59)⟩,
  ⟨some 61, none, .mov (.t 60)⟩,
  ⟨some 62, some (61, false), .fadr 10 (.t 2)⟩,
  ⟨some 63, some (61, false), .load true 3 (.t 62)⟩,
  ⟨some 64, some (61, false), .fadr 10 (.t 3)⟩,
  ⟨some 65, some (61, false), .load true 3 (.t 64)⟩,
  ⟨some 66, some (61, false), .eqS true [.i, .b, .s] (.t 63) (.t 65)⟩,
  ⟨some 67, none, .pick (.t 61) (.c (.bool true)) (.t 66)⟩,
  ⟨some 68, none, .mov (.t 67)⟩,
  ⟨some 69, some (68, false), .fadr 13 (.t 2)⟩,
  ⟨some 70, some (68, false), .load false 1 (.t 69)⟩,
  ⟨some 71, some (68, false), .len (.t 70)⟩,
  ⟨some 72, some (68, false), .fadr 13 (.t 3)⟩,
  ⟨some 73, some (68, false), .load false 1 (.t 72)⟩,
  ⟨some 74, some (68, false), .len (.t 73)⟩,
  ⟨some 75, some (68, false), .bin .neq (.t 71) (.t 74)⟩,
  ⟨some 76, none, .pick (.t 68) (.c (.bool true)) (.t 75)⟩]
def zr31_2 : List AO := [⟨some 4, none, .mov (.c (.bool false))⟩]
def zc31_0 : AC := .seq (.reg zr31_2) .ret
def zc31_1 : AC := .cond (.t 76) zc31_0 .skip
def zr31_3 : List AO := [⟨some 5, none, .mov (.c (.int .i64 0))⟩]
def zr31_4 : List AO := [⟨some 77, none, .mov (.t 5)⟩,
  ⟨some 78, none, .fadr 13 (.t 2)⟩,
  ⟨some 79, none, .load false 1 (.t 78)⟩,
  ⟨some 80, none, .len (.t 79)⟩,
  ⟨some 81, none, .bin .lss (.t 77) (.t 80)⟩]
def zc31_2 : AC := .cond (.t 81) .skip (.exit 0)
def zr31_5 : DT := (.pur ⟨some 84, none, .fadr 13 (.t 2)⟩ (.pur ⟨some 85, none, .load false 1 (.t 84)⟩ (.pur ⟨some 86, none, .mov (.t 5)⟩ (.pur ⟨some 87, none, .iadr 2 (.t 85) (.t 86)⟩ (.pur ⟨some 88, none, .load true 2 (.t 87)⟩ (.pur ⟨some 89, none, .fadr 13 (.t 3)⟩ (.pur ⟨some 90, none, .load false 1 (.t 89)⟩ (.alt false ⟨some 91, none, .mov (.t 5)⟩ (.alt false ⟨some 92, none, .iadr 2 (.t 90) (.t 91)⟩ (.alt false ⟨some 93, none, .load true 2 (.t 92)⟩ (.alt true ⟨some 94, none, .eqS true [.s, .i] (.t 88) (.t 93)⟩ .done .stop) .stop) .stop) .stop))))))))
def zr31_6 : List AO := [⟨some 4, none, .mov (.c (.bool false))⟩]
def zc31_3 : AC := .seq (.reg zr31_6) .ret
def zc31_4 : AC := .cond (.t 94) zc31_3 .skip
def zc31_5 : AC := .seq (.regD zr31_5) zc31_4
def zr31_7 : List AO := [⟨some 82, none, .mov (.t 5)⟩,
  ⟨some 83, none, .bin .add (.t 82) (.c (.int .i64 1))⟩,
  ⟨some 5, none, .mov (.t 83)⟩]
def zc31_6 : AC := .reg zr31_7
def zc31_7 : AC := .seq (.block 1 zc31_5) zc31_6
def zc31_8 : AC := .seq (.seq (.reg zr31_4) zc31_2) zc31_7
def zc31_9 : AC := .loop zc31_8
def zc31_10 : AC := .block 0 zc31_9
def zr31_8 : List AO := [⟨some 95, none, .fadr 14 (.t 2)⟩,
  ⟨some 96, none, .load false 1 (.t 95)⟩,
  ⟨some 97, none, .fadr 14 (.t 3)⟩,
  ⟨some 98, none, .load false 1 (.t 97)⟩,
  ⟨some 99, none, .bin .neq (.t 96) (.t 98)⟩,
  ⟨some 100, none, .mov (.t 99)⟩,
  ⟨some 101, some (100, false), .fadr 15 (.t 2)⟩,
  ⟨some 102, some (100, false), .load false 1 (.t 101)⟩,
  ⟨some 103, some (100, false), .fadr 15 (.t 3)⟩,
  ⟨some 104, some (100, false), .load false 1 (.t 103)⟩,
  ⟨some 105, some (100, false), .bin .neq (.t 102) (.t 104)⟩,
  ⟨some 106, none, .pick (.t 100) (.c (.bool true)) (.t 105)⟩,
  ⟨some 107, none, .mov (.t 106)⟩,
  ⟨some 108, some (107, false), .fadr 16 (.t 2)⟩,
  ⟨some 109, some (107, false), .load true 2 (.t 108)⟩,
  ⟨some 110, some (107, false), .fadr 16 (.t 3)⟩,
  ⟨some 111, some (107, false), .load true 2 (.t 110)⟩,
  ⟨some 112, some (107, false), .eqS true [.i, .i] (.t 109) (.t 111)⟩,
  ⟨some 113, none, .pick (.t 107) (.c (.bool true)) (.t 112)⟩,
  ⟨some 114, none, .mov (.t 113)⟩,
  ⟨some 115, some (114, false), .fadr 18 (.t 2)⟩,
  ⟨some 116, some (114, false), .load false 1 (.t 115)⟩,
  ⟨some 117, some (114, false), .fadr 18 (.t 3)⟩,
  ⟨some 118, some (114, false), .load false 1 (.t 117)⟩,
  ⟨some 119, some (114, false), .bin .neq (.t 116) (.t 118)⟩,
  ⟨some 120, none, .pick (.t 114) (.c (.bool true)) (.t 119)⟩,
  ⟨some 121, none, .mov (.t 120)⟩,
  ⟨some 122, some (121, false), .fadr 19 (.t 2)⟩,
  ⟨some 123, some (121, false), .load false 1 (.t 122)⟩,
  ⟨some 124, some (121, false), .fadr 19 (.t 3)⟩,
  ⟨some 125, some (121, false), .load false 1 (.t 124)⟩,
  ⟨some 126, some (121, false), .bin .neq (.t 123) (.t 125)⟩,
  ⟨some 127, none, .pick (.t 121) (.c (.bool true)) (.t 126)⟩,
  ⟨some 128, none, .mov (.t 127)⟩,
  ⟨some 129, some (128, false), .fadr 20 (.t 2)⟩,
  ⟨some 130, some (128, false), .load false 1 (.t 129)⟩,
  ⟨some 131, some (128, false), .fadr 20 (.t 3)⟩,
  ⟨some 132, some (128, false), .load false 1 (.t 131)⟩,
  ⟨some 133, some (128, false), .binB .neq (.t 130) (.t 132)⟩,
  ⟨some 134, none, .pick (.t 128) (.c (.bool true)) (.t 133)⟩,
  ⟨some 135, none, .mov (.t 134)⟩,
  ⟨some 136, some (135, false), .fadr 21 (.t 2)⟩,
  ⟨some 137, some (135, false), .load false 1 (.t 136)⟩,
  ⟨some 138, some (135, false), .fadr 21 (.t 3)⟩,
  ⟨some 139, some (135, false), .load false 1 (.t 138)⟩,
  ⟨some 140, some (135, false), .bin .neq (.t 137) (.t 139)⟩,
  ⟨some 141, none, .pick (.t 135) (.c (.bool true)) (.t 140)⟩,
  ⟨some 142, none, .mov (.t 141)⟩,
  ⟨some 143, some (142, false), .fadr 22 (.t 2)⟩,
  ⟨some 144, some (142, false), .load false 1 (.t 143)⟩,
  ⟨some 145, some (142, false), .fadr 22 (.t 3)⟩,
  ⟨some 146, some (142, false), .load false 1 (.t 145)⟩,
  ⟨some 147, some (142, false), .bin .neq (.t 144) (.t 146)⟩,
  ⟨some 148, none, .pick (.t 142) (.c (.bool true)) (.t 147)⟩,
  ⟨some 149, none, .mov (.t 148)⟩,
  ⟨some 150, some (149, false), .fadr 23 (.t 2)⟩,
  ⟨some 151, some (149, false), .load true 7 (.t 150)⟩,
  ⟨some 152, some (149, false), .fadr 23 (.t 3)⟩,
  ⟨some 153, some (149, false), .load true 7 (.t 152)⟩,
  ⟨some 154, some (149, false), .eqS true [.b, .b, .b, .b, .b, .b, .b] (.t 151) (.t 153)⟩,
  ⟨some 155, none, .pick (.t 149) (.c (.bool true)) (.t 154)⟩,
  ⟨some 156, none, .mov (.t 155)⟩,
  ⟨some 157, some (156, false), .fadr 30 (.t 2)⟩,
  ⟨some 158, some (156, false), .load false 1 (.t 157)⟩,
  ⟨some 159, some (156, false), .len (.t 158)⟩,
  ⟨some 160, some (156, false), .fadr 30 (.t 3)⟩,
  ⟨some 161, some (156, false), .load false 1 (.t 160)⟩,
  ⟨some 162, some (156, false), .len (.t 161)⟩,
  ⟨some 163, some (156, false), .bin .neq (.t 159) (.t 162)⟩,
  ⟨some 164, none, .pick (.t 156) (.c (.bool true)) (.t 163)⟩,
  ⟨some 165, none, .mov (.t 164)⟩,
  ⟨some 166, some (165, false), .fadr 31 (.t 2)⟩,
  ⟨some 167, some (165, false), .load false 1 (.t 166)⟩,
  ⟨some 168, some (165, false), .fadr 31 (.t 3)⟩,
  ⟨some 169, some (165, false), .load false 1 (.t 168)⟩,
  ⟨some 170, some (165, false), .callF 37 [(.t 167), (.t 169)]⟩,
  ⟨some 171, some (165, false), .un .not (.t 170)⟩,
  ⟨some 172, none, .pick (.t 165) (.c (.bool true)) (.t 171)⟩]
def zr31_9 : List AO := [⟨some 4, none, .mov (.c (.bool false))⟩]
def zc31_11 : AC := .seq (.reg zr31_9) .ret
def zc31_12 : AC := .cond (.t 172) zc31_11 .skip
def zr31_10 : List AO := [⟨some 6, none, .mov (.c (.int .i64 0))⟩]
def zr31_11 : List AO := [⟨some 173, none, .mov (.t 6)⟩,
  ⟨some 174, none, .fadr 30 (.t 2)⟩,
  ⟨some 175, none, .load false 1 (.t 174)⟩,
  ⟨some 176, none, .len (.t 175)⟩,
  ⟨some 177, none, .bin .lss (.t 173) (.t 176)⟩]
def zc31_13 : AC := .cond (.t 177) .skip (.exit 2)
def zr31_12 : DT := (.pur ⟨some 180, none, .fadr 30 (.t 2)⟩ (.pur ⟨some 181, none, .load false 1 (.t 180)⟩ (.pur ⟨some 182, none, .mov (.t 6)⟩ (.pur ⟨some 183, none, .iadr 3 (.t 181) (.t 182)⟩ (.pur ⟨some 184, none, .load true 3 (.t 183)⟩ (.pur ⟨some 185, none, .fadr 30 (.t 3)⟩ (.pur ⟨some 186, none, .load false 1 (.t 185)⟩ (.alt false ⟨some 187, none, .mov (.t 6)⟩ (.alt false ⟨some 188, none, .iadr 3 (.t 186) (.t 187)⟩ (.alt false ⟨some 189, none, .load true 3 (.t 188)⟩ (.alt true ⟨some 190, none, .eqS true [.i, .i, .i] (.t 184) (.t 189)⟩ .done .stop) .stop) .stop) .stop))))))))
def zr31_13 : List AO := [⟨some 4, none, .mov (.c (.bool false))⟩]
def zc31_14 : AC := .seq (.reg zr31_13) .ret
def zc31_15 : AC := .cond (.t 190) zc31_14 .skip
def zc31_16 : AC := .seq (.regD zr31_12) zc31_15
def zr31_14 : List AO := [⟨some 178, none, .mov (.t 6)⟩,
  ⟨some 179, none, .bin .add (.t 178) (.c (.int .i64 1))⟩,
  ⟨some 6, none, .mov (.t 179)⟩]
def zc31_17 : AC := .reg zr31_14
def zc31_18 : AC := .seq (.block 3 zc31_16) zc31_17
def zc31_19 : AC := .seq (.seq (.reg zr31_11) zc31_13) zc31_18
def zc31_20 : AC := .loop zc31_19
def zc31_21 : AC := .block 2 zc31_20
def zr31_15 : List AO := [⟨some 191, none, .fadr 32 (.t 2)⟩,
  ⟨some 192, none, .load false 1 (.t 191)⟩,
  ⟨some 193, none, .fadr 32 (.t 3)⟩,
  ⟨some 194, none, .load false 1 (.t 193)⟩,
  ⟨some 195, none, .callF 20 [(.t 192), (.t 194)]⟩,
  ⟨some 4, none, .mov (.t 195)⟩]
def zc31_22 : AC := .seq (.reg zr31_15) .ret
def zc31_23 : AC := .seq (.seq (.reg zr31_10) zc31_21) zc31_22
def zc31_24 : AC := .seq (.seq (.reg zr31_8) zc31_12) zc31_23
def zc31_25 : AC := .seq (.seq (.reg zr31_3) zc31_10) zc31_24
def zc31_26 : AC := .seq (.seq (.reg zr31_1) zc31_1) zc31_25
def zc31_27 : AC := .seq (.reg zr31_0) zc31_26
def zc31 : AC := zc31_27
theorem ok31 : Try.f31.body.bind (compCode Try.prog 196) = some zc31 := by kernel_rfl
theorem nt31 : Try.f31.ntmps = 196 := by kernel_rfl
theorem res31 : compRes Try.prog Try.f31.results.toList = some [.tmp 4] := by kernel_rfl
def s31_b1 (N : Nat) (p1 : Item) (p2 : Item) (x26 : Int) : Option (((Int) ⊕ (Ou (Unit) (Bool)))) :=
  if x26 < (List.length p1.Dates : Int) then
    grd (0 ≤ x26) <|
    grd (x26 < (List.length p2.Dates : Int)) <|
    if p1.Dates[x26.toNat]! = p2.Dates[x26.toNat]! then
      some (.inl (IntKind.wrap .i64 (x26 + 1)))
    else
      some (.inr (.ret false))
  else
    some (.inr (.brk ()))
def s31_k2 (N : Nat) (p1 : Item) (p2 : Item) (rec20 : (List Item) → (List Item) → Option Bool) : Option Bool :=
  if p1.By = p2.By then
    if p1.Until = p2.Until then
      if p1.Num = p2.Num then
        if p1.Unit = p2.Unit then
          if p1.Sum = p2.Sum then
            bif (p1.Final == p2.Final) then
              if p1.Give = p2.Give then
                if p1.To = p2.To then
                  if p1.Days = p2.Days then
                    if (List.length p1.Dates : Int) = (List.length p2.Dates : Int) then
                      (s37 N p1.Names p2.Names).bind fun x23 =>
                      bif x23 then
                        (iter (fun p => s31_b1 N p1 p2 p) N 0).bind fun o27 => o27.on (fun a27 =>
                          (rec20 p1.Items p2.Items).bind fun x34 =>
                          some x34)
                          (fun a27r => some a27r)
                      else
                        some false
                    else
                      some false
                  else
                    some false
                else
                  some false
              else
                some false
            else
              some false
          else
            some false
        else
          some false
      else
        some false
    else
      some false
  else
    some false
def s31_b3 (N : Nat) (p1 : Item) (p2 : Item) (x36 : Int) : Option (((Int) ⊕ (Ou (Unit) (Bool)))) :=
  if x36 < (List.length p1.Conds : Int) then
    grd (0 ≤ x36) <|
    grd (x36 < (List.length p2.Conds : Int)) <|
    if p1.Conds[x36.toNat]! = p2.Conds[x36.toNat]! then
      some (.inl (IntKind.wrap .i64 (x36 + 1)))
    else
      some (.inr (.ret false))
  else
    some (.inr (.brk ()))
def s31_body (rec31 : Item → Item → Option Bool) (rec20 : (List Item) → (List Item) → Option Bool) (N : Nat) (p1 : Item) (p2 : Item) : Option Bool :=
  if p1.Kind = p2.Kind then
    if p1.Name = p2.Name then
      if p1.At = p2.At then
        if p1.Of = p2.Of then
          if p1.Act = p2.Act then
            if p1.Word = p2.Word then
              if p1.Times = p2.Times then
                if p1.Within = p2.Within then
                  if p1.Grace = p2.Grace then
                    if (List.length p1.Conds : Int) = (List.length p2.Conds : Int) then
                      (iter (fun p => s31_b3 N p1 p2 p) N 0).bind fun o37 => o37.on (fun a37 =>
                        s31_k2 N p1 p2 rec20)
                        (fun a37r => some a37r)
                    else
                      some false
                  else
                    some false
                else
                  some false
              else
                some false
            else
              some false
          else
            some false
        else
          some false
      else
        some false
    else
      some false
  else
    some false
def s20_b1 (N : Nat) (p1 : List Item) (p2 : List Item) (rec31 : Item → Item → Option Bool) (x2 : Int) : Option (((Int) ⊕ (Ou (Unit) (Bool)))) :=
  if x2 < (List.length p1 : Int) then
    grd (0 ≤ x2) <|
    grd (x2 < (List.length p2 : Int)) <|
    (rec31 (p1[x2.toNat]!) (p2[x2.toNat]!)).bind fun x7 =>
    bif x7 then
      some (.inl (IntKind.wrap .i64 (x2 + 1)))
    else
      some (.inr (.ret false))
  else
    some (.inr (.brk ()))
def s20_body (rec31 : Item → Item → Option Bool) (rec20 : (List Item) → (List Item) → Option Bool) (N : Nat) (p1 : List Item) (p2 : List Item) : Option Bool :=
  if (List.length p1 : Int) = (List.length p2 : Int) then
    (iter (fun p => s20_b1 N p1 p2 rec31 p) N 0).bind fun o3 => o3.on (fun a3 =>
      some true)
      (fun a3r => some a3r)
  else
    some false
mutual
def s31 : Nat → Item → Item → Option Bool
  | 0, _, _ => none
  | N + 1, p1, p2 => s31_body (s31 N) (s20 N) N p1 p2
def s20 : Nat → (List Item) → (List Item) → Option Bool
  | 0, _, _ => none
  | N + 1, p1, p2 => s20_body (s31 N) (s20 N) N p1 p2
end
set_option maxHeartbeats 4000000 in
theorem c31_body (rec31 : Item → Item → Option Bool) (rec20 : (List Item) → (List Item) → Option Bool) (hrec31 : ∀ (p1 : Item) (p2 : Item) (r : Bool), rec31 p1 p2 = some r → PureC Try.prog 31 [.agg (Item.cs p1), .agg (Item.cs p2)] (.bool r)) (hrec20 : ∀ (p1 : List Item) (p2 : List Item) (r : Bool), rec20 p1 p2 = some r → PureC Try.prog 20 [.sl (List.map Item.av p1), .sl (List.map Item.av p2)] (.bool r)) (N : Nat) (p1 : Item) (p2 : Item) (r : Bool) (h : s31_body rec31 rec20 N p1 p2 = some r) : PureC Try.prog 31 [.agg (Item.cs p1), .agg (Item.cs p2)] (.bool r) := by
  refine fn_intro' 196 Try.func31 nt31 ok31 res31 (by simp) fun X hP hn hd hr => ?_
  unfold s31_body at h
  repeat refine awp_seq ?_
  refine awp_reg fun K Q hK hQ => ?_
  simp -implicitDefEqProofs (disch := first | omega | rfl) only [go_sem, simprocAttr, zr31_0, argS]
  intro b1 b2
  refine hK _ _ ?_; clear hK hQ K Q
  repeat refine awp_seq ?_
  refine awp_reg fun K Q hK hQ => ?_
  have hh := ite_some h; clear h; rcases hh with ⟨hc3, h⟩ | ⟨hc3, h⟩
  · have hh := ite_some h; clear h; rcases hh with ⟨hc4, h⟩ | ⟨hc4, h⟩
    · have hh := ite_some h; clear h; rcases hh with ⟨hc5, h⟩ | ⟨hc5, h⟩
      · have hh := ite_some h; clear h; rcases hh with ⟨hc6, h⟩ | ⟨hc6, h⟩
        · have hh := ite_some h; clear h; rcases hh with ⟨hc7, h⟩ | ⟨hc7, h⟩
          · have hh := ite_some h; clear h; rcases hh with ⟨hc8, h⟩ | ⟨hc8, h⟩
            · have hh := ite_some h; clear h; rcases hh with ⟨hc9, h⟩ | ⟨hc9, h⟩
              · have hh := ite_some h; clear h; rcases hh with ⟨hc10, h⟩ | ⟨hc10, h⟩
                · have hh := ite_some h; clear h; rcases hh with ⟨hc11, h⟩ | ⟨hc11, h⟩
                  · simp -implicitDefEqProofs (disch := first | omega | rfl) only [go_sem, simprocAttr, zr31_1, eq_true hc3, eq_true hc4, eq_true hc5, eq_true hc6, eq_true hc7, eq_true hc8, eq_true hc9, eq_true hc10, eq_true hc11]
                    refine hK _ _ ?_; clear hK hQ K Q
                    have hh := ite_some h; clear h; rcases hh with ⟨hc12, h⟩ | ⟨hc12, h⟩
                    · repeat refine awp_seq ?_
                      refine awp_else (by simp -implicitDefEqProofs (disch := first | omega | rfl) only [go_sem, simprocAttr, eq_true hc12]) ?_
                      repeat refine awp_seq ?_
                      refine awp_skip ?_
                      repeat refine awp_seq ?_
                      refine awp_reg fun K Q hK hQ => ?_
                      simp -implicitDefEqProofs (disch := first | omega | rfl) only [go_sem, simprocAttr, zr31_3]
                      refine hK _ _ ?_; clear hK hQ K Q
                      repeat refine awp_seq ?_
                      refine awp_cut (ι := {p : Unit // s31_k2 N p1 p2 rec20 = some r}) (fun p => [(2, .ptr 2 b1 0), (3, .ptr 3 b2 0)]) (fun p => (2, b1, .cells (Item.cs p1)) :: (3, b2, .cells (Item.cs p2)) :: []) ?_ ?_
                      · repeat refine awp_seq ?_
                        refine awp_block ?_
                        obtain ⟨o37, ho37, hO37⟩ := bnd_some h
                        repeat refine awp_seq ?_
                        refine awp_loop (ι := {p : Nat × Int // iter (fun p => s31_b3 N p1 p2 p) p.1 p.2 = some o37}) (fun p => [(2, .ptr 2 b1 0), (3, .ptr 3 b2 0), (5, .int .i64 p.1.2)]) (fun p => (2, b1, .cells (Item.cs p1)) :: (3, b2, .cells (Item.cs p2)) :: []) (fun p => p.1.1) ⟨⟨N, 0⟩, ho37⟩ ?_ ?_
                        · refine ent_le' ([]) (_ :: _ :: []) (_ :: _ :: []) rfl (List.Perm.trans perm_cc (List.Perm.refl _)) ?_ ?_
                          · simp -implicitDefEqProofs (disch := first | omega | rfl) only [go_sem, simprocAttr, subF_cons, subF_nil]
                            exact ⟨(.lptr ..), (.lptr ..), (.keep _)⟩
                          · exact (.cell (.cell .nil))
                        rintro ⟨⟨n37, x36⟩, hi37⟩
                        obtain ⟨m37, q37, rfl, h, hm37⟩ := iter_some hi37
                        try dsimp only at h
                        try dsimp only
                        unfold s31_b3 at h
                        repeat refine awp_seq ?_
                        refine awp_reg fun K Q hK hQ => ?_
                        simp -implicitDefEqProofs (disch := first | omega | rfl) only [go_sem, simprocAttr, zr31_4]
                        refine hK _ _ ?_; clear hK hQ K Q
                        have hh := ite_some h; clear h; rcases hh with ⟨hc38, h⟩ | ⟨hc38, h⟩
                        · repeat refine awp_seq ?_
                          refine awp_then (by simp -implicitDefEqProofs (disch := first | omega | rfl) only [go_sem, simprocAttr, eq_true hc38]) ?_
                          repeat refine awp_seq ?_
                          refine awp_skip ?_
                          repeat refine awp_seq ?_
                          refine awp_block ?_
                          repeat refine awp_seq ?_
                          refine awp_regD' (_ :: _ :: []) ([]) (_ :: _ :: []) (by rw [hP]; exact mixed) rfl (List.Perm.refl _) fun K hK => ?_
                          have hh := grd_some h; clear h; obtain ⟨hg39, h⟩ := hh
                          have hh := grd_some h; clear h; obtain ⟨hg40, h⟩ := hh
                          simp -implicitDefEqProofs (disch := first | omega | rfl) only [go_sem, simprocAttr, zr31_5, eq_true hc38, eq_true hg39, eq_true hg40]
                          refine hK _ _ ?_; clear hK K
                          have hh := ite_some h; clear h; rcases hh with ⟨hc41, h⟩ | ⟨hc41, h⟩
                          · repeat refine awp_seq ?_
                            refine awp_else (by simp -implicitDefEqProofs (disch := first | omega | rfl) only [go_sem, simprocAttr, eq_true hc41]) ?_
                            repeat refine awp_seq ?_
                            refine awp_skip ?_
                            repeat refine awp_seq ?_
                            refine awp_reg fun K Q hK hQ => ?_
                            simp -implicitDefEqProofs (disch := first | omega | rfl) only [go_sem, simprocAttr, zr31_7]
                            refine hK _ _ ?_; clear hK hQ K Q
                            obtain rfl := som_inj h
                            try dsimp only at hm37
                            refine ⟨⟨⟨m37, IntKind.wrap .i64 (x36 + 1)⟩, hm37⟩, Nat.lt_succ_self _, ?_⟩
                            refine ent_le' ([]) (_ :: _ :: []) (_ :: _ :: []) rfl (List.Perm.refl _) ?_ ?_
                            · simp -implicitDefEqProofs (disch := first | omega | rfl) only [go_sem, simprocAttr, subF_cons, subF_nil]
                              exact ⟨(.lptr ..), (.lptr ..), (.keep _)⟩
                            · exact (.cell (.cell .nil))
                          repeat refine awp_seq ?_
                          refine awp_then (by simp -implicitDefEqProofs (disch := first | omega | rfl) only [go_sem, simprocAttr, eq_false hc41]) ?_
                          repeat refine awp_seq ?_
                          refine awp_reg fun K Q hK hQ => ?_
                          simp -implicitDefEqProofs (disch := first | omega | rfl) only [go_sem, simprocAttr, zr31_6]
                          refine hK _ _ ?_; clear hK hQ K Q
                          obtain rfl := som_inj h
                          try dsimp only at hm37
                          subst hm37
                          simp only [Ou.on_ret] at hO37
                          obtain rfl := som_inj hO37
                          repeat refine awp_seq ?_
                          refine awp_ret ?_
                          repeat' (first | refine then_ret ?_ | refine blk_ret ?_)
                          refine ret_q ?_
                          simp -implicitDefEqProofs (disch := first | omega | rfl) only [go_sem, simprocAttr]
                          first | exact leaves_none (by first | rfl | simp) | exact leaves_nil
                        repeat refine awp_seq ?_
                        refine awp_else (by simp -implicitDefEqProofs (disch := first | omega | rfl) only [go_sem, simprocAttr, eq_false hc38]) ?_
                        repeat refine awp_seq ?_
                        refine awp_exit ?_
                        repeat' (first | refine then_exit ?_ | refine exit_here ?_ | refine exit_on rfl ?_)
                        obtain rfl := som_inj h
                        try dsimp only at hm37
                        subst hm37
                        simp only [Ou.on_brk] at hO37
                        refine ⟨⟨(), hO37⟩, ?_⟩
                        refine ent_le' ([]) (_ :: _ :: []) (_ :: _ :: []) rfl (List.Perm.refl _) ?_ ?_
                        · simp -implicitDefEqProofs (disch := first | omega | rfl) only [go_sem, simprocAttr, subF_cons, subF_nil]
                          exact ⟨(.lptr ..), (.lptr ..)⟩
                        · exact (.cell (.cell .nil))
                      rintro ⟨_, h⟩
                      try dsimp only at h
                      try dsimp only
                      repeat refine awp_seq ?_
                      refine awp_reg fun K Q hK hQ => ?_
                      have hh := ite_some h; clear h; rcases hh with ⟨hc13, h⟩ | ⟨hc13, h⟩
                      · have hh := ite_some h; clear h; rcases hh with ⟨hc14, h⟩ | ⟨hc14, h⟩
                        · have hh := ite_some h; clear h; rcases hh with ⟨hc15, h⟩ | ⟨hc15, h⟩
                          · have hh := ite_some h; clear h; rcases hh with ⟨hc16, h⟩ | ⟨hc16, h⟩
                            · have hh := ite_some h; clear h; rcases hh with ⟨hc17, h⟩ | ⟨hc17, h⟩
                              · have hh := cnd_some h; clear h; rcases hh with ⟨hc18, h⟩ | ⟨hc18, h⟩
                                · have hh := ite_some h; clear h; rcases hh with ⟨hc19, h⟩ | ⟨hc19, h⟩
                                  · have hh := ite_some h; clear h; rcases hh with ⟨hc20, h⟩ | ⟨hc20, h⟩
                                    · have hh := ite_some h; clear h; rcases hh with ⟨hc21, h⟩ | ⟨hc21, h⟩
                                      · have hh := ite_some h; clear h; rcases hh with ⟨hc22, h⟩ | ⟨hc22, h⟩
                                        · simp -implicitDefEqProofs (disch := first | omega | rfl) only [go_sem, simprocAttr, zr31_8, eq_true hc13, eq_true hc14, eq_true hc15, eq_true hc16, eq_true hc17, hc18, eq_true hc19, eq_true hc20, eq_true hc21, eq_true hc22]
                                          have hh := bnd_some h; clear h; obtain ⟨x23, hx24, h⟩ := hh
                                          refine call_pure hP (c37 N p1.Names p2.Names x23 hx24) ?_
                                          simp -implicitDefEqProofs (disch := first | omega | rfl) only [go_sem, simprocAttr]
                                          refine hK _ _ ?_; clear hK hQ K Q
                                          have hh := cnd_some h; clear h; rcases hh with ⟨hc25, h⟩ | ⟨hc25, h⟩
                                          · repeat refine awp_seq ?_
                                            refine awp_else (by simp -implicitDefEqProofs (disch := first | omega | rfl) only [go_sem, simprocAttr, hc25]) ?_
                                            repeat refine awp_seq ?_
                                            refine awp_skip ?_
                                            repeat refine awp_seq ?_
                                            refine awp_reg fun K Q hK hQ => ?_
                                            simp -implicitDefEqProofs (disch := first | omega | rfl) only [go_sem, simprocAttr, zr31_10]
                                            refine hK _ _ ?_; clear hK hQ K Q
                                            repeat refine awp_seq ?_
                                            refine awp_block ?_
                                            obtain ⟨o27, ho27, hO27⟩ := bnd_some h
                                            repeat refine awp_seq ?_
                                            refine awp_loop (ι := {p : Nat × Int // iter (fun p => s31_b1 N p1 p2 p) p.1 p.2 = some o27}) (fun p => [(2, .ptr 2 b1 0), (3, .ptr 3 b2 0), (6, .int .i64 p.1.2)]) (fun p => (2, b1, .cells (Item.cs p1)) :: (3, b2, .cells (Item.cs p2)) :: []) (fun p => p.1.1) ⟨⟨N, 0⟩, ho27⟩ ?_ ?_
                                            · refine ent_le' ([]) (_ :: _ :: []) (_ :: _ :: []) rfl (List.Perm.refl _) ?_ ?_
                                              · simp -implicitDefEqProofs (disch := first | omega | rfl) only [go_sem, simprocAttr, subF_cons, subF_nil]
                                                exact ⟨(.lptr ..), (.lptr ..), (.keep _)⟩
                                              · exact (.cell (.cell .nil))
                                            rintro ⟨⟨n27, x26⟩, hi27⟩
                                            obtain ⟨m27, q27, rfl, h, hm27⟩ := iter_some hi27
                                            try dsimp only at h
                                            try dsimp only
                                            unfold s31_b1 at h
                                            repeat refine awp_seq ?_
                                            refine awp_reg fun K Q hK hQ => ?_
                                            simp -implicitDefEqProofs (disch := first | omega | rfl) only [go_sem, simprocAttr, zr31_11]
                                            refine hK _ _ ?_; clear hK hQ K Q
                                            have hh := ite_some h; clear h; rcases hh with ⟨hc28, h⟩ | ⟨hc28, h⟩
                                            · repeat refine awp_seq ?_
                                              refine awp_then (by simp -implicitDefEqProofs (disch := first | omega | rfl) only [go_sem, simprocAttr, eq_true hc28]) ?_
                                              repeat refine awp_seq ?_
                                              refine awp_skip ?_
                                              repeat refine awp_seq ?_
                                              refine awp_block ?_
                                              repeat refine awp_seq ?_
                                              refine awp_regD' (_ :: _ :: []) ([]) (_ :: _ :: []) (by rw [hP]; exact mixed) rfl (List.Perm.refl _) fun K hK => ?_
                                              have hh := grd_some h; clear h; obtain ⟨hg29, h⟩ := hh
                                              have hh := grd_some h; clear h; obtain ⟨hg30, h⟩ := hh
                                              simp -implicitDefEqProofs (disch := first | omega | rfl) only [go_sem, simprocAttr, zr31_12, eq_true hc28, eq_true hg29, eq_true hg30]
                                              refine hK _ _ ?_; clear hK K
                                              have hh := ite_some h; clear h; rcases hh with ⟨hc31, h⟩ | ⟨hc31, h⟩
                                              · repeat refine awp_seq ?_
                                                refine awp_else (by simp -implicitDefEqProofs (disch := first | omega | rfl) only [go_sem, simprocAttr, eq_true hc31]) ?_
                                                repeat refine awp_seq ?_
                                                refine awp_skip ?_
                                                repeat refine awp_seq ?_
                                                refine awp_reg fun K Q hK hQ => ?_
                                                simp -implicitDefEqProofs (disch := first | omega | rfl) only [go_sem, simprocAttr, zr31_14]
                                                refine hK _ _ ?_; clear hK hQ K Q
                                                obtain rfl := som_inj h
                                                try dsimp only at hm27
                                                refine ⟨⟨⟨m27, IntKind.wrap .i64 (x26 + 1)⟩, hm27⟩, Nat.lt_succ_self _, ?_⟩
                                                refine ent_le' ([]) (_ :: _ :: []) (_ :: _ :: []) rfl (List.Perm.refl _) ?_ ?_
                                                · simp -implicitDefEqProofs (disch := first | omega | rfl) only [go_sem, simprocAttr, subF_cons, subF_nil]
                                                  exact ⟨(.lptr ..), (.lptr ..), (.keep _)⟩
                                                · exact (.cell (.cell .nil))
                                              repeat refine awp_seq ?_
                                              refine awp_then (by simp -implicitDefEqProofs (disch := first | omega | rfl) only [go_sem, simprocAttr, eq_false hc31]) ?_
                                              repeat refine awp_seq ?_
                                              refine awp_reg fun K Q hK hQ => ?_
                                              simp -implicitDefEqProofs (disch := first | omega | rfl) only [go_sem, simprocAttr, zr31_13]
                                              refine hK _ _ ?_; clear hK hQ K Q
                                              obtain rfl := som_inj h
                                              try dsimp only at hm27
                                              subst hm27
                                              simp only [Ou.on_ret] at hO27
                                              obtain rfl := som_inj hO27
                                              repeat refine awp_seq ?_
                                              refine awp_ret ?_
                                              repeat' (first | refine then_ret ?_ | refine blk_ret ?_)
                                              refine ret_q ?_
                                              simp -implicitDefEqProofs (disch := first | omega | rfl) only [go_sem, simprocAttr]
                                              first | exact leaves_none (by first | rfl | simp) | exact leaves_nil
                                            repeat refine awp_seq ?_
                                            refine awp_else (by simp -implicitDefEqProofs (disch := first | omega | rfl) only [go_sem, simprocAttr, eq_false hc28]) ?_
                                            repeat refine awp_seq ?_
                                            refine awp_exit ?_
                                            repeat' (first | refine then_exit ?_ | refine exit_here ?_ | refine exit_on rfl ?_)
                                            obtain rfl := som_inj h
                                            try dsimp only at hm27
                                            subst hm27
                                            simp only [Ou.on_brk] at hO27
                                            repeat refine awp_seq ?_
                                            refine awp_reg fun K Q hK hQ => ?_
                                            simp -implicitDefEqProofs (disch := first | omega | rfl) only [go_sem, simprocAttr, zr31_15]
                                            have hh := bnd_some hO27; clear hO27; obtain ⟨x32, hx33, hO27⟩ := hh
                                            refine call_pure hP (hrec20 p1.Items p2.Items x32 hx33) ?_
                                            simp -implicitDefEqProofs (disch := first | omega | rfl) only [go_sem, simprocAttr]
                                            refine hK _ _ ?_; clear hK hQ K Q
                                            obtain rfl := som_inj hO27
                                            repeat refine awp_seq ?_
                                            refine awp_ret ?_
                                            repeat' (first | refine then_ret ?_ | refine blk_ret ?_)
                                            refine ret_q ?_
                                            simp -implicitDefEqProofs (disch := first | omega | rfl) only [go_sem, simprocAttr]
                                            first | exact leaves_none (by first | rfl | simp) | exact leaves_nil
                                          repeat refine awp_seq ?_
                                          refine awp_then (by simp -implicitDefEqProofs (disch := first | omega | rfl) only [go_sem, simprocAttr, hc25]) ?_
                                          repeat refine awp_seq ?_
                                          refine awp_reg fun K Q hK hQ => ?_
                                          simp -implicitDefEqProofs (disch := first | omega | rfl) only [go_sem, simprocAttr, zr31_9]
                                          refine hK _ _ ?_; clear hK hQ K Q
                                          obtain rfl := som_inj h
                                          repeat refine awp_seq ?_
                                          refine awp_ret ?_
                                          repeat' (first | refine then_ret ?_ | refine blk_ret ?_)
                                          refine ret_q ?_
                                          simp -implicitDefEqProofs (disch := first | omega | rfl) only [go_sem, simprocAttr]
                                          first | exact leaves_none (by first | rfl | simp) | exact leaves_nil
                                        simp -implicitDefEqProofs (disch := first | omega | rfl) only [go_sem, simprocAttr, zr31_8, eq_true hc13, eq_true hc14, eq_true hc15, eq_true hc16, eq_true hc17, hc18, eq_true hc19, eq_true hc20, eq_true hc21, eq_false hc22]
                                        refine hK _ _ ?_; clear hK hQ K Q
                                        repeat refine awp_seq ?_
                                        refine awp_then (by rfl) ?_
                                        repeat refine awp_seq ?_
                                        refine awp_reg fun K Q hK hQ => ?_
                                        simp -implicitDefEqProofs (disch := first | omega | rfl) only [go_sem, simprocAttr, zr31_9]
                                        refine hK _ _ ?_; clear hK hQ K Q
                                        obtain rfl := som_inj h
                                        repeat refine awp_seq ?_
                                        refine awp_ret ?_
                                        repeat' (first | refine then_ret ?_ | refine blk_ret ?_)
                                        refine ret_q ?_
                                        simp -implicitDefEqProofs (disch := first | omega | rfl) only [go_sem, simprocAttr]
                                        first | exact leaves_none (by first | rfl | simp) | exact leaves_nil
                                      simp -implicitDefEqProofs (disch := first | omega | rfl) only [go_sem, simprocAttr, zr31_8, eq_true hc13, eq_true hc14, eq_true hc15, eq_true hc16, eq_true hc17, hc18, eq_true hc19, eq_true hc20, eq_false hc21]
                                      refine hK _ _ ?_; clear hK hQ K Q
                                      repeat refine awp_seq ?_
                                      refine awp_then (by rfl) ?_
                                      repeat refine awp_seq ?_
                                      refine awp_reg fun K Q hK hQ => ?_
                                      simp -implicitDefEqProofs (disch := first | omega | rfl) only [go_sem, simprocAttr, zr31_9]
                                      refine hK _ _ ?_; clear hK hQ K Q
                                      obtain rfl := som_inj h
                                      repeat refine awp_seq ?_
                                      refine awp_ret ?_
                                      repeat' (first | refine then_ret ?_ | refine blk_ret ?_)
                                      refine ret_q ?_
                                      simp -implicitDefEqProofs (disch := first | omega | rfl) only [go_sem, simprocAttr]
                                      first | exact leaves_none (by first | rfl | simp) | exact leaves_nil
                                    simp -implicitDefEqProofs (disch := first | omega | rfl) only [go_sem, simprocAttr, zr31_8, eq_true hc13, eq_true hc14, eq_true hc15, eq_true hc16, eq_true hc17, hc18, eq_true hc19, eq_false hc20]
                                    refine hK _ _ ?_; clear hK hQ K Q
                                    repeat refine awp_seq ?_
                                    refine awp_then (by rfl) ?_
                                    repeat refine awp_seq ?_
                                    refine awp_reg fun K Q hK hQ => ?_
                                    simp -implicitDefEqProofs (disch := first | omega | rfl) only [go_sem, simprocAttr, zr31_9]
                                    refine hK _ _ ?_; clear hK hQ K Q
                                    obtain rfl := som_inj h
                                    repeat refine awp_seq ?_
                                    refine awp_ret ?_
                                    repeat' (first | refine then_ret ?_ | refine blk_ret ?_)
                                    refine ret_q ?_
                                    simp -implicitDefEqProofs (disch := first | omega | rfl) only [go_sem, simprocAttr]
                                    first | exact leaves_none (by first | rfl | simp) | exact leaves_nil
                                  simp -implicitDefEqProofs (disch := first | omega | rfl) only [go_sem, simprocAttr, zr31_8, eq_true hc13, eq_true hc14, eq_true hc15, eq_true hc16, eq_true hc17, hc18, eq_false hc19]
                                  refine hK _ _ ?_; clear hK hQ K Q
                                  repeat refine awp_seq ?_
                                  refine awp_then (by rfl) ?_
                                  repeat refine awp_seq ?_
                                  refine awp_reg fun K Q hK hQ => ?_
                                  simp -implicitDefEqProofs (disch := first | omega | rfl) only [go_sem, simprocAttr, zr31_9]
                                  refine hK _ _ ?_; clear hK hQ K Q
                                  obtain rfl := som_inj h
                                  repeat refine awp_seq ?_
                                  refine awp_ret ?_
                                  repeat' (first | refine then_ret ?_ | refine blk_ret ?_)
                                  refine ret_q ?_
                                  simp -implicitDefEqProofs (disch := first | omega | rfl) only [go_sem, simprocAttr]
                                  first | exact leaves_none (by first | rfl | simp) | exact leaves_nil
                                simp -implicitDefEqProofs (disch := first | omega | rfl) only [go_sem, simprocAttr, zr31_8, eq_true hc13, eq_true hc14, eq_true hc15, eq_true hc16, eq_true hc17, hc18]
                                refine hK _ _ ?_; clear hK hQ K Q
                                repeat refine awp_seq ?_
                                refine awp_then (by rfl) ?_
                                repeat refine awp_seq ?_
                                refine awp_reg fun K Q hK hQ => ?_
                                simp -implicitDefEqProofs (disch := first | omega | rfl) only [go_sem, simprocAttr, zr31_9]
                                refine hK _ _ ?_; clear hK hQ K Q
                                obtain rfl := som_inj h
                                repeat refine awp_seq ?_
                                refine awp_ret ?_
                                repeat' (first | refine then_ret ?_ | refine blk_ret ?_)
                                refine ret_q ?_
                                simp -implicitDefEqProofs (disch := first | omega | rfl) only [go_sem, simprocAttr]
                                first | exact leaves_none (by first | rfl | simp) | exact leaves_nil
                              simp -implicitDefEqProofs (disch := first | omega | rfl) only [go_sem, simprocAttr, zr31_8, eq_true hc13, eq_true hc14, eq_true hc15, eq_true hc16, eq_false hc17]
                              refine hK _ _ ?_; clear hK hQ K Q
                              repeat refine awp_seq ?_
                              refine awp_then (by rfl) ?_
                              repeat refine awp_seq ?_
                              refine awp_reg fun K Q hK hQ => ?_
                              simp -implicitDefEqProofs (disch := first | omega | rfl) only [go_sem, simprocAttr, zr31_9]
                              refine hK _ _ ?_; clear hK hQ K Q
                              obtain rfl := som_inj h
                              repeat refine awp_seq ?_
                              refine awp_ret ?_
                              repeat' (first | refine then_ret ?_ | refine blk_ret ?_)
                              refine ret_q ?_
                              simp -implicitDefEqProofs (disch := first | omega | rfl) only [go_sem, simprocAttr]
                              first | exact leaves_none (by first | rfl | simp) | exact leaves_nil
                            simp -implicitDefEqProofs (disch := first | omega | rfl) only [go_sem, simprocAttr, zr31_8, eq_true hc13, eq_true hc14, eq_true hc15, eq_false hc16]
                            refine hK _ _ ?_; clear hK hQ K Q
                            repeat refine awp_seq ?_
                            refine awp_then (by rfl) ?_
                            repeat refine awp_seq ?_
                            refine awp_reg fun K Q hK hQ => ?_
                            simp -implicitDefEqProofs (disch := first | omega | rfl) only [go_sem, simprocAttr, zr31_9]
                            refine hK _ _ ?_; clear hK hQ K Q
                            obtain rfl := som_inj h
                            repeat refine awp_seq ?_
                            refine awp_ret ?_
                            repeat' (first | refine then_ret ?_ | refine blk_ret ?_)
                            refine ret_q ?_
                            simp -implicitDefEqProofs (disch := first | omega | rfl) only [go_sem, simprocAttr]
                            first | exact leaves_none (by first | rfl | simp) | exact leaves_nil
                          simp -implicitDefEqProofs (disch := first | omega | rfl) only [go_sem, simprocAttr, zr31_8, eq_true hc13, eq_true hc14, eq_false hc15]
                          refine hK _ _ ?_; clear hK hQ K Q
                          repeat refine awp_seq ?_
                          refine awp_then (by rfl) ?_
                          repeat refine awp_seq ?_
                          refine awp_reg fun K Q hK hQ => ?_
                          simp -implicitDefEqProofs (disch := first | omega | rfl) only [go_sem, simprocAttr, zr31_9]
                          refine hK _ _ ?_; clear hK hQ K Q
                          obtain rfl := som_inj h
                          repeat refine awp_seq ?_
                          refine awp_ret ?_
                          repeat' (first | refine then_ret ?_ | refine blk_ret ?_)
                          refine ret_q ?_
                          simp -implicitDefEqProofs (disch := first | omega | rfl) only [go_sem, simprocAttr]
                          first | exact leaves_none (by first | rfl | simp) | exact leaves_nil
                        simp -implicitDefEqProofs (disch := first | omega | rfl) only [go_sem, simprocAttr, zr31_8, eq_true hc13, eq_false hc14]
                        refine hK _ _ ?_; clear hK hQ K Q
                        repeat refine awp_seq ?_
                        refine awp_then (by rfl) ?_
                        repeat refine awp_seq ?_
                        refine awp_reg fun K Q hK hQ => ?_
                        simp -implicitDefEqProofs (disch := first | omega | rfl) only [go_sem, simprocAttr, zr31_9]
                        refine hK _ _ ?_; clear hK hQ K Q
                        obtain rfl := som_inj h
                        repeat refine awp_seq ?_
                        refine awp_ret ?_
                        repeat' (first | refine then_ret ?_ | refine blk_ret ?_)
                        refine ret_q ?_
                        simp -implicitDefEqProofs (disch := first | omega | rfl) only [go_sem, simprocAttr]
                        first | exact leaves_none (by first | rfl | simp) | exact leaves_nil
                      simp -implicitDefEqProofs (disch := first | omega | rfl) only [go_sem, simprocAttr, zr31_8, eq_false hc13]
                      refine hK _ _ ?_; clear hK hQ K Q
                      repeat refine awp_seq ?_
                      refine awp_then (by rfl) ?_
                      repeat refine awp_seq ?_
                      refine awp_reg fun K Q hK hQ => ?_
                      simp -implicitDefEqProofs (disch := first | omega | rfl) only [go_sem, simprocAttr, zr31_9]
                      refine hK _ _ ?_; clear hK hQ K Q
                      obtain rfl := som_inj h
                      repeat refine awp_seq ?_
                      refine awp_ret ?_
                      repeat' (first | refine then_ret ?_ | refine blk_ret ?_)
                      refine ret_q ?_
                      simp -implicitDefEqProofs (disch := first | omega | rfl) only [go_sem, simprocAttr]
                      first | exact leaves_none (by first | rfl | simp) | exact leaves_nil
                    repeat refine awp_seq ?_
                    refine awp_then (by simp -implicitDefEqProofs (disch := first | omega | rfl) only [go_sem, simprocAttr, eq_false hc12]) ?_
                    repeat refine awp_seq ?_
                    refine awp_reg fun K Q hK hQ => ?_
                    simp -implicitDefEqProofs (disch := first | omega | rfl) only [go_sem, simprocAttr, zr31_2]
                    refine hK _ _ ?_; clear hK hQ K Q
                    obtain rfl := som_inj h
                    repeat refine awp_seq ?_
                    refine awp_ret ?_
                    repeat' (first | refine then_ret ?_ | refine blk_ret ?_)
                    refine ret_q ?_
                    simp -implicitDefEqProofs (disch := first | omega | rfl) only [go_sem, simprocAttr]
                    first | exact leaves_none (by first | rfl | simp) | exact leaves_nil
                  simp -implicitDefEqProofs (disch := first | omega | rfl) only [go_sem, simprocAttr, zr31_1, eq_true hc3, eq_true hc4, eq_true hc5, eq_true hc6, eq_true hc7, eq_true hc8, eq_true hc9, eq_true hc10, eq_false hc11]
                  refine hK _ _ ?_; clear hK hQ K Q
                  repeat refine awp_seq ?_
                  refine awp_then (by rfl) ?_
                  repeat refine awp_seq ?_
                  refine awp_reg fun K Q hK hQ => ?_
                  simp -implicitDefEqProofs (disch := first | omega | rfl) only [go_sem, simprocAttr, zr31_2]
                  refine hK _ _ ?_; clear hK hQ K Q
                  obtain rfl := som_inj h
                  repeat refine awp_seq ?_
                  refine awp_ret ?_
                  repeat' (first | refine then_ret ?_ | refine blk_ret ?_)
                  refine ret_q ?_
                  simp -implicitDefEqProofs (disch := first | omega | rfl) only [go_sem, simprocAttr]
                  first | exact leaves_none (by first | rfl | simp) | exact leaves_nil
                simp -implicitDefEqProofs (disch := first | omega | rfl) only [go_sem, simprocAttr, zr31_1, eq_true hc3, eq_true hc4, eq_true hc5, eq_true hc6, eq_true hc7, eq_true hc8, eq_true hc9, eq_false hc10]
                refine hK _ _ ?_; clear hK hQ K Q
                repeat refine awp_seq ?_
                refine awp_then (by rfl) ?_
                repeat refine awp_seq ?_
                refine awp_reg fun K Q hK hQ => ?_
                simp -implicitDefEqProofs (disch := first | omega | rfl) only [go_sem, simprocAttr, zr31_2]
                refine hK _ _ ?_; clear hK hQ K Q
                obtain rfl := som_inj h
                repeat refine awp_seq ?_
                refine awp_ret ?_
                repeat' (first | refine then_ret ?_ | refine blk_ret ?_)
                refine ret_q ?_
                simp -implicitDefEqProofs (disch := first | omega | rfl) only [go_sem, simprocAttr]
                first | exact leaves_none (by first | rfl | simp) | exact leaves_nil
              simp -implicitDefEqProofs (disch := first | omega | rfl) only [go_sem, simprocAttr, zr31_1, eq_true hc3, eq_true hc4, eq_true hc5, eq_true hc6, eq_true hc7, eq_true hc8, eq_false hc9]
              refine hK _ _ ?_; clear hK hQ K Q
              repeat refine awp_seq ?_
              refine awp_then (by rfl) ?_
              repeat refine awp_seq ?_
              refine awp_reg fun K Q hK hQ => ?_
              simp -implicitDefEqProofs (disch := first | omega | rfl) only [go_sem, simprocAttr, zr31_2]
              refine hK _ _ ?_; clear hK hQ K Q
              obtain rfl := som_inj h
              repeat refine awp_seq ?_
              refine awp_ret ?_
              repeat' (first | refine then_ret ?_ | refine blk_ret ?_)
              refine ret_q ?_
              simp -implicitDefEqProofs (disch := first | omega | rfl) only [go_sem, simprocAttr]
              first | exact leaves_none (by first | rfl | simp) | exact leaves_nil
            simp -implicitDefEqProofs (disch := first | omega | rfl) only [go_sem, simprocAttr, zr31_1, eq_true hc3, eq_true hc4, eq_true hc5, eq_true hc6, eq_true hc7, eq_false hc8]
            refine hK _ _ ?_; clear hK hQ K Q
            repeat refine awp_seq ?_
            refine awp_then (by rfl) ?_
            repeat refine awp_seq ?_
            refine awp_reg fun K Q hK hQ => ?_
            simp -implicitDefEqProofs (disch := first | omega | rfl) only [go_sem, simprocAttr, zr31_2]
            refine hK _ _ ?_; clear hK hQ K Q
            obtain rfl := som_inj h
            repeat refine awp_seq ?_
            refine awp_ret ?_
            repeat' (first | refine then_ret ?_ | refine blk_ret ?_)
            refine ret_q ?_
            simp -implicitDefEqProofs (disch := first | omega | rfl) only [go_sem, simprocAttr]
            first | exact leaves_none (by first | rfl | simp) | exact leaves_nil
          simp -implicitDefEqProofs (disch := first | omega | rfl) only [go_sem, simprocAttr, zr31_1, eq_true hc3, eq_true hc4, eq_true hc5, eq_true hc6, eq_false hc7]
          refine hK _ _ ?_; clear hK hQ K Q
          repeat refine awp_seq ?_
          refine awp_then (by rfl) ?_
          repeat refine awp_seq ?_
          refine awp_reg fun K Q hK hQ => ?_
          simp -implicitDefEqProofs (disch := first | omega | rfl) only [go_sem, simprocAttr, zr31_2]
          refine hK _ _ ?_; clear hK hQ K Q
          obtain rfl := som_inj h
          repeat refine awp_seq ?_
          refine awp_ret ?_
          repeat' (first | refine then_ret ?_ | refine blk_ret ?_)
          refine ret_q ?_
          simp -implicitDefEqProofs (disch := first | omega | rfl) only [go_sem, simprocAttr]
          first | exact leaves_none (by first | rfl | simp) | exact leaves_nil
        simp -implicitDefEqProofs (disch := first | omega | rfl) only [go_sem, simprocAttr, zr31_1, eq_true hc3, eq_true hc4, eq_true hc5, eq_false hc6]
        refine hK _ _ ?_; clear hK hQ K Q
        repeat refine awp_seq ?_
        refine awp_then (by rfl) ?_
        repeat refine awp_seq ?_
        refine awp_reg fun K Q hK hQ => ?_
        simp -implicitDefEqProofs (disch := first | omega | rfl) only [go_sem, simprocAttr, zr31_2]
        refine hK _ _ ?_; clear hK hQ K Q
        obtain rfl := som_inj h
        repeat refine awp_seq ?_
        refine awp_ret ?_
        repeat' (first | refine then_ret ?_ | refine blk_ret ?_)
        refine ret_q ?_
        simp -implicitDefEqProofs (disch := first | omega | rfl) only [go_sem, simprocAttr]
        first | exact leaves_none (by first | rfl | simp) | exact leaves_nil
      simp -implicitDefEqProofs (disch := first | omega | rfl) only [go_sem, simprocAttr, zr31_1, eq_true hc3, eq_true hc4, eq_false hc5]
      refine hK _ _ ?_; clear hK hQ K Q
      repeat refine awp_seq ?_
      refine awp_then (by rfl) ?_
      repeat refine awp_seq ?_
      refine awp_reg fun K Q hK hQ => ?_
      simp -implicitDefEqProofs (disch := first | omega | rfl) only [go_sem, simprocAttr, zr31_2]
      refine hK _ _ ?_; clear hK hQ K Q
      obtain rfl := som_inj h
      repeat refine awp_seq ?_
      refine awp_ret ?_
      repeat' (first | refine then_ret ?_ | refine blk_ret ?_)
      refine ret_q ?_
      simp -implicitDefEqProofs (disch := first | omega | rfl) only [go_sem, simprocAttr]
      first | exact leaves_none (by first | rfl | simp) | exact leaves_nil
    simp -implicitDefEqProofs (disch := first | omega | rfl) only [go_sem, simprocAttr, zr31_1, eq_true hc3, eq_false hc4]
    refine hK _ _ ?_; clear hK hQ K Q
    repeat refine awp_seq ?_
    refine awp_then (by rfl) ?_
    repeat refine awp_seq ?_
    refine awp_reg fun K Q hK hQ => ?_
    simp -implicitDefEqProofs (disch := first | omega | rfl) only [go_sem, simprocAttr, zr31_2]
    refine hK _ _ ?_; clear hK hQ K Q
    obtain rfl := som_inj h
    repeat refine awp_seq ?_
    refine awp_ret ?_
    repeat' (first | refine then_ret ?_ | refine blk_ret ?_)
    refine ret_q ?_
    simp -implicitDefEqProofs (disch := first | omega | rfl) only [go_sem, simprocAttr]
    first | exact leaves_none (by first | rfl | simp) | exact leaves_nil
  simp -implicitDefEqProofs (disch := first | omega | rfl) only [go_sem, simprocAttr, zr31_1, eq_false hc3]
  refine hK _ _ ?_; clear hK hQ K Q
  repeat refine awp_seq ?_
  refine awp_then (by rfl) ?_
  repeat refine awp_seq ?_
  refine awp_reg fun K Q hK hQ => ?_
  simp -implicitDefEqProofs (disch := first | omega | rfl) only [go_sem, simprocAttr, zr31_2]
  refine hK _ _ ?_; clear hK hQ K Q
  obtain rfl := som_inj h
  repeat refine awp_seq ?_
  refine awp_ret ?_
  repeat' (first | refine then_ret ?_ | refine blk_ret ?_)
  refine ret_q ?_
  simp -implicitDefEqProofs (disch := first | omega | rfl) only [go_sem, simprocAttr]
  first | exact leaves_none (by first | rfl | simp) | exact leaves_nil
set_option maxHeartbeats 4000000 in
theorem c20_body (rec31 : Item → Item → Option Bool) (rec20 : (List Item) → (List Item) → Option Bool) (hrec31 : ∀ (p1 : Item) (p2 : Item) (r : Bool), rec31 p1 p2 = some r → PureC Try.prog 31 [.agg (Item.cs p1), .agg (Item.cs p2)] (.bool r)) (hrec20 : ∀ (p1 : List Item) (p2 : List Item) (r : Bool), rec20 p1 p2 = some r → PureC Try.prog 20 [.sl (List.map Item.av p1), .sl (List.map Item.av p2)] (.bool r)) (N : Nat) (p1 : List Item) (p2 : List Item) (r : Bool) (h : s20_body rec31 rec20 N p1 p2 = some r) : PureC Try.prog 20 [.sl (List.map Item.av p1), .sl (List.map Item.av p2)] (.bool r) := by
  refine fn_intro' 27 Try.func20 nt20 ok20 res20 (by simp) fun X hP hn hd hr => ?_
  unfold s20_body at h
  repeat refine awp_seq ?_
  refine awp_reg fun K Q hK hQ => ?_
  simp -implicitDefEqProofs (disch := first | omega | rfl) only [go_sem, simprocAttr, zr20_0, argS]
  refine hK _ _ ?_; clear hK hQ K Q
  repeat refine awp_seq ?_
  refine awp_reg fun K Q hK hQ => ?_
  simp -implicitDefEqProofs (disch := first | omega | rfl) only [go_sem, simprocAttr, zr20_1]
  refine hK _ _ ?_; clear hK hQ K Q
  have hh := ite_some h; clear h; rcases hh with ⟨hc1, h⟩ | ⟨hc1, h⟩
  · repeat refine awp_seq ?_
    refine awp_else (by simp -implicitDefEqProofs (disch := first | omega | rfl) only [go_sem, simprocAttr, eq_true hc1]) ?_
    repeat refine awp_seq ?_
    refine awp_skip ?_
    repeat refine awp_seq ?_
    refine awp_reg fun K Q hK hQ => ?_
    simp -implicitDefEqProofs (disch := first | omega | rfl) only [go_sem, simprocAttr, zr20_3]
    refine hK _ _ ?_; clear hK hQ K Q
    repeat refine awp_seq ?_
    refine awp_block ?_
    obtain ⟨o3, ho3, hO3⟩ := bnd_some h
    repeat refine awp_seq ?_
    refine awp_loop (ι := {p : Nat × Int // iter (fun p => s20_b1 N p1 p2 rec31 p) p.1 p.2 = some o3}) (fun p => [(0, .sl (List.map Item.av p1)), (1, .sl (List.map Item.av p2)), (5, .int .i64 p.1.2)]) (fun p => []) (fun p => p.1.1) ⟨⟨N, 0⟩, ho3⟩ ?_ ?_
    · refine ent_le' ([]) ([]) ([]) rfl (List.Perm.refl _) ?_ ?_
      · simp -implicitDefEqProofs (disch := first | omega | rfl) only [go_sem, simprocAttr, subF_cons, subF_nil]
        exact ⟨(.keep _), (.keep _), (.keep _)⟩
      · exact .nil
    rintro ⟨⟨n3, x2⟩, hi3⟩
    obtain ⟨m3, q3, rfl, h, hm3⟩ := iter_some hi3
    try dsimp only at h
    try dsimp only
    unfold s20_b1 at h
    repeat refine awp_seq ?_
    refine awp_reg fun K Q hK hQ => ?_
    simp -implicitDefEqProofs (disch := first | omega | rfl) only [go_sem, simprocAttr, zr20_4]
    refine hK _ _ ?_; clear hK hQ K Q
    have hh := ite_some h; clear h; rcases hh with ⟨hc4, h⟩ | ⟨hc4, h⟩
    · repeat refine awp_seq ?_
      refine awp_then (by simp -implicitDefEqProofs (disch := first | omega | rfl) only [go_sem, simprocAttr, eq_true hc4]) ?_
      repeat refine awp_seq ?_
      refine awp_skip ?_
      repeat refine awp_seq ?_
      refine awp_block ?_
      repeat refine awp_seq ?_
      refine awp_regD' ([]) ([]) ([]) (by rw [hP]; exact mixed) rfl (List.Perm.refl _) fun K hK => ?_
      have hh := grd_some h; clear h; obtain ⟨hg5, h⟩ := hh
      have hh := grd_some h; clear h; obtain ⟨hg6, h⟩ := hh
      simp -implicitDefEqProofs (disch := first | omega | rfl) only [go_sem, simprocAttr, zr20_5, eq_true hc4, eq_true hg5, eq_true hg6]
      have hh := bnd_some h; clear h; obtain ⟨x7, hx8, h⟩ := hh
      refine call_pure hP (hrec31 (p1[x2.toNat]!) (p2[x2.toNat]!) x7 hx8) ?_
      simp -implicitDefEqProofs (disch := first | omega | rfl) only [go_sem, simprocAttr]
      refine hK _ _ ?_; clear hK K
      have hh := cnd_some h; clear h; rcases hh with ⟨hc9, h⟩ | ⟨hc9, h⟩
      · repeat refine awp_seq ?_
        refine awp_else (by simp -implicitDefEqProofs (disch := first | omega | rfl) only [go_sem, simprocAttr, hc9]) ?_
        repeat refine awp_seq ?_
        refine awp_skip ?_
        repeat refine awp_seq ?_
        refine awp_reg fun K Q hK hQ => ?_
        simp -implicitDefEqProofs (disch := first | omega | rfl) only [go_sem, simprocAttr, zr20_7]
        refine hK _ _ ?_; clear hK hQ K Q
        obtain rfl := som_inj h
        try dsimp only at hm3
        refine ⟨⟨⟨m3, IntKind.wrap .i64 (x2 + 1)⟩, hm3⟩, Nat.lt_succ_self _, ?_⟩
        refine ent_le' ([]) ([]) ([]) rfl (List.Perm.refl _) ?_ ?_
        · simp -implicitDefEqProofs (disch := first | omega | rfl) only [go_sem, simprocAttr, subF_cons, subF_nil]
          exact ⟨(.keep _), (.keep _), (.keep _)⟩
        · exact .nil
      repeat refine awp_seq ?_
      refine awp_then (by simp -implicitDefEqProofs (disch := first | omega | rfl) only [go_sem, simprocAttr, hc9]) ?_
      repeat refine awp_seq ?_
      refine awp_reg fun K Q hK hQ => ?_
      simp -implicitDefEqProofs (disch := first | omega | rfl) only [go_sem, simprocAttr, zr20_6]
      refine hK _ _ ?_; clear hK hQ K Q
      obtain rfl := som_inj h
      try dsimp only at hm3
      subst hm3
      simp only [Ou.on_ret] at hO3
      obtain rfl := som_inj hO3
      repeat refine awp_seq ?_
      refine awp_ret ?_
      repeat' (first | refine then_ret ?_ | refine blk_ret ?_)
      refine ret_q ?_
      simp -implicitDefEqProofs (disch := first | omega | rfl) only [go_sem, simprocAttr]
      first | exact leaves_none (by first | rfl | simp) | exact leaves_nil
    repeat refine awp_seq ?_
    refine awp_else (by simp -implicitDefEqProofs (disch := first | omega | rfl) only [go_sem, simprocAttr, eq_false hc4]) ?_
    repeat refine awp_seq ?_
    refine awp_exit ?_
    repeat' (first | refine then_exit ?_ | refine exit_here ?_ | refine exit_on rfl ?_)
    obtain rfl := som_inj h
    try dsimp only at hm3
    subst hm3
    simp only [Ou.on_brk] at hO3
    repeat refine awp_seq ?_
    refine awp_reg fun K Q hK hQ => ?_
    simp -implicitDefEqProofs (disch := first | omega | rfl) only [go_sem, simprocAttr, zr20_8]
    refine hK _ _ ?_; clear hK hQ K Q
    obtain rfl := som_inj hO3
    repeat refine awp_seq ?_
    refine awp_ret ?_
    repeat' (first | refine then_ret ?_ | refine blk_ret ?_)
    refine ret_q ?_
    simp -implicitDefEqProofs (disch := first | omega | rfl) only [go_sem, simprocAttr]
    first | exact leaves_none (by first | rfl | simp) | exact leaves_nil
  repeat refine awp_seq ?_
  refine awp_then (by simp -implicitDefEqProofs (disch := first | omega | rfl) only [go_sem, simprocAttr, eq_false hc1]) ?_
  repeat refine awp_seq ?_
  refine awp_reg fun K Q hK hQ => ?_
  simp -implicitDefEqProofs (disch := first | omega | rfl) only [go_sem, simprocAttr, zr20_2]
  refine hK _ _ ?_; clear hK hQ K Q
  obtain rfl := som_inj h
  repeat refine awp_seq ?_
  refine awp_ret ?_
  repeat' (first | refine then_ret ?_ | refine blk_ret ?_)
  refine ret_q ?_
  simp -implicitDefEqProofs (disch := first | omega | rfl) only [go_sem, simprocAttr]
  first | exact leaves_none (by first | rfl | simp) | exact leaves_nil
theorem cs_31_20 : ∀ N : Nat, (∀ (p1 : Item) (p2 : Item) (r : Bool), s31 N p1 p2 = some r → PureC Try.prog 31 [.agg (Item.cs p1), .agg (Item.cs p2)] (.bool r)) ∧ (∀ (p1 : List Item) (p2 : List Item) (r : Bool), s20 N p1 p2 = some r → PureC Try.prog 20 [.sl (List.map Item.av p1), .sl (List.map Item.av p2)] (.bool r)) := by
  intro N
  induction N with
  | zero => exact ⟨(fun _ _ r h => by cases h), (fun _ _ r h => by cases h)⟩
  | succ N ih => exact ⟨fun p1 p2 r h => c31_body (s31 N) (s20 N) ih.1 ih.2 N p1 p2 r h, fun p1 p2 r h => c20_body (s31 N) (s20 N) ih.1 ih.2 N p1 p2 r h⟩
theorem c31 (N : Nat) (p1 : Item) (p2 : Item) (r : Bool) (h : s31 N p1 p2 = some r) : PureC Try.prog 31 [.agg (Item.cs p1), .agg (Item.cs p2)] (.bool r) := (cs_31_20 N).1 p1 p2 r h
theorem c20 (N : Nat) (p1 : List Item) (p2 : List Item) (r : Bool) (h : s20 N p1 p2 = some r) : PureC Try.prog 20 [.sl (List.map Item.av p1), .sl (List.map Item.av p2)] (.bool r) := (cs_31_20 N).2 p1 p2 r h
end Go.Proofs.Inc
namespace Go.Proofs.Inc
open Go.Aw
set_option maxRecDepth 100000
attribute [-go_sem] nisA_sl appA_nil
def zr7_0 : List AO := [⟨some 2, none, .box (.t 0)⟩,
  ⟨some 3, none, .box (.t 1)⟩,
  ⟨some 4, none, .mov (.c (.bool false))⟩]
def zr7_1 : List AO := [⟨some 15, none, .callF 9 []⟩,
  ⟨some 5, none, .mov (.t 15)⟩]
def zr7_2 : List AO := [⟨some 16, none, .fadr 32 (.t 3)⟩,
  ⟨none, none, .store 1 (.t 16) (.c (.nil))⟩]
def zr7_3 : List AO := [⟨some 17, none, .load true 6 (.t 2)⟩,
  ⟨some 18, none, .callF 10 [(.t 17), (.c (.int .i64 200))]⟩,
  ⟨some 19, none, .un .not (.t 18)⟩,
  ⟨some 20, none, .mov (.t 19)⟩,
  ⟨some 21, some (20, false), .load true 33 (.t 3)⟩,
  ⟨some 22, some (20, false), .mkrow 33 1 [.int .i64 0, .str [], .int .i64 0, .str [], .str [], .int .i64 0, .int .i64 0, .int .i64 0, .bool false, .str [], .int .i64 0, .bool false, .str [], .nil, .str [], .str [], .int .i64 0, .int .i64 0, .str [], .str [], .bool false, .str [], .str [], .bool false, .bool false, .bool false, .bool false, .bool false, .bool false, .bool false, .nil, .nil, .nil] [(0, 33, (.t 21))]⟩,
  ⟨some 23, some (20, false), .bld [.str [], .int .i64 0, .int .i64 0, .int .i64 0, .int .i64 0, .nil] [(5, 1, (.t 22))]⟩,
  ⟨some 24, some (20, false), .callF 10 [(.t 23), (.c (.int .i64 1))]⟩,
  ⟨some 25, some (20, false), .un .not (.t 24)⟩,
  ⟨some 26, none, .pick (.t 20) (.c (.bool true)) (.t 25)⟩,
  ⟨some 27, none, .mov (.t 26)⟩,
  ⟨some 28, some (27, false), .fadr 0 (.t 3)⟩,
  ⟨some 29, some (27, false), .load false 1 (.t 28)⟩,
  ⟨some 30, some (27, false), .callF 12 [(.t 29)]⟩,
  ⟨some 31, none, .pick (.t 27) (.c (.bool true)) (.t 30)⟩]
def zr7_4 : List AO := [⟨some 32, none, .mov (.t 5)⟩,
  ⟨some 4, none, .mov (.t 32)⟩]
def zc7_0 : AC := .seq (.reg zr7_4) .ret
def zc7_1 : AC := .cond (.t 31) zc7_0 .skip
def zr7_5 : List AO := [⟨some 33, none, .fadr 0 (.t 2)⟩,
  ⟨some 34, none, .load false 1 (.t 33)⟩,
  ⟨some 35, none, .fadr 1 (.t 2)⟩,
  ⟨some 36, none, .load true 3 (.t 35)⟩,
  ⟨some 37, none, .fadr 4 (.t 2)⟩,
  ⟨some 38, none, .load false 1 (.t 37)⟩,
  ⟨some 39, none, .bld [.str [], .int .i64 0, .int .i64 0, .int .i64 0, .int .i64 0, .nil] [(0, 1, (.t 34)), (1, 3, (.t 36)), (4, 1, (.t 38))]⟩,
  ⟨some 6, none, .alloc [.str [], .int .i64 0, .int .i64 0, .int .i64 0, .int .i64 0, .nil]⟩,
  ⟨none, none, .store 6 (.t 6) (.t 39)⟩]
def zr7_6 : DT := (.pur ⟨some 40, none, .fadr 5 (.t 6)⟩ (.pur ⟨some 41, none, .load false 1 (.t 40)⟩ (.pur ⟨some 42, none, .fadr 5 (.t 2)⟩ (.pur ⟨some 43, none, .load false 1 (.t 42)⟩ (.pur ⟨some 45, none, .load true 33 (.t 3)⟩ (.alt false ⟨some 44, none, .app 33 368 (.t 41) (.t 43)⟩ (.alt false ⟨some 46, none, .mkrow 33 1 [.int .i64 0, .str [], .int .i64 0, .str [], .str [], .int .i64 0, .int .i64 0, .int .i64 0, .bool false, .str [], .int .i64 0, .bool false, .str [], .nil, .str [], .str [], .int .i64 0, .int .i64 0, .str [], .str [], .bool false, .str [], .str [], .bool false, .bool false, .bool false, .bool false, .bool false, .bool false, .bool false, .nil, .nil, .nil] [(0, 33, (.t 45))]⟩ (.alt false ⟨some 47, none, .app 33 368 (.t 44) (.t 46)⟩ (.alt false ⟨some 48, none, .fadr 5 (.t 6)⟩ (.alt true ⟨none, none, .store 1 (.t 48) (.t 47)⟩ .done .stop) .stop) .stop) .stop) (.alt false ⟨some 46, none, .mkrow 33 1 [.int .i64 0, .str [], .int .i64 0, .str [], .str [], .int .i64 0, .int .i64 0, .int .i64 0, .bool false, .str [], .int .i64 0, .bool false, .str [], .nil, .str [], .str [], .int .i64 0, .int .i64 0, .str [], .str [], .bool false, .str [], .str [], .bool false, .bool false, .bool false, .bool false, .bool false, .bool false, .bool false, .nil, .nil, .nil] [(0, 33, (.t 45))]⟩ (.alt false ⟨some 44, none, .app 33 368 (.t 41) (.t 43)⟩ (.alt false ⟨some 47, none, .app 33 368 (.t 44) (.t 46)⟩ (.alt false ⟨some 48, none, .fadr 5 (.t 6)⟩ (.alt true ⟨none, none, .store 1 (.t 48) (.t 47)⟩ .done .stop) .stop) .stop) .stop) .stop)))))))
def zr7_7 : List AO := [⟨some 49, none, .fadr 0 (.t 2)⟩,
  ⟨some 50, none, .load false 1 (.t 49)⟩,
  ⟨some 51, none, .fadr 1 (.t 2)⟩,
  ⟨some 52, none, .load true 3 (.t 51)⟩,
  ⟨some 53, none, .fadr 4 (.t 2)⟩,
  ⟨some 54, none, .load false 1 (.t 53)⟩,
  ⟨some 55, none, .bld [.str [], .int .i64 0, .int .i64 0, .int .i64 0, .int .i64 0, .nil] [(0, 1, (.t 50)), (1, 3, (.t 52)), (4, 1, (.t 54))]⟩,
  ⟨some 7, none, .alloc [.str [], .int .i64 0, .int .i64 0, .int .i64 0, .int .i64 0, .nil]⟩,
  ⟨none, none, .store 6 (.t 7) (.t 55)⟩]
def zr7_8 : List AO := [⟨some 8, none, .mov (.c (.int .i64 0))⟩]
def zr7_9 : List AO := [⟨some 56, none, .mov (.t 8)⟩,
  ⟨some 57, none, .fadr 5 (.t 2)⟩,
  ⟨some 58, none, .load false 1 (.t 57)⟩,
  ⟨some 59, none, .len (.t 58)⟩,
  ⟨some 60, none, .bin .lss (.t 56) (.t 59)⟩]
def zc7_2 : AC := .cond (.t 60) .skip (.exit 0)
def zr7_10 : List AO := [⟨some 63, none, .fadr 5 (.t 2)⟩,
  ⟨some 64, none, .load false 1 (.t 63)⟩,
  ⟨some 65, none, .mov (.t 8)⟩,
  ⟨some 66, none, .iadr 33 (.t 64) (.t 65)⟩,
  ⟨some 67, none, .fadr 0 (.t 66)⟩,
  ⟨some 68, none, .load false 1 (.t 67)⟩,
  ⟨some 69, none, .callF 12 [(.t 68)]⟩]
def zr7_11 : DT := (.pur ⟨some 70, none, .fadr 5 (.t 7)⟩ (.pur ⟨some 71, none, .load false 1 (.t 70)⟩ (.pur ⟨some 72, none, .fadr 5 (.t 2)⟩ (.pur ⟨some 73, none, .load false 1 (.t 72)⟩ (.alt false ⟨some 74, none, .mov (.t 8)⟩ (.alt false ⟨some 75, none, .iadr 33 (.t 73) (.t 74)⟩ (.alt false ⟨some 76, none, .load true 33 (.t 75)⟩ (.alt false ⟨some 77, none, .mkrow 33 1 [.int .i64 0, .str [], .int .i64 0, .str [], .str [], .int .i64 0, .int .i64 0, .int .i64 0, .bool false, .str [], .int .i64 0, .bool false, .str [], .nil, .str [], .str [], .int .i64 0, .int .i64 0, .str [], .str [], .bool false, .str [], .str [], .bool false, .bool false, .bool false, .bool false, .bool false, .bool false, .bool false, .nil, .nil, .nil] [(0, 33, (.t 76))]⟩ (.alt false ⟨some 78, none, .app 33 368 (.t 71) (.t 77)⟩ (.alt false ⟨some 79, none, .fadr 5 (.t 7)⟩ (.alt true ⟨none, none, .store 1 (.t 79) (.t 78)⟩ .done .stop) .stop) .stop) .stop) .stop) .stop) .stop)))))
def zc7_3 : AC := .regD zr7_11
def zc7_4 : AC := .cond (.t 69) zc7_3 .skip
def zc7_5 : AC := .seq (.reg zr7_10) zc7_4
def zr7_12 : List AO := [⟨some 61, none, .mov (.t 8)⟩,
  ⟨some 62, none, .bin .add (.t 61) (.c (.int .i64 1))⟩,
  ⟨some 8, none, .mov (.t 62)⟩]
def zc7_6 : AC := .reg zr7_12
def zc7_7 : AC := .seq (.block 1 zc7_5) zc7_6
def zc7_8 : AC := .seq (.seq (.reg zr7_9) zc7_2) zc7_7
def zc7_9 : AC := .loop zc7_8
def zc7_10 : AC := .block 0 zc7_9
def zr7_13 : List AO := [⟨some 80, none, .fadr 5 (.t 7)⟩,
  ⟨some 81, none, .load false 1 (.t 80)⟩,
  ⟨some 82, none, .load true 33 (.t 3)⟩,
  ⟨some 83, none, .mkrow 33 1 [.int .i64 0, .str [], .int .i64 0, .str [], .str [], .int .i64 0, .int .i64 0, .int .i64 0, .bool false, .str [], .int .i64 0, .bool false, .str [], .nil, .str [], .str [], .int .i64 0, .int .i64 0, .str [], .str [], .bool false, .str [], .str [], .bool false, .bool false, .bool false, .bool false, .bool false, .bool false, .bool false, .nil, .nil, .nil] [(0, 33, (.t 82))]⟩,
  ⟨some 84, none, .app 33 368 (.t 81) (.t 83)⟩,
  ⟨some 85, none, .fadr 5 (.t 7)⟩,
  ⟨none, none, .store 1 (.t 85) (.t 84)⟩]
def zr7_14 : List AO := [⟨some 87, none, .load true 6 (.t 2)⟩,
  ⟨some 88, none, .callF 11 [(.t 87)]⟩,
  ⟨some 86, none, .mov (.t 88)⟩,
  ⟨some 89, none, .ext 0 (.t 86)⟩,
  ⟨some 90, none, .ext 1 (.t 86)⟩,
  ⟨some 9, none, .alloc [.str [], .int .i64 0, .int .i64 0, .int .i64 0, .int .i64 0, .nil]⟩,
  ⟨none, none, .store 6 (.t 9) (.t 89)⟩,
  ⟨some 10, none, .mov (.t 90)⟩]
def zr7_15 : List AO := [⟨some 92, none, .load true 6 (.t 6)⟩,
  ⟨some 93, none, .callF 11 [(.t 92)]⟩,
  ⟨some 91, none, .mov (.t 93)⟩,
  ⟨some 94, none, .ext 0 (.t 91)⟩,
  ⟨some 95, none, .ext 1 (.t 91)⟩,
  ⟨some 11, none, .alloc [.str [], .int .i64 0, .int .i64 0, .int .i64 0, .int .i64 0, .nil]⟩,
  ⟨none, none, .store 6 (.t 11) (.t 94)⟩,
  ⟨some 12, none, .mov (.t 95)⟩]
def zr7_16 : List AO := [⟨some 97, none, .load true 6 (.t 7)⟩,
  ⟨some 98, none, .callF 11 [(.t 97)]⟩,
  ⟨some 96, none, .mov (.t 98)⟩,
  ⟨some 99, none, .ext 0 (.t 96)⟩,
  ⟨some 100, none, .ext 1 (.t 96)⟩,
  ⟨some 13, none, .alloc [.str [], .int .i64 0, .int .i64 0, .int .i64 0, .int .i64 0, .nil]⟩,
  ⟨none, none, .store 6 (.t 13) (.t 99)⟩,
  ⟨some 14, none, .mov (.t 100)⟩]
def zr7_17 : List AO := [⟨some 101, none, .mov (.t 10)⟩,
  ⟨some 102, none, .len (.t 101)⟩,
  ⟨some 103, none, .bin .gtr (.t 102) (.c (.int .i64 0))⟩,
  ⟨some 104, none, .mov (.t 103)⟩,
  ⟨some 105, some (104, false), .mov (.t 12)⟩,
  ⟨some 106, some (104, false), .len (.t 105)⟩,
  ⟨some 107, some (104, false), .bin .gtr (.t 106) (.c (.int .i64 0))⟩,
  ⟨some 108, none, .pick (.t 104) (.c (.bool true)) (.t 107)⟩]
def zr7_18 : List AO := [⟨some 109, none, .mov (.t 5)⟩,
  ⟨some 110, none, .mov (.t 109)⟩,
  ⟨some 111, some (110, true), .mov (.t 10)⟩,
  ⟨some 112, some (110, true), .len (.t 111)⟩,
  ⟨some 113, some (110, true), .bin .eql (.t 112) (.c (.int .i64 0))⟩,
  ⟨some 114, some (110, true), .mov (.t 113)⟩,
  ⟨some 115, some (114, false), .mov (.t 12)⟩,
  ⟨some 116, some (114, false), .len (.t 115)⟩,
  ⟨some 117, some (114, false), .bin .gtr (.t 116) (.c (.int .i64 0))⟩,
  ⟨some 118, some (110, true), .pick (.t 114) (.c (.bool true)) (.t 117)⟩,
  ⟨some 119, none, .pick (.t 110) (.t 118) (.c (.bool false))⟩,
  ⟨some 4, none, .mov (.t 119)⟩]
def zc7_11 : AC := .seq (.reg zr7_18) .ret
def zc7_12 : AC := .cond (.t 108) zc7_11 .skip
def zr7_19 : List AO := [⟨some 120, none, .mov (.t 14)⟩,
  ⟨some 121, none, .len (.t 120)⟩,
  ⟨some 122, none, .bin .gtr (.t 121) (.c (.int .i64 0))⟩,
  ⟨some 123, none, .mov (.t 122)⟩,
  ⟨some 124, some (123, false), .fadr 5 (.t 11)⟩,
  ⟨some 125, some (123, false), .load false 1 (.t 124)⟩,
  ⟨some 126, some (123, false), .len (.t 125)⟩,
  ⟨some 127, some (123, false), .fadr 5 (.t 9)⟩,
  ⟨some 128, some (123, false), .load false 1 (.t 127)⟩,
  ⟨some 129, some (123, false), .len (.t 128)⟩,
  ⟨some 130, some (123, false), .fadr 5 (.t 13)⟩,
  ⟨some 131, some (123, false), .load false 1 (.t 130)⟩,
  ⟨some 132, some (123, false), .len (.t 131)⟩,
  ⟨some 133, some (123, false), .bin .add (.t 129) (.t 132)⟩,
  ⟨some 134, some (123, false), .bin .neq (.t 126) (.t 133)⟩,
  ⟨some 135, none, .pick (.t 123) (.c (.bool true)) (.t 134)⟩]
def zr7_20 : List AO := [⟨some 4, none, .mov (.c (.bool false))⟩]
def zc7_13 : AC := .seq (.reg zr7_20) .ret
def zc7_14 : AC := .cond (.t 135) zc7_13 .skip
def zr7_21 : DT := (.alt false ⟨some 136, none, .mov (.t 5)⟩ (.alt false ⟨some 137, none, .mov (.t 136)⟩ (.pur ⟨some 138, some (137, true), .fadr 5 (.t 9)⟩ (.pur ⟨some 139, some (137, true), .load false 1 (.t 138)⟩ (.pur ⟨some 140, some (137, true), .fadr 5 (.t 11)⟩ (.pur ⟨some 141, some (137, true), .load false 1 (.t 140)⟩ (.alt false ⟨some 142, some (137, true), .fadr 5 (.t 9)⟩ (.alt false ⟨some 143, some (137, true), .load false 1 (.t 142)⟩ (.alt false ⟨some 144, some (137, true), .len (.t 143)⟩ (.alt false ⟨some 145, some (137, true), .slc 33 (.t 141) none (some (.t 144))⟩ (.alt false ⟨some 146, some (137, true), .callF 20 [(.t 139), (.t 145)]⟩ (.alt false ⟨some 147, none, .pick (.t 137) (.t 146) (.c (.bool false))⟩ (.alt false ⟨some 148, none, .mov (.t 147)⟩ (.pur ⟨some 149, some (148, true), .fadr 5 (.t 13)⟩ (.pur ⟨some 150, some (148, true), .load false 1 (.t 149)⟩ (.pur ⟨some 151, some (148, true), .fadr 5 (.t 11)⟩ (.pur ⟨some 152, some (148, true), .load false 1 (.t 151)⟩ (.alt false ⟨some 153, some (148, true), .fadr 5 (.t 9)⟩ (.alt false ⟨some 154, some (148, true), .load false 1 (.t 153)⟩ (.alt false ⟨some 155, some (148, true), .len (.t 154)⟩ (.alt false ⟨some 156, some (148, true), .slc 33 (.t 152) (some (.t 155)) none⟩ (.alt false ⟨some 157, some (148, true), .callF 20 [(.t 150), (.t 156)]⟩ (.alt false ⟨some 158, none, .pick (.t 148) (.t 157) (.c (.bool false))⟩ (.alt true ⟨some 4, none, .mov (.t 158)⟩ .done .stop) .stop) .stop) .stop) .stop) .stop) .stop))))) .stop) .stop) .stop) .stop) .stop) .stop) .stop))))) .stop) .stop)
def zc7_15 : AC := .seq (.regD zr7_21) .ret
def zc7_16 : AC := .seq (.seq (.reg zr7_19) zc7_14) zc7_15
def zc7_17 : AC := .seq (.seq (.reg zr7_17) zc7_12) zc7_16
def zc7_18 : AC := .seq (.reg zr7_16) zc7_17
def zc7_19 : AC := .seq (.reg zr7_15) zc7_18
def zc7_20 : AC := .seq (.reg zr7_14) zc7_19
def zc7_21 : AC := .seq (.reg zr7_13) zc7_20
def zc7_22 : AC := .seq (.seq (.reg zr7_8) zc7_10) zc7_21
def zc7_23 : AC := .seq (.reg zr7_7) zc7_22
def zc7_24 : AC := .seq (.regD zr7_6) zc7_23
def zc7_25 : AC := .seq (.reg zr7_5) zc7_24
def zc7_26 : AC := .seq (.seq (.reg zr7_3) zc7_1) zc7_25
def zc7_27 : AC := .seq (.reg zr7_2) zc7_26
def zc7_28 : AC := .seq (.reg zr7_1) zc7_27
def zc7_29 : AC := .seq (.reg zr7_0) zc7_28
def zc7 : AC := zc7_29
theorem ok7 : Try.f7.body.bind (compCode Try.prog 159) = some zc7 := by kernel_rfl
theorem nt7 : Try.f7.ntmps = 159 := by kernel_rfl
theorem res7 : compRes Try.prog Try.f7.results.toList = some [.tmp 4] := by kernel_rfl
def s7_k1 (N : Nat) (x3 : Bool) (x27 : Source × (List Fault)) (x30 : Source × (List Fault)) (x33 : Source × (List Fault)) (x36 : Bool) : Option Bool :=
  bif x36 then
    bif x3 then
      if (List.length x27.2 : Int) = 0 then
        some true
      else
        some (decide (0 < (List.length x30.2 : Int)))
    else
      some false
  else
    if 0 < (List.length x33.2 : Int) then
      some false
    else
      if (List.length x30.1.Items : Int) = IntKind.wrap .i64 ((List.length x27.1.Items : Int) + (List.length x33.1.Items : Int)) then
        bif x3 then
          grd ((List.length x27.1.Items : Int) ≤ (List.length x30.1.Items : Int)) <|
          (s20 N x27.1.Items (List.take (List.length x27.1.Items) x30.1.Items)).bind fun x44 =>
          bif x44 then
            (s20 N x33.1.Items (List.drop (List.length x27.1.Items) x30.1.Items)).bind fun x47 =>
            some x47
          else
            some false
        else
          some false
      else
        some false
def s7_k2 (N : Nat) (p1 : Source) (p2 : Item) (x3 : Bool) (l19 : List Item) : Option Bool :=
  grd ((List.length l19 + 1) * 368 ≤ 140737488355328 ∧ List.length l19 + 1 ≤ 140737488355328) <|
  (s11 N p1).bind fun x27 =>
  (s11 N ({ p1 with Items := p1.Items ++ ([{ p2 with Items := [] }]) })).bind fun x30 =>
  (s11 N ({ p1 with Items := l19 ++ ([{ p2 with Items := [] }]) })).bind fun x33 =>
  if 0 < (List.length x27.2 : Int) then
    s7_k1 N x3 x27 x30 x33 true
  else
    s7_k1 N x3 x27 x30 x33 (decide (0 < (List.length x30.2 : Int)))
def s7_b3 (N : Nat) (p1 : Source) (l50 : List Item) (x53 : Int) : Option ((((List Item) × Int) ⊕ ((List Item)))) :=
  if x53 < (List.length p1.Items : Int) then
    grd (0 ≤ x53) <|
    (s12 N ((p1.Items[x53.toNat]!).Kind)).bind fun x60 =>
    bif x60 then
      grd ((List.length l50 + 1) * 368 ≤ 140737488355328 ∧ List.length l50 + 1 ≤ 140737488355328) <|
      some (.inl (l50 ++ ([p1.Items[x53.toNat]!]), IntKind.wrap .i64 (x53 + 1)))
    else
      some (.inl (l50, IntKind.wrap .i64 (x53 + 1)))
  else
    some (.inr l50)
def s7_k4 (N : Nat) (p1 : Source) (p2 : Item) (x3 : Bool) : Option Bool :=
  (iter (fun p => s7_b3 N p1 p.1 p.2) N ([], 0)).bind fun a54 =>
  s7_k2 N p1 p2 x3 a54
def s7 (N : Nat) (p1 : Source) (p2 : Item) : Option Bool :=
  (s9 N).bind fun x3 =>
  (s10 N p1 200).bind fun x5 =>
  bif x5 then
    (s10 N ({ Name := [], From := ({ Year := 0, Month := 0, Day := 0 } : Civil), Days := 0, Items := [{ p2 with Items := [] }] } : Source) 1).bind fun x9 =>
    bif x9 then
      (s12 N p2.Kind).bind fun x12 =>
      bif x12 then
        some x3
      else
        grd (List.length p1.Items * 368 ≤ 140737488355328 ∧ List.length p1.Items ≤ 140737488355328) <|
        grd ((List.length p1.Items + 1) * 368 ≤ 140737488355328 ∧ List.length p1.Items + 1 ≤ 140737488355328) <|
        s7_k4 N p1 p2 x3
    else
      some x3
  else
    some x3
set_option maxHeartbeats 4000000 in
theorem c7 (N : Nat) (p1 : Source) (p2 : Item) (r : Bool) (h : s7 N p1 p2 = some r) : PureC Try.prog 7 [.agg (Source.cs p1), .agg (Item.cs p2)] (.bool r) := by
  refine fn_intro' 159 Try.func7 nt7 ok7 res7 (by simp) fun X hP hn hd hr => ?_
  unfold s7 at h
  repeat refine awp_seq ?_
  refine awp_reg fun K Q hK hQ => ?_
  simp -implicitDefEqProofs (disch := first | omega | rfl) only [go_sem, simprocAttr, zr7_0, argS]
  intro b1 b2
  refine hK _ _ ?_; clear hK hQ K Q
  repeat refine awp_seq ?_
  refine awp_reg fun K Q hK hQ => ?_
  simp -implicitDefEqProofs (disch := first | omega | rfl) only [go_sem, simprocAttr, zr7_1]
  have hh := bnd_some h; clear h; obtain ⟨x3, hx4, h⟩ := hh
  refine call_pure hP (c9 N  x3 hx4) ?_
  simp -implicitDefEqProofs (disch := first | omega | rfl) only [go_sem, simprocAttr]
  refine hK _ _ ?_; clear hK hQ K Q
  repeat refine awp_seq ?_
  refine awp_reg fun K Q hK hQ => ?_
  simp -implicitDefEqProofs (disch := first | omega | rfl) only [go_sem, simprocAttr, zr7_2, Item.cs_eq]
  refine hK _ _ ?_; clear hK hQ K Q
  repeat refine awp_seq ?_
  refine awp_reg fun K Q hK hQ => ?_
  simp -implicitDefEqProofs (disch := first | omega | rfl) only [go_sem, simprocAttr, zr7_3]
  have hh := bnd_some h; clear h; obtain ⟨x5, hx6, h⟩ := hh
  refine call_pure hP (c10 N p1 200 x5 hx6) ?_
  have hh := cnd_some h; clear h; rcases hh with ⟨hc7, h⟩ | ⟨hc7, h⟩
  · simp -implicitDefEqProofs (disch := first | omega | rfl) only [go_sem, simprocAttr, hc7]
    intro b8
    have hh := bnd_some h; clear h; obtain ⟨x9, hx10, h⟩ := hh
    refine call_pureF' hP (_ :: []) (_ :: _ :: []) (_ :: _ :: _ :: []) rfl (List.Perm.refl _) (.cons (by rw [Source.cs_eq]; exact .aggL (.cons (.keep _) (.cons (.keep _) (.cons (.keep _) (.cons (.keep _) (.cons (.keep _) (.cons (frz_rowP (f := Item.av) (fun _ => Item.avl) (by simp -implicitDefEqProofs (disch := first | omega | rfl) only [go_sem, simprocAttr]; first | done | rfl) (by rw [show flt Item.av _ = [.int .i64 p2.Kind, .str p2.Name, .int .i64 p2.At, .str p2.Of, .str p2.Act, .int .i64 p2.Word, .int .i64 p2.Times, .int .i64 p2.Within.Days, .bool p2.Within.Business, .str p2.Within.Name, .int .i64 p2.Grace.Days, .bool p2.Grace.Business, .str p2.Grace.Name, .sl (List.map Named.av p2.Conds), .str p2.By, .str p2.Until, .int .i64 p2.Num.Num, .int .i64 p2.Num.Den, .str p2.Unit, .str p2.Sum, .bool p2.Final, .str p2.Give, .str p2.To, .bool p2.Days.e0, .bool p2.Days.e1, .bool p2.Days.e2, .bool p2.Days.e3, .bool p2.Days.e4, .bool p2.Days.e5, .bool p2.Days.e6, .sl (List.map Civil.av p2.Dates), .sl (List.map AV.str p2.Names), .sl (List.map Item.av [])] from by simp only [flt, List.flatMap_cons, List.flatMap_nil, Item.av_eq, AV.cells, Item.cs_eq, List.cons_append, List.nil_append, List.append_nil]]; exact (.cons (.keep _) (.cons (.keep _) (.cons (.keep _) (.cons (.keep _) (.cons (.keep _) (.cons (.keep _) (.cons (.keep _) (.cons (.keep _) (.cons (.keep _) (.cons (.keep _) (.cons (.keep _) (.cons (.keep _) (.cons (.keep _) (.cons (.keep _) (.cons (.keep _) (.cons (.keep _) (.cons (.keep _) (.cons (.keep _) (.cons (.keep _) (.cons (.keep _) (.cons (.keep _) (.cons (.keep _) (.cons (.keep _) (.cons (.keep _) (.cons (.keep _) (.cons (.keep _) (.cons (.keep _) (.cons (.keep _) (.cons (.keep _) (.cons (.keep _) (.cons (.keep _) (.cons (.keep _) (.cons .nil (.nil _))))))))))))))))))))))))))))))))))) (by first | rfl | simp)) .nil))))))) (.cons (.keep _) .nil)) (c10 N ({ Name := [], From := ({ Year := 0, Month := 0, Day := 0 } : Civil), Days := 0, Items := [{ p2 with Items := [] }] } : Source) 1 x9 hx10) ?_
    have hh := cnd_some h; clear h; rcases hh with ⟨hc11, h⟩ | ⟨hc11, h⟩
    · simp -implicitDefEqProofs (disch := first | omega | rfl) only [go_sem, simprocAttr, hc11]
      have hh := bnd_some h; clear h; obtain ⟨x12, hx13, h⟩ := hh
      refine call_pure hP (c12 N p2.Kind x12 hx13) ?_
      simp -implicitDefEqProofs (disch := first | omega | rfl) only [go_sem, simprocAttr]
      refine hK _ _ ?_; clear hK hQ K Q
      have hh := cnd_some h; clear h; rcases hh with ⟨hc14, h⟩ | ⟨hc14, h⟩
      · repeat refine awp_seq ?_
        refine awp_then (by simp -implicitDefEqProofs (disch := first | omega | rfl) only [go_sem, simprocAttr, hc14]) ?_
        repeat refine awp_seq ?_
        refine awp_reg fun K Q hK hQ => ?_
        simp -implicitDefEqProofs (disch := first | omega | rfl) only [go_sem, simprocAttr, zr7_4]
        refine hK _ _ ?_; clear hK hQ K Q
        obtain rfl := som_inj h
        repeat refine awp_seq ?_
        refine awp_ret ?_
        repeat' (first | refine then_ret ?_ | refine blk_ret ?_)
        refine ret_q ?_
        simp -implicitDefEqProofs (disch := first | omega | rfl) only [go_sem, simprocAttr]
        first | exact leaves_none (by first | rfl | simp) | exact leaves_nil
      repeat refine awp_seq ?_
      refine awp_else (by simp -implicitDefEqProofs (disch := first | omega | rfl) only [go_sem, simprocAttr, hc14]) ?_
      repeat refine awp_seq ?_
      refine awp_skip ?_
      repeat refine awp_seq ?_
      refine awp_reg fun K Q hK hQ => ?_
      simp -implicitDefEqProofs (disch := first | omega | rfl) only [go_sem, simprocAttr, zr7_5, Civil.cs_eq]
      intro b15
      refine hK _ _ ?_; clear hK hQ K Q
      repeat refine awp_seq ?_
      refine awp_cut (ι := {p : (Option Nat) // s7_k4 N p1 p2 x3 = some r ∧ (p = none → (p1.Items ++ ([{ p2 with Items := [] }])) = [])}) (fun p => [(2, .ptr 2 b1 0), (3, .ptr 3 b2 0), (5, .bool x3), (6, .ptr 6 b15 0)]) (fun p => (2, b1, .cells (Source.cs p1)) :: (3, b2, .cells (Item.cs ({ p2 with Items := [] }))) :: (6, b15, .cells ([.str p1.Name, .int .i64 p1.From.Year, .int .i64 p1.From.Month, .int .i64 p1.From.Day, .int .i64 p1.Days, accV 501 p.1 (List.length (p1.Items ++ ([{ p2 with Items := [] }]))) 33])) :: accO 501 p.1 (flt Item.av (p1.Items ++ ([{ p2 with Items := [] }]))) []) ?_ ?_
      · repeat refine awp_seq ?_
        refine awp_le' (s' := [(2, .ptr 2 b1 0), (3, .ptr 3 b2 0), (5, .bool x3), (6, .ptr 6 b15 0)]) (own' := (6, b15, .cells ([.str p1.Name, .int .i64 p1.From.Year, .int .i64 p1.From.Month, .int .i64 p1.From.Day, .int .i64 p1.Days, .nil])) :: (3, b2, .cells (Item.cs ({ p2 with Items := [] }))) :: (2, b1, .cells (Source.cs p1)) :: []) ([]) (_ :: _ :: _ :: []) (_ :: _ :: _ :: []) rfl (List.Perm.refl _) ?_ ?_ ?_
        · simp -implicitDefEqProofs (disch := first | omega | rfl) only [go_sem, simprocAttr, subF_cons, subF_nil]
          exact ⟨(.lptr ..), (.lptr ..), (.keep _), (.lptr ..)⟩
        · exact (.cell (.cells (by rw [Item.cs_eq]; exact (.cons (.keep _) (.cons (.keep _) (.cons (.keep _) (.cons (.keep _) (.cons (.keep _) (.cons (.keep _) (.cons (.keep _) (.cons (.keep _) (.cons (.keep _) (.cons (.keep _) (.cons (.keep _) (.cons (.keep _) (.cons (.keep _) (.cons (.keep _) (.cons (.keep _) (.cons (.keep _) (.cons (.keep _) (.cons (.keep _) (.cons (.keep _) (.cons (.keep _) (.cons (.keep _) (.cons (.keep _) (.cons (.keep _) (.cons (.keep _) (.cons (.keep _) (.cons (.keep _) (.cons (.keep _) (.cons (.keep _) (.cons (.keep _) (.cons (.keep _) (.cons (.keep _) (.cons (.keep _) (.cons .nil (.nil _))))))))))))))))))))))))))))))))))) (.cell .nil)))
        repeat refine awp_seq ?_
        refine awp_regD' (_ :: _ :: _ :: []) ([]) (_ :: _ :: _ :: []) (by rw [hP]; exact mixed) rfl (List.Perm.refl _) fun K hK => ?_
        simp -implicitDefEqProofs (disch := first | omega | rfl) only [go_sem, simprocAttr, zr7_6]
        refine runT_alts ⟨?_, ?_⟩
        · have hh := grd_some h; clear h; obtain ⟨⟨hg73, hg74⟩, h⟩ := hh
          simp -implicitDefEqProofs (disch := first | omega | rfl) only [go_sem, simprocAttr, eq_true hg73, eq_true hg74]
          refine app_niln ?_
          simp -implicitDefEqProofs (disch := first | omega | rfl) only [go_sem, simprocAttr, eq_true hg73, eq_true hg74]
          intro bo75 hb76
          have hh := grd_some h; clear h; obtain ⟨⟨hg78, hg79⟩, h⟩ := hh
          try simp -implicitDefEqProofs (disch := first | omega | rfl) only [go_sem, simprocAttr, eq_true hg78, eq_true hg79]
          intro b77
          refine app_acc (f := Item.av) (l := p1.Items) ((46, b77, .cells (Item.cs ({ p2 with Items := [] }))) :: []) (fun h => List.length_eq_zero_iff.1 (by simpa using hb76 h)) (by first | rfl | simp) (fun _ => Item.avl) (by intro b hb; subst hb; simp -implicitDefEqProofs (disch := first | omega | rfl) only [go_sem, simprocAttr]) (by intro b hb; subst hb; simp -implicitDefEqProofs (disch := first | omega | rfl) only [go_sem, simprocAttr]) (by intro hb; subst hb; simp -implicitDefEqProofs (disch := first | omega | rfl) only [go_sem, simprocAttr]) ?_
          simp -implicitDefEqProofs (disch := first | omega | rfl) only [go_sem, simprocAttr, eq_true hg78, eq_true hg79]
          intro bo80 hb81
          try simp -implicitDefEqProofs (disch := first | omega | rfl) only [go_sem, simprocAttr]
          refine hK _ _ ?_; clear hK K
          refine ⟨⟨bo80, h, (fun h => List.length_eq_zero_iff.1 (by simpa using hb81 h))⟩, ?_⟩
          refine ent_le' ([]) (_ :: _ :: _ :: accO _ _ _ (_ :: [])) (_ :: _ :: _ :: accO _ _ _ (_ :: [])) rfl (List.Perm.trans (List.Perm.cons _ perm_cc) (List.Perm.trans perm_cc ((List.Perm.cons _ (List.Perm.trans perm_cc (List.Perm.refl _)))))) ?_ ?_
          · simp -implicitDefEqProofs (disch := first | omega | rfl) only [go_sem, simprocAttr, subF_cons, subF_nil]
            exact ⟨(.lptr ..), (.lptr ..), (.keep _), (.lptr ..)⟩
          · exact (.cell (.cell (.cells (.cons (.keep _) (.cons (.keep _) (.cons (.keep _) (.cons (.keep _) (.cons (.keep _) (.cons (frz_lacc (by first | rfl | (simp; done) | ((try simp only [List.length_set, List.length_take]); omega))) (.nil _))))))) (.acc (FrzP.refl _ _) (.drop .nil)))))
        have hh := grd_some h; clear h; obtain ⟨⟨hg83, hg84⟩, h⟩ := hh
        simp -implicitDefEqProofs (disch := first | omega | rfl) only [go_sem, simprocAttr, eq_true hg83, eq_true hg84]
        intro b82
        refine app_niln ?_
        simp -implicitDefEqProofs (disch := first | omega | rfl) only [go_sem, simprocAttr, eq_true hg83, eq_true hg84]
        intro bo85 hb86
        have hh := grd_some h; clear h; obtain ⟨⟨hg87, hg88⟩, h⟩ := hh
        try simp -implicitDefEqProofs (disch := first | omega | rfl) only [go_sem, simprocAttr, eq_true hg87, eq_true hg88]
        refine app_acc (f := Item.av) (l := p1.Items) ((46, b82, .cells (Item.cs ({ p2 with Items := [] }))) :: []) (fun h => List.length_eq_zero_iff.1 (by simpa using hb86 h)) (by first | rfl | simp) (fun _ => Item.avl) (by intro b hb; subst hb; simp -implicitDefEqProofs (disch := first | omega | rfl) only [go_sem, simprocAttr]) (by intro b hb; subst hb; simp -implicitDefEqProofs (disch := first | omega | rfl) only [go_sem, simprocAttr]) (by intro hb; subst hb; simp -implicitDefEqProofs (disch := first | omega | rfl) only [go_sem, simprocAttr]) ?_
        simp -implicitDefEqProofs (disch := first | omega | rfl) only [go_sem, simprocAttr, eq_true hg87, eq_true hg88]
        intro bo89 hb90
        try simp -implicitDefEqProofs (disch := first | omega | rfl) only [go_sem, simprocAttr]
        refine hK _ _ ?_; clear hK K
        refine ⟨⟨bo89, h, (fun h => List.length_eq_zero_iff.1 (by simpa using hb90 h))⟩, ?_⟩
        refine ent_le' ([]) (_ :: _ :: _ :: accO _ _ _ (_ :: [])) (_ :: _ :: _ :: accO _ _ _ (_ :: [])) rfl (List.Perm.trans (List.Perm.cons _ perm_cc) (List.Perm.trans perm_cc ((List.Perm.cons _ (List.Perm.trans perm_cc (List.Perm.refl _)))))) ?_ ?_
        · simp -implicitDefEqProofs (disch := first | omega | rfl) only [go_sem, simprocAttr, subF_cons, subF_nil]
          exact ⟨(.lptr ..), (.lptr ..), (.keep _), (.lptr ..)⟩
        · exact (.cell (.cell (.cells (.cons (.keep _) (.cons (.keep _) (.cons (.keep _) (.cons (.keep _) (.cons (.keep _) (.cons (frz_lacc (by first | rfl | (simp; done) | ((try simp only [List.length_set, List.length_take]); omega))) (.nil _))))))) (.acc (FrzP.refl _ _) (.drop .nil)))))
      rintro ⟨bo16, h, hb17⟩
      try dsimp only at h hb17
      try dsimp only
      repeat refine awp_seq ?_
      refine awp_reg fun K Q hK hQ => ?_
      simp -implicitDefEqProofs (disch := first | omega | rfl) only [go_sem, simprocAttr, zr7_7, Civil.cs_eq]
      intro b18
      refine hK _ _ ?_; clear hK hQ K Q
      repeat refine awp_seq ?_
      refine awp_reg fun K Q hK hQ => ?_
      simp -implicitDefEqProofs (disch := first | omega | rfl) only [go_sem, simprocAttr, zr7_8]
      refine hK _ _ ?_; clear hK hQ K Q
      repeat refine awp_seq ?_
      refine awp_cut (ι := {p : (List Item) × (Option Nat) // s7_k2 N p1 p2 x3 p.1 = some r ∧ (p.2 = none → p.1 = [])}) (fun p => [(2, .ptr 2 b1 0), (3, .ptr 3 b2 0), (5, .bool x3), (6, .ptr 6 b15 0), (7, .ptr 7 b18 0)]) (fun p => (2, b1, .cells (Source.cs p1)) :: (3, b2, .cells (Item.cs ({ p2 with Items := [] }))) :: (6, b15, .cells ([.str p1.Name, .int .i64 p1.From.Year, .int .i64 p1.From.Month, .int .i64 p1.From.Day, .int .i64 p1.Days, accV 501 bo16 (List.length (p1.Items ++ ([{ p2 with Items := [] }]))) 33])) :: accO 501 bo16 (flt Item.av (p1.Items ++ ([{ p2 with Items := [] }]))) ((7, b18, .cells ([.str p1.Name, .int .i64 p1.From.Year, .int .i64 p1.From.Month, .int .i64 p1.From.Day, .int .i64 p1.Days, accV 502 p.1.2 (List.length p.1.1) 33])) :: accO 502 p.1.2 (flt Item.av p.1.1) [])) ?_ ?_
      · repeat refine awp_seq ?_
        refine awp_block ?_
        obtain ⟨o54, ho54, hO54⟩ := bnd_some h
        repeat refine awp_seq ?_
        refine awp_loop (ι := {p : Nat × (List Item) × (Option Nat) × Int // iter (fun p => s7_b3 N p1 p.1 p.2) p.1 (p.2.1, p.2.2.2) = some o54 ∧ (p.2.2.1 = none → p.2.1 = [])}) (fun p => [(2, .ptr 2 b1 0), (3, .ptr 3 b2 0), (5, .bool x3), (6, .ptr 6 b15 0), (7, .ptr 7 b18 0), (8, .int .i64 p.1.2.2.2)]) (fun p => (2, b1, .cells (Source.cs p1)) :: (3, b2, .cells (Item.cs ({ p2 with Items := [] }))) :: (6, b15, .cells ([.str p1.Name, .int .i64 p1.From.Year, .int .i64 p1.From.Month, .int .i64 p1.From.Day, .int .i64 p1.Days, accV 501 bo16 (List.length (p1.Items ++ ([{ p2 with Items := [] }]))) 33])) :: accO 501 bo16 (flt Item.av (p1.Items ++ ([{ p2 with Items := [] }]))) ((7, b18, .cells ([.str p1.Name, .int .i64 p1.From.Year, .int .i64 p1.From.Month, .int .i64 p1.From.Day, .int .i64 p1.Days, accV 503 p.1.2.2.1 (List.length p.1.2.1) 33])) :: accO 503 p.1.2.2.1 (flt Item.av p.1.2.1) [])) (fun p => p.1.1) ⟨⟨N, [], none, 0⟩, ho54, (fun _ => rfl)⟩ ?_ ?_
        · refine ent_le' ([]) (_ :: _ :: _ :: accO _ _ _ (_ :: [])) (_ :: _ :: _ :: accO _ _ _ (_ :: [])) rfl (List.Perm.trans perm_cc ((List.Perm.cons _ (List.Perm.trans perm_cc ((List.Perm.cons _ (List.Perm.trans perm_cc ((List.Perm.cons _ (List.Perm.trans perm_ca (List.Perm.refl _))))))))))) ?_ ?_
          · simp -implicitDefEqProofs (disch := first | omega | rfl) only [go_sem, simprocAttr, subF_cons, subF_nil]
            exact ⟨(.lptr ..), (.lptr ..), (.keep _), (.lptr ..), (.lptr ..), (.keep _)⟩
          · exact (.cell (.cell (.cell (.acc (FrzP.refl _ _) (.cells (.cons (.keep _) (.cons (.keep _) (.cons (.keep _) (.cons (.keep _) (.cons (.keep _) (.cons (.keep _) (.nil _))))))) .nil)))))
        rintro ⟨⟨n54, l50, bo51, x53⟩, hi54, hb52⟩
        obtain ⟨m54, q54, rfl, h, hm54⟩ := iter_some hi54
        try dsimp only at h
        try dsimp only
        unfold s7_b3 at h
        repeat refine awp_seq ?_
        refine awp_reg fun K Q hK hQ => ?_
        simp -implicitDefEqProofs (disch := first | omega | rfl) only [go_sem, simprocAttr, zr7_9]
        refine hK _ _ ?_; clear hK hQ K Q
        have hh := ite_some h; clear h; rcases hh with ⟨hc58, h⟩ | ⟨hc58, h⟩
        · repeat refine awp_seq ?_
          refine awp_then (by simp -implicitDefEqProofs (disch := first | omega | rfl) only [go_sem, simprocAttr, eq_true hc58]) ?_
          repeat refine awp_seq ?_
          refine awp_skip ?_
          repeat refine awp_seq ?_
          refine awp_block ?_
          repeat refine awp_seq ?_
          refine awp_reg fun K Q hK hQ => ?_
          have hh := grd_some h; clear h; obtain ⟨hg59, h⟩ := hh
          simp -implicitDefEqProofs (disch := first | omega | rfl) only [go_sem, simprocAttr, zr7_10, eq_true hc58, eq_true hg59]
          have hh := bnd_some h; clear h; obtain ⟨x60, hx61, h⟩ := hh
          refine call_pure hP (c12 N ((p1.Items[x53.toNat]!).Kind) x60 hx61) ?_
          simp -implicitDefEqProofs (disch := first | omega | rfl) only [go_sem, simprocAttr]
          refine hK _ _ ?_; clear hK hQ K Q
          have hh := cnd_some h; clear h; rcases hh with ⟨hc62, h⟩ | ⟨hc62, h⟩
          · repeat refine awp_seq ?_
            refine awp_then (by simp -implicitDefEqProofs (disch := first | omega | rfl) only [go_sem, simprocAttr, hc62]) ?_
            repeat refine awp_seq ?_
            refine awp_regD' (_ :: _ :: _ :: accO _ _ _ (_ :: [])) (accO _ _ _ []) (_ :: _ :: _ :: accO _ _ _ (_ :: accO _ _ _ [])) (by rw [hP]; exact mixed) (by first | rfl | (simp only [accO_app, List.cons_append, List.nil_append]; rfl) | simp only [accO_app, List.cons_append, List.nil_append]) (List.Perm.refl _) fun K hK => ?_
            have hh := grd_some h; clear h; obtain ⟨⟨hg64, hg65⟩, h⟩ := hh
            simp -implicitDefEqProofs (disch := first | omega | rfl) only [go_sem, simprocAttr, zr7_11, eq_true hg59, eq_true hc58, eq_true hg64, eq_true hg65]
            intro b63
            refine app_acc (f := Item.av) (l := l50) ((77, b63, .cells (Item.cs (p1.Items[x53.toNat]!))) :: []) hb52 (by first | rfl | simp) (fun _ => Item.avl) (by intro b hb; subst hb; simp -implicitDefEqProofs (disch := first | omega | rfl) only [go_sem, simprocAttr]) (by intro b hb; subst hb; simp -implicitDefEqProofs (disch := first | omega | rfl) only [go_sem, simprocAttr]) (by intro hb; subst hb; simp -implicitDefEqProofs (disch := first | omega | rfl) only [go_sem, simprocAttr]) ?_
            simp -implicitDefEqProofs (disch := first | omega | rfl) only [go_sem, simprocAttr, eq_true hg64, eq_true hg65]
            intro bo66 hb67
            try simp -implicitDefEqProofs (disch := first | omega | rfl) only [go_sem, simprocAttr]
            refine hK _ _ ?_; clear hK K
            repeat refine awp_seq ?_
            refine awp_reg fun K Q hK hQ => ?_
            simp -implicitDefEqProofs (disch := first | omega | rfl) only [go_sem, simprocAttr, zr7_12]
            refine hK _ _ ?_; clear hK hQ K Q
            obtain rfl := som_inj h
            try dsimp only at hm54
            refine ⟨⟨⟨m54, l50 ++ ([p1.Items[x53.toNat]!]), bo66, IntKind.wrap .i64 (x53 + 1)⟩, hm54, (fun h => List.length_eq_zero_iff.1 (by simpa using hb67 h))⟩, Nat.lt_succ_self _, ?_⟩
            refine ent_le' ([]) (_ :: _ :: _ :: accO _ _ _ (_ :: accO _ _ _ (_ :: []))) (_ :: _ :: _ :: accO _ _ _ (_ :: accO _ _ _ (_ :: []))) rfl (List.Perm.refl _) ?_ ?_
            · simp -implicitDefEqProofs (disch := first | omega | rfl) only [go_sem, simprocAttr, subF_cons, subF_nil]
              exact ⟨(.lptr ..), (.lptr ..), (.keep _), (.lptr ..), (.lptr ..), (.keep _)⟩
            · exact (.cell (.cell (.cell (.acc (FrzP.refl _ _) (.cells (.cons (.keep _) (.cons (.keep _) (.cons (.keep _) (.cons (.keep _) (.cons (.keep _) (.cons (frz_lacc (by first | rfl | (simp; done) | ((try simp only [List.length_set, List.length_take]); omega))) (.nil _))))))) (.acc (FrzP.of_eq (by first | rfl | simp only [flt_app, flt_one, List.append_assoc])) (.drop .nil)))))))
          repeat refine awp_seq ?_
          refine awp_else (by simp -implicitDefEqProofs (disch := first | omega | rfl) only [go_sem, simprocAttr, hc62]) ?_
          repeat refine awp_seq ?_
          refine awp_skip ?_
          repeat refine awp_seq ?_
          refine awp_reg fun K Q hK hQ => ?_
          simp -implicitDefEqProofs (disch := first | omega | rfl) only [go_sem, simprocAttr, zr7_12]
          refine hK _ _ ?_; clear hK hQ K Q
          obtain rfl := som_inj h
          try dsimp only at hm54
          refine ⟨⟨⟨m54, l50, bo51, IntKind.wrap .i64 (x53 + 1)⟩, hm54, hb52⟩, Nat.lt_succ_self _, ?_⟩
          refine ent_le' ([]) (_ :: _ :: _ :: accO _ _ _ (_ :: accO _ _ _ [])) (_ :: _ :: _ :: accO _ _ _ (_ :: accO _ _ _ [])) rfl (List.Perm.refl _) ?_ ?_
          · simp -implicitDefEqProofs (disch := first | omega | rfl) only [go_sem, simprocAttr, subF_cons, subF_nil]
            exact ⟨(.lptr ..), (.lptr ..), (.keep _), (.lptr ..), (.lptr ..), (.keep _)⟩
          · exact (.cell (.cell (.cell (.acc (FrzP.refl _ _) (.cell (.acc (FrzP.refl _ _) .nil))))))
        repeat refine awp_seq ?_
        refine awp_else (by simp -implicitDefEqProofs (disch := first | omega | rfl) only [go_sem, simprocAttr, eq_false hc58]) ?_
        repeat refine awp_seq ?_
        refine awp_exit ?_
        repeat' (first | refine then_exit ?_ | refine exit_here ?_ | refine exit_on rfl ?_)
        obtain rfl := som_inj h
        try dsimp only at hm54
        subst hm54
        try dsimp only at hO54
        refine ⟨⟨⟨l50, bo51⟩, hO54, hb52⟩, ?_⟩
        refine ent_le' ([]) (_ :: _ :: _ :: accO _ _ _ (_ :: accO _ _ _ [])) (_ :: _ :: _ :: accO _ _ _ (_ :: accO _ _ _ [])) rfl (List.Perm.refl _) ?_ ?_
        · simp -implicitDefEqProofs (disch := first | omega | rfl) only [go_sem, simprocAttr, subF_cons, subF_nil]
          exact ⟨(.lptr ..), (.lptr ..), (.keep _), (.lptr ..), (.lptr ..)⟩
        · exact (.cell (.cell (.cell (.acc (FrzP.refl _ _) (.cells (.cons (.keep _) (.cons (.keep _) (.cons (.keep _) (.cons (.keep _) (.cons (.keep _) (.cons (frz_lacc (by first | rfl | (simp; done) | ((try simp only [List.length_set, List.length_take]); omega))) (.nil _))))))) (.acc (FrzP.of_eq (by first | rfl | simp only [flt_app, flt_one, List.append_assoc])) .nil))))))
      rintro ⟨⟨l19, bo20⟩, h, hb21⟩
      try dsimp only at h hb21
      try dsimp only
      repeat refine awp_seq ?_
      refine awp_reg fun K Q hK hQ => ?_
      have hh := grd_some h; clear h; obtain ⟨⟨hg23, hg24⟩, h⟩ := hh
      simp -implicitDefEqProofs (disch := first | omega | rfl) only [go_sem, simprocAttr, zr7_13, eq_true hg23, eq_true hg24]
      intro b22
      refine app_acc (f := Item.av) (l := l19) ((83, b22, .cells (Item.cs ({ p2 with Items := [] }))) :: (2, b1, .cells (Source.cs p1)) :: (3, b2, .cells (Item.cs ({ p2 with Items := [] }))) :: (6, b15, .cells ([.str p1.Name, .int .i64 p1.From.Year, .int .i64 p1.From.Month, .int .i64 p1.From.Day, .int .i64 p1.Days, accV 501 bo16 (List.length (p1.Items ++ ([{ p2 with Items := [] }]))) 33])) :: accO 501 bo16 (flt Item.av (p1.Items ++ ([{ p2 with Items := [] }]))) ((7, b18, .cells ([.str p1.Name, .int .i64 p1.From.Year, .int .i64 p1.From.Month, .int .i64 p1.From.Day, .int .i64 p1.Days, accV 502 bo20 (List.length l19) 33])) :: [])) hb21 (by first | rfl | simp) (fun _ => Item.avl) (by intro b hb; subst hb; simp -implicitDefEqProofs (disch := first | omega | rfl) only [go_sem, simprocAttr]) (by intro b hb; subst hb; simp -implicitDefEqProofs (disch := first | omega | rfl) only [go_sem, simprocAttr]) (by intro hb; subst hb; simp -implicitDefEqProofs (disch := first | omega | rfl) only [go_sem, simprocAttr]) ?_
      simp -implicitDefEqProofs (disch := first | omega | rfl) only [go_sem, simprocAttr, eq_true hg23, eq_true hg24]
      intro bo25 hb26
      try simp -implicitDefEqProofs (disch := first | omega | rfl) only [go_sem, simprocAttr]
      refine hK _ _ ?_; clear hK hQ K Q
      repeat refine awp_seq ?_
      refine awp_reg fun K Q hK hQ => ?_
      simp -implicitDefEqProofs (disch := first | omega | rfl) only [go_sem, simprocAttr, zr7_14]
      have hh := bnd_some h; clear h; obtain ⟨x27, hx28, h⟩ := hh
      refine call_pure hP (c11 N p1 x27 hx28) ?_
      simp -implicitDefEqProofs (disch := first | omega | rfl) only [go_sem, simprocAttr]
      intro b29
      refine hK _ _ ?_; clear hK hQ K Q
      repeat refine awp_seq ?_
      refine awp_reg fun K Q hK hQ => ?_
      simp -implicitDefEqProofs (disch := first | omega | rfl) only [go_sem, simprocAttr, zr7_15]
      have hh := bnd_some h; clear h; obtain ⟨x30, hx31, h⟩ := hh
      refine call_pureF' hP (accO _ _ _ []) (_ :: accO _ _ _ (_ :: _ :: _ :: _ :: _ :: [])) (accO _ _ _ (_ :: accO _ _ _ (_ :: _ :: _ :: _ :: _ :: []))) (by first | rfl | (simp only [accO_app, List.cons_append, List.nil_append]; rfl) | simp only [accO_app, List.cons_append, List.nil_append]) (List.Perm.trans ((List.Perm.cons _ ((perm_ha ((List.Perm.cons _ (List.Perm.cons _ (List.Perm.cons _ perm_ca)))))))) (List.Perm.trans ((List.Perm.cons _ ((perm_ha (List.Perm.cons _ (List.Perm.cons _ perm_ca)))))) (List.Perm.trans ((List.Perm.cons _ (perm_ha (List.Perm.cons _ perm_ca)))) (List.Perm.trans (List.Perm.cons _ (perm_ha perm_ca)) (List.Perm.trans (List.Perm.cons _ perm_aa) (List.Perm.trans perm_ca (List.Perm.refl _))))))) (.cons (by rw [Source.cs_eq]; exact .aggL (.cons (.keep _) (.cons (.keep _) (.cons (.keep _) (.cons (.keep _) (.cons (.keep _) (.cons (frz_acc (fun _ => Item.avl) hb17 (by intro b hb; subst hb; simp -implicitDefEqProofs (disch := first | omega | rfl) only [go_sem, simprocAttr]) (by first | rfl | (simp; done) | ((try simp only [List.length_set, List.length_take]); omega))) .nil))))))) .nil) (c11 N ({ p1 with Items := p1.Items ++ ([{ p2 with Items := [] }]) }) x30 hx31) ?_
      simp -implicitDefEqProofs (disch := first | omega | rfl) only [go_sem, simprocAttr]
      intro b32
      refine hK _ _ ?_; clear hK hQ K Q
      repeat refine awp_seq ?_
      refine awp_reg fun K Q hK hQ => ?_
      simp -implicitDefEqProofs (disch := first | omega | rfl) only [go_sem, simprocAttr, zr7_16]
      have hh := bnd_some h; clear h; obtain ⟨x33, hx34, h⟩ := hh
      refine call_pureF' hP (accO _ _ _ []) (_ :: _ :: _ :: _ :: _ :: _ :: _ :: []) (accO _ _ _ (_ :: _ :: _ :: _ :: _ :: _ :: _ :: [])) (by first | rfl | (simp only [accO_app, List.cons_append, List.nil_append]; rfl) | simp only [accO_app, List.cons_append, List.nil_append]) (List.Perm.trans (List.Perm.cons _ perm_ca) (List.Perm.trans perm_ca (List.Perm.refl _))) (.cons (by rw [Source.cs_eq]; exact .aggL (.cons (.keep _) (.cons (.keep _) (.cons (.keep _) (.cons (.keep _) (.cons (.keep _) (.cons (frz_acc (fun _ => Item.avl) (fun h => List.length_eq_zero_iff.1 (by simpa using hb26 h)) (by intro b hb; subst hb; simp -implicitDefEqProofs (disch := first | omega | rfl) only [go_sem, simprocAttr]) (by first | rfl | (simp; done) | ((try simp only [List.length_set, List.length_take]); omega))) .nil))))))) .nil) (c11 N ({ p1 with Items := l19 ++ ([{ p2 with Items := [] }]) }) x33 hx34) ?_
      simp -implicitDefEqProofs (disch := first | omega | rfl) only [go_sem, simprocAttr]
      intro b35
      refine hK _ _ ?_; clear hK hQ K Q
      repeat refine awp_seq ?_
      refine awp_cut (ι := {p : Bool // s7_k1 N x3 x27 x30 x33 p = some r}) (fun p => [(5, .bool x3), (9, .ptr 9 b29 0), (10, .sl (List.map Fault.av x27.2)), (11, .ptr 11 b32 0), (12, .sl (List.map Fault.av x30.2)), (13, .ptr 13 b35 0), (14, .sl (List.map Fault.av x33.2)), (108, .bool p.1)]) (fun p => (9, b29, .cells (Source.cs x27.1)) :: (11, b32, .cells (Source.cs x30.1)) :: (13, b35, .cells (Source.cs x33.1)) :: []) ?_ ?_
      · repeat refine awp_seq ?_
        refine awp_reg fun K Q hK hQ => ?_
        have hh := ite_some h; clear h; rcases hh with ⟨hc49, h⟩ | ⟨hc49, h⟩
        · simp -implicitDefEqProofs (disch := first | omega | rfl) only [go_sem, simprocAttr, zr7_17, eq_true hc49]
          first | refine hK _ _ ?_ | (refine ⟨by assumption, ?_⟩; refine hK _ _ ?_)
          clear hK hQ K Q
          refine ⟨⟨true, h⟩, ?_⟩
          refine ent_le' ([]) (_ :: _ :: _ :: _ :: _ :: _ :: _ :: _ :: []) (_ :: _ :: _ :: _ :: _ :: _ :: _ :: _ :: []) rfl (List.Perm.trans (List.Perm.cons _ perm_cc) (List.Perm.trans perm_cc ((List.Perm.cons _ (List.Perm.trans perm_cc (List.Perm.refl _)))))) ?_ ?_
          · simp -implicitDefEqProofs (disch := first | omega | rfl) only [go_sem, simprocAttr, subF_cons, subF_nil]
            exact ⟨(.keep _), (.lptr ..), (.keep _), (.lptr ..), (.keep _), (.lptr ..), (.keep _), (.keep _)⟩
          · exact (.cell (.cell (.cell (.drop (.drop (.drop (.drop (.drop .nil))))))))
        simp -implicitDefEqProofs (disch := first | omega | rfl) only [go_sem, simprocAttr, zr7_17, eq_false hc49]
        first | refine hK _ _ ?_ | (refine ⟨by assumption, ?_⟩; refine hK _ _ ?_)
        clear hK hQ K Q
        refine ⟨⟨decide (0 < (List.length x30.2 : Int)), h⟩, ?_⟩
        refine ent_le' ([]) (_ :: _ :: _ :: _ :: _ :: _ :: _ :: _ :: []) (_ :: _ :: _ :: _ :: _ :: _ :: _ :: _ :: []) rfl (List.Perm.trans (List.Perm.cons _ perm_cc) (List.Perm.trans perm_cc ((List.Perm.cons _ (List.Perm.trans perm_cc (List.Perm.refl _)))))) ?_ ?_
        · simp -implicitDefEqProofs (disch := first | omega | rfl) only [go_sem, simprocAttr, subF_cons, subF_nil]
          exact ⟨(.keep _), (.lptr ..), (.keep _), (.lptr ..), (.keep _), (.lptr ..), (.keep _), (.keep _)⟩
        · exact (.cell (.cell (.cell (.drop (.drop (.drop (.drop (.drop .nil))))))))
      rintro ⟨x36, h⟩
      try dsimp only at h
      try dsimp only
      have hh := cnd_some h; clear h; rcases hh with ⟨hc37, h⟩ | ⟨hc37, h⟩
      · repeat refine awp_seq ?_
        refine awp_then (by simp -implicitDefEqProofs (disch := first | omega | rfl) only [go_sem, simprocAttr, hc37]) ?_
        repeat refine awp_seq ?_
        refine awp_reg fun K Q hK hQ => ?_
        have hh := cnd_some h; clear h; rcases hh with ⟨hc38, h⟩ | ⟨hc38, h⟩
        · have hh := ite_some h; clear h; rcases hh with ⟨hc39, h⟩ | ⟨hc39, h⟩
          · simp -implicitDefEqProofs (disch := first | omega | rfl) only [go_sem, simprocAttr, zr7_18, hc38, eq_true hc39]
            refine hK _ _ ?_; clear hK hQ K Q
            obtain rfl := som_inj h
            repeat refine awp_seq ?_
            refine awp_ret ?_
            repeat' (first | refine then_ret ?_ | refine blk_ret ?_)
            refine ret_q ?_
            simp -implicitDefEqProofs (disch := first | omega | rfl) only [go_sem, simprocAttr]
            first | exact leaves_none (by first | rfl | simp) | exact leaves_nil
          simp -implicitDefEqProofs (disch := first | omega | rfl) only [go_sem, simprocAttr, zr7_18, hc38, eq_false hc39]
          refine hK _ _ ?_; clear hK hQ K Q
          obtain rfl := som_inj h
          repeat refine awp_seq ?_
          refine awp_ret ?_
          repeat' (first | refine then_ret ?_ | refine blk_ret ?_)
          refine ret_q ?_
          simp -implicitDefEqProofs (disch := first | omega | rfl) only [go_sem, simprocAttr]
          first | exact leaves_none (by first | rfl | simp) | exact leaves_nil
        simp -implicitDefEqProofs (disch := first | omega | rfl) only [go_sem, simprocAttr, zr7_18, hc38]
        refine hK _ _ ?_; clear hK hQ K Q
        obtain rfl := som_inj h
        repeat refine awp_seq ?_
        refine awp_ret ?_
        repeat' (first | refine then_ret ?_ | refine blk_ret ?_)
        refine ret_q ?_
        simp -implicitDefEqProofs (disch := first | omega | rfl) only [go_sem, simprocAttr]
        first | exact leaves_none (by first | rfl | simp) | exact leaves_nil
      repeat refine awp_seq ?_
      refine awp_else (by simp -implicitDefEqProofs (disch := first | omega | rfl) only [go_sem, simprocAttr, hc37]) ?_
      repeat refine awp_seq ?_
      refine awp_skip ?_
      repeat refine awp_seq ?_
      refine awp_reg fun K Q hK hQ => ?_
      have hh := ite_some h; clear h; rcases hh with ⟨hc40, h⟩ | ⟨hc40, h⟩
      · simp -implicitDefEqProofs (disch := first | omega | rfl) only [go_sem, simprocAttr, zr7_19, eq_true hc40]
        first | refine hK _ _ ?_ | (refine ⟨by assumption, ?_⟩; refine hK _ _ ?_)
        clear hK hQ K Q
        repeat refine awp_seq ?_
        refine awp_then (by rfl) ?_
        repeat refine awp_seq ?_
        refine awp_reg fun K Q hK hQ => ?_
        simp -implicitDefEqProofs (disch := first | omega | rfl) only [go_sem, simprocAttr, zr7_20]
        refine hK _ _ ?_; clear hK hQ K Q
        obtain rfl := som_inj h
        repeat refine awp_seq ?_
        refine awp_ret ?_
        repeat' (first | refine then_ret ?_ | refine blk_ret ?_)
        refine ret_q ?_
        simp -implicitDefEqProofs (disch := first | omega | rfl) only [go_sem, simprocAttr]
        first | exact leaves_none (by first | rfl | simp) | exact leaves_nil
      simp -implicitDefEqProofs (disch := first | omega | rfl) only [go_sem, simprocAttr, zr7_19, eq_false hc40]
      first | refine hK _ _ ?_ | (refine ⟨by assumption, ?_⟩; refine hK _ _ ?_)
      clear hK hQ K Q
      have hh := ite_some h; clear h; rcases hh with ⟨hc41, h⟩ | ⟨hc41, h⟩
      · repeat refine awp_seq ?_
        refine awp_else (by simp -implicitDefEqProofs (disch := first | omega | rfl) only [go_sem, simprocAttr, eq_true hc41]) ?_
        repeat refine awp_seq ?_
        refine awp_skip ?_
        repeat refine awp_seq ?_
        refine awp_regD' (_ :: _ :: _ :: []) ([]) (_ :: _ :: _ :: []) (by rw [hP]; exact mixed) rfl (List.Perm.refl _) fun K hK => ?_
        have hh := cnd_some h; clear h; rcases hh with ⟨hc42, h⟩ | ⟨hc42, h⟩
        · have hh := grd_some h; clear h; obtain ⟨hg43, h⟩ := hh
          simp -implicitDefEqProofs (disch := first | omega | rfl) only [go_sem, simprocAttr, zr7_21, hc42, eq_true hg43]
          have hh := bnd_some h; clear h; obtain ⟨x44, hx45, h⟩ := hh
          refine call_pure hP (c20 N x27.1.Items (List.take (List.length x27.1.Items) x30.1.Items) x44 hx45) ?_
          have hh := cnd_some h; clear h; rcases hh with ⟨hc46, h⟩ | ⟨hc46, h⟩
          · simp -implicitDefEqProofs (disch := first | omega | rfl) only [go_sem, simprocAttr, hc46, eq_true hg43]
            have hh := bnd_some h; clear h; obtain ⟨x47, hx48, h⟩ := hh
            refine call_pure hP (c20 N x33.1.Items (List.drop (List.length x27.1.Items) x30.1.Items) x47 hx48) ?_
            simp -implicitDefEqProofs (disch := first | omega | rfl) only [go_sem, simprocAttr]
            refine hK _ _ ?_; clear hK K
            obtain rfl := som_inj h
            repeat refine awp_seq ?_
            refine awp_ret ?_
            repeat' (first | refine then_ret ?_ | refine blk_ret ?_)
            refine ret_q ?_
            simp -implicitDefEqProofs (disch := first | omega | rfl) only [go_sem, simprocAttr]
            first | exact leaves_none (by first | rfl | simp) | exact leaves_nil
          simp -implicitDefEqProofs (disch := first | omega | rfl) only [go_sem, simprocAttr, hc46]
          refine hK _ _ ?_; clear hK K
          obtain rfl := som_inj h
          repeat refine awp_seq ?_
          refine awp_ret ?_
          repeat' (first | refine then_ret ?_ | refine blk_ret ?_)
          refine ret_q ?_
          simp -implicitDefEqProofs (disch := first | omega | rfl) only [go_sem, simprocAttr]
          first | exact leaves_none (by first | rfl | simp) | exact leaves_nil
        simp -implicitDefEqProofs (disch := first | omega | rfl) only [go_sem, simprocAttr, zr7_21, hc42]
        refine hK _ _ ?_; clear hK K
        obtain rfl := som_inj h
        repeat refine awp_seq ?_
        refine awp_ret ?_
        repeat' (first | refine then_ret ?_ | refine blk_ret ?_)
        refine ret_q ?_
        simp -implicitDefEqProofs (disch := first | omega | rfl) only [go_sem, simprocAttr]
        first | exact leaves_none (by first | rfl | simp) | exact leaves_nil
      repeat refine awp_seq ?_
      refine awp_then (by simp -implicitDefEqProofs (disch := first | omega | rfl) only [go_sem, simprocAttr, eq_false hc41]) ?_
      repeat refine awp_seq ?_
      refine awp_reg fun K Q hK hQ => ?_
      simp -implicitDefEqProofs (disch := first | omega | rfl) only [go_sem, simprocAttr, zr7_20]
      refine hK _ _ ?_; clear hK hQ K Q
      obtain rfl := som_inj h
      repeat refine awp_seq ?_
      refine awp_ret ?_
      repeat' (first | refine then_ret ?_ | refine blk_ret ?_)
      refine ret_q ?_
      simp -implicitDefEqProofs (disch := first | omega | rfl) only [go_sem, simprocAttr]
      first | exact leaves_none (by first | rfl | simp) | exact leaves_nil
    simp -implicitDefEqProofs (disch := first | omega | rfl) only [go_sem, simprocAttr, hc11]
    refine hK _ _ ?_; clear hK hQ K Q
    repeat refine awp_seq ?_
    refine awp_then (by rfl) ?_
    repeat refine awp_seq ?_
    refine awp_reg fun K Q hK hQ => ?_
    simp -implicitDefEqProofs (disch := first | omega | rfl) only [go_sem, simprocAttr, zr7_4]
    refine hK _ _ ?_; clear hK hQ K Q
    obtain rfl := som_inj h
    repeat refine awp_seq ?_
    refine awp_ret ?_
    repeat' (first | refine then_ret ?_ | refine blk_ret ?_)
    refine ret_q ?_
    simp -implicitDefEqProofs (disch := first | omega | rfl) only [go_sem, simprocAttr]
    first | exact leaves_none (by first | rfl | simp) | exact leaves_nil
  simp -implicitDefEqProofs (disch := first | omega | rfl) only [go_sem, simprocAttr, hc7]
  refine hK _ _ ?_; clear hK hQ K Q
  repeat refine awp_seq ?_
  refine awp_then (by rfl) ?_
  repeat refine awp_seq ?_
  refine awp_reg fun K Q hK hQ => ?_
  simp -implicitDefEqProofs (disch := first | omega | rfl) only [go_sem, simprocAttr, zr7_4]
  refine hK _ _ ?_; clear hK hQ K Q
  obtain rfl := som_inj h
  repeat refine awp_seq ?_
  refine awp_ret ?_
  repeat' (first | refine then_ret ?_ | refine blk_ret ?_)
  refine ret_q ?_
  simp -implicitDefEqProofs (disch := first | omega | rfl) only [go_sem, simprocAttr]
  first | exact leaves_none (by first | rfl | simp) | exact leaves_nil
end Go.Proofs.Inc
namespace Go.Aw
theorem wr {n : Int} (h1 : -9223372036854775808 ≤ n) (h2 : n ≤ 9223372036854775807) : IntKind.wrap .i64 n = n := w64 h1 h2
theorem wr_succ {i : Nat} (h : i < 9223372036854775807) : IntKind.wrap .i64 ((i : Int) + 1) = ((i + 1 : Nat) : Int) := by
  rw [wr (by omega) (by omega)]
  omega
section
variable {α σ ρ τ : Type}
def runL (f : Nat → σ → α → σ ⊕ ρ) (fin : σ → ρ) : Nat → σ → List α → ρ
  | _, s, [] => fin s
  | i, s, a :: l => match f i s a with | .inl s' => runL f fin (i + 1) s' l | .inr r => r
theorem iter_step {body : τ → Option (τ ⊕ ρ)} {N : Nat} {s s' : τ} (h : body s = some (.inl s')) : iter body (N + 1) s = iter body N s' := by
  rw [iter, h]; rfl
theorem iter_end {body : τ → Option (τ ⊕ ρ)} {N : Nat} {s : τ} {r : ρ} (h : body s = some (.inr r)) : iter body (N + 1) s = some r := by
  rw [iter, h]; rfl
theorem iter_from {body : τ → Option (τ ⊕ ρ)} (mk : σ → Int → τ) (f : Nat → σ → α → σ ⊕ ρ) (fin : σ → ρ) (Inv : Nat → σ → Prop) (L : Nat) :
    ∀ (l : List α) (i : Nat), i + l.length = L →
    (∀ (j : Nat) s a, l[j]? = some a → Inv (i + j) s → (body (mk s ((i + j : Nat) : Int)) = some (match f (i + j) s a with | .inl s' => .inl (mk s' ((i + j + 1 : Nat) : Int)) | .inr r => .inr r)) ∧ ∀ s', f (i + j) s a = .inl s' → Inv (i + j + 1) s') →
    (∀ s, Inv L s → body (mk s (L : Int)) = some (.inr (fin s))) → ∀ {N : Nat}, l.length < N → ∀ {s0 : σ}, Inv i s0 → iter body N (mk s0 (i : Int)) = some (runL f fin i s0 l)
  | [], i, hL, _, he, N, hN, s0, h0 => by
    obtain ⟨M, rfl⟩ : ∃ M, N = M + 1 := ⟨N - 1, by simp at hN; omega⟩
    simp only [List.length_nil, Nat.add_zero] at hL
    subst hL
    exact iter_end (he s0 h0)
  | a :: l, i, hL, hb, he, N, hN, s0, h0 => by
    obtain ⟨M, rfl⟩ : ∃ M, N = M + 1 := ⟨N - 1, by simp at hN; omega⟩
    obtain ⟨h1, h2⟩ := hb 0 s0 a rfl h0
    simp only [Nat.add_zero] at h1 h2
    rw [runL]
    cases hf : f i s0 a with
    | inl s' =>
      rw [hf] at h1
      rw [iter_step h1]
      refine iter_from mk f fin Inv L l (i + 1) (by simp only [List.length_cons] at hL; omega) (fun j s b hj hs => ?_) he (by simp only [List.length_cons] at hN; omega) (h2 s' hf)
      have := hb (j + 1) s b (by simpa using hj) (by rw [show i + (j + 1) = i + 1 + j by omega]; exact hs)
      rw [show i + (j + 1) = i + 1 + j by omega] at this
      exact this
    | inr r =>
      rw [hf] at h1
      exact iter_end h1
theorem iter_list {body : τ → Option (τ ⊕ ρ)} (mk : σ → Int → τ) (s0 : σ) (l : List α) (f : Nat → σ → α → σ ⊕ ρ) (fin : σ → ρ) (Inv : Nat → σ → Prop)
    (hb : ∀ (i : Nat) s a, l[i]? = some a → Inv i s → (body (mk s (i : Int)) = some (match f i s a with | .inl s' => .inl (mk s' ((i + 1 : Nat) : Int)) | .inr r => .inr r)) ∧ ∀ s', f i s a = .inl s' → Inv (i + 1) s')
    (he : ∀ s, Inv l.length s → body (mk s (l.length : Int)) = some (.inr (fin s))) {N : Nat} (hN : l.length < N) (h0 : Inv 0 s0) : iter body N (mk s0 0) = some (runL f fin 0 s0 l) := by
  have := iter_from (body := body) mk f fin Inv l.length l 0 (by simp) (fun j s a hj hs => by
    have := hb j s a hj (by simpa using hs)
    simpa using this) he hN h0
  simpa using this
theorem runL_fold {g : σ → α → σ} {fin : σ → ρ} : ∀ (l : List α) (i : Nat) (s : σ), runL (fun _ s a => .inl (g s a)) fin i s l = fin (l.foldl g s)
  | [], _, _ => rfl
  | a :: l, i, s => by rw [runL]; exact runL_fold l (i + 1) (g s a)
theorem runL_any {p : α → Bool} {x y : ρ} : ∀ (l : List α) (i : Nat), runL (fun _ (_ : Unit) a => if p a then .inr x else .inl ()) (fun _ => y) i () l = if l.any p then x else y
  | [], _ => rfl
  | a :: l, i => by
    rw [runL]
    cases hp : p a with
    | true => simp [hp]
    | false => simp only [hp, List.any_cons, Bool.false_or]; exact runL_any l (i + 1)
theorem runL_all {p : α → Bool} {x y : ρ} : ∀ (l : List α) (i : Nat), runL (fun _ (_ : Unit) a => if p a then .inl () else .inr x) (fun _ => y) i () l = if l.all p then y else x
  | [], _ => rfl
  | a :: l, i => by
    rw [runL]
    cases hp : p a with
    | true => simp only [hp, List.all_cons, Bool.true_and]; exact runL_all l (i + 1)
    | false => simp [hp]
theorem runL_map {g : α → σ} : ∀ (l : List α) (i : Nat) (s : List σ), runL (fun _ s a => .inl (s ++ [g a])) (fun s => (s : List σ)) i s l = s ++ l.map g
  | [], _, _ => by simp [runL]
  | a :: l, i, s => by rw [runL]; simp only; rw [runL_map l (i + 1)]; simp
theorem runL_filter {p : α → Bool} : ∀ (l : List α) (i : Nat) (s : List α), runL (fun _ s a => .inl (if p a then s ++ [a] else s)) (fun s => (s : List α)) i s l = s ++ l.filter p
  | [], _, _ => by simp [runL]
  | a :: l, i, s => by
    rw [runL]; simp only; rw [runL_filter l (i + 1)]
    cases hp : p a <;> simp [hp]
end
theorem getI {α : Type} [Inhabited α] {l : List α} {i : Nat} {a : α} (h : l[i]? = some a) : l[i]! = a ∧ i < l.length := by
  obtain ⟨h1, h2⟩ := List.getElem?_eq_some_iff.1 h
  exact ⟨by rw [getElem!_pos l i h1, h2], h1⟩
theorem toNat_nat {i : Nat} : ((i : Int)).toNat = i := rfl
end Go.Aw
namespace Go.Proofs.Inc
open Go.Aw
mutual
def isz : Item → Nat
  | ⟨_, _, _, _, _, _, _, _, _, _, _, _, _, _, _, _, _, _, _, _, _, l⟩ => 1 + iszl l
def iszl : List Item → Nat
  | [] => 0
  | x :: l => isz x + iszl l
end
theorem isz_eq (x : Item) : isz x = 1 + iszl x.Items := by cases x; rw [isz]
theorem iszl_nil : iszl [] = 0 := by rw [iszl]
theorem iszl_cons (x : Item) (l : List Item) : iszl (x :: l) = 1 + iszl x.Items + iszl l := by rw [iszl, isz_eq]
theorem iszl_app (l m : List Item) : iszl (l ++ m) = iszl l + iszl m := by
  induction l with
  | nil => simp [iszl_nil]
  | cons x l ih => rw [List.cons_append, iszl_cons, iszl_cons, ih]; omega
theorem iszl_len (l : List Item) : l.length ≤ iszl l := by
  induction l with
  | nil => simp
  | cons x l ih => rw [iszl_cons, List.length_cons]; omega
theorem iszl_mem {x : Item} {l : List Item} (h : x ∈ l) : 1 + iszl x.Items ≤ iszl l := by
  induction l with
  | nil => cases h
  | cons y l ih =>
    rw [iszl_cons]
    rcases List.mem_cons.1 h with rfl | h
    · omega
    · have := ih h; omega
abbrev Lim (f : List Item → Int → Option Int) (l : List Item) (lim : Nat) : Prop :=
  ∃ t : Nat, f l (lim : Int) = some (t : Int) ∧ t ≤ iszl l ∧ (iszl l ≤ lim → t = iszl l) ∧ (lim < iszl l → lim < t)
theorem s24_loop (N : Nat) (l : List Item) (lim : Nat) (hl : lim ≤ 1099511627776) (hs : iszl l ≤ 1099511627776) (ih : ∀ x, x ∈ l → ∀ k, k ≤ lim → Lim (s24 N) x.Items k) :
    ∀ (l' : List Item) (i n : Nat), l.drop i = l' → n ≤ lim → n + iszl l' ≤ iszl l → ∀ M, l'.length < M →
      ∃ t : Nat, iter (fun p => s24_b1 N l lim (s24 N) p.1 p.2) M ((n : Int), (i : Int)) = some (t : Int) ∧ t ≤ n + iszl l' ∧ (n + iszl l' ≤ lim → t = n + iszl l') ∧ (lim < n + iszl l' → lim < t)
  | [], i, n, hd, hn, hsz, M, hM => by
    obtain ⟨M, rfl⟩ : ∃ k, M = k + 1 := ⟨M - 1, by simp at hM; omega⟩
    have hi : l.length ≤ i := List.drop_eq_nil_iff.1 hd
    refine ⟨n, iter_end ?_, by simp [iszl_nil], by simp [iszl_nil], by simp [iszl_nil]; try omega⟩
    simp only [s24_b1]
    rw [if_neg (by omega)]
  | x :: l', i, n, hd, hn, hsz, M, hM => by
    obtain ⟨M, rfl⟩ : ∃ k, M = k + 1 := ⟨M - 1, by simp at hM; omega⟩
    have hi : l[i]? = some x := by rw [← List.head?_drop, hd]; rfl
    obtain ⟨hx, hlt⟩ := getI hi
    have hmem : x ∈ l := List.mem_of_getElem? hi
    obtain ⟨t, ht, h1, h2, h3⟩ := ih x hmem (lim - n) (by omega)
    have hm := iszl_mem hmem
    rw [iszl_cons] at hsz ⊢
    have hcast : ((lim : Int) - (n : Int)) = ((lim - n : Nat) : Int) := by omega
    have hb : s24_b1 N l lim (s24 N) (n : Int) (i : Int) = if (lim : Int) < ((n + 1 + t : Nat) : Int) then some (.inr ((n + 1 + t : Nat) : Int)) else some (.inl (((n + 1 + t : Nat) : Int), ((i + 1 : Nat) : Int))) := by
      simp only [s24_b1]
      have hlt2 : i + 1 ≤ iszl l := Nat.le_trans hlt (iszl_len l)
      rw [if_pos (by omega), grd_pos (by omega), toNat_nat, hx, hcast, wr (by omega) (by omega), ht]
      simp only [Option.bind_some]
      rw [wr (n := 1 + (t : Int)) (by omega) (by omega), wr (by omega) (by omega), wr_succ (by omega), show (n : Int) + (1 + (t : Int)) = ((n + 1 + t : Nat) : Int) by omega]
    by_cases hc : lim < n + 1 + t
    · refine ⟨n + 1 + t, iter_end (by simp only [hb]; rw [if_pos (by omega)]), by omega, by omega, by omega⟩
    · obtain ⟨t', e1, e2, e3, e4⟩ := s24_loop N l lim hl hs ih l' (i + 1) (n + 1 + t) (by rw [← List.drop_drop, hd]; rfl) (by omega) (by omega) M (by simp at hM; omega)
      refine ⟨t', by rw [iter_step (s' := (((n + 1 + t : Nat) : Int), ((i + 1 : Nat) : Int))) (by simp only [hb]; rw [if_neg (by omega)])]; exact e1, by omega, by omega, by omega⟩
theorem s24_lim : ∀ (N : Nat) (l : List Item) (lim : Nat), iszl l + 1 < N → lim ≤ 1099511627776 → iszl l ≤ 1099511627776 → Lim (s24 N) l lim
  | 0, l, lim, h, _, _ => by omega
  | N + 1, l, lim, h, hl, hs => by
    obtain ⟨t, e1, e2, e3, e4⟩ := s24_loop N l lim hl hs (fun x hx k hk => by
      have := iszl_mem hx
      exact s24_lim N x.Items k (by omega) (by omega) (by omega)) l 0 0 rfl (by omega) (by omega) N (by have := iszl_len l; omega)
    refine ⟨t, ?_, by omega, by omega, by omega⟩
    simp only [s24, s24_body]
    rw [show ((0 : Int), (0 : Int)) = (((0 : Nat) : Int), ((0 : Nat) : Int)) by rfl, e1]
    rfl
theorem s22_loop (N : Nat) (l : List Item) (lim : Nat) (hl : lim ≤ 1099511627776) (hs : iszl l ≤ 1099511627776) (ih : ∀ x, x ∈ l → ∀ k, k ≤ lim → Lim (s22 N) x.Items k) :
    ∀ (l' : List Item) (i n : Nat), l.drop i = l' → n + iszl l' ≤ iszl l → ∀ M, l'.length < M →
      ∃ t : Nat, iter (fun p => s22_b1 N l lim (s22 N) p.1 p.2) M ((n : Int), (i : Int)) = some (t : Int) ∧ t ≤ n + iszl l' ∧ (n + iszl l' ≤ lim → t = n + iszl l') ∧ (lim < n + iszl l' → lim < t)
  | [], i, n, hd, hsz, M, hM => by
    obtain ⟨M, rfl⟩ : ∃ k, M = k + 1 := ⟨M - 1, by simp at hM; omega⟩
    have hi : l.length ≤ i := List.drop_eq_nil_iff.1 hd
    refine ⟨n, iter_end ?_, by simp [iszl_nil], by simp [iszl_nil], by simp [iszl_nil]⟩
    simp only [s22_b1]
    rw [if_neg (by omega)]
  | x :: l', i, n, hd, hsz, M, hM => by
    obtain ⟨M, rfl⟩ : ∃ k, M = k + 1 := ⟨M - 1, by simp at hM; omega⟩
    have hi : l[i]? = some x := by rw [← List.head?_drop, hd]; rfl
    obtain ⟨hx, hlt⟩ := getI hi
    have hmem : x ∈ l := List.mem_of_getElem? hi
    have hm := iszl_mem hmem
    rw [iszl_cons] at hsz ⊢
    by_cases hn : n ≤ lim
    · obtain ⟨t, ht, h1, h2, h3⟩ := ih x hmem (lim - n) (by omega)
      have hcast : ((lim : Int) - (n : Int)) = ((lim - n : Nat) : Int) := by omega
      have hb : s22_b1 N l lim (s22 N) (n : Int) (i : Int) = some (.inl (((n + 1 + t : Nat) : Int), ((i + 1 : Nat) : Int))) := by
        simp only [s22_b1]
        have hlt2 : i + 1 ≤ iszl l := Nat.le_trans hlt (iszl_len l)
        rw [if_pos (by omega), if_pos (by omega), grd_pos (by omega), toNat_nat, hx, hcast, wr (by omega) (by omega), ht]
        simp only [Option.bind_some]
        rw [wr_succ (i := n) (by omega), wr (by omega) (by omega), wr_succ (by omega)]
        rfl
      obtain ⟨t', e1, e2, e3, e4⟩ := s22_loop N l lim hl hs ih l' (i + 1) (n + 1 + t) (by rw [← List.drop_drop, hd]; rfl) (by omega) M (by simp at hM; omega)
      refine ⟨t', by rw [iter_step (s' := (((n + 1 + t : Nat) : Int), ((i + 1 : Nat) : Int))) (by simp only [hb])]; exact e1, by omega, by omega, by omega⟩
    · refine ⟨n, iter_end ?_, by omega, by omega, by omega⟩
      simp only [s22_b1]
      rw [if_pos (by omega), if_neg (by omega)]
theorem s22_lim : ∀ (N : Nat) (l : List Item) (lim : Nat), iszl l + 1 < N → lim ≤ 1099511627776 → iszl l ≤ 1099511627776 → Lim (s22 N) l lim
  | 0, l, lim, h, _, _ => by omega
  | N + 1, l, lim, h, hl, hs => by
    obtain ⟨t, e1, e2, e3, e4⟩ := s22_loop N l lim hl hs (fun x hx k hk => by
      have := iszl_mem hx
      exact s22_lim N x.Items k (by omega) (by omega) (by omega)) l 0 0 rfl (by omega) N (by have := iszl_len l; omega)
    refine ⟨t, ?_, by omega, by omega, by omega⟩
    simp only [s22, s22_body]
    rw [show ((0 : Int), (0 : Int)) = (((0 : Nat) : Int), ((0 : Nat) : Int)) by rfl, e1]
    rfl
theorem s23_def : ∀ (N : Nat) (l : List Item), iszl l + 1 < N → iszl l ≤ 1099511627776 → ∃ b, s23 N l = some b
  | 0, l, h, _ => by omega
  | N + 1, l, h, hs => by
    have hrec : ∀ x, x ∈ l → ∃ b, s23 N x.Items = some b := fun x hx => by
      have := iszl_mem hx
      exact s23_def N x.Items (by omega) (by omega)
    have hb : iter (fun p => s23_b1 N l (s23 N) p) N 0 = some _ := iter_list (fun (_ : Unit) i => i) () l
      (fun _ _ a => if 30 < a.Names.length ∨ 30 < a.Conds.length ∨ 30 < a.Dates.length ∨ 100 < a.Name.length ∨ s23 N a.Items = some false then .inr (.ret false) else .inl ()) (fun _ => .brk ()) (fun _ _ => True) (fun i s a hi _ => by
        obtain ⟨ha, hlt⟩ := getI hi
        obtain ⟨b, hb⟩ := hrec a (List.mem_of_getElem? hi)
        have := Nat.le_trans hlt (iszl_len l)
        refine ⟨?_, fun _ _ => trivial⟩
        simp only [s23_b1]
        rw [if_pos (by omega), grd_pos (by omega), toNat_nat, ha, hb, wr_succ (by omega)]
        simp only [Option.bind_some]
        by_cases h1 : 30 < a.Names.length
        · simp [h1, show (30 : Int) < a.Names.length by omega]
        by_cases h2 : 30 < a.Conds.length
        · simp [h1, h2, show (30 : Int) < a.Conds.length by omega]
        by_cases h3 : 30 < a.Dates.length
        · simp [h1, h2, h3, show (30 : Int) < a.Dates.length by omega]
        by_cases h4 : 100 < a.Name.length
        · simp [h1, h2, h3, h4, show (100 : Int) < a.Name.length by omega]
        rw [if_neg (by omega), if_neg (by omega), if_neg (by omega), if_neg (by omega)]
        cases b <;> simp [h1, h2, h3, h4]) (fun s _ => by
        simp only [s23_b1]
        rw [if_neg (by omega)]) (by have := iszl_len l; omega) trivial
    simp only [s23, s23_body]
    rw [hb]
    simp only [Option.bind_some]
    generalize runL _ _ 0 () l = o
    cases o with
    | brk a => exact ⟨true, rfl⟩
    | ret b => exact ⟨b, rfl⟩
theorem s10_def {N : Nat} {s : Source} {lim : Nat} (h : iszl s.Items + 1 < N) (hl : lim ≤ 1099511627776) (hs : iszl s.Items ≤ 1099511627776) : ∃ b, s10 N s lim = some b ∧ (b = true → iszl s.Items ≤ lim) := by
  obtain ⟨t, e1, e2, e3, e4⟩ := s22_lim N s.Items lim h hl hs
  obtain ⟨b, hb⟩ := s23_def N s.Items h hs
  simp only [s10]
  rw [e1]
  simp only [Option.bind_some, hb]
  by_cases hc : (t : Int) ≤ (lim : Int)
  · rw [if_pos hc]
    exact ⟨b, rfl, fun _ => by omega⟩
  · rw [if_neg hc]
    exact ⟨false, rfl, fun h => by cases h⟩
end Go.Proofs.Inc
namespace Go.Proofs.Inc
open Go.Aw
abbrev Str := List UInt8
def NB : Nat := 4194304
theorem runL_find {α ρ : Type} {p : α → Bool} {g : Nat → ρ} {y : ρ} : ∀ (l : List α) (i : Nat), runL (fun i (_ : Unit) a => if p a then .inr (g i) else .inl ()) (fun _ => y) i () l = match l.findIdx? p with | some j => g (i + j) | none => y
  | [], i => by simp [runL]
  | a :: l, i => by
    rw [runL, List.findIdx?_cons]
    cases hp : p a with
    | true => simp
    | false =>
      simp only [Bool.false_eq_true, if_false]
      rw [runL_find l (i + 1)]
      cases l.findIdx? p with
      | none => rfl
      | some j => simp only [Option.map_some]; rw [show i + 1 + j = i + (j + 1) by omega]
def find (l : List Str) (n : Str) : Option Nat := l.findIdx? (fun a => decide (n = a))
theorem find_lt {l : List Str} {n : Str} {i : Nat} (h : find l n = some i) : i < l.length := by
  unfold find at h
  exact (List.findIdx?_eq_some_iff_getElem.1 h).1
theorem s38_eq {N : Nat} {l : List Str} {n : Str} (hN : l.length < N) (hl : l.length ≤ NB) : s38 N l n = some (match find l n with | some i => (i : Int) | none => -1) := by
  have hb : iter (fun p => s38_b1 N l n p) N 0 = some _ := iter_list (fun (_ : Unit) i => i) () l (fun i _ a => if decide (n = a) then .inr (.ret (i : Int)) else .inl ()) (fun _ => .brk ()) (fun _ _ => True) (fun i s a hi _ => by
    obtain ⟨ha, hlt⟩ := getI hi
    refine ⟨?_, fun _ _ => trivial⟩
    simp only [s38_b1, NB] at *
    rw [if_pos (by omega), grd_pos (by omega), toNat_nat, ha, wr_succ (by omega)]
    by_cases h : n = a <;> simp [h]) (fun s _ => by
    simp only [s38_b1]
    rw [if_neg (by omega)]) hN trivial
  simp only [s38]
  rw [hb, runL_find]
  simp only [Option.bind_some, find]
  cases l.findIdx? (fun a => decide (n = a)) with
  | none => rfl
  | some j => simp [Ou.on]
theorem s33_eq {N : Nat} {l : List Str} {n : Str} (hN : l.length < N) (hl : l.length ≤ NB) : s33 N l n = some (find l n).isSome := by
  simp only [s33]
  rw [s38_eq hN hl]
  cases find l n <;> simp
def hit (l : List Str) (s : Str) : Bool := decide (s ≠ []) && (find l s).isSome
def rep (l args : List Str) (s : Str) : Str := if s = [] then s else match find l s with | some i => args[i]! | none => s
theorem rep_miss {l args : List Str} {s : Str} (h : hit l s = false) : rep l args s = s := by
  unfold hit at h
  unfold rep
  by_cases hs : s = []
  · simp [hs]
  · rw [if_neg hs]
    cases hf : find l s with
    | none => rfl
    | some i => simp [hs, hf] at h
theorem rep_gen {β : Type} {N : Nat} {l args : List Str} (s : Str) (x : β) (F : Str → β) (hN : l.length < N) (hl : l.length ≤ NB) (ha : l.length = args.length) (hF : F s = x) :
    ((s38 N l s).bind fun x1 => if s = [] then some (false, x) else if x1 < 0 then some (false, x) else grd (0 ≤ x1 ∧ x1 < (List.length args : Int)) (some (true, F (args[x1.toNat]!)))) = some (hit l s, F (rep l args s)) := by
  rw [s38_eq hN hl]
  simp only [Option.bind_some, hit, rep]
  by_cases hs : s = []
  · simp [hs, ← hF]
  · rw [if_neg hs, if_neg hs]
    cases hf : find l s with
    | none => simp [hs, hF]
    | some i =>
      have := find_lt hf
      simp only [hs]
      rw [if_neg (by omega), grd_pos (by omega), toNat_nat]
      simp [hs]
theorem s39_1e {N : Nat} {t u y : Item} (hN : t.Names.length < N) (hl : t.Names.length ≤ NB) (ha : t.Names.length = u.Names.length) : s39 N y t u = some (hit t.Names y.Of, { y with Of := rep t.Names u.Names y.Of }) := rep_gen y.Of y (fun v => { y with Of := v }) hN hl ha (by cases y; rfl)
theorem s39_2e {N : Nat} {t u y : Item} (hN : t.Names.length < N) (hl : t.Names.length ≤ NB) (ha : t.Names.length = u.Names.length) : s39_2 N y t u = some (hit t.Names y.Act, { y with Act := rep t.Names u.Names y.Act }) := rep_gen y.Act y (fun v => { y with Act := v }) hN hl ha (by cases y; rfl)
theorem s39_3e {N : Nat} {t u y : Item} (hN : t.Names.length < N) (hl : t.Names.length ≤ NB) (ha : t.Names.length = u.Names.length) : s39_3 N y t u = some (hit t.Names y.By, { y with By := rep t.Names u.Names y.By }) := rep_gen y.By y (fun v => { y with By := v }) hN hl ha (by cases y; rfl)
theorem s39_4e {N : Nat} {t u y : Item} (hN : t.Names.length < N) (hl : t.Names.length ≤ NB) (ha : t.Names.length = u.Names.length) : s39_4 N y t u = some (hit t.Names y.Until, { y with Until := rep t.Names u.Names y.Until }) := rep_gen y.Until y (fun v => { y with Until := v }) hN hl ha (by cases y; rfl)
theorem s39_5e {N : Nat} {t u y : Item} (hN : t.Names.length < N) (hl : t.Names.length ≤ NB) (ha : t.Names.length = u.Names.length) : s39_5 N y t u = some (hit t.Names y.Unit, { y with Unit := rep t.Names u.Names y.Unit }) := rep_gen y.Unit y (fun v => { y with Unit := v }) hN hl ha (by cases y; rfl)
theorem s39_6e {N : Nat} {t u y : Item} (hN : t.Names.length < N) (hl : t.Names.length ≤ NB) (ha : t.Names.length = u.Names.length) : s39_6 N y t u = some (hit t.Names y.Sum, { y with Sum := rep t.Names u.Names y.Sum }) := rep_gen y.Sum y (fun v => { y with Sum := v }) hN hl ha (by cases y; rfl)
theorem s39_7e {N : Nat} {t u y : Item} (hN : t.Names.length < N) (hl : t.Names.length ≤ NB) (ha : t.Names.length = u.Names.length) : s39_7 N y t u = some (hit t.Names y.To, { y with To := rep t.Names u.Names y.To }) := rep_gen y.To y (fun v => { y with To := v }) hN hl ha (by cases y; rfl)
theorem s39_8e {N : Nat} {t u y : Item} (hN : t.Names.length < N) (hl : t.Names.length ≤ NB) (ha : t.Names.length = u.Names.length) : s39_8 N y t u = some (hit t.Names y.Within.Name, { y with Within := { y.Within with Name := rep t.Names u.Names y.Within.Name } }) := rep_gen y.Within.Name y (fun v => { y with Within := { y.Within with Name := v } }) hN hl ha (by cases y; rfl)
theorem s39_9e {N : Nat} {t u y : Item} (hN : t.Names.length < N) (hl : t.Names.length ≤ NB) (ha : t.Names.length = u.Names.length) : s39_9 N y t u = some (hit t.Names y.Grace.Name, { y with Grace := { y.Grace with Name := rep t.Names u.Names y.Grace.Name } }) := rep_gen y.Grace.Name y (fun v => { y with Grace := { y.Grace with Name := v } }) hN hl ha (by cases y; rfl)
theorem s39_10e {N : Nat} {t u : Item} (hN : t.Names.length < N) (hl : t.Names.length ≤ NB) (ha : t.Names.length = u.Names.length) {l : List Named} {i : Nat} (hi : i < l.length) : s39_10 N l i t u = some (hit t.Names (l[i]!).Name, l.set i { l[i]! with Name := rep t.Names u.Names (l[i]!).Name }) := by
  refine rep_gen (l[i]!).Name l (fun v => l.set i { l[i]! with Name := v }) hN hl ha ?_
  show l.set i l[i]! = l
  rw [getElem!_pos l i hi, List.set_getElem_self]
theorem s39_11e {N : Nat} {t u : Item} (hN : t.Names.length < N) (hl : t.Names.length ≤ NB) (ha : t.Names.length = u.Names.length) {l : List Str} {i : Nat} (hi : i < l.length) : s39_11 N l i t u = some (hit t.Names (l[i]!), l.set i (rep t.Names u.Names (l[i]!))) := by
  refine rep_gen (l[i]!) l (fun v => l.set i v) hN hl ha ?_
  rw [getElem!_pos l i hi, List.set_getElem_self]
def clause (k : Int) : Bool := decide (9 ≤ k ∧ k ≤ 12)
theorem s35_eq {N : Nat} {k : Int} : s35 N k = some (clause k) := by
  simp only [s35, clause]
  by_cases h : 9 ≤ k <;> simp [h]
def defines (k : Int) : Bool := decide (k = 13 ∨ k = 6 ∨ k = 7)
end Go.Proofs.Inc
namespace Go.Proofs.Inc
open Go.Aw
theorem indexByte_lt (c : UInt8) : ∀ (l : List UInt8), -1 ≤ Lib.indexByte l c ∧ Lib.indexByte l c < (l.length : Int)
  | [] => by simp [Lib.indexByte]
  | b :: l => by
    have := indexByte_lt c l
    simp only [Lib.indexByte, List.length_cons]
    split
    · omega
    · split
      · omega
      · rename_i h; simp at h; omega
def cutd (n : Str) : Str × Str × Bool := if 0 ≤ Lib.indexByte n 46 then (n.take (Lib.indexByte n 46).toNat, n.drop (Lib.indexByte n 46 + 1).toNat, true) else (n, [], false)
theorem s43_eq {N : Nat} {n : Str} (h : n.length ≤ 1099511627776) : s43 N n = some (cutd n) := by
  have := indexByte_lt 46 n
  simp only [s43, s46, Option.bind_some, cutd]
  by_cases h0 : 0 ≤ Lib.indexByte n 46
  · rw [if_pos h0, grd_pos (by omega), grd_pos ⟨by rw [wr (by omega) (by omega)]; omega, by rw [wr (by omega) (by omega)]; omega⟩, wr (by omega) (by omega), if_pos h0]
    rfl
  · rw [if_neg h0, if_neg h0]
    rfl
def means (n : Str) (y : Item) : Bool := (clause y.Kind && decide (y.Name = n)) || (decide (y.Kind = 14) && (cutd n).2.2 && decide (y.Name = (cutd n).1))
def loc (t : Item) (n : Str) : Bool := t.Items.any (means n)
theorem s45_eq {N : Nat} {y : Item} {n : Str} : s45 N y n (cutd n).2.2 (cutd n).1 = some (means n y) := by
  simp only [s45, s35_eq, Option.bind_some, means]
  cases clause y.Kind <;> cases (cutd n).2.2 <;> by_cases h1 : y.Name = n <;> by_cases h2 : y.Kind = 14 <;> simp [h1, h2]
theorem s41_eq {N : Nat} {t : Item} {n : Str} (hn : n.length ≤ 1099511627776) (hN : t.Items.length < N) (hl : t.Items.length ≤ NB) : s41 N t n = some (loc t n) := by
  have hb : iter (fun p => s47_b1 N t.Items n (cutd n).2.2 (cutd n).1 p) N 0 = some _ := iter_list (fun (_ : Unit) i => i) () t.Items (fun i _ a => if means n a then .inr (.ret (i : Int)) else .inl ()) (fun _ => .brk ()) (fun _ _ => True) (fun i s a hi _ => by
    obtain ⟨ha, hlt⟩ := getI hi
    refine ⟨?_, fun _ _ => trivial⟩
    simp only [s47_b1, NB] at *
    rw [if_pos (by omega), grd_pos (by omega), toNat_nat, ha, wr_succ (by omega), s45_eq]
    cases means n a <;> simp) (fun s _ => by
    simp only [s47_b1]
    rw [if_neg (by omega)]) hN trivial
  simp only [s41, s43_eq hn, Option.bind_some, s44, s47]
  rw [hb, runL_find]
  simp only [Option.bind_some, loc]
  have hany : t.Items.any (means n) = (t.Items.findIdx? (means n)).isSome := by rw [List.findIdx?_isSome]
  rw [hany]
  cases t.Items.findIdx? (means n) with
  | none => rfl
  | some j => simp [Ou.on]
theorem runL_set {α ρ : Type} {g : α → α} {fin : List α → ρ} : ∀ (l pre : List α), runL (fun i s (a : α) => .inl (s.set i (g a))) fin pre.length (pre ++ l) l = fin (pre ++ l.map g)
  | [], pre => by simp [runL]
  | a :: l, pre => by
    rw [runL]
    simp only [List.set_append_right pre.length (g a) (Nat.le_refl _), Nat.sub_self, List.set_cons_zero]
    have := runL_set (g := g) (fin := fin) l (pre ++ [g a])
    simpa using this
def MapInv {α : Type} (g : α → α) (l : List α) (i : Nat) (s : List α) : Prop := s = (l.take i).map g ++ l.drop i
theorem mapInv_get {α : Type} [Inhabited α] {g : α → α} {l s : List α} {i : Nat} {a : α} (h : l[i]? = some a) (hs : MapInv g l i s) : s[i]! = a ∧ s.length = l.length ∧ MapInv g l (i + 1) (s.set i (g a)) := by
  obtain ⟨h1, h2⟩ := List.getElem?_eq_some_iff.1 h
  unfold MapInv at hs ⊢
  subst hs
  have hlen : ((l.take i).map g).length = i := by simp; omega
  refine ⟨?_, by simp; omega, ?_⟩
  · rw [getElem!_pos _ i (by simp; omega), List.getElem_append_right (by omega)]
    simp only [hlen, List.getElem_drop]
    simp only [Nat.sub_self, Nat.add_zero]
    exact h2
  · rw [List.set_append_right _ _ (by omega), hlen, Nat.sub_self, List.drop_eq_getElem_cons h1, List.set_cons_zero, List.take_succ_eq_append_getElem h1, List.map_append]
    simp [h2]
def cnd (t u : Item) (c : Named) : Named := if hit t.Names c.Name then { c with Name := rep t.Names u.Names c.Name } else if loc t c.Name then { c with Name := (u.Name ++ [46]) ++ c.Name } else c
def inst (t u y : Item) : Item :=
  if clause y.Kind then { y with Of := rep t.Names u.Names y.Of, Act := rep t.Names u.Names y.Act, By := rep t.Names u.Names y.By, Until := rep t.Names u.Names y.Until, Unit := rep t.Names u.Names y.Unit, Sum := rep t.Names u.Names y.Sum, To := rep t.Names u.Names y.To, Within := { y.Within with Name := rep t.Names u.Names y.Within.Name }, Grace := { y.Grace with Name := rep t.Names u.Names y.Grace.Name }, Conds := y.Conds.map (cnd t u), Name := (u.Name ++ [46]) ++ y.Name, At := u.At }
  else if y.Kind = 14 then { y with Names := y.Names.map (rep t.Names u.Names), Name := (u.Name ++ [46]) ++ y.Name, At := u.At }
  else { y with Name := (u.Name ++ [46]) ++ y.Name, At := u.At }
structure Bd (y : Item) : Prop where
  name : y.Name.length ≤ 1099511627776
  conds : y.Conds.length ≤ NB
  cname : ∀ c, c ∈ y.Conds → c.Name.length ≤ 1099511627776
  names : y.Names.length ≤ NB
theorem s34_eq {N : Nat} {t u y : Item} (hN : NB < N) (hl : t.Names.length ≤ NB) (hti : t.Items.length ≤ NB) (ha : t.Names.length = u.Names.length) (hu : u.Name.length ≤ 1099511627776) (hy : Bd y) : s34 N t u y = some (inst t u y) := by
  have hN' : t.Names.length < N := by omega
  have hadd : ∀ (n : Str), n.length ≤ 1099511627776 → List.length (u.Name ++ [46]) + List.length n ≤ 9223372036854775807 := fun n hn => by simp; omega
  simp only [s34, s35_eq, Option.bind_some]
  cases hc : clause y.Kind with
  | true =>
    simp only [cond_true]
    obtain ⟨y1, e1⟩ : ∃ z : Item, z = { y with Of := rep t.Names u.Names y.Of } := ⟨_, rfl⟩
    rw [s39_1e hN' hl ha, ← e1]
    simp only [Option.bind_some]
    obtain ⟨y2, e2⟩ : ∃ z : Item, z = { y1 with Act := rep t.Names u.Names y1.Act } := ⟨_, rfl⟩
    rw [s39_2e hN' hl ha, ← e2]
    simp only [Option.bind_some]
    obtain ⟨y3, e3⟩ : ∃ z : Item, z = { y2 with By := rep t.Names u.Names y2.By } := ⟨_, rfl⟩
    rw [s39_3e hN' hl ha, ← e3]
    simp only [Option.bind_some]
    obtain ⟨y4, e4⟩ : ∃ z : Item, z = { y3 with Until := rep t.Names u.Names y3.Until } := ⟨_, rfl⟩
    rw [s39_4e hN' hl ha, ← e4]
    simp only [Option.bind_some]
    obtain ⟨y5, e5⟩ : ∃ z : Item, z = { y4 with Unit := rep t.Names u.Names y4.Unit } := ⟨_, rfl⟩
    rw [s39_5e hN' hl ha, ← e5]
    simp only [Option.bind_some]
    obtain ⟨y6, e6⟩ : ∃ z : Item, z = { y5 with Sum := rep t.Names u.Names y5.Sum } := ⟨_, rfl⟩
    rw [s39_6e hN' hl ha, ← e6]
    simp only [Option.bind_some]
    obtain ⟨y7, e7⟩ : ∃ z : Item, z = { y6 with To := rep t.Names u.Names y6.To } := ⟨_, rfl⟩
    rw [s39_7e hN' hl ha, ← e7]
    simp only [Option.bind_some]
    obtain ⟨y8, e8⟩ : ∃ z : Item, z = { y7 with Within := { y7.Within with Name := rep t.Names u.Names y7.Within.Name } } := ⟨_, rfl⟩
    rw [s39_8e hN' hl ha, ← e8]
    simp only [Option.bind_some]
    obtain ⟨y9, e9⟩ : ∃ z : Item, z = { y8 with Grace := { y8.Grace with Name := rep t.Names u.Names y8.Grace.Name } } := ⟨_, rfl⟩
    rw [s39_9e hN' hl ha, ← e9]
    simp only [Option.bind_some]
    have eC : y9.Conds = y.Conds := by rw [e9, e8, e7, e6, e5, e4, e3, e2, e1]
    simp only [s34_k2, s40, eC]
    have hcl := hy.conds
    rw [grd_pos (by unfold NB at hcl; omega)]
    simp only [Option.bind_some]
    have hb : iter (fun p => s34_b1 N t u y.Conds p.1 p.2) N (y.Conds, 0) = some _ := iter_list (fun (s : List Named) i => (s, i)) y.Conds y.Conds (fun i s a => .inl (s.set i (cnd t u a))) (fun s => s) (MapInv (cnd t u) y.Conds) (fun i s a hi hs => by
      obtain ⟨ha', hlt⟩ := getI hi
      obtain ⟨h1, h2, h3⟩ := mapInv_get hi hs
      refine ⟨?_, fun s' e => by cases e; exact h3⟩
      have hlen : i < s.length := by omega
      simp only [s34_b1, NB] at *
      rw [if_pos (by omega), grd_pos (by omega), toNat_nat, s39_10e (by omega) (by unfold NB; omega) ha hlen, h1, wr_succ (by omega)]
      simp only [Option.bind_some, cnd]
      have hname := hy.cname a (List.mem_of_getElem? hi)
      cases hh : hit t.Names a.Name with
      | true => simp
      | false =>
        have hset : (s.set i { a with Name := rep t.Names u.Names a.Name }) = s := by
          rw [rep_miss hh]
          have : s[i]! = a := h1
          rw [getElem!_pos s i hlen] at this
          rw [← this, List.set_getElem_self]
        have hset2 : s.set i a = s := by
          have : s[i]! = a := h1
          rw [getElem!_pos s i hlen] at this
          rw [← this, List.set_getElem_self]
        simp only [cond_false, hset, h1]
        rw [s41_eq (by omega) (by omega) (by unfold NB; omega)]
        simp only [Option.bind_some]
        cases hlo : loc t a.Name with
        | true =>
          simp only [cond_true]
          rw [grd_pos (by omega), grd_pos (hadd _ (by omega))]
          simp
        | false => simp [hset2]) (fun s hs => by
      simp only [s34_b1]
      rw [if_neg (by omega)]) (by omega) (by simp [MapInv])
    rw [hb]
    simp only [Option.bind_some]
    have eN : y9.Name = y.Name := by rw [e9, e8, e7, e6, e5, e4, e3, e2, e1]
    rw [grd_pos (by omega), eN, grd_pos (hadd _ hy.name)]
    have hrun := runL_set (g := cnd t u) (fin := fun s => s) y.Conds []
    simp only [List.nil_append, List.length_nil] at hrun
    rw [hrun]
    unfold inst
    rw [if_pos hc]
    subst e9 e8 e7 e6 e5 e4 e3 e2 e1
    rfl
  | false =>
    simp only [cond_false]
    by_cases h14 : y.Kind = 14
    · rw [if_pos h14]
      have hnl := hy.names
      simp only [s42]
      rw [grd_pos (by unfold NB at hnl; omega)]
      simp only [Option.bind_some]
      have hb : iter (fun p => s34_b3 N t u y.Names p.1 p.2) N (y.Names, 0) = some _ := iter_list (fun (s : List Str) i => (s, i)) y.Names y.Names (fun i s a => .inl (s.set i (rep t.Names u.Names a))) (fun s => s) (MapInv (rep t.Names u.Names) y.Names) (fun i s a hi hs => by
        obtain ⟨ha', hlt⟩ := getI hi
        obtain ⟨h1, h2, h3⟩ := mapInv_get hi hs
        refine ⟨?_, fun s' e => by cases e; exact h3⟩
        have hlen : i < s.length := by omega
        simp only [s34_b3, NB] at *
        rw [if_pos (by omega), grd_pos (by omega), toNat_nat, s39_11e (by omega) (by unfold NB; omega) ha hlen, h1, wr_succ (by omega)]
        simp) (fun s hs => by
        simp only [s34_b3]
        rw [if_neg (by omega)]) (by omega) (by simp [MapInv])
      rw [hb]
      simp only [Option.bind_some]
      rw [grd_pos (by omega), grd_pos (hadd _ hy.name)]
      have hrun := runL_set (g := rep t.Names u.Names) (fin := fun s => s) y.Names []
      simp only [List.nil_append, List.length_nil] at hrun
      rw [hrun]
      unfold inst
      rw [if_neg (by simp [hc]), if_pos h14]
    · rw [if_neg h14, grd_pos (by omega), grd_pos (hadd _ hy.name)]
      unfold inst
      rw [if_neg (by simp [hc]), if_neg h14]
end Go.Proofs.Inc
namespace Go.Proofs.Inc
open Go.Aw
structure Maps where
  t : List (Str × Item)
  s : List (Str × Span)
  m : List (Str × Item)
def dfn1 (M : Maps) (y : Item) : Option Item := if y.Within.Name = [] then some y else (mlook y.Within.Name M.s).map fun d => { y with Within := d }
def dfn2 (M : Maps) (y : Item) : Option Item := if y.Grace.Name = [] then some y else (mlook y.Grace.Name M.s).map fun d => { y with Grace := d }
def dfn3 (M : Maps) (y : Item) : Option Item := if y.Sum = [] then some y else (mlook y.Sum M.m).map fun d => { y with Num := d.Num, Unit := d.Unit, Sum := [] }
def dfn (M : Maps) (y : Item) : Option Item := ((dfn1 M y).bind (dfn2 M)).bind (dfn3 M)
theorem s36_eq {N : Nat} {M : Maps} {c : Int} {o : List Item} {q : List Str} {y : Item} : match dfn M y with
    | some z => s36 N M.t M.s M.m c o q y = some (true, z)
    | none => ∃ z, s36 N M.t M.s M.m c o q y = some (false, z) := by
  have h1 : ∀ x, match dfn3 M x with | some z => s36_k1 N M.m x = some (true, z) | none => ∃ z, s36_k1 N M.m x = some (false, z) := fun x => by
    simp only [dfn3, s36_k1]
    by_cases h : x.Sum = []
    · simp [h]
    · rw [if_neg h, if_neg h]
      cases mlook x.Sum M.m with
      | none => exact ⟨_, rfl⟩
      | some d => rfl
  have h2 : ∀ x, match (dfn2 M x).bind (dfn3 M) with | some z => s36_k3 N M.s M.m x = some (true, z) | none => ∃ z, s36_k3 N M.s M.m x = some (false, z) := fun x => by
    simp only [dfn2, s36_k3, s36_k2]
    by_cases h : x.Grace.Name = []
    · rw [if_pos h, if_pos h]; exact h1 x
    · rw [if_neg h, if_neg h]
      cases mlook x.Grace.Name M.s with
      | none => exact ⟨_, rfl⟩
      | some d => exact h1 _
  simp only [dfn, s36]
  unfold dfn1
  by_cases h : y.Within.Name = []
  · rw [if_pos h, if_pos h]; exact h2 y
  · rw [if_neg h, if_neg h]
    cases mlook y.Within.Name M.s with
    | none => exact ⟨_, rfl⟩
    | some d => exact h2 _
abbrev R := Int × Bool × Int × List Item × List Str
def add (M : Maps) (c : Int) (o : List Item) (q : List Str) (y : Item) (most : Int) : R :=
  if 600 < c + 1 then (3, true, c + 1, o, q)
  else if most < (y.Name.length : Int) then (3, false, c + 1, o, q)
  else if clause y.Kind then match dfn M y with
    | some z => (0, false, c + 1, o ++ [z], q)
    | none => (8, false, c + 1, o, q)
  else (0, false, c + 1, o ++ [y], q)
theorem s27_eq {N : Nat} {M : Maps} {c : Int} {o : List Item} {q : List Str} {y : Item} {most : Int} (h0 : 0 ≤ c) (h1 : c ≤ 1099511627776) (ho : o.length ≤ 1073741824) : s27 N M.t M.s M.m c o q y most = some (add M c o q y most) := by
  simp only [s27, s32, Option.bind_some, add]
  rw [wr (by omega) (by omega)]
  by_cases hc : 600 < c + 1
  · simp [hc]
  simp only [hc, decide_false, cond_false]
  by_cases hm : most < (y.Name.length : Int)
  · simp [hm]
  rw [if_neg hm, if_neg (by simp), if_neg hm, s35_eq]
  simp only [Option.bind_some]
  cases hk : clause y.Kind with
  | false =>
    simp only [cond_false, s27_k2, s27_k1, cond_true]
    rw [grd_pos (by omega)]
    simp
  | true =>
    simp only [cond_true]
    have := s36_eq (N := N) (M := M) (c := c + 1) (o := o) (q := q) (y := y)
    cases hd : dfn M y with
    | none =>
      rw [hd] at this
      obtain ⟨z, hz⟩ := this
      rw [hz]
      simp [s27_k2]
    | some z =>
      rw [hd] at this
      rw [this]
      simp only [Option.bind_some, s27_k2, s27_k1, Bool.not_true, cond_false, cond_true]
      rw [grd_pos (by omega)]
      simp
def stepI (inc : Int → List Item → List Str → Item → R) (M : Maps) (t u : Item) (s : Int × List Item × List Str) (a : Item) : (Int × List Item × List Str) ⊕ R :=
  if (inst t u a).Kind = 14 then
    (if (inc s.1 s.2.1 s.2.2 (inst t u a)).1 = 0 then .inl (inc s.1 s.2.1 s.2.2 (inst t u a)).2.2 else .inr (inc s.1 s.2.1 s.2.2 (inst t u a)))
  else if clause (inst t u a).Kind then
    (if (add M s.1 s.2.1 s.2.2 (inst t u a) 24).1 = 0 then .inl (add M s.1 s.2.1 s.2.2 (inst t u a) 24).2.2 else .inr (add M s.1 s.2.1 s.2.2 (inst t u a) 24))
  else .inr (1, false, s)
def incl (M : Maps) : Nat → Int → List Item → List Str → Item → R
  | 0, c, o, q, _ => (3, true, c + 1, o, q)
  | k + 1, c, o, q, u =>
    if 600 < c + 1 then (3, true, c + 1, o, q)
    else match mlook u.Of M.t with
      | none => (8, false, c + 1, o, q)
      | some t =>
        if t.Names.length ≠ u.Names.length then (1, false, c + 1, o, q)
        else if (find q u.Of).isSome then (12, false, c + 1, o, q)
        else if 24 < u.Name.length then (3, false, c + 1, o, q)
        else runL (fun _ s a => stepI (incl M k) M t u s a) (fun s => (0, false, s.1, s.2.1, s.2.2.take (s.2.2.length - 1))) 0 (c + 1, o, q ++ [u.Of]) t.Items
structure BdT (t : Item) : Prop where
  names : t.Names.length ≤ NB
  items : t.Items.length ≤ NB
  bd : ∀ y, y ∈ t.Items → Bd y
structure Far (c : Int) (o : List Item) (q : List Str) : Prop where
  c0 : 0 ≤ c
  o : (o.length : Int) ≤ c
  q : (q.length : Int) ≤ c
theorem inst_kind (t u y : Item) : (inst t u y).Kind = y.Kind := by
  unfold inst
  split
  · rfl
  · split <;> rfl
theorem add_far {M : Maps} {c : Int} {o : List Item} {q : List Str} {y : Item} {most : Int} (h : Far c o q) : (add M c o q y most).1 = 0 → ∃ o', (add M c o q y most).2.2 = (c + 1, o', q) ∧ Far (c + 1) o' q ∧ c + 1 ≤ 600 := by
  have h1 := h.c0
  have h2 := h.o
  have h3 := h.q
  unfold add
  by_cases hc : 600 < c + 1
  · rw [if_pos hc]; simp
  rw [if_neg hc]
  by_cases hm : most < (y.Name.length : Int)
  · rw [if_pos hm]; simp
  rw [if_neg hm]
  by_cases hk : clause y.Kind = true
  · rw [if_pos hk]
    cases dfn M y with
    | none => simp
    | some z => exact fun _ => ⟨_, rfl, ⟨by omega, by simp; omega, by omega⟩, by omega⟩
  · rw [if_neg hk]
    exact fun _ => ⟨_, rfl, ⟨by omega, by simp; omega, by omega⟩, by omega⟩
theorem runL_inv {α σ ρ : Type} {f : Nat → σ → α → σ ⊕ ρ} {fin : σ → ρ} {Inv : σ → Prop} {Q : ρ → Prop} : ∀ (l : List α), (∀ i s a, a ∈ l → Inv s → match f i s a with | .inl s' => Inv s' | .inr r => Q r) → (∀ s, Inv s → Q (fin s)) → ∀ (i : Nat) (s : σ), Inv s → Q (runL f fin i s l)
  | [], _, hf, i, s, hs => hf s hs
  | a :: l, h, hf, i, s, hs => by
    have h1 := h i s a (List.mem_cons_self ..) hs
    rw [runL]
    cases hfa : f i s a with
    | inl s' => rw [hfa] at h1; exact runL_inv l (fun i s b hb hs => h i s b (List.mem_cons_of_mem _ hb) hs) hf (i + 1) s' h1
    | inr r => rw [hfa] at h1; exact h1
theorem incl_far (M : Maps) : ∀ (k : Nat) (c : Int) (o : List Item) (q : List Str) (u : Item), Far c o q → (incl M k c o q u).1 = 0 → ∃ c' o', (incl M k c o q u).2.2 = (c', o', q) ∧ Far c' o' q ∧ c + 1 ≤ c' ∧ c' ≤ 600
  | 0, c, o, q, u, h, h0 => by simp [incl] at h0
  | k + 1, c, o, q, u, h, h0 => by
    have g1 := h.c0
    have g2 := h.o
    have g3 := h.q
    unfold incl at h0 ⊢
    by_cases hc : 600 < c + 1
    · rw [if_pos hc] at h0; simp at h0
    rw [if_neg hc] at h0 ⊢
    cases ht : mlook u.Of M.t with
    | none => rw [ht] at h0; simp at h0
    | some t =>
      rw [ht] at h0
      simp only at h0 ⊢
      by_cases hn : t.Names.length ≠ u.Names.length
      · rw [if_pos hn] at h0; simp at h0
      rw [if_neg hn] at h0 ⊢
      by_cases hq : (find q u.Of).isSome = true
      · rw [if_pos hq] at h0; simp at h0
      rw [if_neg hq] at h0 ⊢
      by_cases hm : 24 < u.Name.length
      · rw [if_pos hm] at h0; simp at h0
      rw [if_neg hm] at h0 ⊢
      refine runL_inv (Inv := fun (s : Int × List Item × List Str) => s.2.2 = q ++ [u.Of] ∧ Far s.1 s.2.1 s.2.2 ∧ c + 1 ≤ s.1 ∧ s.1 ≤ 600) (Q := fun (r : R) => r.1 = 0 → ∃ c' o', r.2.2 = (c', o', q) ∧ Far c' o' q ∧ c + 1 ≤ c' ∧ c' ≤ 600) t.Items (fun i s a _ hs => ?_) (fun s hs _ => ?_) 0 _ ⟨rfl, ⟨by simp only; omega, by simp only; omega, by simp; omega⟩, by simp only; omega, by simp only; omega⟩ h0
      · obtain ⟨h1, h2, h3, h4⟩ := hs
        unfold stepI
        by_cases hk : (inst t u a).Kind = 14
        · rw [if_pos hk]
          by_cases hr : (incl M k s.1 s.2.1 s.2.2 (inst t u a)).1 = 0
          · rw [if_pos hr]
            obtain ⟨c', o', e1, e2, e3, e4⟩ := incl_far M k s.1 s.2.1 s.2.2 _ h2 hr
            simp only [e1]
            exact ⟨h1, e2, by omega, e4⟩
          · rw [if_neg hr]
            exact fun h => absurd h hr
        · rw [if_neg hk]
          by_cases hcl : clause (inst t u a).Kind = true
          · rw [if_pos hcl]
            by_cases hr : (add M s.1 s.2.1 s.2.2 (inst t u a) 24).1 = 0
            · rw [if_pos hr]
              obtain ⟨o', e1, e2, e3⟩ := add_far h2 hr
              simp only [e1]
              exact ⟨h1, e2, by omega, e3⟩
            · rw [if_neg hr]
              exact fun h => absurd h hr
          · rw [if_neg hcl]
            simp
      · obtain ⟨h1, h2, h3, h4⟩ := hs
        refine ⟨s.1, s.2.1, by rw [h1]; simp, ⟨h2.c0, h2.o, ?_⟩, h3, h4⟩
        have := h2.q
        rw [h1] at this
        simp at this
        omega
theorem s26_eq (M : Maps) (hM : ∀ n t, mlook n M.t = some t → BdT t) : ∀ (k : Nat) (N : Nat) (c : Int) (o : List Item) (q : List Str) (u : Item), NB + 1 + k < N → Far c o q → 600 ≤ (k : Int) + c → c ≤ 600 → s26 N M.t M.s M.m c o q u = some (incl M k c o q u)
  | k, 0, c, o, q, u, hN, _, _, _ => by omega
  | 0, N + 1, c, o, q, u, hN, h, hk, hc => by
    have g1 := h.c0
    simp only [s26, s26_body, s32, Option.bind_some, incl]
    rw [wr (by omega) (by omega)]
    simp [show 600 < c + 1 by omega]
  | k + 1, N + 1, c, o, q, u, hN, h, hk, hc => by
    have g1 := h.c0
    have g2 := h.o
    have g3 := h.q
    simp only [s26, s26_body, s32, Option.bind_some, incl]
    rw [wr (by omega) (by omega)]
    by_cases hc1 : 600 < c + 1
    · simp [hc1]
    simp only [hc1, decide_false, cond_false]
    rw [if_neg (by simp)]
    cases ht : mlook u.Of M.t with
    | none => rfl
    | some t =>
      have hb := hM _ _ ht
      simp only [Option.elim_some]
      by_cases hn : t.Names.length = u.Names.length
      · rw [if_pos (show (t.Names.length : Int) = (u.Names.length : Int) by omega), if_neg (show ¬ (t.Names.length ≠ u.Names.length) by simpa using hn), s33_eq (by unfold NB at hN; omega) (by unfold NB; omega)]
        simp only [Option.bind_some]
        by_cases hq : (find q u.Of).isSome = true
        · rw [hq]; simp
        have hq' : (find q u.Of).isSome = false := by simpa using hq
        rw [hq']
        simp only [cond_false]
        by_cases hm : 24 < u.Name.length
        · rw [if_pos (show (24 : Int) < (u.Name.length : Int) by omega), if_pos hm]
          simp
        rw [if_neg (show ¬ (24 : Int) < (u.Name.length : Int) by omega), if_neg hm, grd_pos (by omega), if_neg (by simp)]
        have hit : iter (fun p => s26_b1 N M.t M.s M.m u t (s26 N) p.1 p.2.1 p.2.2.1 p.2.2.2) N (c + 1, o, q ++ [u.Of], 0) = some _ := iter_list (fun (s : Int × List Item × List Str) i => (s.1, s.2.1, s.2.2, i)) (c + 1, o, q ++ [u.Of]) t.Items (fun _ s a => match stepI (incl M k) M t u s a with | .inl s' => .inl s' | .inr r => .inr (.ret r)) (fun s => .brk s)
          (fun _ s => s.2.2 = q ++ [u.Of] ∧ Far s.1 s.2.1 s.2.2 ∧ c + 1 ≤ s.1 ∧ s.1 ≤ 600) (fun i s a hi hs => by
          obtain ⟨ha, hlt⟩ := getI hi
          obtain ⟨h1, h2, h3, h4⟩ := hs
          have hlen := hb.items
          have hy := hb.bd a (List.mem_of_getElem? hi)
          have f1 := h2.c0
          have f2 := h2.o
          have hrec : ∀ z, s26 N M.t M.s M.m s.1 s.2.1 s.2.2 z = some (incl M k s.1 s.2.1 s.2.2 z) := fun z => s26_eq M hM k N s.1 s.2.1 s.2.2 z (by omega) h2 (by omega) (by omega)
          have hadd : ∀ z, s27 N M.t M.s M.m s.1 s.2.1 s.2.2 z 24 = some (add M s.1 s.2.1 s.2.2 z 24) := fun z => s27_eq f1 (by omega) (by omega)
          constructor
          · simp only [s26_b1]
            rw [if_pos (by omega), grd_pos (by omega), toNat_nat, ha, wr_succ (by unfold NB at hlen; omega), s34_eq (by omega) hb.names hb.items hn (by omega) hy]
            simp only [Option.bind_some, hrec, s35_eq, hadd]
            unfold stepI
            by_cases hk : (inst t u a).Kind = 14
            · rw [if_pos hk, if_pos hk]
              by_cases hr : (incl M k s.1 s.2.1 s.2.2 (inst t u a)).1 = 0
              · rw [if_pos hr, if_pos hr]
              · rw [if_neg hr, if_neg hr]
            · rw [if_neg hk, if_neg hk]
              cases hcl : clause (inst t u a).Kind with
              | true =>
                simp only [cond_true, if_true]
                by_cases hr : (add M s.1 s.2.1 s.2.2 (inst t u a) 24).1 = 0
                · rw [if_pos hr, if_pos hr]
                · rw [if_neg hr, if_neg hr]
              | false => rfl
          · intro s' he
            unfold stepI at he
            by_cases hk : (inst t u a).Kind = 14
            · rw [if_pos hk] at he
              by_cases hr : (incl M k s.1 s.2.1 s.2.2 (inst t u a)).1 = 0
              · rw [if_pos hr] at he
                obtain ⟨c', o', e1, e2, e3, e4⟩ := incl_far M k s.1 s.2.1 s.2.2 _ h2 hr
                cases he
                simp only [e1]
                exact ⟨h1, e2, by omega, e4⟩
              · rw [if_neg hr] at he; cases he
            · rw [if_neg hk] at he
              by_cases hcl : clause (inst t u a).Kind = true
              · rw [if_pos hcl] at he
                by_cases hr : (add M s.1 s.2.1 s.2.2 (inst t u a) 24).1 = 0
                · rw [if_pos hr] at he
                  obtain ⟨o', e1, e2, e3⟩ := add_far h2 hr
                  cases he
                  simp only [e1]
                  exact ⟨h1, e2, by omega, e3⟩
                · rw [if_neg hr] at he; cases he
              · rw [if_neg hcl] at he; cases he) (fun s hs => by
          simp only [s26_b1]
          rw [if_neg (by omega)]) (by have := hb.items; omega) ⟨rfl, ⟨by simp only; omega, by simp only; omega, by simp; omega⟩, by simp only; omega, by simp only; omega⟩
        rw [hit]
        simp only [Option.bind_some]
        have hout : ∀ (l : List Item) (i : Nat) (s : Int × List Item × List Str), (s.2.2 = q ++ [u.Of] ∧ Far s.1 s.2.1 s.2.2 ∧ c + 1 ≤ s.1 ∧ s.1 ≤ 600) →
            (Ou.on (runL (fun _ s a => match stepI (incl M k) M t u s a with | .inl s' => .inl s' | .inr r => .inr (Ou.ret r)) (fun s => Ou.brk s) i s l) (fun a27 =>
            grd (0 < List.length a27.2.2) <|
            grd (0 ≤ IntKind.wrap .i64 ((List.length a27.2.2 : Int) - 1) ∧ IntKind.wrap .i64 ((List.length a27.2.2 : Int) - 1) ≤ (List.length a27.2.2 : Int)) <|
            some ((0 : Int), false, a27.1, a27.2.1, List.take (IntKind.wrap .i64 ((List.length a27.2.2 : Int) - 1)).toNat a27.2.2)) (fun a27r => some a27r))
            = some (runL (fun _ s a => stepI (incl M k) M t u s a) (fun s => (0, false, s.1, s.2.1, s.2.2.take (s.2.2.length - 1))) i s l) := by
          intro l
          induction l with
          | nil =>
            intro i s hs
            obtain ⟨h1, h2, h3, h4⟩ := hs
            have := h2.q
            have hl : 0 < s.2.2.length := by rw [h1]; simp
            simp only [runL, Ou.on]
            rw [wr (by omega) (by omega), grd_pos hl, grd_pos (by omega)]
            simp only [Option.some.injEq, Prod.mk.injEq, true_and]
            congr 1
            omega
          | cons a l ih =>
            intro i s hs
            rw [runL, runL]
            cases he : stepI (incl M k) M t u s a with
            | inr r => rfl
            | inl s' =>
              refine ih (i + 1) s' ?_
              obtain ⟨h1, h2, h3, h4⟩ := hs
              unfold stepI at he
              by_cases hk : (inst t u a).Kind = 14
              · rw [if_pos hk] at he
                by_cases hr : (incl M k s.1 s.2.1 s.2.2 (inst t u a)).1 = 0
                · rw [if_pos hr] at he
                  obtain ⟨c', o', e1, e2, e3, e4⟩ := incl_far M k s.1 s.2.1 s.2.2 _ h2 hr
                  cases he
                  simp only [e1]
                  exact ⟨h1, e2, by omega, e4⟩
                · rw [if_neg hr] at he; cases he
              · rw [if_neg hk] at he
                by_cases hcl : clause (inst t u a).Kind = true
                · rw [if_pos hcl] at he
                  by_cases hr : (add M s.1 s.2.1 s.2.2 (inst t u a) 24).1 = 0
                  · rw [if_pos hr] at he
                    obtain ⟨o', e1, e2, e3⟩ := add_far h2 hr
                    cases he
                    simp only [e1]
                    exact ⟨h1, e2, by omega, e3⟩
                  · rw [if_neg hr] at he; cases he
                · rw [if_neg hcl] at he; cases he
        exact hout t.Items 0 _ ⟨rfl, ⟨by simp only; omega, by simp only; omega, by simp; omega⟩, by simp only; omega, by simp only; omega⟩
      · rw [if_neg (by omega), if_pos hn]
end Go.Proofs.Inc
namespace Go.Proofs.Inc
open Go.Aw
def dupS (s : Bool × List (Str × Bool)) (a : Str) : Bool × List (Str × Bool) := (s.1 || (mlook a s.2).getD false, mset a true s.2)
def dupB (l : List Str) : Bool := (l.foldl dupS (false, [])).1
def dcl (M : Maps) (y : Item) : Int × Maps :=
  if y.Kind = 13 then match mlook y.Name M.t with
    | none => (if dupB y.Names then 9 else 0, { M with t := mset y.Name y M.t })
    | some _ => (9, M)
  else if y.Kind = 6 then match mlook y.Name M.s with
    | none => (0, { M with s := mset y.Name { y.Within with Name := [] } M.s })
    | some _ => (9, M)
  else if y.Kind = 7 then match mlook y.Name M.m with
    | none => (0, { M with m := mset y.Name y M.m })
    | some _ => (9, M)
  else (0, M)
theorem s25_eq {N : Nat} {M : Maps} {y : Item} (hN : y.Names.length < N) (hl : y.Names.length ≤ NB) :
    s25 N M.t M.s M.m 0 [] [] y = some ((dcl M y).1, (dcl M y).2.t, (dcl M y).2.s, (dcl M y).2.m) := by
  simp only [s25, dcl]
  by_cases h13 : y.Kind = 13
  · rw [if_pos h13, if_pos h13]
    cases mlook y.Name M.t with
    | none =>
      have hit : iter (fun p => s25_b1 N y p.1 p.2.1 p.2.2) N (false, [], 0) = some _ := iter_list (fun (s : Bool × List (Str × Bool)) i => (s.1, s.2, i)) (false, []) y.Names (fun _ s a => .inl (dupS s a)) (fun s => s.1) (fun _ _ => True) (fun i s a hi _ => by
        obtain ⟨ha, hlt⟩ := getI hi
        refine ⟨?_, fun _ _ => trivial⟩
        simp only [s25_b1]
        rw [if_pos (by omega), grd_pos (by omega), toNat_nat, ha, wr_succ (by unfold NB at hl; omega)]
        obtain ⟨b, m⟩ := s
        cases b with
        | true => simp [dupS]
        | false => cases hm : mlook a m <;> simp [dupS, hm]) (fun s _ => by
        simp only [s25_b1]
        rw [if_neg (by omega)]) hN trivial
      simp only [Option.elim_none]
      rw [hit, runL_fold]
      simp only [Option.bind_some]
      show (bif dupB y.Names then _ else _) = _
      cases dupB y.Names <;> rfl
    | some v =>
      have hit : iter (fun p => s25_b2 N y p.1 p.2) N ([], 0) = some _ := iter_list (fun (s : List (Str × Bool)) i => (s, i)) [] y.Names (fun _ s a => .inl (mset a true s)) (fun s => ()) (fun _ _ => True) (fun i s a hi _ => by
        obtain ⟨ha, hlt⟩ := getI hi
        refine ⟨?_, fun _ _ => trivial⟩
        simp only [s25_b2]
        rw [if_pos (by omega), grd_pos (by omega), toNat_nat, ha, wr_succ (by unfold NB at hl; omega)]) (fun s _ => by
        simp only [s25_b2]
        rw [if_neg (by omega)]) hN trivial
      simp only [Option.elim_some]
      rw [hit]
      rfl
  rw [if_neg h13, if_neg h13]
  by_cases h6 : y.Kind = 6
  · rw [if_pos h6, if_pos h6]
    cases mlook y.Name M.s <;> rfl
  rw [if_neg h6, if_neg h6]
  by_cases h7 : y.Kind = 7
  · rw [if_pos h7, if_pos h7]
    cases mlook y.Name M.m <;> rfl
  rw [if_neg h7, if_neg h7]
def dcls (M : Maps) : List Item → List Int × Maps
  | [] => ([], M)
  | y :: l => ((dcl M y).1 :: (dcls (dcl M y).2 l).1, (dcls (dcl M y).2 l).2)
theorem dcls_len : ∀ (M : Maps) (l : List Item), (dcls M l).1.length = l.length
  | M, [] => rfl
  | M, y :: l => by simp [dcls, dcls_len]
theorem s11_b8_loop {N : Nat} {p1 : Source} (hN : NB < N) (hl : p1.Items.length ≤ NB) (hnames : ∀ y, y ∈ p1.Items → y.Names.length ≤ NB) : ∀ (l : List Item) (i : Nat) (M : Maps) (pre : List Int), p1.Items.drop i = l → pre.length = i → ∀ K, l.length < K →
    iter (fun p => s11_b8 N p1 p.1 p.2.1 p.2.2.1 p.2.2.2.1 p.2.2.2.2) K (M.t, M.s, M.m, pre ++ List.replicate l.length 0, (i : Int)) = some ((dcls M l).2.t, (dcls M l).2.s, (dcls M l).2.m, pre ++ (dcls M l).1)
  | [], i, M, pre, hd, hp, K, hK => by
    obtain ⟨K, rfl⟩ : ∃ k, K = k + 1 := ⟨K - 1, by simp at hK; omega⟩
    have hi : p1.Items.length ≤ i := List.drop_eq_nil_iff.1 hd
    refine iter_end ?_
    simp only [s11_b8]
    rw [if_neg (by omega)]
    simp [dcls]
  | y :: l, i, M, pre, hd, hp, K, hK => by
    obtain ⟨K, rfl⟩ : ∃ k, K = k + 1 := ⟨K - 1, by simp at hK; omega⟩
    have hi : p1.Items[i]? = some y := by rw [← List.head?_drop, hd]; rfl
    obtain ⟨hx, hlt⟩ := getI hi
    have hn := hnames y (List.mem_of_getElem? hi)
    have hb : s11_b8 N p1 M.t M.s M.m (pre ++ List.replicate (l.length + 1) 0) (i : Int) = some (.inl ((dcl M y).2.t, (dcl M y).2.s, (dcl M y).2.m, (pre ++ [(dcl M y).1]) ++ List.replicate l.length 0, ((i + 1 : Nat) : Int))) := by
      simp only [s11_b8]
      rw [if_pos (by omega), grd_pos (by omega), toNat_nat, hx, s25_eq (by omega) hn]
      simp only [Option.bind_some]
      rw [grd_pos (by simp; omega), wr_succ (by unfold NB at hl; omega), List.set_append_right i _ (by omega), hp, Nat.sub_self, List.replicate_succ, List.set_cons_zero]
      simp
    rw [List.length_cons, iter_step (by exact hb)]
    rw [s11_b8_loop hN hl hnames l (i + 1) (dcl M y).2 (pre ++ [(dcl M y).1]) (by rw [← List.drop_drop, hd]; rfl) (by simp [hp]) K (by simp at hK; omega)]
    simp [dcls]
def top (M : Maps) : Int → List Item → List Fault → List (Int × Item) → List Item × List Fault
  | _, o, F, [] => (o, F)
  | c, o, F, p :: l =>
    if defines p.2.Kind then top M c o (if p.1 = 0 then F else F ++ [⟨p.1, p.2.At⟩]) l
    else
      let r := if p.2.Kind = 14 then incl M 600 c o [] p.2 else add M c o [] p.2 p.2.Name.length
      let F' := if r.1 = 0 then F else F ++ [⟨r.1, p.2.At⟩]
      if r.2.1 then (r.2.2.2.1, F') else top M r.2.2.1 r.2.2.2.1 F' l
theorem add_q {M : Maps} {c : Int} {o : List Item} {q : List Str} {y : Item} {most : Int} : (add M c o q y most).1 = (add M c o [] y most).1 ∧ (add M c o q y most).2.1 = (add M c o [] y most).2.1 ∧ (add M c o q y most).2.2.1 = (add M c o [] y most).2.2.1 ∧ (add M c o q y most).2.2.2.1 = (add M c o [] y most).2.2.2.1 := by
  unfold add
  split
  · simp
  · split
    · simp
    · split
      · split <;> simp
      · simp
def Fine (c : Int) (r : R) : Prop := r.2.1 = false → c ≤ r.2.2.1 ∧ r.2.2.1 ≤ 600 ∧ (r.2.2.2.1.length : Int) ≤ r.2.2.1
theorem add_fine {M : Maps} {c : Int} {o : List Item} {q : List Str} {y : Item} {most : Int} (h : (o.length : Int) ≤ c) : Fine c (add M c o q y most) := by
  unfold Fine add
  by_cases hc : 600 < c + 1
  · rw [if_pos hc]; simp
  rw [if_neg hc]
  by_cases hm : most < (y.Name.length : Int)
  · rw [if_pos hm]; intro _; exact ⟨by simp only; omega, by simp only; omega, by simp only; omega⟩
  rw [if_neg hm]
  by_cases hk : clause y.Kind = true
  · rw [if_pos hk]
    cases dfn M y with
    | none => intro _; exact ⟨by simp only; omega, by simp only; omega, by simp only; omega⟩
    | some z => intro _; exact ⟨by simp only; omega, by simp only; omega, by simp; omega⟩
  · rw [if_neg hk]
    intro _; exact ⟨by simp only; omega, by simp only; omega, by simp; omega⟩
theorem incl_fine (M : Maps) : ∀ (k : Nat) (c : Int) (o : List Item) (q : List Str) (u : Item), Far c o q → Fine c (incl M k c o q u)
  | 0, c, o, q, u, h => by simp [Fine, incl]
  | k + 1, c, o, q, u, h => by
    have g1 := h.c0
    have g2 := h.o
    have g3 := h.q
    unfold Fine incl
    by_cases hc : 600 < c + 1
    · rw [if_pos hc]; simp
    rw [if_neg hc]
    have base : ∀ e : Int, ((e, false, c + 1, o, q) : R).2.1 = false → c ≤ ((e, false, c + 1, o, q) : R).2.2.1 ∧ ((e, false, c + 1, o, q) : R).2.2.1 ≤ 600 ∧ (((e, false, c + 1, o, q) : R).2.2.2.1.length : Int) ≤ ((e, false, c + 1, o, q) : R).2.2.1 := fun e _ => ⟨by simp only; omega, by simp only; omega, by simp only; omega⟩
    cases ht : mlook u.Of M.t with
    | none => exact base 8
    | some t =>
      simp only
      by_cases hn : t.Names.length ≠ u.Names.length
      · rw [if_pos hn]; exact base 1
      rw [if_neg hn]
      by_cases hq : (find q u.Of).isSome = true
      · rw [if_pos hq]; exact base 12
      rw [if_neg hq]
      by_cases hm : 24 < u.Name.length
      · rw [if_pos hm]; exact base 3
      rw [if_neg hm]
      refine runL_inv (Inv := fun (s : Int × List Item × List Str) => Far s.1 s.2.1 s.2.2 ∧ c + 1 ≤ s.1 ∧ s.1 ≤ 600) (Q := fun (r : R) => r.2.1 = false → c ≤ r.2.2.1 ∧ r.2.2.1 ≤ 600 ∧ (r.2.2.2.1.length : Int) ≤ r.2.2.1) t.Items (fun i s a _ hs => ?_) (fun s hs _ => ?_) 0 _ ⟨⟨by simp only; omega, by simp only; omega, by simp; omega⟩, by simp only; omega, by simp only; omega⟩
      · obtain ⟨h2, h3, h4⟩ := hs
        unfold stepI
        by_cases hk : (inst t u a).Kind = 14
        · rw [if_pos hk]
          by_cases hr : (incl M k s.1 s.2.1 s.2.2 (inst t u a)).1 = 0
          · rw [if_pos hr]
            obtain ⟨c', o', e1, e2, e3, e4⟩ := incl_far M k s.1 s.2.1 s.2.2 _ h2 hr
            simp only [e1]
            exact ⟨e2, by omega, e4⟩
          · rw [if_neg hr]
            intro h
            obtain ⟨f1, f2, f3⟩ := incl_fine M k s.1 s.2.1 s.2.2 (inst t u a) h2 h
            exact ⟨by omega, f2, f3⟩
        · rw [if_neg hk]
          by_cases hcl : clause (inst t u a).Kind = true
          · rw [if_pos hcl]
            by_cases hr : (add M s.1 s.2.1 s.2.2 (inst t u a) 24).1 = 0
            · rw [if_pos hr]
              obtain ⟨o', e1, e2, e3⟩ := add_far h2 hr
              simp only [e1]
              exact ⟨e2, by omega, e3⟩
            · rw [if_neg hr]
              intro h
              obtain ⟨f1, f2, f3⟩ := add_fine (M := M) (q := s.2.2) (y := inst t u a) (most := 24) h2.o h
              exact ⟨by omega, f2, f3⟩
          · rw [if_neg hcl]
            exact fun _ => ⟨by simp only; omega, by simp only; omega, h2.o⟩
      · obtain ⟨h2, h3, h4⟩ := hs
        exact ⟨by simp only; omega, by simp only; omega, h2.o⟩
theorem top_loop {N : Nat} {p1 : Source} {M : Maps} {errs : List Int} (hM : ∀ n t, mlook n M.t = some t → BdT t) (hN : NB + 602 < N) (hlen : p1.Items.length ≤ 600) (he : errs.length = p1.Items.length) :
    ∀ (l : List (Int × Item)) (i : Nat) (c : Int) (o : List Item) (q : List Str) (F : List Fault), (errs.zip p1.Items).drop i = l → 0 ≤ c → c ≤ 600 → (o.length : Int) ≤ c → F.length ≤ i → ∀ K, l.length < K →
      ∃ c' q', iter (fun p => s11_b6 N p1 M.t M.s M.m errs p.1 p.2.1 p.2.2.1 p.2.2.2.1 p.2.2.2.2) K (c, o, q, F, (i : Int)) = some (c', (top M c o F l).1, q', (top M c o F l).2)
  | [], i, c, o, q, F, hd, _, _, _, _, K, hK => by
    obtain ⟨K, rfl⟩ : ∃ k, K = k + 1 := ⟨K - 1, by simp at hK; omega⟩
    have hi : (errs.zip p1.Items).length ≤ i := List.drop_eq_nil_iff.1 hd
    rw [List.length_zip] at hi
    refine ⟨c, q, iter_end ?_⟩
    simp only [s11_b6]
    rw [if_neg (by omega)]
    rfl
  | p :: l, i, c, o, q, F, hd, hc0, hc, ho, hF, K, hK => by
    obtain ⟨K, rfl⟩ : ∃ k, K = k + 1 := ⟨K - 1, by simp at hK; omega⟩
    have hi : (errs.zip p1.Items)[i]? = some p := by rw [← List.head?_drop, hd]; rfl
    have hil : i < (errs.zip p1.Items).length := (List.getElem?_eq_some_iff.1 hi).1
    rw [List.length_zip] at hil
    have h1 : errs[i]? = some p.1 ∧ p1.Items[i]? = some p.2 := by
      rw [List.getElem?_zip_eq_some] at hi
      exact hi
    obtain ⟨hx1, hlt1⟩ := getI h1.1
    obtain ⟨hx2, hlt2⟩ := getI h1.2
    have hdn : (errs.zip p1.Items).drop (i + 1) = l := by rw [← List.drop_drop, hd]; rfl
    have next : ∀ c o q F, 0 ≤ c → c ≤ 600 → (o.length : Int) ≤ c → F.length ≤ i + 1 → ∃ c' q', iter (fun p => s11_b6 N p1 M.t M.s M.m errs p.1 p.2.1 p.2.2.1 p.2.2.2.1 p.2.2.2.2) K (c, o, q, F, ((i + 1 : Nat) : Int)) = some (c', (top M c o F l).1, q', (top M c o F l).2) :=
      fun c o q F h1 h2 h3 h4 => top_loop hM hN hlen he l (i + 1) c o q F hdn h1 h2 h3 h4 K (by simp at hK; omega)
    have hwr : IntKind.wrap .i64 ((i : Int) + 1) = ((i + 1 : Nat) : Int) := wr_succ (by omega)
    have hbody : s11_b6 N p1 M.t M.s M.m errs c o q F (i : Int) = s11_k5 N p1 M.t M.s M.m errs c o q F (i : Int) (defines p.2.Kind) := by
      simp only [s11_b6]
      rw [if_pos (by omega), grd_pos (by omega), grd_pos (by omega), toNat_nat, hx2]
      by_cases h13 : p.2.Kind = 13
      · simp [h13, defines]
      rw [if_neg h13]
      by_cases h6 : p.2.Kind = 6
      · simp [h6, defines]
      rw [if_neg h6]
      simp [h13, h6, defines]
    cases hdf : defines p.2.Kind with
    | true =>
      rw [hdf] at hbody
      simp only [s11_k5, cond_true, toNat_nat, hx1, hx2, s11_k2] at hbody
      rw [hwr] at hbody
      unfold top
      rw [if_pos hdf]
      by_cases h0 : p.1 = 0
      · rw [if_pos h0] at hbody ⊢
        obtain ⟨c', q', h⟩ := next c o q F hc0 hc ho (by omega)
        exact ⟨c', q', by rw [iter_step (by exact hbody)]; exact h⟩
      · rw [if_neg h0, grd_pos (by omega)] at hbody
        rw [if_neg h0]
        obtain ⟨c', q', h⟩ := next c o q (F ++ [⟨p.1, p.2.At⟩]) hc0 hc ho (by simp; omega)
        exact ⟨c', q', by rw [iter_step (by exact hbody)]; exact h⟩
    | false =>
      rw [hdf] at hbody
      simp only [s11_k5, cond_false, toNat_nat, hx1, hx2] at hbody
      unfold top
      rw [if_neg (by simp [hdf])]
      have hfar : Far c o [] := ⟨hc0, ho, by simpa using hc0⟩
      have fin : ∀ (r : R) (r1 : R), r1.1 = r.1 → r1.2.1 = r.2.1 → r1.2.2.1 = r.2.2.1 → r1.2.2.2.1 = r.2.2.2.1 → Fine c r →
          s11_b6 N p1 M.t M.s M.m errs c o q F (i : Int) = (if r1.1 = 0 then (bif r1.2.1 then some (.inr (r1.2.2.1, r1.2.2.2.1, r1.2.2.2.2, F)) else some (.inl (r1.2.2.1, r1.2.2.2.1, r1.2.2.2.2, F, ((i + 1 : Nat) : Int)))) else (bif r1.2.1 then some (.inr (r1.2.2.1, r1.2.2.2.1, r1.2.2.2.2, F ++ [⟨r1.1, p.2.At⟩])) else some (.inl (r1.2.2.1, r1.2.2.2.1, r1.2.2.2.2, F ++ [⟨r1.1, p.2.At⟩], ((i + 1 : Nat) : Int))))) →
          ∃ c' q', iter (fun p => s11_b6 N p1 M.t M.s M.m errs p.1 p.2.1 p.2.2.1 p.2.2.2.1 p.2.2.2.2) (K + 1) (c, o, q, F, (i : Int)) = some (c', (if r.2.1 = true then (r.2.2.2.1, if r.1 = 0 then F else F ++ [⟨r.1, p.2.At⟩]) else top M r.2.2.1 r.2.2.2.1 (if r.1 = 0 then F else F ++ [⟨r.1, p.2.At⟩]) l).1, q', (if r.2.1 = true then (r.2.2.2.1, if r.1 = 0 then F else F ++ [⟨r.1, p.2.At⟩]) else top M r.2.2.1 r.2.2.2.1 (if r.1 = 0 then F else F ++ [⟨r.1, p.2.At⟩]) l).2) := by
        intro r r1 e1 e2 e3 e4 hfine hb
        rw [e1, e2, e3, e4] at hb
        have hFl : (if r.1 = 0 then F else F ++ [⟨r.1, p.2.At⟩]).length ≤ i + 1 := by
          split
          · omega
          · simp; omega
        have hb' : s11_b6 N p1 M.t M.s M.m errs c o q F (i : Int) = (bif r.2.1 then some (.inr (r.2.2.1, r.2.2.2.1, r1.2.2.2.2, if r.1 = 0 then F else F ++ [⟨r.1, p.2.At⟩])) else some (.inl (r.2.2.1, r.2.2.2.1, r1.2.2.2.2, (if r.1 = 0 then F else F ++ [⟨r.1, p.2.At⟩]), ((i + 1 : Nat) : Int)))) := by
          rw [hb]; split <;> rfl
        cases hs : r.2.1 with
        | true =>
          rw [hs] at hb'
          exact ⟨r.2.2.1, r1.2.2.2.2, iter_end (by exact hb')⟩
        | false =>
          rw [hs] at hb'
          obtain ⟨f1, f2, f3⟩ := hfine hs
          obtain ⟨c', q', h⟩ := next r.2.2.1 r.2.2.2.1 r1.2.2.2.2 _ (by omega) f2 f3 hFl
          exact ⟨c', q', by rw [iter_step (by exact hb')]; simpa using h⟩
      by_cases h14 : p.2.Kind = 14
      · rw [if_pos h14, s26_eq M hM 600 N c o [] p.2 (by omega) hfar (by omega) hc] at hbody
        simp only [Option.bind_some, s11_k3] at hbody
        rw [grd_pos (by omega), hwr] at hbody
        simp only [if_pos h14]
        exact fin _ (incl M 600 c o [] p.2) rfl rfl rfl rfl (incl_fine M 600 c o [] p.2 hfar) (by rw [hbody])
      · rw [if_neg h14, s27_eq hc0 (by omega) (by omega)] at hbody
        simp only [Option.bind_some, s11_k4] at hbody
        rw [grd_pos (by omega), hwr] at hbody
        simp only [if_neg h14]
        obtain ⟨a1, a2, a3, a4⟩ := add_q (M := M) (c := c) (o := o) (q := q) (y := p.2) (most := p.2.Name.length)
        exact fin _ (add M c o q p.2 p.2.Name.length) a1 a2 a3 a4 (add_fine ho) (by rw [hbody])
def noSource : Source := ⟨[], ⟨0, 0, 0⟩, 0, []⟩
def M0 : Maps := ⟨[], [], []⟩
def expand (p : Source) : Source × List Fault :=
  if 600 < iszl p.Items then (noSource, [⟨3, 0⟩])
  else
    let d := dcls M0 p.Items
    let r := top d.2 0 [] [] (d.1.zip p.Items)
    if r.2 = [] then ({ p with Items := r.1 }, []) else (noSource, r.2)
theorem mlook_mset {α β : Type} [DecidableEq α] {k k' : α} {v : β} : ∀ {l : List (α × β)}, mlook k' (mset k v l) = if k' = k then some v else mlook k' l
  | [] => by simp [mset, mlook]
  | p :: l => by
    simp only [mset]
    by_cases hk : k = p.1
    · rw [if_pos hk]
      simp only [mlook]
      by_cases h' : k' = k
      · simp [h']
      · rw [if_neg h', if_neg h', if_neg (by rw [← hk]; exact h')]
    · rw [if_neg hk]
      simp only [mlook]
      by_cases h' : k' = p.1
      · rw [if_pos h', if_pos h', if_neg (by rw [h']; exact fun h => hk h.symm)]
      · rw [if_neg h', if_neg h']
        exact mlook_mset
theorem dcl_t {M : Maps} {y : Item} {n : Str} {t : Item} (h : mlook n (dcl M y).2.t = some t) : mlook n M.t = some t ∨ (t = y ∧ y.Kind = 13 ∧ n = y.Name) := by
  unfold dcl at h
  by_cases h13 : y.Kind = 13
  · rw [if_pos h13] at h
    cases hm : mlook y.Name M.t with
    | none =>
      rw [hm] at h
      simp only [mlook_mset] at h
      split at h
      · rename_i e; cases h; exact .inr ⟨rfl, h13, e⟩
      · exact .inl h
    | some _ => rw [hm] at h; exact .inl h
  rw [if_neg h13] at h
  by_cases h6 : y.Kind = 6
  · rw [if_pos h6] at h
    cases hm : mlook y.Name M.s <;> rw [hm] at h <;> exact .inl h
  rw [if_neg h6] at h
  by_cases h7 : y.Kind = 7
  · rw [if_pos h7] at h
    cases hm : mlook y.Name M.m <;> rw [hm] at h <;> exact .inl h
  rw [if_neg h7] at h
  exact .inl h
theorem dcls_t {n : Str} {t : Item} : ∀ {l : List Item} {M : Maps}, mlook n (dcls M l).2.t = some t → mlook n M.t = some t ∨ t ∈ l
  | [], M, h => .inl h
  | y :: l, M, h => by
    rcases dcls_t (l := l) h with h | h
    · rcases dcl_t h with h | ⟨rfl, _⟩
      · exact .inl h
      · exact .inr (List.mem_cons_self ..)
    · exact .inr (List.mem_cons_of_mem _ h)
structure BdS (p : Source) : Prop where
  size : iszl p.Items ≤ 1099511627776
  items : ∀ t, t ∈ p.Items → BdT t
set_option maxRecDepth 100000 in
theorem s11_eq {N : Nat} {p : Source} (hb : BdS p) (hN : NB + 602 < N) (hN' : iszl p.Items + 1 < N) : s11 N p = some (expand p) := by
  obtain ⟨t, e1, e2, e3, e4⟩ := s24_lim N p.Items 600 (by omega) (by omega) hb.size
  simp only [s11]
  rw [show ((600 : Nat) : Int) = 600 by rfl] at e1
  rw [e1]
  simp only [Option.bind_some, expand]
  by_cases hs : 600 < iszl p.Items
  · have h4 := e4 hs
    rw [if_pos hs, if_pos (show (600 : Int) < (t : Int) by omega)]; rfl
  have h3 := e3 (by omega)
  rw [if_neg hs, if_neg (show ¬ (600 : Int) < (t : Int) by omega)]
  have hlen := iszl_len p.Items
  rw [grd_pos (by omega)]
  have h1 := s11_b8_loop (N := N) (p1 := p) (by omega) (by unfold NB; omega) (fun y hy => (hb.items y hy).names) p.Items 0 M0 [] rfl rfl N (by omega)
  simp only [List.nil_append] at h1
  rw [show ((0 : Nat) : Int) = 0 by rfl] at h1
  rw [show ((([] : List (List UInt8 × Item)), ([] : List (List UInt8 × Span)), ([] : List (List UInt8 × Item)), List.replicate p.Items.length (0 : Int), (0 : Int)) : List (List UInt8 × Item) × List (List UInt8 × Span) × List (List UInt8 × Item) × List Int × Int) = (M0.t, M0.s, M0.m, List.replicate p.Items.length 0, 0) by rfl, h1]
  simp only [Option.bind_some, s11_k7]
  obtain ⟨c', q', h2⟩ := top_loop (N := N) (p1 := p) (M := (dcls M0 p.Items).2) (errs := (dcls M0 p.Items).1) (fun n t h => by
    rcases dcls_t h with h | h
    · simp [M0, mlook] at h
    · exact hb.items t h) hN (by omega) (dcls_len _ _) _ 0 0 [] [] [] rfl (by omega) (by omega) (by simp) (by simp) N (by rw [List.drop_zero, List.length_zip, dcls_len]; omega)
  rw [show ((0 : Nat) : Int) = 0 by rfl, List.drop_zero] at h2
  rw [h2]
  simp only [Option.bind_some, s11_k1]
  generalize top (dcls M0 p.Items).2 0 [] [] ((dcls M0 p.Items).1.zip p.Items) = r
  obtain ⟨o, F⟩ := r
  cases F with
  | nil => simp
  | cons f F => simp [noSource]
end Go.Proofs.Inc
namespace Go.Aw
open Go.WideShapes Go.ChangeShapes
def reach (P : Program) : List Field → Nat → Option Nat
  | [], n => some n
  | f :: r, n => if f.offset = n then reach P r (n + P.cellsOf f.type) else none
def laysT (P : Program) (d : Option TypeDesc) (c : Nat) : Bool := match d with
  | some (.slice e) => decide (e < P.types.size) && decide (0 < P.cellsOf e)
  | some (.pointer e) => decide (e < P.types.size)
  | some (.map k e) => decide (k < P.types.size) && decide (e < P.types.size)
  | some (.struct fs) => fs.toList.all (fun f => decide (f.type < P.types.size)) && (reach P fs.toList 0 == some c)
  | some (.array n e) => decide (e < P.types.size) && (n * P.cellsOf e == c)
  | _ => true
def lays (P : Program) : Bool := (List.range P.types.size).all fun t => laysT P (P.underlying t) (P.cellsOf t)
theorem lays_at {P : Program} (h : lays P = true) {t : TypeId} (ht : t < P.types.size) {d : TypeDesc} (hu : P.underlying t = some d) : laysT P (some d) (P.cellsOf t) = true := by
  have := List.all_eq_true.1 h t (List.mem_range.2 ht)
  rwa [hu] at this
section
variable {H : Type} {enc : TypeId × Value → H} {P : Program} {w : World} {base : Nat} {sp : Nat → Bool}
theorem step_spare (hl : lays P = true) {r r' : TypeId → List Value → Option (DataW H × List MemPlace)}
    (hr : ∀ t cs x, t < P.types.size → r t cs = some x → (∀ p ∈ x.2, sp p.block = true) → r' t cs = some x) {t : TypeId} (ht : t < P.types.size) {cs : List Value} {x : DataW H × List MemPlace}
    (h : DataW.trodStep enc P w base (fun _ => true) true r t cs = some x) (hs : ∀ p ∈ x.2, sp p.block = true) : DataW.trodStep enc P w base sp true r' t cs = some x := by
  unfold DataW.trodStep at h ⊢
  split at h
  case h_6 e a hu =>
    have he : e < P.types.size := by simpa [laysT] using lays_at hl ht hu
    simp only [Option.map_eq_some_iff, Option.bind_eq_some_iff] at h ⊢
    obtain ⟨y, ⟨cs', hc, hy⟩, rfl⟩ := h
    exact ⟨y, ⟨cs', hc, hr _ _ _ he hy (fun p hp => hs p (by simp [hp]))⟩, rfl⟩
  case h_8 e a len cap hu =>
    have hE : e < P.types.size ∧ 0 < P.cellsOf e := by simpa [laysT] using lays_at hl ht hu
    simp only at h ⊢
    split at h
    · rename_i hc
      rw [if_pos hc]
      simp only [Option.map_eq_some_iff, Option.bind_eq_some_iff, if_true] at h ⊢
      obtain ⟨elems, he, rest, hrest, rfl⟩ := h
      have hrl : rest.length = cap - len := by simpa using mapM_some_length hrest
      have one : ∀ (i : Nat) (y : DataW H × List MemPlace), y ∈ elems ++ rest →
          (w.cells? base (a.add (i * P.cellsOf e)) (P.cellsOf e)).bind (r e) = some y → (w.cells? base (a.add (i * P.cellsOf e)) (P.cellsOf e)).bind (r' e) = some y := by
        intro i y hy hv
        simp only [Option.bind_eq_some_iff] at hv ⊢
        obtain ⟨cs', hc', hy'⟩ := hv
        refine ⟨cs', hc', hr _ _ _ hE.1 hy' (fun p hp => hs p ?_)⟩
        simp only [List.mem_append, List.mem_flatMap]
        right
        exact ⟨y, by simpa using hy, hp⟩
      refine ⟨elems, mapM_carry he (fun i y hi hy => one i y (by simp [hy])), rest, ?_, rfl⟩
      by_cases hsp : sp a.block = true
      · rw [if_pos hsp]
        exact mapM_carry hrest (fun j y hj hy => one (len + j) y (by simp [hy]))
      · rw [if_neg hsp]
        have hpos := hE.2
        cases rest with
        | nil => rfl
        | cons z zs =>
          refine absurd (hs (.cell a.block (a.off + 0)) ?_) hsp
          simp only [List.mem_append]
          left
          exact MemPlace.mem_row.2 ⟨0, Nat.mul_pos (by simp only [List.length_cons]; omega) hpos, rfl⟩
    · cases h
  case h_9 fs cs hu =>
    have hE := lays_at hl ht hu
    simp only [laysT, Bool.and_eq_true, List.all_eq_true, decide_eq_true_eq] at hE
    split at h
    · rename_i hc
      rw [if_pos hc]
      simp only [Option.map_eq_some_iff] at h ⊢
      obtain ⟨xs, hx, rfl⟩ := h
      exact ⟨xs, mapM_carry hx (fun f y hf hy hv => hr _ _ _ (hE.1 f hf) hv (fun p hp => hs p (List.mem_flatMap.2 ⟨y, hy, hp⟩))), rfl⟩
    · cases h
  case h_10 n e cs hu =>
    have hE := lays_at hl ht hu
    simp only [laysT, Bool.and_eq_true, decide_eq_true_eq] at hE
    split at h
    · rename_i hc
      rw [if_pos hc]
      simp only [Option.map_eq_some_iff] at h ⊢
      obtain ⟨xs, hx, rfl⟩ := h
      exact ⟨xs, mapM_carry hx (fun f y _ hy hv => hr _ _ _ hE.1 hv (fun p hp => hs p (List.mem_flatMap.2 ⟨y, hy, hp⟩))), rfl⟩
    · cases h
  case h_12 =>
    exact h
  case h_14 k e b hu =>
    have hE : k < P.types.size ∧ e < P.types.size := by simpa [laysT] using lays_at hl ht hu
    split at h
    · rename_i es clock hb
      split at h
      · rename_i hc
        simp only [Option.bind_eq_some_iff] at h
        obtain ⟨entries, he, hd⟩ := h
        split at hd
        · rename_i hris
          have hx := Option.some.inj hd
          subst hx
          simp only [if_pos hc, Option.bind_eq_some_iff]
          refine ⟨entries, mapM_carry he (fun x y _ hy hv => ?_), by simp [hris]⟩
          simp only [Option.bind_eq_some_iff] at hv ⊢
          obtain ⟨key, hk, hz⟩ := hv
          refine ⟨key, hk, ?_⟩
          split at hz
          · rename_i hf
            rw [if_pos hf]
            simp only [Option.map_eq_some_iff] at hz ⊢
            obtain ⟨q, hq, rfl⟩ := hz
            exact ⟨q, hr _ _ _ hE.2 hq (fun p hp => hs p (by simp only [List.mem_cons, List.mem_flatMap]; right; exact ⟨_, hy, hp⟩)), rfl⟩
          · cases hz
        · cases hd
      · cases h
    · cases h
  all_goals first | exact h | cases h
theorem trod_spare (hl : lays P = true) : ∀ (n : Nat) (t : TypeId) (cs : List Value) (x : DataW H × List MemPlace), t < P.types.size →
    DataW.trod enc P w base (fun _ => true) true n t cs = some x → (∀ p ∈ x.2, sp p.block = true) → DataW.trod enc P w base sp true n t cs = some x := by
  intro n
  induction n with
  | zero => intro t cs x _ h; simp [DataW.trod] at h
  | succ n ih =>
    intro t cs x ht h hs
    rw [DataW.trod_step] at h ⊢
    exact step_spare hl ih ht h hs
theorem all_spare (hl : lays P = true) {w' : World} : ∀ (ts : List TypeId) (vs : List Value) (ds : List (DataW H)) (ps : List MemPlace), (∀ t ∈ ts, t < P.types.size) →
    DataW.TrodAll enc P w base (fun _ => true) true ts vs ds ps → (∀ p ∈ ps, sp p.block = true) → (∀ p ∈ ps, w.sameAt w' p) → DataW.TrodAll enc P w' base sp true ts vs ds ps
  | [], vs, ds, ps, _, h, _, _ => by
    obtain ⟨rfl, rfl, rfl⟩ := trodAll_nil h
    rfl
  | t :: ts, vs, ds, ps, ht, h, hs, hw => by
    obtain ⟨v, vs', d, ds', p, q, rfl, rfl, rfl, ⟨n, h1⟩, h2⟩ := trodAll_cons h
    refine ⟨p, q, ⟨n, ?_⟩, all_spare hl ts vs' ds' q (fun u hu => ht u (List.mem_cons_of_mem _ hu)) h2 (fun x hx => hs x (List.mem_append_right _ hx)) (fun x hx => hw x (List.mem_append_right _ hx)), rfl⟩
    exact DataW.trod_carry n t _ _ (trod_spare hl n t _ _ (ht t (List.mem_cons_self ..)) h1 (fun x hx => hs x (List.mem_append_left _ hx))) (fun x hx => hw x (List.mem_append_left _ hx))
end
def okOne (P : Program) (S : List TypeId) (t : TypeId) : Bool := decide (t < P.types.size) && match P.underlying t with
    | some .bool | some (.int _) | some .string => true
    | some (.pointer e) => decide (0 < P.cellsOf e) && S.contains e
    | some (.slice e) | some (.array _ e) => S.contains e
    | some (.struct fs) => fs.toList.all fun f => S.contains f.type
    | _ => false
def okS (P : Program) (S : List TypeId) : Bool := S.all (okOne P S)
def argAV (P : Program) (t : TypeId) (xs : List AV) : AV := match P.underlying t with
  | some (.struct _) | some (.array _ _) => .agg xs
  | _ => xs.headD .any
def Sh (P : Program) : Nat → TypeId → List AV → Prop
  | 0, _, _ => False
  | n + 1, t, xs => match P.underlying t with
    | some .bool => ∃ b, xs = [.bool b]
    | some (.int k) => ∃ i, xs = [.int k i] ∧ (Lit.int k i).wf = true
    | some .string => ∃ l, xs = [.str l] ∧ l.length ≤ maxLen
    | some (.pointer e) => xs = [.lit (.pointer none)] ∨ ∃ ys, xs = [.ref ys] ∧ Sh P n e ys
    | some (.slice e) => ∃ ys : List (List AV), xs = [.sl (ys.map (argAV P e))] ∧ ys.length ≤ maxLen ∧ ∀ y, y ∈ ys → Sh P n e y
    | some (.struct fs) => ∃ ys : List (List AV), xs = ys.flatten ∧ ys.length = fs.size ∧ ∀ (i : Nat) (f : Field) (y : List AV), fs[i]? = some f → ys[i]? = some y → Sh P n f.type y
    | some (.array m e) => ∃ ys : List (List AV), xs = ys.flatten ∧ ys.length = m ∧ ∀ y, y ∈ ys → Sh P n e y
    | _ => False
mutual
def AV.bulk : AV → Nat
  | .str l => l.length + 1
  | .sl xs => bulkL xs + 1
  | .ref cs => bulkL cs + 1
  | .agg cs => bulkL cs + 1
  | .any => 1
  | .int _ _ => 1
  | .bool _ => 1
  | .lit _ => 1
  | .ptr _ _ _ => 1
  | .row _ _ _ _ _ => 1
  | .nil => 1
  | .tup _ => 1
  | .fn _ _ _ => 1
  | .ifc _ _ => 1
  | .mapv _ _ => 1
def bulkL : List AV → Nat
  | [] => 0
  | x :: r => x.bulk + bulkL r
end
theorem bulk_sl (l : List AV) : (AV.sl l).bulk = bulkL l + 1 := by rw [AV.bulk]
theorem bulk_ref (l : List AV) : (AV.ref l).bulk = bulkL l + 1 := by rw [AV.bulk]
theorem bulk_agg (l : List AV) : (AV.agg l).bulk = bulkL l + 1 := by rw [AV.bulk]
theorem bulk_str (l : List UInt8) : (AV.str l).bulk = l.length + 1 := by rw [AV.bulk]
theorem bulk_int (k : IntKind) (n : Int) : (AV.int k n).bulk = 1 := by rw [AV.bulk]
theorem bulk_bool (b : Bool) : (AV.bool b).bulk = 1 := by rw [AV.bulk]
theorem bulk_lit (v : Value) : (AV.lit v).bulk = 1 := by rw [AV.bulk]
theorem bulkL_app : ∀ (l m : List AV), bulkL (l ++ m) = bulkL l + bulkL m
  | [], m => by simp [bulkL]
  | x :: l, m => by simp only [List.cons_append, bulkL, bulkL_app l m]; omega
structure Bulk (H : Type) where
  b : DataW H → Nat
  l : List (DataW H) → Nat
  str : ∀ s, b (.lit (.string s)) = s.length + 1
  one : ∀ d, 1 ≤ b d
  ptr : ∀ d, b (.ptr d) = b d + 1
  slice : ∀ x y, b (.slice x y) = l x + l y + 1
  agg : ∀ x, b (.agg x) = l x + 1
  nil : l [] = 0
  cons : ∀ d r, l (d :: r) = b d + l r
theorem bulk_flat {H : Type} (B : Bulk H) : ∀ (ys : List (List AV)) (ps : List (DataW H × List MemPlace)), ys.length = ps.length → (∀ (i : Nat) y p, ys[i]? = some y → ps[i]? = some p → bulkL y ≤ B.b p.1) → bulkL ys.flatten ≤ B.l (ps.map (·.1))
  | [], [], _, _ => by simp [bulkL]
  | y :: ys, p :: ps, hl, h => by
    have h0 := h 0 y p rfl rfl
    have := bulk_flat B ys ps (by simpa using hl) (fun i z q hz hq => h (i + 1) z q (by simpa using hz) (by simpa using hq))
    rw [List.flatten_cons, bulkL_app, List.map_cons, B.cons]
    omega
theorem bulk_map {H : Type} (B : Bulk H) (f : List AV → AV) : ∀ (ys : List (List AV)) (ps : List (DataW H × List MemPlace)), ys.length = ps.length → (∀ (i : Nat) y p, ys[i]? = some y → ps[i]? = some p → (f y).bulk ≤ B.b p.1) → bulkL (ys.map f) ≤ B.l (ps.map (·.1))
  | [], [], _, _ => by simp [bulkL]
  | y :: ys, p :: ps, hl, h => by
    have h0 := h 0 y p rfl rfl
    have := bulk_map B f ys ps (by simpa using hl) (fun i z q hz hq => h (i + 1) z q (by simpa using hz) (by simpa using hq))
    rw [List.map_cons, List.map_cons, B.cons, bulkL]
    omega
def BulkOk {H : Type} (P : Program) (t : TypeId) (xs : List AV) (d : DataW H) : Prop := ∀ B : Bulk H, bulkL xs ≤ B.b d ∧ (argAV P t xs).bulk ≤ B.b d
theorem bulkOk_one {H : Type} {P : Program} {t : TypeId} {x : AV} {d : DataW H} (hn : argAV P t [x] = x) (h : ∀ B : Bulk H, x.bulk ≤ B.b d) : BulkOk P t [x] d := fun B => by
  rw [hn]
  exact ⟨by simpa [bulkL] using h B, h B⟩
theorem argAV_cells {P : Program} {n : Nat} {t : TypeId} {xs : List AV} (h : Sh P n t xs) : (argAV P t xs).cells = xs := by
  cases n with
  | zero => exact h.elim
  | succ n =>
    unfold argAV
    unfold Sh at h
    cases hu : P.underlying t with
    | none => rw [hu] at h; exact h.elim
    | some d =>
      rw [hu] at h
      cases d with
      | bool => obtain ⟨_, rfl⟩ := h; rfl
      | int q => obtain ⟨_, rfl, _⟩ := h; rfl
      | string => obtain ⟨_, rfl, _⟩ := h; rfl
      | pointer e => rcases h with rfl | ⟨_, rfl, _⟩ <;> rfl
      | slice e => obtain ⟨_, rfl, _⟩ := h; rfl
      | struct fs => rfl
      | array m e => rfl
      | _ => exact h.elim
def RelL (w : World) (cs : List Value) (xs : List AV) : Prop := xs.length = cs.length ∧ ∀ (j : Nat) (v : Value) (y : AV), cs[j]? = some v → xs[j]? = some y → v.oneCell' = true ∧ Rel (fun _ => False) w v y
theorem relL_one {w : World} {v : Value} {x : AV} (h1 : v.oneCell' = true) (h2 : Rel (fun _ => False) w v x) : RelL w [v] [x] := ⟨rfl, fun j v y hv hy => by
  cases j with
  | zero =>
    simp only [List.getElem?_cons_zero, Option.some.injEq] at hv hy
    rw [← hv, ← hy]
    exact ⟨h1, h2⟩
  | succ j => simp at hv⟩
theorem relL_app {w : World} {cs ds : List Value} {xs ys : List AV} (h : RelL w cs xs) (h' : RelL w ds ys) : RelL w (cs ++ ds) (xs ++ ys) := by
  refine ⟨by simp [h.1, h'.1], fun j v y hv hy => ?_⟩
  by_cases hj : j < cs.length
  · rw [List.getElem?_append_left hj] at hv
    rw [List.getElem?_append_left (by rw [h.1]; exact hj)] at hy
    exact h.2 j v y hv hy
  · rw [List.getElem?_append_right (by omega)] at hv
    rw [List.getElem?_append_right (by rw [h.1]; omega), h.1] at hy
    exact h'.2 _ v y hv hy
theorem glue {w : World} {cs : List Value} : ∀ (ls : List Nat) (ys : List (List AV)) (acc : Nat), ys.length = ls.length → acc + ls.sum ≤ cs.length →
    (∀ (i c : Nat) (y : List AV), ls[i]? = some c → ys[i]? = some y → RelL w ((cs.drop (acc + (ls.take i).sum)).take c) y) → RelL w ((cs.drop acc).take ls.sum) ys.flatten
  | [], [], acc, _, _, _ => ⟨by simp, fun j v y hv => by simp at hv⟩
  | c :: ls, y :: ys, acc, hl, hs, h => by
    simp only [List.sum_cons] at hs
    have h0 := h 0 c y rfl rfl
    simp only [List.take_zero, List.sum_nil, Nat.add_zero] at h0
    have h1 := glue (w := w) (cs := cs) ls ys (acc + c) (by simpa using hl) (by omega) (fun i c' y' hi hy => by
      have := h (i + 1) c' y' (by simpa using hi) (by simpa using hy)
      simpa [Nat.add_assoc] using this)
    have := relL_app h0 h1
    rw [List.flatten_cons, List.sum_cons]
    rw [show (cs.drop acc).take (c + ls.sum) = (cs.drop acc).take c ++ (cs.drop (acc + c)).take ls.sum by rw [List.take_add, List.drop_drop]]
    exact this
theorem reach_sum (P : Program) : ∀ (fs : List Field) (acc n : Nat), reach P fs acc = some n → n = acc + (fs.map fun f => P.cellsOf f.type).sum ∧ ∀ (i : Nat) (f : Field), fs[i]? = some f → f.offset = acc + ((fs.map fun f => P.cellsOf f.type).take i).sum
  | [], acc, n, h => by
    simp only [reach, Option.some.injEq] at h
    exact ⟨by simp [h], fun i f hf => by simp at hf⟩
  | f :: fs, acc, n, h => by
    simp only [reach] at h
    split at h
    · rename_i he
      obtain ⟨h1, h2⟩ := reach_sum P fs _ n h
      refine ⟨by simp [h1, Nat.add_assoc], fun i g hg => ?_⟩
      cases i with
      | zero => simp at hg; subst hg; simpa using he
      | succ i =>
        have := h2 i g (by simpa using hg)
        simp [this, Nat.add_assoc]
    · cases h
theorem exists_list {β : Type} (p : Nat → β → Prop) : ∀ n, (∀ i, i < n → ∃ y, p i y) → ∃ l : List β, l.length = n ∧ ∀ (i : Nat) (y : β), l[i]? = some y → p i y
  | 0, _ => ⟨[], rfl, fun i y h => by simp at h⟩
  | n + 1, h => by
    obtain ⟨l, hl, hp⟩ := exists_list p n (fun i hi => h i (by omega))
    obtain ⟨y, hy⟩ := h n (by omega)
    refine ⟨l ++ [y], by simp [hl], fun i z hz => ?_⟩
    by_cases hi : i < n
    · rw [List.getElem?_append_left (by omega)] at hz
      exact hp i z hz
    · rw [List.getElem?_append_right (by omega)] at hz
      have hi' : i - l.length = 0 := by
        have := (List.getElem?_eq_some_iff.1 hz).1
        simp at this
        omega
      rw [hi'] at hz
      simp at hz
      rw [show i = n by omega, ← hz]
      exact hy
section
variable {H : Type} {enc : TypeId × Value → H} {P : Program} {w : World} {sp : Nat → Bool}
theorem cells_get {a : Addr} {n : Nat} {cs : List Value} (h : w.cells? 0 a n = some cs) : cs.length = n ∧ ∀ (i : Nat) (v : Value), cs[i]? = some v → w.cell? (a.add i) = some v := by
  unfold World.cells? at h
  rw [if_pos (Nat.zero_le _)] at h
  have hl : cs.length = n := by simpa using mapM_some_length h
  refine ⟨hl, fun i v hv => ?_⟩
  have hi : i < n := by rw [← hl]; exact (List.getElem?_eq_some_iff.1 hv).1
  have := mapM_some_get h i i (by simp [hi])
  rw [this]
  exact hv
theorem cell_spot {a : Addr} {v : Value} (h : w.cell? a = some v) : a.spot = none ∧ a.block < w.heap.size := by
  unfold World.cell? at h
  cases hb : w.heap[a.block]? with
  | none => simp [hb] at h
  | some o =>
    refine ⟨?_, (Array.getElem?_eq_some_iff.1 hb).1⟩
    cases o <;> simp [hb] at h
    cases hs : a.spot with
    | none => rfl
    | some _ => simp [hs] at h
theorem add_plain {a : Addr} (h : a.spot = none) (i : Nat) : a.add i = ⟨a.block, a.off + i, none⟩ := by
  unfold Addr.add
  split
  · rename_i h0
    subst h0
    cases a
    simp at h
    simp [h]
  · rfl
theorem trod_sh (hl : lays P = true) {S : List TypeId} (hS : okS P S = true) : ∀ (n : Nat) (t : TypeId) (cs : List Value) (x : DataW H × List MemPlace), t ∈ S → DataW.trod enc P w 0 sp true n t cs = some x → ∃ xs, Sh P n t xs ∧ RelL w cs xs ∧ BulkOk P t xs x.1 := by
  intro k
  induction k with
  | zero => intro t cs x _ h; simp [DataW.trod] at h
  | succ k ih =>
    intro t cs x hin h
    have hok := List.all_eq_true.1 hS t hin
    simp only [okOne, Bool.and_eq_true, decide_eq_true_eq] at hok
    obtain ⟨ht, hok⟩ := hok
    cases hu : P.underlying t with
    | none => simp [hu] at hok
    | some d =>
      rw [hu] at hok
      have hla := lays_at hl ht hu
      cases d with
      | bool =>
        obtain ⟨b, rfl, rfl⟩ := DataW.trod_bool hu h
        exact ⟨[.bool b], by simp [Sh, hu], relL_one rfl (.bool b), bulkOk_one (by simp [argAV, hu]) (fun B => by rw [bulk_bool]; exact B.one _)⟩
      | int q =>
        obtain ⟨i, rfl, rfl, hw⟩ := DataW.trod_int hu h
        exact ⟨[.int q i], by simp [Sh, hu, hw], relL_one rfl (.int q i), bulkOk_one (by simp [argAV, hu]) (fun B => by rw [bulk_int]; exact B.one _)⟩
      | string =>
        obtain ⟨s, rfl, rfl, hs⟩ := DataW.trod_string hu h
        refine ⟨[.str s.data.toList], by simp only [Sh, hu]; exact ⟨_, rfl, hs⟩, relL_one rfl ?_, bulkOk_one (by simp [argAV, hu]) (fun B => by rw [bulk_str, B.str]; exact Nat.le_refl _)⟩
        have := Rel.str (F := fun _ => False) (w := w) s.data.toList
        simpa using this
      | pointer e =>
        rcases DataW.trod_pointer hu h with ⟨rfl, rfl⟩ | ⟨a, cs', y, n', hn', rfl, rfl, hc, hy⟩
        · exact ⟨[.lit (.pointer none)], by simp [Sh, hu], relL_one rfl (.lit _), bulkOk_one (by simp [argAV, hu]) (fun B => by rw [bulk_lit]; exact B.one _)⟩
        · simp only [Bool.and_eq_true, decide_eq_true_eq] at hok
          obtain rfl : k = n' := by omega
          obtain ⟨ys, h1, h2, hbk⟩ := ih e cs' y (List.contains_iff_mem.1 hok.2) hy
          obtain ⟨hcl, hcell⟩ := cells_get hc
          obtain ⟨hsp, hlt⟩ := cell_spot (a := a) (v := cs'[0]'(by omega)) (by
            have := hcell 0 _ (List.getElem?_eq_getElem (by omega))
            simpa [Addr.add] using this)
          have hz : ∀ (j : Nat) (z : AV), ys[j]? = some z → ∃ v, w.cell? ⟨a.block, a.off + j, none⟩ = some v ∧ v.oneCell' = true ∧ Rel (fun _ => False) w v z := fun j z hj => by
            have hlt : j < cs'.length := by rw [← h2.1]; exact (List.getElem?_eq_some_iff.1 hj).1
            have hv := List.getElem?_eq_getElem hlt
            have := hcell j _ hv
            rw [add_plain hsp] at this
            exact ⟨_, this, h2.2 j _ z hv hj⟩
          have ha : a = ⟨a.block, a.off, none⟩ := by cases a; simp at hsp; simp [hsp]
          refine ⟨[.ref ys], by simp only [Sh, hu]; exact .inr ⟨ys, rfl, h1⟩, relL_one rfl ?_, bulkOk_one (by simp [argAV, hu]) (fun B => by rw [bulk_ref, B.ptr]; have := (hbk B).1; omega)⟩
          rw [ha]
          refine .ref a.block a.off ys (fun j => (w.cell? ⟨a.block, a.off + j, none⟩).getD undef) (fun f => f) hlt (fun j z hj => ?_) (fun j z hj => ?_) (fun j z hj => ?_)
          · obtain ⟨v, h3, _⟩ := hz j z hj
            simp [h3]
          · obtain ⟨v, h3, h4, _⟩ := hz j z hj
            simpa [h3] using h4
          · obtain ⟨v, h3, _, h5⟩ := hz j z hj
            simpa [h3] using h5
      | slice e =>
        rcases DataW.trod_slice hu h with ⟨rfl, rfl⟩ | ⟨a, len, cap, elems, rest, n', hn', rfl, rfl, _, hlc, hcm, hel, hE, _⟩
        · exact ⟨[.sl []], by simp only [Sh, hu]; exact ⟨[], rfl, by simp, by simp⟩, relL_one rfl .slnil, bulkOk_one (by simp [argAV, hu]) (fun B => by rw [bulk_sl]; simpa [bulkL] using B.one _)⟩
        · simp only [laysT, Bool.and_eq_true, decide_eq_true_eq] at hla
          obtain rfl : k = n' := by omega
          have hok := List.contains_iff_mem.1 hok
          obtain ⟨ys, hyl, hyp⟩ := exists_list (fun i ys => Sh P k e ys ∧ ∃ cs', w.cells? 0 (a.add (i * P.cellsOf e)) (P.cellsOf e) = some cs' ∧ RelL w cs' ys ∧ ∀ p, elems[i]? = some p → BulkOk P e ys p.1) len (fun i hi => by
            have hx : elems[i]? = some elems[i] := List.getElem?_eq_getElem (by omega)
            have := hE i hi
            rw [hx] at this
            obtain ⟨cs', hc, hy⟩ := Option.bind_eq_some_iff.1 this
            obtain ⟨ys, h1, h2, h3⟩ := ih e cs' _ hok hy
            exact ⟨ys, h1, cs', hc, h2, fun p hp => by rw [hx] at hp; cases hp; exact h3⟩)
          have hmem : ∀ y, y ∈ ys → Sh P k e y := fun y hy => by
            obtain ⟨i, hi⟩ := List.getElem?_of_mem hy
            exact (hyp i y hi).1
          refine ⟨[.sl (ys.map (argAV P e))], by simp only [Sh, hu]; exact ⟨ys, rfl, by omega, hmem⟩, relL_one rfl ?_, bulkOk_one (by simp [argAV, hu]) (fun B => by
            rw [bulk_sl, B.slice]
            have := bulk_map B (argAV P e) ys elems (by omega) (fun i y p hy hp => by
              obtain ⟨_, _, _, _, hb⟩ := hyp i y hy
              exact ((hb p hp) B).2)
            omega)⟩
          · by_cases h0 : len = 0
            · subst h0
              have : ys = [] := List.length_eq_zero_iff.1 hyl
              subst this
              exact .sl0 a cap
            · obtain ⟨y0, hy0⟩ : ∃ y, ys[0]? = some y := ⟨ys[0]'(by omega), List.getElem?_eq_getElem (by omega)⟩
              obtain ⟨_, c0, hc0, hr0, _⟩ := hyp 0 y0 hy0
              obtain ⟨hl0, hg0⟩ := cells_get hc0
              obtain ⟨hsp, hlt⟩ := cell_spot (a := a) (v := c0[0]'(by omega)) (by
                have := hg0 0 _ (List.getElem?_eq_getElem (by omega))
                simpa [Addr.add] using this)
              have hz : ∀ (i : Nat) (y : List AV) (j : Nat) (z : AV), ys[i]? = some y → y[j]? = some z → ∃ v, w.cell? ⟨a.block, a.off + (i * P.cellsOf e + j), none⟩ = some v ∧ v.oneCell' = true ∧ Rel (fun _ => False) w v z := fun i y j z hi hj => by
                obtain ⟨_, c1, hc1, hr1, _⟩ := hyp i y hi
                obtain ⟨hl1, hg1⟩ := cells_get hc1
                have hlt : j < c1.length := by rw [← hr1.1]; exact (List.getElem?_eq_some_iff.1 hj).1
                have hv := List.getElem?_eq_getElem hlt
                have := hg1 j _ hv
                rw [add_plain hsp, add_plain rfl] at this
                simp only [Nat.add_assoc] at this
                exact ⟨_, this, hr1.2 j _ z hv hj⟩
              have hget : ∀ (i : Nat) (x : AV), (ys.map (argAV P e))[i]? = some x → ∃ y, ys[i]? = some y ∧ x = argAV P e y := fun i x hx => by
                rw [List.getElem?_map] at hx
                obtain ⟨y, h1, h2⟩ := Option.map_eq_some_iff.1 hx
                exact ⟨y, h1, h2.symm⟩
              have ha : a = ⟨a.block, a.off, none⟩ := by cases a; simp at hsp; simp [hsp]
              rw [ha]
              refine .sl a.block a.off len cap (P.cellsOf e) _ (fun j => (w.cell? ⟨a.block, a.off + j, none⟩).getD undef) (fun f => f) hlt (by simp [hyl]) hlc (fun i x hx => ?_) (fun i x j z hx hj => ?_) (fun i x j z hx hj => ?_) (fun i x j z hx hj => ?_)
              · obtain ⟨y, hy, rfl⟩ := hget i x hx
                obtain ⟨hsh, c1, hc1, hr1, _⟩ := hyp i y hy
                rw [argAV_cells hsh, hr1.1, (cells_get hc1).1]
              · obtain ⟨y, hy, rfl⟩ := hget i x hx
                rw [argAV_cells (hyp i y hy).1] at hj
                obtain ⟨v, h3, _⟩ := hz i y j z hy hj
                rw [Nat.add_assoc, h3]
                simp [h3]
              · obtain ⟨y, hy, rfl⟩ := hget i x hx
                rw [argAV_cells (hyp i y hy).1] at hj
                obtain ⟨v, h3, h4, _⟩ := hz i y j z hy hj
                simpa [h3] using h4
              · obtain ⟨y, hy, rfl⟩ := hget i x hx
                rw [argAV_cells (hyp i y hy).1] at hj
                obtain ⟨v, h3, _, h5⟩ := hz i y j z hy hj
                simpa [h3] using h5
      | struct fs =>
        simp only [List.all_eq_true] at hok
        obtain ⟨ps, n', hn', rfl, hcl, hpl, hf⟩ := DataW.trod_struct hu h
        obtain rfl : k = n' := by omega
        simp only [laysT, Bool.and_eq_true, beq_iff_eq] at hla
        obtain ⟨hsum, hoff⟩ := reach_sum P fs.toList 0 _ hla.2
        obtain ⟨ys, hyl, hyp⟩ := exists_list (fun i ys => ∀ f, fs[i]? = some f → Sh P k f.type ys ∧ RelL w ((cs.drop f.offset).take (P.cellsOf f.type)) ys ∧ ∀ p, ps[i]? = some p → BulkOk P f.type ys p.1) fs.size (fun i hi => by
          have hfi : fs[i]? = some fs[i] := Array.getElem?_eq_getElem hi
          have hx : ps[i]? = some ps[i] := List.getElem?_eq_getElem (by omega)
          have := hf i _ hfi
          rw [hx] at this
          obtain ⟨ys, h1, h2, h3⟩ := ih _ _ _ (List.contains_iff_mem.1 (hok fs[i] (by simp))) this
          exact ⟨ys, fun f hff => by rw [hfi] at hff; cases hff; exact ⟨h1, h2, fun p hp => by rw [hx] at hp; cases hp; exact h3⟩⟩)
        have hbk : ∀ B : Bulk H, bulkL ys.flatten ≤ B.l (ps.map (·.1)) := fun B => bulk_flat B ys ps (by omega) (fun i y p hy hp => by
          have hi : i < fs.size := by have := (List.getElem?_eq_some_iff.1 hy).1; omega
          exact (((hyp i y hy fs[i] (Array.getElem?_eq_getElem hi)).2.2 p hp) B).1)
        refine ⟨ys.flatten, by simp only [Sh, hu]; exact ⟨ys, rfl, hyl, fun i f y hfi hy => (hyp i y hy f hfi).1⟩, ?_, fun B => by
          have := hbk B
          simp only [argAV, hu, bulk_agg, B.agg]
          omega⟩
        have hg := glue (w := w) (cs := cs) (fs.toList.map fun f => P.cellsOf f.type) ys 0 (by simp [hyl]) (by omega) (fun i c y hi hy => by
          rw [List.getElem?_map] at hi
          cases hfi : fs.toList[i]? with
          | none => simp [hfi] at hi
          | some f =>
            simp only [hfi, Option.map_some, Option.some.injEq] at hi
            rw [← hoff i f hfi, ← hi]
            exact (hyp i y hy f (by simpa using hfi)).2.1)
        rw [List.drop_zero, List.take_of_length_le (by omega)] at hg
        exact hg
      | array m e =>
        simp only [laysT, Bool.and_eq_true, decide_eq_true_eq, beq_iff_eq] at hla
        obtain ⟨ps, n', hn', rfl, hcl, hpl, hE⟩ := DataW.trod_array hu h
        obtain rfl : k = n' := by omega
        have hok := List.contains_iff_mem.1 hok
        obtain ⟨ys, hyl, hyp⟩ := exists_list (fun i ys => Sh P k e ys ∧ RelL w ((cs.drop (i * P.cellsOf e)).take (P.cellsOf e)) ys ∧ ∀ p, ps[i]? = some p → BulkOk P e ys p.1) m (fun i hi => by
          have := hE i hi
          have hx : ps[i]? = some ps[i] := List.getElem?_eq_getElem (by omega)
          rw [hx] at this
          obtain ⟨ys, h1, h2, h3⟩ := ih e _ _ hok this
          exact ⟨ys, h1, h2, fun p hp => by rw [hx] at hp; cases hp; exact h3⟩)
        have hmem : ∀ y, y ∈ ys → Sh P k e y := fun y hy => by
          obtain ⟨i, hi⟩ := List.getElem?_of_mem hy
          exact (hyp i y hi).1
        have hbk : ∀ B : Bulk H, bulkL ys.flatten ≤ B.l (ps.map (·.1)) := fun B => bulk_flat B ys ps (by omega) (fun i y p hy hp => (((hyp i y hy).2.2 p hp) B).1)
        refine ⟨ys.flatten, by simp only [Sh, hu]; exact ⟨ys, rfl, hyl, hmem⟩, ?_, fun B => by
          have := hbk B
          simp only [argAV, hu, bulk_agg, B.agg]
          omega⟩
        · have hg := glue (w := w) (cs := cs) (List.replicate m (P.cellsOf e)) ys 0 (by simp [hyl]) (by simp; omega) (fun i c y hi hy => by
            have him : i < m := by have := (List.getElem?_eq_some_iff.1 hi).1; simpa using this
            have hc : c = P.cellsOf e := by
              rw [List.getElem?_replicate, if_pos him] at hi
              exact (Option.some.inj hi).symm
            rw [List.take_replicate, List.sum_replicate_nat, Nat.min_eq_left (by omega), hc, Nat.zero_add]
            exact (hyp i y hy).2.1)
          rw [List.drop_zero, List.sum_replicate_nat, List.take_of_length_le (by omega)] at hg
          exact hg
      | _ => simp at hok
theorem cell_one {t : TypeId} {v : Value} {r : Reach} {base : Nat} (h : Cell.okWide P w r base t v) : v.oneCell' = true := by
  cases v with
  | agg cs =>
    unfold Cell.okWide Cell.ok at h
    cases hu : P.underlying t with
    | none => simp [hu] at h
    | some d => cases d <;> simp [hu] at h
  | tuple cs =>
    unfold Cell.okWide Cell.ok at h
    cases hu : P.underlying t with
    | none => simp [hu] at h
    | some d => cases d <;> simp [hu] at h
  | _ => rfl
theorem arg_rel {t : TypeId} {v : Value} {xs : List AV} {r : Reach} {base : Nat} (hval : Value.okWide P w r base t v) (h : RelL w v.cells.toList xs) : Rel (fun _ => False) w v (argAV P t xs) := by
  unfold Value.okWide at hval
  unfold argAV
  have one : v.oneCell' = true → Rel (fun _ => False) w v (xs.headD .any) := fun h1 => by
    have hc : v.cells = #[v] := by cases v <;> first | rfl | cases h1
    rw [hc] at h
    obtain ⟨hl, hr⟩ := h
    obtain ⟨x, rfl⟩ := List.length_eq_one_iff.1 (show xs.length = 1 by simpa using hl)
    exact (hr 0 v x rfl rfl).2
  split at hval
  · rename_i fs hu
    obtain ⟨cs, rfl, _⟩ := hval
    rw [hu]
    exact .agg cs xs (by simpa [Value.cells] using h.1.symm) (fun j u hj => by
      have hlt := (Array.getElem?_eq_some_iff.1 hj).1
      have hx : xs[j]? = some (xs[j]'(by rw [h.1]; simpa [Value.cells] using hlt)) := List.getElem?_eq_getElem _
      exact (h.2 j u _ (by simpa [Value.cells] using hj) hx).1) (fun j u y hj hy => (h.2 j u y (by simpa [Value.cells] using hj) hy).2)
  · rename_i m e hu
    obtain ⟨cs, rfl, _⟩ := hval
    rw [hu]
    exact .agg cs xs (by simpa [Value.cells] using h.1.symm) (fun j u hj => by
      have hlt := (Array.getElem?_eq_some_iff.1 hj).1
      have hx : xs[j]? = some (xs[j]'(by rw [h.1]; simpa [Value.cells] using hlt)) := List.getElem?_eq_getElem _
      exact (h.2 j u _ (by simpa [Value.cells] using hj) hx).1) (fun j u y hj hy => (h.2 j u y (by simpa [Value.cells] using hj) hy).2)
  · rename_i h1 h2
    have : (match P.underlying t with | some (.struct _) | some (.array _ _) => AV.agg xs | _ => xs.headD .any) = xs.headD .any := by
      split
      · rename_i hu; exact absurd hu (h1 _)
      · rename_i hu; exact absurd hu (h2 _ _)
      · rfl
    rw [this]
    exact one (cell_one hval)
inductive Args (P : Program) : List TypeId → List AV → Prop
  | nil : Args P [] []
  | cons (t : TypeId) (ts : List TypeId) (xs : List AV) (ar : List AV) (n : Nat) (h : Sh P n t xs) (hr : Args P ts ar) : Args P (t :: ts) (argAV P t xs :: ar)
theorem args_of (hl : lays P = true) {S : List TypeId} (hS : okS P S = true) {r : Reach} {base : Nat} : ∀ (ts : List TypeId) (vs : List Value) (ds : List (DataW H)) (ps : List MemPlace), (∀ t ∈ ts, t ∈ S) → DataW.TrodAll enc P w 0 sp true ts vs ds ps →
    (∀ (j : Nat) t v, ts[j]? = some t → vs[j]? = some v → Value.okWide P w r base t v) → ∃ ar, Args P ts ar ∧ (∀ B : Bulk H, bulkL ar ≤ B.l ds) ∧ vs.length = ar.length ∧ ∀ (j : Nat) (v : Value) (y : AV), vs[j]? = some v → ar[j]? = some y → Rel (fun _ => False) w v y
  | [], vs, ds, ps, _, h, _ => by
    obtain ⟨rfl, rfl, rfl⟩ := trodAll_nil h
    exact ⟨[], .nil, fun B => by simp [bulkL], rfl, fun j v y hv => by simp at hv⟩
  | t :: ts, vs, ds, ps, hok, h, hval => by
    obtain ⟨v, vs', d, ds', p, q, rfl, rfl, rfl, ⟨n, h1⟩, h2⟩ := trodAll_cons h
    obtain ⟨xs, hx, hr, hb⟩ := trod_sh hl hS n t _ _ (hok t (List.mem_cons_self ..)) h1
    obtain ⟨ar, ha, hba, hal, har⟩ := args_of hl hS ts vs' ds' q (fun u hu => hok u (List.mem_cons_of_mem _ hu)) h2 (fun j u z hu hz => hval (j + 1) u z (by simpa using hu) (by simpa using hz))
    refine ⟨argAV P t xs :: ar, .cons t ts xs ar n hx ha, fun B => by rw [B.cons, bulkL]; have := hba B; have := (hb B).2; simp only at this; omega, by simp [hal], fun j u y hu hy => ?_⟩
    cases j with
    | zero =>
      simp only [List.getElem?_cons_zero, Option.some.injEq] at hu hy
      rw [← hu, ← hy]
      exact arg_rel (hval 0 t v rfl rfl) hr
    | succ j => exact har j u y (by simpa using hu) (by simpa using hy)
end
end Go.Aw
