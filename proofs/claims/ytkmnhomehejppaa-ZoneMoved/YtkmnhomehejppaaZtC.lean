import Derived.Test.YtkmnhomehejppaaZtB
set_option linter.unusedSimpArgs false
set_option linter.unusedVariables false
set_option linter.deprecated false
namespace Go.Proofs.Zt
open Go.Aw

/-- the change ahead of the k-th one -/
def bef (l : List Chg) (k : Nat) : Int := if k = 0 then 0 else l[k - 1]!.at_
theorem bef_zero (l : List Chg) : bef l 0 = 0 := rfl
theorem bef_succ (l : List Chg) (k : Nat) : bef l (k + 1) = l[k]!.at_ := rfl


set_option maxHeartbeats 800000 in
theorem f18 (z : Zone) : PureC Try.prog 18 [z.av] (.bool z.valid) := by
  refine fn_intro' 54 Try.func18 nt18 ok18 res18 (by simp) fun X hP hn hd hr => ?_
  repeat refine awp_seq ?_
  refine awp_reg fun K Q hK hQ => ?_
  simp -implicitDefEqProofs (disch := first | omega | rfl) only [go_sem, Nat.reduceEqDiff, Nat.reduceAdd, Nat.reduceMul, Nat.reduceSub, Nat.reduceLeDiff, Nat.reduceLT, Int.reduceLE, Int.reduceLT, Int.reduceEq, Int.reduceAdd, Int.reduceMul, Int.reduceSub, Int.reduceNeg, Int.reduceToNat, Int.reduceDiv, Int.reduceMod, Int.reduceTDiv, Int.reduceTMod, Int.cast_ofNat_Int, ↓reduceIte, false_implies, true_implies, zr18_0, argS, Zone.av, Zone.cs]
  intro b
  refine hK _ _ ?_; clear hK hQ K Q
  by_cases g1 : z.off < -840
  · repeat refine awp_seq ?_
    refine awp_reg fun K Q hK hQ => ?_
    simp -implicitDefEqProofs (disch := first | omega | rfl) only [go_sem, Nat.reduceEqDiff, Nat.reduceAdd, Nat.reduceMul, Nat.reduceSub, Nat.reduceLeDiff, Nat.reduceLT, Int.reduceLE, Int.reduceLT, Int.reduceEq, Int.reduceAdd, Int.reduceMul, Int.reduceSub, Int.reduceNeg, Int.reduceToNat, Int.reduceDiv, Int.reduceMod, Int.reduceTDiv, Int.reduceTMod, Int.cast_ofNat_Int, ↓reduceIte, false_implies, true_implies, zr18_1, g1]
    refine hK _ _ ?_; clear hK hQ K Q
    repeat refine awp_seq ?_
    refine awp_then (by rfl) ?_
    repeat refine awp_seq ?_
    refine awp_reg fun K Q hK hQ => ?_
    simp -implicitDefEqProofs (disch := first | omega | rfl) only [go_sem, Nat.reduceEqDiff, Nat.reduceAdd, Nat.reduceMul, Nat.reduceSub, Nat.reduceLeDiff, Nat.reduceLT, Int.reduceLE, Int.reduceLT, Int.reduceEq, Int.reduceAdd, Int.reduceMul, Int.reduceSub, Int.reduceNeg, Int.reduceToNat, Int.reduceDiv, Int.reduceMod, Int.reduceTDiv, Int.reduceTMod, Int.cast_ofNat_Int, ↓reduceIte, false_implies, true_implies, zr18_2]
    refine hK _ _ ?_; clear hK hQ K Q
    refine awp_ret ?_
    repeat' (first | refine then_ret ?_ | refine blk_ret ?_)
    refine ret_q ?_
    simp -implicitDefEqProofs (disch := first | omega | rfl) only [go_sem, Nat.reduceEqDiff, Nat.reduceAdd, Nat.reduceMul, Nat.reduceSub, Nat.reduceLeDiff, Nat.reduceLT, Int.reduceLE, Int.reduceLT, Int.reduceEq, Int.reduceAdd, Int.reduceMul, Int.reduceSub, Int.reduceNeg, Int.reduceToNat, Int.reduceDiv, Int.reduceMod, Int.reduceTDiv, Int.reduceTMod, Int.cast_ofNat_Int, ↓reduceIte, false_implies, true_implies]
    exact leaves_none (by simp [Zone.valid, badOff, g1])
  by_cases g2 : 840 < z.off
  · repeat refine awp_seq ?_
    refine awp_reg fun K Q hK hQ => ?_
    simp -implicitDefEqProofs (disch := first | omega | rfl) only [go_sem, Nat.reduceEqDiff, Nat.reduceAdd, Nat.reduceMul, Nat.reduceSub, Nat.reduceLeDiff, Nat.reduceLT, Int.reduceLE, Int.reduceLT, Int.reduceEq, Int.reduceAdd, Int.reduceMul, Int.reduceSub, Int.reduceNeg, Int.reduceToNat, Int.reduceDiv, Int.reduceMod, Int.reduceTDiv, Int.reduceTMod, Int.cast_ofNat_Int, ↓reduceIte, false_implies, true_implies, zr18_1, g1, g2]
    refine hK _ _ ?_; clear hK hQ K Q
    repeat refine awp_seq ?_
    refine awp_then (by rfl) ?_
    repeat refine awp_seq ?_
    refine awp_reg fun K Q hK hQ => ?_
    simp -implicitDefEqProofs (disch := first | omega | rfl) only [go_sem, Nat.reduceEqDiff, Nat.reduceAdd, Nat.reduceMul, Nat.reduceSub, Nat.reduceLeDiff, Nat.reduceLT, Int.reduceLE, Int.reduceLT, Int.reduceEq, Int.reduceAdd, Int.reduceMul, Int.reduceSub, Int.reduceNeg, Int.reduceToNat, Int.reduceDiv, Int.reduceMod, Int.reduceTDiv, Int.reduceTMod, Int.cast_ofNat_Int, ↓reduceIte, false_implies, true_implies, zr18_2]
    refine hK _ _ ?_; clear hK hQ K Q
    refine awp_ret ?_
    repeat' (first | refine then_ret ?_ | refine blk_ret ?_)
    refine ret_q ?_
    simp -implicitDefEqProofs (disch := first | omega | rfl) only [go_sem, Nat.reduceEqDiff, Nat.reduceAdd, Nat.reduceMul, Nat.reduceSub, Nat.reduceLeDiff, Nat.reduceLT, Int.reduceLE, Int.reduceLT, Int.reduceEq, Int.reduceAdd, Int.reduceMul, Int.reduceSub, Int.reduceNeg, Int.reduceToNat, Int.reduceDiv, Int.reduceMod, Int.reduceTDiv, Int.reduceTMod, Int.cast_ofNat_Int, ↓reduceIte, false_implies, true_implies]
    exact leaves_none (by simp [Zone.valid, badOff, g1, g2])
  by_cases g3 : (40 : Int) < z.ch.length
  · have g3' : ¬ z.ch.length ≤ 40 := by omega
    repeat refine awp_seq ?_
    refine awp_reg fun K Q hK hQ => ?_
    simp -implicitDefEqProofs (disch := first | omega | rfl) only [go_sem, Nat.reduceEqDiff, Nat.reduceAdd, Nat.reduceMul, Nat.reduceSub, Nat.reduceLeDiff, Nat.reduceLT, Int.reduceLE, Int.reduceLT, Int.reduceEq, Int.reduceAdd, Int.reduceMul, Int.reduceSub, Int.reduceNeg, Int.reduceToNat, Int.reduceDiv, Int.reduceMod, Int.reduceTDiv, Int.reduceTMod, Int.cast_ofNat_Int, ↓reduceIte, false_implies, true_implies, zr18_1, g1, g2, g3, g3', List.length_map]
    refine hK _ _ ?_; clear hK hQ K Q
    repeat refine awp_seq ?_
    refine awp_then (by rfl) ?_
    repeat refine awp_seq ?_
    refine awp_reg fun K Q hK hQ => ?_
    simp -implicitDefEqProofs (disch := first | omega | rfl) only [go_sem, Nat.reduceEqDiff, Nat.reduceAdd, Nat.reduceMul, Nat.reduceSub, Nat.reduceLeDiff, Nat.reduceLT, Int.reduceLE, Int.reduceLT, Int.reduceEq, Int.reduceAdd, Int.reduceMul, Int.reduceSub, Int.reduceNeg, Int.reduceToNat, Int.reduceDiv, Int.reduceMod, Int.reduceTDiv, Int.reduceTMod, Int.cast_ofNat_Int, ↓reduceIte, false_implies, true_implies, zr18_2]
    refine hK _ _ ?_; clear hK hQ K Q
    refine awp_ret ?_
    repeat' (first | refine then_ret ?_ | refine blk_ret ?_)
    refine ret_q ?_
    simp -implicitDefEqProofs (disch := first | omega | rfl) only [go_sem, Nat.reduceEqDiff, Nat.reduceAdd, Nat.reduceMul, Nat.reduceSub, Nat.reduceLeDiff, Nat.reduceLT, Int.reduceLE, Int.reduceLT, Int.reduceEq, Int.reduceAdd, Int.reduceMul, Int.reduceSub, Int.reduceNeg, Int.reduceToNat, Int.reduceDiv, Int.reduceMod, Int.reduceTDiv, Int.reduceTMod, Int.cast_ofNat_Int, ↓reduceIte, false_implies, true_implies]
    exact leaves_none (by simp [Zone.valid, badOff, g1, g2, g3, g3', List.length_map])
  repeat refine awp_seq ?_
  refine awp_reg fun K Q hK hQ => ?_
  simp -implicitDefEqProofs (disch := first | omega | rfl) only [go_sem, Nat.reduceEqDiff, Nat.reduceAdd, Nat.reduceMul, Nat.reduceSub, Nat.reduceLeDiff, Nat.reduceLT, Int.reduceLE, Int.reduceLT, Int.reduceEq, Int.reduceAdd, Int.reduceMul, Int.reduceSub, Int.reduceNeg, Int.reduceToNat, Int.reduceDiv, Int.reduceMod, Int.reduceTDiv, Int.reduceTMod, Int.cast_ofNat_Int, ↓reduceIte, false_implies, true_implies, zr18_1, g1, g2, g3, List.length_map]
  refine hK _ _ ?_; clear hK hQ K Q
  repeat refine awp_seq ?_
  refine awp_else (by rfl) ?_
  refine awp_skip ?_
  repeat refine awp_seq ?_
  refine awp_reg fun K Q hK hQ => ?_
  simp -implicitDefEqProofs (disch := first | omega | rfl) only [go_sem, Nat.reduceEqDiff, Nat.reduceAdd, Nat.reduceMul, Nat.reduceSub, Nat.reduceLeDiff, Nat.reduceLT, Int.reduceLE, Int.reduceLT, Int.reduceEq, Int.reduceAdd, Int.reduceMul, Int.reduceSub, Int.reduceNeg, Int.reduceToNat, Int.reduceDiv, Int.reduceMod, Int.reduceTDiv, Int.reduceTMod, Int.cast_ofNat_Int, ↓reduceIte, false_implies, true_implies, zr18_3]
  refine hK _ _ ?_; clear hK hQ K Q
  repeat refine awp_seq ?_
  refine awp_reg fun K Q hK hQ => ?_
  simp -implicitDefEqProofs (disch := first | omega | rfl) only [go_sem, Nat.reduceEqDiff, Nat.reduceAdd, Nat.reduceMul, Nat.reduceSub, Nat.reduceLeDiff, Nat.reduceLT, Int.reduceLE, Int.reduceLT, Int.reduceEq, Int.reduceAdd, Int.reduceMul, Int.reduceSub, Int.reduceNeg, Int.reduceToNat, Int.reduceDiv, Int.reduceMod, Int.reduceTDiv, Int.reduceTMod, Int.cast_ofNat_Int, ↓reduceIte, false_implies, true_implies, zr18_4]
  refine hK _ _ ?_; clear hK hQ K Q
  repeat refine awp_seq ?_
  refine awp_block ?_
  refine awp_loop (ι := {k : Nat // k ≤ z.ch.length ∧ z.valid = okFrom (bef z.ch k) (z.ch.drop k) ∧ 0 ≤ bef z.ch k ∧ bef z.ch k ≤ 105190559}) (fun k => [(4, .int .i64 k.1), (3, .int .i64 (bef z.ch k.1)), (1, .ptr 1 b 0)]) (fun _ => [(1, b, Ob.cells [AV.int IntKind.i64 z.off, AV.sl (List.map Chg.av z.ch)])])
    (fun k => z.ch.length - k.1) ⟨0, Nat.zero_le _, ?_, by simp [bef], by simp [bef]⟩ ?_ ?_
  · have : z.ch.length ≤ 40 := by omega
    simp [Zone.valid, badOff, g1, g2, this, bef]
  · refine ent_sub ?_ (List.Sublist.refl _)
    simp -implicitDefEqProofs (disch := first | omega | rfl) only [go_sem, Nat.reduceEqDiff, Nat.reduceAdd, Nat.reduceMul, Nat.reduceSub, Nat.reduceLeDiff, Nat.reduceLT, Int.reduceLE, Int.reduceLT, Int.reduceEq, Int.reduceAdd, Int.reduceMul, Int.reduceSub, Int.reduceNeg, Int.reduceToNat, Int.reduceDiv, Int.reduceMod, Int.reduceTDiv, Int.reduceTMod, Int.cast_ofNat_Int, ↓reduceIte, false_implies, true_implies]
    rfl
  · rintro ⟨k, hk, hall, hb0, hb1⟩
    by_cases hlt : k < z.ch.length
    · repeat refine awp_seq ?_
      refine awp_reg fun K Q hK hQ => ?_
      simp -implicitDefEqProofs (disch := first | omega | rfl) only [go_sem, Nat.reduceEqDiff, Nat.reduceAdd, Nat.reduceMul, Nat.reduceSub, Nat.reduceLeDiff, Nat.reduceLT, Int.reduceLE, Int.reduceLT, Int.reduceEq, Int.reduceAdd, Int.reduceMul, Int.reduceSub, Int.reduceNeg, Int.reduceToNat, Int.reduceDiv, Int.reduceMod, Int.reduceTDiv, Int.reduceTMod, Int.cast_ofNat_Int, ↓reduceIte, false_implies, true_implies, zr18_5, List.length_map, Int.ofNat_lt, hlt]
      refine hK _ _ ?_; clear hK hQ K Q
      repeat refine awp_seq ?_
      refine awp_then (by rfl) ?_
      refine awp_skip ?_
      repeat refine awp_seq ?_
      refine awp_block ?_
      repeat refine awp_seq ?_
      refine awp_reg fun K Q hK hQ => ?_
      simp -implicitDefEqProofs (disch := first | omega | rfl) only [go_sem, Nat.reduceEqDiff, Nat.reduceAdd, Nat.reduceMul, Nat.reduceSub, Nat.reduceLeDiff, Nat.reduceLT, Int.reduceLE, Int.reduceLT, Int.reduceEq, Int.reduceAdd, Int.reduceMul, Int.reduceSub, Int.reduceNeg, Int.reduceToNat, Int.reduceDiv, Int.reduceMod, Int.reduceTDiv, Int.reduceTMod, Int.cast_ofNat_Int, ↓reduceIte, false_implies, true_implies, zr18_6, hlt, List.length_map, Int.ofNat_lt, getD_map, Chg.av]
      intro b'
      refine hK _ _ ?_; clear hK hQ K Q
      by_cases h1 : z.ch[k]!.off < -840
      · repeat refine awp_seq ?_
        refine awp_reg fun K Q hK hQ => ?_
        simp -implicitDefEqProofs (disch := first | omega | rfl) only [go_sem, Nat.reduceEqDiff, Nat.reduceAdd, Nat.reduceMul, Nat.reduceSub, Nat.reduceLeDiff, Nat.reduceLT, Int.reduceLE, Int.reduceLT, Int.reduceEq, Int.reduceAdd, Int.reduceMul, Int.reduceSub, Int.reduceNeg, Int.reduceToNat, Int.reduceDiv, Int.reduceMod, Int.reduceTDiv, Int.reduceTMod, Int.cast_ofNat_Int, ↓reduceIte, false_implies, true_implies, zr18_7, h1]
        refine hK _ _ ?_; clear hK hQ K Q
        repeat refine awp_seq ?_
        refine awp_then (by rfl) ?_
        repeat refine awp_seq ?_
        refine awp_reg fun K Q hK hQ => ?_
        simp -implicitDefEqProofs (disch := first | omega | rfl) only [go_sem, Nat.reduceEqDiff, Nat.reduceAdd, Nat.reduceMul, Nat.reduceSub, Nat.reduceLeDiff, Nat.reduceLT, Int.reduceLE, Int.reduceLT, Int.reduceEq, Int.reduceAdd, Int.reduceMul, Int.reduceSub, Int.reduceNeg, Int.reduceToNat, Int.reduceDiv, Int.reduceMod, Int.reduceTDiv, Int.reduceTMod, Int.cast_ofNat_Int, ↓reduceIte, false_implies, true_implies, zr18_8]
        refine hK _ _ ?_; clear hK hQ K Q
        refine awp_ret ?_
        repeat' (first | refine then_ret ?_ | refine blk_ret ?_)
        refine ret_q ?_
        simp -implicitDefEqProofs (disch := first | omega | rfl) only [go_sem, Nat.reduceEqDiff, Nat.reduceAdd, Nat.reduceMul, Nat.reduceSub, Nat.reduceLeDiff, Nat.reduceLT, Int.reduceLE, Int.reduceLT, Int.reduceEq, Int.reduceAdd, Int.reduceMul, Int.reduceSub, Int.reduceNeg, Int.reduceToNat, Int.reduceDiv, Int.reduceMod, Int.reduceTDiv, Int.reduceTMod, Int.cast_ofNat_Int, ↓reduceIte, false_implies, true_implies]
        exact leaves_none (by rw [hall, get!_drop _ _ hlt]; generalize z.ch[k]! = c at *; simp [okFrom, badOff, h1])
      by_cases h2 : 840 < z.ch[k]!.off
      · repeat refine awp_seq ?_
        refine awp_reg fun K Q hK hQ => ?_
        simp -implicitDefEqProofs (disch := first | omega | rfl) only [go_sem, Nat.reduceEqDiff, Nat.reduceAdd, Nat.reduceMul, Nat.reduceSub, Nat.reduceLeDiff, Nat.reduceLT, Int.reduceLE, Int.reduceLT, Int.reduceEq, Int.reduceAdd, Int.reduceMul, Int.reduceSub, Int.reduceNeg, Int.reduceToNat, Int.reduceDiv, Int.reduceMod, Int.reduceTDiv, Int.reduceTMod, Int.cast_ofNat_Int, ↓reduceIte, false_implies, true_implies, zr18_7, h1, h2]
        refine hK _ _ ?_; clear hK hQ K Q
        repeat refine awp_seq ?_
        refine awp_then (by rfl) ?_
        repeat refine awp_seq ?_
        refine awp_reg fun K Q hK hQ => ?_
        simp -implicitDefEqProofs (disch := first | omega | rfl) only [go_sem, Nat.reduceEqDiff, Nat.reduceAdd, Nat.reduceMul, Nat.reduceSub, Nat.reduceLeDiff, Nat.reduceLT, Int.reduceLE, Int.reduceLT, Int.reduceEq, Int.reduceAdd, Int.reduceMul, Int.reduceSub, Int.reduceNeg, Int.reduceToNat, Int.reduceDiv, Int.reduceMod, Int.reduceTDiv, Int.reduceTMod, Int.cast_ofNat_Int, ↓reduceIte, false_implies, true_implies, zr18_8]
        refine hK _ _ ?_; clear hK hQ K Q
        refine awp_ret ?_
        repeat' (first | refine then_ret ?_ | refine blk_ret ?_)
        refine ret_q ?_
        simp -implicitDefEqProofs (disch := first | omega | rfl) only [go_sem, Nat.reduceEqDiff, Nat.reduceAdd, Nat.reduceMul, Nat.reduceSub, Nat.reduceLeDiff, Nat.reduceLT, Int.reduceLE, Int.reduceLT, Int.reduceEq, Int.reduceAdd, Int.reduceMul, Int.reduceSub, Int.reduceNeg, Int.reduceToNat, Int.reduceDiv, Int.reduceMod, Int.reduceTDiv, Int.reduceTMod, Int.cast_ofNat_Int, ↓reduceIte, false_implies, true_implies]
        exact leaves_none (by rw [hall, get!_drop _ _ hlt]; generalize z.ch[k]! = c at *; simp [okFrom, badOff, h1, h2])
      by_cases h3 : 105190559 < z.ch[k]!.at_
      · have h3' : ¬ z.ch[k]!.at_ ≤ 105190559 := by omega
        repeat refine awp_seq ?_
        refine awp_reg fun K Q hK hQ => ?_
        simp -implicitDefEqProofs (disch := first | omega | rfl) only [go_sem, Nat.reduceEqDiff, Nat.reduceAdd, Nat.reduceMul, Nat.reduceSub, Nat.reduceLeDiff, Nat.reduceLT, Int.reduceLE, Int.reduceLT, Int.reduceEq, Int.reduceAdd, Int.reduceMul, Int.reduceSub, Int.reduceNeg, Int.reduceToNat, Int.reduceDiv, Int.reduceMod, Int.reduceTDiv, Int.reduceTMod, Int.cast_ofNat_Int, ↓reduceIte, false_implies, true_implies, zr18_7, h1, h2, h3, h3']
        refine hK _ _ ?_; clear hK hQ K Q
        repeat refine awp_seq ?_
        refine awp_then (by rfl) ?_
        repeat refine awp_seq ?_
        refine awp_reg fun K Q hK hQ => ?_
        simp -implicitDefEqProofs (disch := first | omega | rfl) only [go_sem, Nat.reduceEqDiff, Nat.reduceAdd, Nat.reduceMul, Nat.reduceSub, Nat.reduceLeDiff, Nat.reduceLT, Int.reduceLE, Int.reduceLT, Int.reduceEq, Int.reduceAdd, Int.reduceMul, Int.reduceSub, Int.reduceNeg, Int.reduceToNat, Int.reduceDiv, Int.reduceMod, Int.reduceTDiv, Int.reduceTMod, Int.cast_ofNat_Int, ↓reduceIte, false_implies, true_implies, zr18_8]
        refine hK _ _ ?_; clear hK hQ K Q
        refine awp_ret ?_
        repeat' (first | refine then_ret ?_ | refine blk_ret ?_)
        refine ret_q ?_
        simp -implicitDefEqProofs (disch := first | omega | rfl) only [go_sem, Nat.reduceEqDiff, Nat.reduceAdd, Nat.reduceMul, Nat.reduceSub, Nat.reduceLeDiff, Nat.reduceLT, Int.reduceLE, Int.reduceLT, Int.reduceEq, Int.reduceAdd, Int.reduceMul, Int.reduceSub, Int.reduceNeg, Int.reduceToNat, Int.reduceDiv, Int.reduceMod, Int.reduceTDiv, Int.reduceTMod, Int.cast_ofNat_Int, ↓reduceIte, false_implies, true_implies]
        exact leaves_none (by rw [hall, get!_drop _ _ hlt]; generalize z.ch[k]! = c at *; simp [okFrom, badOff, h1, h2, h3, h3'])
      by_cases h4 : z.ch[k]!.at_ ≤ bef z.ch k + 5760
      · have h4' : ¬ bef z.ch k + 5760 < z.ch[k]!.at_ := by omega
        repeat refine awp_seq ?_
        refine awp_reg fun K Q hK hQ => ?_
        simp -implicitDefEqProofs (disch := first | omega | rfl) only [go_sem, Nat.reduceEqDiff, Nat.reduceAdd, Nat.reduceMul, Nat.reduceSub, Nat.reduceLeDiff, Nat.reduceLT, Int.reduceLE, Int.reduceLT, Int.reduceEq, Int.reduceAdd, Int.reduceMul, Int.reduceSub, Int.reduceNeg, Int.reduceToNat, Int.reduceDiv, Int.reduceMod, Int.reduceTDiv, Int.reduceTMod, Int.cast_ofNat_Int, ↓reduceIte, false_implies, true_implies, zr18_7, h1, h2, h3, h4, h4']
        refine hK _ _ ?_; clear hK hQ K Q
        repeat refine awp_seq ?_
        refine awp_then (by rfl) ?_
        repeat refine awp_seq ?_
        refine awp_reg fun K Q hK hQ => ?_
        simp -implicitDefEqProofs (disch := first | omega | rfl) only [go_sem, Nat.reduceEqDiff, Nat.reduceAdd, Nat.reduceMul, Nat.reduceSub, Nat.reduceLeDiff, Nat.reduceLT, Int.reduceLE, Int.reduceLT, Int.reduceEq, Int.reduceAdd, Int.reduceMul, Int.reduceSub, Int.reduceNeg, Int.reduceToNat, Int.reduceDiv, Int.reduceMod, Int.reduceTDiv, Int.reduceTMod, Int.cast_ofNat_Int, ↓reduceIte, false_implies, true_implies, zr18_8]
        refine hK _ _ ?_; clear hK hQ K Q
        refine awp_ret ?_
        repeat' (first | refine then_ret ?_ | refine blk_ret ?_)
        refine ret_q ?_
        simp -implicitDefEqProofs (disch := first | omega | rfl) only [go_sem, Nat.reduceEqDiff, Nat.reduceAdd, Nat.reduceMul, Nat.reduceSub, Nat.reduceLeDiff, Nat.reduceLT, Int.reduceLE, Int.reduceLT, Int.reduceEq, Int.reduceAdd, Int.reduceMul, Int.reduceSub, Int.reduceNeg, Int.reduceToNat, Int.reduceDiv, Int.reduceMod, Int.reduceTDiv, Int.reduceTMod, Int.cast_ofNat_Int, ↓reduceIte, false_implies, true_implies]
        exact leaves_none (by rw [hall, get!_drop _ _ hlt]; generalize z.ch[k]! = c at *; simp [okFrom, badOff, h1, h2, h3, h4, h4'])
      repeat refine awp_seq ?_
      refine awp_reg fun K Q hK hQ => ?_
      simp -implicitDefEqProofs (disch := first | omega | rfl) only [go_sem, Nat.reduceEqDiff, Nat.reduceAdd, Nat.reduceMul, Nat.reduceSub, Nat.reduceLeDiff, Nat.reduceLT, Int.reduceLE, Int.reduceLT, Int.reduceEq, Int.reduceAdd, Int.reduceMul, Int.reduceSub, Int.reduceNeg, Int.reduceToNat, Int.reduceDiv, Int.reduceMod, Int.reduceTDiv, Int.reduceTMod, Int.cast_ofNat_Int, ↓reduceIte, false_implies, true_implies, zr18_7, h1, h2, h3, h4]
      refine hK _ _ ?_; clear hK hQ K Q
      repeat refine awp_seq ?_
      refine awp_else (by rfl) ?_
      refine awp_skip ?_
      refine awp_reg fun K Q hK hQ => ?_
      simp -implicitDefEqProofs (disch := first | omega | rfl) only [go_sem, Nat.reduceEqDiff, Nat.reduceAdd, Nat.reduceMul, Nat.reduceSub, Nat.reduceLeDiff, Nat.reduceLT, Int.reduceLE, Int.reduceLT, Int.reduceEq, Int.reduceAdd, Int.reduceMul, Int.reduceSub, Int.reduceNeg, Int.reduceToNat, Int.reduceDiv, Int.reduceMod, Int.reduceTDiv, Int.reduceTMod, Int.cast_ofNat_Int, ↓reduceIte, false_implies, true_implies, zr18_9]
      refine hK _ _ ?_; clear hK hQ K Q
      refine awp_reg fun K Q hK hQ => ?_
      simp -implicitDefEqProofs (disch := first | omega | rfl) only [go_sem, Nat.reduceEqDiff, Nat.reduceAdd, Nat.reduceMul, Nat.reduceSub, Nat.reduceLeDiff, Nat.reduceLT, Int.reduceLE, Int.reduceLT, Int.reduceEq, Int.reduceAdd, Int.reduceMul, Int.reduceSub, Int.reduceNeg, Int.reduceToNat, Int.reduceDiv, Int.reduceMod, Int.reduceTDiv, Int.reduceTMod, Int.cast_ofNat_Int, ↓reduceIte, false_implies, true_implies, zr18_10]
      refine hK _ _ ?_; clear hK hQ K Q
      refine ⟨⟨k + 1, hlt, ?_, ?_, ?_⟩, by simp only; omega, ?_⟩
      · rw [hall, get!_drop _ _ hlt, bef_succ]
        generalize z.ch[k]! = c at *
        have h3' : c.at_ ≤ 105190559 := by omega
        have h4' : bef z.ch k + 5760 < c.at_ := by omega
        simp only [okFrom, badOff, h1, h2, h3', h4', decide_true, decide_false, Bool.or_false, Bool.not_false, Bool.true_and]
      · rw [bef_succ]; omega
      · rw [bef_succ]; omega
      · refine ent_sub ?_ (by simp)
        simp -implicitDefEqProofs (disch := first | omega | rfl) only [go_sem, Nat.reduceEqDiff, Nat.reduceAdd, Nat.reduceMul, Nat.reduceSub, Nat.reduceLeDiff, Nat.reduceLT, Int.reduceLE, Int.reduceLT, Int.reduceEq, Int.reduceAdd, Int.reduceMul, Int.reduceSub, Int.reduceNeg, Int.reduceToNat, Int.reduceDiv, Int.reduceMod, Int.reduceTDiv, Int.reduceTMod, Int.cast_ofNat_Int, ↓reduceIte, false_implies, true_implies, bef_succ]
        rfl
    · repeat refine awp_seq ?_
      refine awp_reg fun K Q hK hQ => ?_
      simp -implicitDefEqProofs (disch := first | omega | rfl) only [go_sem, Nat.reduceEqDiff, Nat.reduceAdd, Nat.reduceMul, Nat.reduceSub, Nat.reduceLeDiff, Nat.reduceLT, Int.reduceLE, Int.reduceLT, Int.reduceEq, Int.reduceAdd, Int.reduceMul, Int.reduceSub, Int.reduceNeg, Int.reduceToNat, Int.reduceDiv, Int.reduceMod, Int.reduceTDiv, Int.reduceTMod, Int.cast_ofNat_Int, ↓reduceIte, false_implies, true_implies, zr18_5, List.length_map, Int.ofNat_lt, hlt]
      refine hK _ _ ?_; clear hK hQ K Q
      repeat refine awp_seq ?_
      refine awp_else (by rfl) ?_
      refine awp_exit ?_
      repeat' (first | refine then_exit ?_ | refine exit_here ?_ | refine exit_on rfl ?_)
      repeat refine awp_seq ?_
      refine awp_reg fun K Q hK hQ => ?_
      simp -implicitDefEqProofs (disch := first | omega | rfl) only [go_sem, Nat.reduceEqDiff, Nat.reduceAdd, Nat.reduceMul, Nat.reduceSub, Nat.reduceLeDiff, Nat.reduceLT, Int.reduceLE, Int.reduceLT, Int.reduceEq, Int.reduceAdd, Int.reduceMul, Int.reduceSub, Int.reduceNeg, Int.reduceToNat, Int.reduceDiv, Int.reduceMod, Int.reduceTDiv, Int.reduceTMod, Int.cast_ofNat_Int, ↓reduceIte, false_implies, true_implies, zr18_11]
      refine hK _ _ ?_; clear hK hQ K Q
      refine awp_ret ?_
      repeat' (first | refine then_ret ?_ | refine blk_ret ?_)
      refine ret_q ?_
      simp -implicitDefEqProofs (disch := first | omega | rfl) only [go_sem, Nat.reduceEqDiff, Nat.reduceAdd, Nat.reduceMul, Nat.reduceSub, Nat.reduceLeDiff, Nat.reduceLT, Int.reduceLE, Int.reduceLT, Int.reduceEq, Int.reduceAdd, Int.reduceMul, Int.reduceSub, Int.reduceNeg, Int.reduceToNat, Int.reduceDiv, Int.reduceMod, Int.reduceTDiv, Int.reduceTMod, Int.cast_ofNat_Int, ↓reduceIte, false_implies, true_implies]
      exact leaves_none (by rw [hall, show k = z.ch.length by omega]; simp [okFrom])
end Go.Proofs.Zt
