import Derived.Test.YtkmnhomehejppaaZtF
set_option linter.unusedSimpArgs false
set_option linter.unusedVariables false
set_option linter.deprecated false
namespace Go.Proofs.Zt
open Go.Aw

theorem okf35 : okF Try.prog 35 = true := by kernel_rfl
theorem okf24 : okF Try.prog 24 = true := by kernel_rfl
theorem okf28 : okF Try.prog 28 = true := by kernel_rfl

theorem f33 (z : Zone) : PureC Try.prog 33 [z.av] (.fn (.func 35) [] [.ref z.cs]) := by
  refine fn_intro' 4 Try.func33 nt33 ok33 res33 (by simp) fun X hP hn hd hr => ?_
  repeat refine awp_seq ?_
  refine awp_reg fun K Q hK hQ => ?_
  simp -implicitDefEqProofs (disch := first | omega | rfl) only [go_sem, Nat.reduceEqDiff, Nat.reduceAdd, Nat.reduceMul, Nat.reduceSub, Nat.reduceLeDiff, Nat.reduceLT, Int.reduceLE, Int.reduceLT, Int.reduceEq, Int.reduceAdd, Int.reduceMul, Int.reduceSub, Int.reduceNeg, Int.reduceToNat, Int.reduceDiv, Int.reduceMod, Int.reduceTDiv, Int.reduceTMod, Int.cast_ofNat_Int, ↓reduceIte, false_implies, true_implies, zr33_0, argS, Zone.av, Zone.cs]
  intro b
  refine hK _ _ ?_; clear hK hQ K Q
  repeat refine awp_seq ?_
  refine awp_reg fun K Q hK hQ => ?_
  simp -implicitDefEqProofs (disch := first | omega | rfl) only [go_sem, Nat.reduceEqDiff, Nat.reduceAdd, Nat.reduceMul, Nat.reduceSub, Nat.reduceLeDiff, Nat.reduceLT, Int.reduceLE, Int.reduceLT, Int.reduceEq, Int.reduceAdd, Int.reduceMul, Int.reduceSub, Int.reduceNeg, Int.reduceToNat, Int.reduceDiv, Int.reduceMod, Int.reduceTDiv, Int.reduceTMod, Int.cast_ofNat_Int, ↓reduceIte, false_implies, true_implies, zr33_1]
  refine hK _ _ ?_; clear hK hQ K Q
  refine awp_frz [(1, b, Ob.cells z.cs)] [] [(2, .fn (.func 35) [] [.ref z.cs])] (List.Perm.refl _) ⟨Frz.fn1 (Frz.ptr0 (by simp [Own.find])), trivial⟩ ?_
  refine awp_ret ?_
  repeat' (first | refine then_ret ?_ | refine blk_ret ?_)
  refine ret_q ?_
  simp -implicitDefEqProofs (disch := first | omega | rfl) only [go_sem, Nat.reduceEqDiff, Nat.reduceAdd, Nat.reduceMul, Nat.reduceSub, Nat.reduceLeDiff, Nat.reduceLT, Int.reduceLE, Int.reduceLT, Int.reduceEq, Int.reduceAdd, Int.reduceMul, Int.reduceSub, Int.reduceNeg, Int.reduceToNat, Int.reduceDiv, Int.reduceMod, Int.reduceTDiv, Int.reduceTMod, Int.cast_ofNat_Int, ↓reduceIte, false_implies, true_implies]
  exact ⟨[], List.nil_sublist _, rfl⟩

theorem f24 (s : Str) (t : Int) : PureC Try.prog 24 [s.av, .ref [.int .i64 t]] (.bool (decide (t < s.to))) := by
  refine fn_intro' 8 Try.func24 nt24 ok24 res24 (by simp) fun X hP hn hd hr => ?_
  repeat refine awp_seq ?_
  refine awp_reg fun K Q hK hQ => ?_
  simp -implicitDefEqProofs (disch := first | omega | rfl) only [go_sem, Nat.reduceEqDiff, Nat.reduceAdd, Nat.reduceMul, Nat.reduceSub, Nat.reduceLeDiff, Nat.reduceLT, Int.reduceLE, Int.reduceLT, Int.reduceEq, Int.reduceAdd, Int.reduceMul, Int.reduceSub, Int.reduceNeg, Int.reduceToNat, Int.reduceDiv, Int.reduceMod, Int.reduceTDiv, Int.reduceTMod, Int.cast_ofNat_Int, ↓reduceIte, false_implies, true_implies, zr24_0, argS, Str.av, Str.cs]
  intro b
  refine hK _ _ ?_; clear hK hQ K Q
  repeat refine awp_seq ?_
  refine awp_reg fun K Q hK hQ => ?_
  simp -implicitDefEqProofs (disch := first | omega | rfl) only [go_sem, Nat.reduceEqDiff, Nat.reduceAdd, Nat.reduceMul, Nat.reduceSub, Nat.reduceLeDiff, Nat.reduceLT, Int.reduceLE, Int.reduceLT, Int.reduceEq, Int.reduceAdd, Int.reduceMul, Int.reduceSub, Int.reduceNeg, Int.reduceToNat, Int.reduceDiv, Int.reduceMod, Int.reduceTDiv, Int.reduceTMod, Int.cast_ofNat_Int, ↓reduceIte, false_implies, true_implies, zr24_1]
  refine hK _ _ ?_; clear hK hQ K Q
  refine awp_ret ?_
  repeat' (first | refine then_ret ?_ | refine blk_ret ?_)
  refine ret_q ?_
  simp -implicitDefEqProofs (disch := first | omega | rfl) only [go_sem, Nat.reduceEqDiff, Nat.reduceAdd, Nat.reduceMul, Nat.reduceSub, Nat.reduceLeDiff, Nat.reduceLT, Int.reduceLE, Int.reduceLT, Int.reduceEq, Int.reduceAdd, Int.reduceMul, Int.reduceSub, Int.reduceNeg, Int.reduceToNat, Int.reduceDiv, Int.reduceMod, Int.reduceTDiv, Int.reduceTMod, Int.cast_ofNat_Int, ↓reduceIte, false_implies, true_implies]
  exact ⟨[], List.nil_sublist _, rfl⟩

structure Str.Ok (s : Str) : Prop where
  fr : 0 ≤ s.fr ∧ s.fr ≤ 105190559
  off : -840 ≤ s.off ∧ s.off ≤ 840
  bef : -840 ≤ s.bef ∧ s.bef ≤ 840

theorem str_ok {z : Zone} (ok : z.Ok) (k : Nat) (hk : k ≤ z.ch.length) : (str z k).Ok := by
  refine ⟨?_, ok.offs k hk, ok.offs (k - 1) (by omega)⟩
  unfold str
  simp only
  split
  · omega
  · obtain ⟨_, h2, h3⟩ := okFrom_get 0 z.ch ok.ch (k - 1) (by omega)
    omega

def skips (L : Int) (s : Str) : Bool := decide (s.fr + s.bef ≤ L) && decide (L < s.fr + s.off)
theorem f28 (s : Str) (L : Int) (ok : s.Ok) : PureC Try.prog 28 [s.av, .ref [.int .i64 L]] (.bool (skips L s)) := by
  refine fn_intro' 20 Try.func28 nt28 ok28 res28 (by simp) fun X hP hn hd hr => ?_
  have h1 := ok.fr
  have h2 := ok.off
  have h3 := ok.bef
  repeat refine awp_seq ?_
  refine awp_reg fun K Q hK hQ => ?_
  simp -implicitDefEqProofs (disch := first | omega | rfl) only [go_sem, Nat.reduceEqDiff, Nat.reduceAdd, Nat.reduceMul, Nat.reduceSub, Nat.reduceLeDiff, Nat.reduceLT, Int.reduceLE, Int.reduceLT, Int.reduceEq, Int.reduceAdd, Int.reduceMul, Int.reduceSub, Int.reduceNeg, Int.reduceToNat, Int.reduceDiv, Int.reduceMod, Int.reduceTDiv, Int.reduceTMod, Int.cast_ofNat_Int, ↓reduceIte, false_implies, true_implies, zr28_0, argS, Str.av, Str.cs]
  intro b
  refine hK _ _ ?_; clear hK hQ K Q
  by_cases c : s.fr + s.bef ≤ L
  · repeat refine awp_seq ?_
    refine awp_reg fun K Q hK hQ => ?_
    simp -implicitDefEqProofs (disch := first | omega | rfl) only [go_sem, Nat.reduceEqDiff, Nat.reduceAdd, Nat.reduceMul, Nat.reduceSub, Nat.reduceLeDiff, Nat.reduceLT, Int.reduceLE, Int.reduceLT, Int.reduceEq, Int.reduceAdd, Int.reduceMul, Int.reduceSub, Int.reduceNeg, Int.reduceToNat, Int.reduceDiv, Int.reduceMod, Int.reduceTDiv, Int.reduceTMod, Int.cast_ofNat_Int, ↓reduceIte, false_implies, true_implies, zr28_1, c]
    refine hK _ _ ?_; clear hK hQ K Q
    refine awp_ret ?_
    repeat' (first | refine then_ret ?_ | refine blk_ret ?_)
    refine ret_q ?_
    simp -implicitDefEqProofs (disch := first | omega | rfl) only [go_sem, Nat.reduceEqDiff, Nat.reduceAdd, Nat.reduceMul, Nat.reduceSub, Nat.reduceLeDiff, Nat.reduceLT, Int.reduceLE, Int.reduceLT, Int.reduceEq, Int.reduceAdd, Int.reduceMul, Int.reduceSub, Int.reduceNeg, Int.reduceToNat, Int.reduceDiv, Int.reduceMod, Int.reduceTDiv, Int.reduceTMod, Int.cast_ofNat_Int, ↓reduceIte, false_implies, true_implies]
    exact leaves_none (by simp [skips, c])
  · repeat refine awp_seq ?_
    refine awp_reg fun K Q hK hQ => ?_
    simp -implicitDefEqProofs (disch := first | omega | rfl) only [go_sem, Nat.reduceEqDiff, Nat.reduceAdd, Nat.reduceMul, Nat.reduceSub, Nat.reduceLeDiff, Nat.reduceLT, Int.reduceLE, Int.reduceLT, Int.reduceEq, Int.reduceAdd, Int.reduceMul, Int.reduceSub, Int.reduceNeg, Int.reduceToNat, Int.reduceDiv, Int.reduceMod, Int.reduceTDiv, Int.reduceTMod, Int.cast_ofNat_Int, ↓reduceIte, false_implies, true_implies, zr28_1, c]
    refine hK _ _ ?_; clear hK hQ K Q
    refine awp_ret ?_
    repeat' (first | refine then_ret ?_ | refine blk_ret ?_)
    refine ret_q ?_
    simp -implicitDefEqProofs (disch := first | omega | rfl) only [go_sem, Nat.reduceEqDiff, Nat.reduceAdd, Nat.reduceMul, Nat.reduceSub, Nat.reduceLeDiff, Nat.reduceLT, Int.reduceLE, Int.reduceLT, Int.reduceEq, Int.reduceAdd, Int.reduceMul, Int.reduceSub, Int.reduceNeg, Int.reduceToNat, Int.reduceDiv, Int.reduceMod, Int.reduceTDiv, Int.reduceTMod, Int.cast_ofNat_Int, ↓reduceIte, false_implies, true_implies]
    exact leaves_none (by simp [skips, c])

def lastStr (z : Zone) (k : Nat) : List AV := [.int .i64 (if k = 0 then 0 else z.ch[k - 1]!.at_), .int .i64 0, .int .i64 (offs z k), .int .i64 (offs z (k - 1))]

set_option maxHeartbeats 800000 in
/-- The stretches, one after the other, to whatever 'yield'. -/
theorem f35 (z : Zone) (yf : Fn) (y1 y2 : List AV) (I : Nat → Own → Prop) (J : Own → Prop) (hl : z.ch.length ≤ 1000000)
    (hy : ∀ k o, k ≤ z.ch.length → I k o → ValC Try.prog (.fn yf y1 y2) [(str z k).av] o (fun r o' => (r = .val (.bool true) ∧ I (k + 1) o') ∨ (r = .val (.bool false) ∧ J o')))
    (o : Own) (h0 : I 0 o) : FnC Try.prog 35 [.fn yf y1 y2, .ref z.cs] o (fun r o' => r = .val (.tup []) ∧ (I (z.ch.length + 1) o' ∨ J o')) := by
  refine fn_intro' 37 Try.func35 nt35 ok35 res35 (by simp) fun X hP hn hd hr => ?_
  repeat refine awp_seq ?_
  refine awp_reg fun K Q hK hQ => ?_
  simp -implicitDefEqProofs (disch := first | omega | rfl) only [go_sem, Nat.reduceEqDiff, Nat.reduceAdd, Nat.reduceMul, Nat.reduceSub, Nat.reduceLeDiff, Nat.reduceLT, Int.reduceLE, Int.reduceLT, Int.reduceEq, Int.reduceAdd, Int.reduceMul, Int.reduceSub, Int.reduceNeg, Int.reduceToNat, Int.reduceDiv, Int.reduceMod, Int.reduceTDiv, Int.reduceTMod, Int.cast_ofNat_Int, ↓reduceIte, false_implies, true_implies, zr35_0, argS, Zone.cs]
  intro b
  refine hK _ _ ?_; clear hK hQ K Q
  repeat refine awp_seq ?_
  refine awp_reg fun K Q hK hQ => ?_
  simp -implicitDefEqProofs (disch := first | omega | rfl) only [go_sem, Nat.reduceEqDiff, Nat.reduceAdd, Nat.reduceMul, Nat.reduceSub, Nat.reduceLeDiff, Nat.reduceLT, Int.reduceLE, Int.reduceLT, Int.reduceEq, Int.reduceAdd, Int.reduceMul, Int.reduceSub, Int.reduceNeg, Int.reduceToNat, Int.reduceDiv, Int.reduceMod, Int.reduceTDiv, Int.reduceTMod, Int.cast_ofNat_Int, ↓reduceIte, false_implies, true_implies, zr35_1, List.length_map]
  refine hK _ _ ?_; clear hK hQ K Q
  repeat refine awp_seq ?_
  refine awp_block ?_
  refine awp_loop (ι := {i : Nat × Own // i.1 ≤ z.ch.length ∧ I i.1 i.2}) (fun i => [(14, .int .i64 i.1.1), (13, .int .i64 z.ch.length), (12, .sl (z.ch.map Chg.av)), (3, .ptr 3 b 0), (0, .fn yf y1 y2)]) (fun i => (3, b, .cells (lastStr z i.1.1)) :: i.1.2)
    (fun i => z.ch.length - i.1.1) ⟨(0, o), Nat.zero_le _, h0⟩ ?_ ?_
  · refine ent_sub ?_ (by exact List.Sublist.refl _)
    simp -implicitDefEqProofs (disch := first | omega | rfl) only [go_sem, Nat.reduceEqDiff, Nat.reduceAdd, Nat.reduceMul, Nat.reduceSub, Nat.reduceLeDiff, Nat.reduceLT, Int.reduceLE, Int.reduceLT, Int.reduceEq, Int.reduceAdd, Int.reduceMul, Int.reduceSub, Int.reduceNeg, Int.reduceToNat, Int.reduceDiv, Int.reduceMod, Int.reduceTDiv, Int.reduceTMod, Int.cast_ofNat_Int, ↓reduceIte, false_implies, true_implies]
    try rfl
  rintro ⟨⟨k, o⟩, hk, hI⟩
  simp only at hk hI ⊢
  by_cases hlt : k < z.ch.length
  · repeat refine awp_seq ?_
    refine awp_reg fun K Q hK hQ => ?_
    simp -implicitDefEqProofs (disch := first | omega | rfl) only [go_sem, Nat.reduceEqDiff, Nat.reduceAdd, Nat.reduceMul, Nat.reduceSub, Nat.reduceLeDiff, Nat.reduceLT, Int.reduceLE, Int.reduceLT, Int.reduceEq, Int.reduceAdd, Int.reduceMul, Int.reduceSub, Int.reduceNeg, Int.reduceToNat, Int.reduceDiv, Int.reduceMod, Int.reduceTDiv, Int.reduceTMod, Int.cast_ofNat_Int, ↓reduceIte, false_implies, true_implies, zr35_2, Int.ofNat_lt, hlt]
    refine hK _ _ ?_; clear hK hQ K Q
    repeat refine awp_seq ?_
    refine awp_then (by rfl) ?_
    refine awp_skip ?_
    repeat refine awp_seq ?_
    refine awp_block ?_
    repeat refine awp_seq ?_
    refine awp_reg fun K Q hK hQ => ?_
    simp -implicitDefEqProofs (disch := first | omega | rfl) only [go_sem, Nat.reduceEqDiff, Nat.reduceAdd, Nat.reduceMul, Nat.reduceSub, Nat.reduceLeDiff, Nat.reduceLT, Int.reduceLE, Int.reduceLT, Int.reduceEq, Int.reduceAdd, Int.reduceMul, Int.reduceSub, Int.reduceNeg, Int.reduceToNat, Int.reduceDiv, Int.reduceMod, Int.reduceTDiv, Int.reduceTMod, Int.cast_ofNat_Int, ↓reduceIte, false_implies, true_implies, zr35_3, hlt, List.length_map, Int.ofNat_lt, getD_map, Chg.av]
    intro b'
    refine hK _ _ ?_; clear hK hQ K Q
    repeat refine awp_seq ?_
    refine awp_reg fun K Q hK hQ => ?_
    simp -implicitDefEqProofs (disch := first | omega | rfl) only [go_sem, Nat.reduceEqDiff, Nat.reduceAdd, Nat.reduceMul, Nat.reduceSub, Nat.reduceLeDiff, Nat.reduceLT, Int.reduceLE, Int.reduceLT, Int.reduceEq, Int.reduceAdd, Int.reduceMul, Int.reduceSub, Int.reduceNeg, Int.reduceToNat, Int.reduceDiv, Int.reduceMod, Int.reduceTDiv, Int.reduceTMod, Int.cast_ofNat_Int, ↓reduceIte, false_implies, true_implies, zr35_4, lastStr]
    refine hK _ _ ?_; clear hK hQ K Q
    repeat refine awp_seq ?_
    refine awp_reg fun K Q hK hQ => ?_
    simp -implicitDefEqProofs (disch := first | omega | rfl) only [go_sem, Nat.reduceEqDiff, Nat.reduceAdd, Nat.reduceMul, Nat.reduceSub, Nat.reduceLeDiff, Nat.reduceLT, Int.reduceLE, Int.reduceLT, Int.reduceEq, Int.reduceAdd, Int.reduceMul, Int.reduceSub, Int.reduceNeg, Int.reduceToNat, Int.reduceDiv, Int.reduceMod, Int.reduceTDiv, Int.reduceTMod, Int.cast_ofNat_Int, ↓reduceIte, false_implies, true_implies, zr35_5]
    have hs : (str z k).av = AV.agg [AV.int IntKind.i64 (if k = 0 then 0 else z.ch[k - 1]!.at_), AV.int IntKind.i64 z.ch[k]!.at_, AV.int IntKind.i64 (offs z k), AV.int IntKind.i64 (offs z (k - 1))] := by simp only [str, Str.av, Str.cs, hlt, if_true]
    rw [← hs]
    refine val_at hP (hy k o hk hI) (hand := o) (rest := [(5, b', _), (3, b, _)]) (List.perm_append_comm (l₁ := [(5, b', _), (3, b, _)]) (l₂ := o)) ?_
    rintro r o' (⟨rfl, hI'⟩ | ⟨rfl, hJ⟩)
    · simp -implicitDefEqProofs (disch := first | omega | rfl) only [go_sem, Nat.reduceEqDiff, Nat.reduceAdd, Nat.reduceMul, Nat.reduceSub, Nat.reduceLeDiff, Nat.reduceLT, Int.reduceLE, Int.reduceLT, Int.reduceEq, Int.reduceAdd, Int.reduceMul, Int.reduceSub, Int.reduceNeg, Int.reduceToNat, Int.reduceDiv, Int.reduceMod, Int.reduceTDiv, Int.reduceTMod, Int.cast_ofNat_Int, ↓reduceIte, false_implies, true_implies]
      refine hK _ _ ?_; clear hK hQ K Q
      repeat refine awp_seq ?_
      refine awp_else (by rfl) ?_
      refine awp_skip ?_
      refine awp_perm ([(5, b', _), (3, b, _)] ++ o') List.perm_append_comm ?_
      refine awp_reg fun K Q hK hQ => ?_
      simp -implicitDefEqProofs (disch := first | omega | rfl) only [go_sem, Nat.reduceEqDiff, Nat.reduceAdd, Nat.reduceMul, Nat.reduceSub, Nat.reduceLeDiff, Nat.reduceLT, Int.reduceLE, Int.reduceLT, Int.reduceEq, Int.reduceAdd, Int.reduceMul, Int.reduceSub, Int.reduceNeg, Int.reduceToNat, Int.reduceDiv, Int.reduceMod, Int.reduceTDiv, Int.reduceTMod, Int.cast_ofNat_Int, ↓reduceIte, false_implies, true_implies, zr35_6]
      refine hK _ _ ?_; clear hK hQ K Q
      refine awp_reg fun K Q hK hQ => ?_
      simp -implicitDefEqProofs (disch := first | omega | rfl) only [go_sem, Nat.reduceEqDiff, Nat.reduceAdd, Nat.reduceMul, Nat.reduceSub, Nat.reduceLeDiff, Nat.reduceLT, Int.reduceLE, Int.reduceLT, Int.reduceEq, Int.reduceAdd, Int.reduceMul, Int.reduceSub, Int.reduceNeg, Int.reduceToNat, Int.reduceDiv, Int.reduceMod, Int.reduceTDiv, Int.reduceTMod, Int.cast_ofNat_Int, ↓reduceIte, false_implies, true_implies, zr35_7]
      refine hK _ _ ?_; clear hK hQ K Q
      refine ⟨⟨(k + 1, o'), hlt, hI'⟩, by simp only; omega, ?_⟩
      have e : lastStr z (k + 1) = [.int .i64 z.ch[k]!.at_, .int .i64 0, .int .i64 z.ch[k]!.off, .int .i64 (offs z k)] := by simp [lastStr, offs]
      refine ent_sub ?_ (by simp only [e]; exact .cons _ (List.Sublist.refl _))
      simp -implicitDefEqProofs (disch := first | omega | rfl) only [go_sem, Nat.reduceEqDiff, Nat.reduceAdd, Nat.reduceMul, Nat.reduceSub, Nat.reduceLeDiff, Nat.reduceLT, Int.reduceLE, Int.reduceLT, Int.reduceEq, Int.reduceAdd, Int.reduceMul, Int.reduceSub, Int.reduceNeg, Int.reduceToNat, Int.reduceDiv, Int.reduceMod, Int.reduceTDiv, Int.reduceTMod, Int.cast_ofNat_Int, ↓reduceIte, false_implies, true_implies]
      try rfl
    · simp -implicitDefEqProofs (disch := first | omega | rfl) only [go_sem, Nat.reduceEqDiff, Nat.reduceAdd, Nat.reduceMul, Nat.reduceSub, Nat.reduceLeDiff, Nat.reduceLT, Int.reduceLE, Int.reduceLT, Int.reduceEq, Int.reduceAdd, Int.reduceMul, Int.reduceSub, Int.reduceNeg, Int.reduceToNat, Int.reduceDiv, Int.reduceMod, Int.reduceTDiv, Int.reduceTMod, Int.cast_ofNat_Int, ↓reduceIte, false_implies, true_implies]
      refine hK _ _ ?_; clear hK hQ K Q
      repeat refine awp_seq ?_
      refine awp_then (by rfl) ?_
      refine awp_ret ?_
      repeat' (first | refine then_ret ?_ | refine blk_ret ?_)
      refine ret_q ?_
      simp -implicitDefEqProofs (disch := first | omega | rfl) only [go_sem, Nat.reduceEqDiff, Nat.reduceAdd, Nat.reduceMul, Nat.reduceSub, Nat.reduceLeDiff, Nat.reduceLT, Int.reduceLE, Int.reduceLT, Int.reduceEq, Int.reduceAdd, Int.reduceMul, Int.reduceSub, Int.reduceNeg, Int.reduceToNat, Int.reduceDiv, Int.reduceMod, Int.reduceTDiv, Int.reduceTMod, Int.cast_ofNat_Int, ↓reduceIte, false_implies, true_implies]
      exact leaves_app (.inr hJ)
  · repeat refine awp_seq ?_
    refine awp_reg fun K Q hK hQ => ?_
    simp -implicitDefEqProofs (disch := first | omega | rfl) only [go_sem, Nat.reduceEqDiff, Nat.reduceAdd, Nat.reduceMul, Nat.reduceSub, Nat.reduceLeDiff, Nat.reduceLT, Int.reduceLE, Int.reduceLT, Int.reduceEq, Int.reduceAdd, Int.reduceMul, Int.reduceSub, Int.reduceNeg, Int.reduceToNat, Int.reduceDiv, Int.reduceMod, Int.reduceTDiv, Int.reduceTMod, Int.cast_ofNat_Int, ↓reduceIte, false_implies, true_implies, zr35_2, Int.ofNat_lt, hlt]
    refine hK _ _ ?_; clear hK hQ K Q
    repeat refine awp_seq ?_
    refine awp_else (by rfl) ?_
    refine awp_exit ?_
    repeat' (first | refine then_exit ?_ | refine exit_here ?_ | refine exit_on rfl ?_)
    repeat refine awp_seq ?_
    refine awp_reg fun K Q hK hQ => ?_
    simp -implicitDefEqProofs (disch := first | omega | rfl) only [go_sem, Nat.reduceEqDiff, Nat.reduceAdd, Nat.reduceMul, Nat.reduceSub, Nat.reduceLeDiff, Nat.reduceLT, Int.reduceLE, Int.reduceLT, Int.reduceEq, Int.reduceAdd, Int.reduceMul, Int.reduceSub, Int.reduceNeg, Int.reduceToNat, Int.reduceDiv, Int.reduceMod, Int.reduceTDiv, Int.reduceTMod, Int.cast_ofNat_Int, ↓reduceIte, false_implies, true_implies, zr35_8, lastStr]
    refine hK _ _ ?_; clear hK hQ K Q
    have hk' : k = z.ch.length := by omega
    repeat refine awp_seq ?_
    refine awp_reg fun K Q hK hQ => ?_
    simp -implicitDefEqProofs (disch := first | omega | rfl) only [go_sem, Nat.reduceEqDiff, Nat.reduceAdd, Nat.reduceMul, Nat.reduceSub, Nat.reduceLeDiff, Nat.reduceLT, Int.reduceLE, Int.reduceLT, Int.reduceEq, Int.reduceAdd, Int.reduceMul, Int.reduceSub, Int.reduceNeg, Int.reduceToNat, Int.reduceDiv, Int.reduceMod, Int.reduceTDiv, Int.reduceTMod, Int.cast_ofNat_Int, ↓reduceIte, false_implies, true_implies, zr35_9]
    have hs : (str z k).av = AV.agg [AV.int IntKind.i64 (if k = 0 then 0 else z.ch[k - 1]!.at_), AV.int IntKind.i64 105190560, AV.int IntKind.i64 (offs z k), AV.int IntKind.i64 (offs z (k - 1))] := by simp only [str, Str.av, Str.cs, hlt, if_false]
    rw [← hs]
    refine val_at hP (hy k o hk hI) (hand := o) (rest := [(3, b, _)]) (List.perm_append_comm (l₁ := [(3, b, _)]) (l₂ := o)) ?_
    rintro r o' (⟨rfl, hI'⟩ | ⟨rfl, hJ⟩)
    · simp -implicitDefEqProofs (disch := first | omega | rfl) only [go_sem, Nat.reduceEqDiff, Nat.reduceAdd, Nat.reduceMul, Nat.reduceSub, Nat.reduceLeDiff, Nat.reduceLT, Int.reduceLE, Int.reduceLT, Int.reduceEq, Int.reduceAdd, Int.reduceMul, Int.reduceSub, Int.reduceNeg, Int.reduceToNat, Int.reduceDiv, Int.reduceMod, Int.reduceTDiv, Int.reduceTMod, Int.cast_ofNat_Int, ↓reduceIte, false_implies, true_implies]
      refine hK _ _ ?_; clear hK hQ K Q
      refine ret_n ?_
      simp -implicitDefEqProofs (disch := first | omega | rfl) only [go_sem, Nat.reduceEqDiff, Nat.reduceAdd, Nat.reduceMul, Nat.reduceSub, Nat.reduceLeDiff, Nat.reduceLT, Int.reduceLE, Int.reduceLT, Int.reduceEq, Int.reduceAdd, Int.reduceMul, Int.reduceSub, Int.reduceNeg, Int.reduceToNat, Int.reduceDiv, Int.reduceMod, Int.reduceTDiv, Int.reduceTMod, Int.cast_ofNat_Int, ↓reduceIte, false_implies, true_implies]
      exact leaves_app (.inl (by rw [hk'] at hI'; exact hI'))
    · simp -implicitDefEqProofs (disch := first | omega | rfl) only [go_sem, Nat.reduceEqDiff, Nat.reduceAdd, Nat.reduceMul, Nat.reduceSub, Nat.reduceLeDiff, Nat.reduceLT, Int.reduceLE, Int.reduceLT, Int.reduceEq, Int.reduceAdd, Int.reduceMul, Int.reduceSub, Int.reduceNeg, Int.reduceToNat, Int.reduceDiv, Int.reduceMod, Int.reduceTDiv, Int.reduceTMod, Int.cast_ofNat_Int, ↓reduceIte, false_implies, true_implies]
      refine hK _ _ ?_; clear hK hQ K Q
      refine ret_n ?_
      simp -implicitDefEqProofs (disch := first | omega | rfl) only [go_sem, Nat.reduceEqDiff, Nat.reduceAdd, Nat.reduceMul, Nat.reduceSub, Nat.reduceLeDiff, Nat.reduceLT, Int.reduceLE, Int.reduceLT, Int.reduceEq, Int.reduceAdd, Int.reduceMul, Int.reduceSub, Int.reduceNeg, Int.reduceToNat, Int.reduceDiv, Int.reduceMod, Int.reduceTDiv, Int.reduceTMod, Int.cast_ofNat_Int, ↓reduceIte, false_implies, true_implies]
      exact leaves_app (.inr hJ)

theorem find_head {k b : Nat} {ob : Ob} {r : Own} : Own.find ((k, b, ob) :: r) k b = some ob := by simp [Own.find]
theorem find_next {k b k' b' : Nat} {ob ob' : Ob} {r : Own} (hk : ¬ k' = k) (h : Own.find r k b = some ob) : Own.find ((k', b', ob') :: r) k b = some ob := by simp [Own.find, hk, h]
/-- what the rounds of 'find' own -/
def findO (l : Nat) (lp : Ob) (b4 b5 : Nat) (s : Str) (t : Bool) : Own := [(99, l, lp), (5, b5, .cells [.bool t]), (4, b4, .cells s.cs)]

set_option maxHeartbeats 800000 in
theorem f23 (z : Zone) (ff : Fn) (a1 a2 : List AV) (p : Str → Bool) (hl : z.ch.length ≤ 1000000) (hp : ∀ k, k ≤ z.ch.length → PureV Try.prog (.fn ff a1 a2) [(str z k).av] (.bool (p (str z k)))) :
    PureC Try.prog 23 [z.av, .fn ff a1 a2] (.tup [(findS z p (z.ch.length + 1) 0).1.av, .bool (findS z p (z.ch.length + 1) 0).2]) := by
  refine fn_intro' 15 Try.func23 nt23 ok23 res23 (by simp) fun X hP hn hd hr => ?_
  repeat refine awp_seq ?_
  refine awp_reg fun K Q hK hQ => ?_
  simp -implicitDefEqProofs (disch := first | omega | rfl) only [go_sem, Nat.reduceEqDiff, Nat.reduceAdd, Nat.reduceMul, Nat.reduceSub, Nat.reduceLeDiff, Nat.reduceLT, Int.reduceLE, Int.reduceLT, Int.reduceEq, Int.reduceAdd, Int.reduceMul, Int.reduceSub, Int.reduceNeg, Int.reduceToNat, Int.reduceDiv, Int.reduceMod, Int.reduceTDiv, Int.reduceTMod, Int.cast_ofNat_Int, ↓reduceIte, false_implies, true_implies, zr23_0, argS, Zone.av, Zone.cs]
  intro b2 b3 b4 b5
  refine hK _ _ ?_; clear hK hQ K Q
  repeat refine awp_seq ?_
  refine awp_reg fun K Q hK hQ => ?_
  simp -implicitDefEqProofs (disch := first | omega | rfl) only [go_sem, Nat.reduceEqDiff, Nat.reduceAdd, Nat.reduceMul, Nat.reduceSub, Nat.reduceLeDiff, Nat.reduceLT, Int.reduceLE, Int.reduceLT, Int.reduceEq, Int.reduceAdd, Int.reduceMul, Int.reduceSub, Int.reduceNeg, Int.reduceToNat, Int.reduceDiv, Int.reduceMod, Int.reduceTDiv, Int.reduceTMod, Int.cast_ofNat_Int, ↓reduceIte, false_implies, true_implies, zr23_1]
  refine call_pure hP (f33 z) ?_
  simp -implicitDefEqProofs (disch := first | omega | rfl) only [go_sem, Nat.reduceEqDiff, Nat.reduceAdd, Nat.reduceMul, Nat.reduceSub, Nat.reduceLeDiff, Nat.reduceLT, Int.reduceLE, Int.reduceLT, Int.reduceEq, Int.reduceAdd, Int.reduceMul, Int.reduceSub, Int.reduceNeg, Int.reduceToNat, Int.reduceDiv, Int.reduceMod, Int.reduceTDiv, Int.reduceTMod, Int.cast_ofNat_Int, ↓reduceIte, false_implies, true_implies]
  refine hK _ _ ?_; clear hK hQ K Q
  repeat refine awp_seq ?_
  refine awp_block ?_
  refine awp_frz [(3, b3, .cells [.fn ff a1 a2]), (2, b2, .cells z.cs)] [(5, b5, .cells [.bool false]), (4, b4, .cells (Str.cs ⟨0, 0, 0, 0⟩))] [(8, .fn (.func 35) [] [.ref z.cs]), (3, .ref [.fn ff a1 a2]), (4, .ptr 4 b4 0), (5, .ptr 5 b5 0)]
    (List.perm_append_comm (l₁ := [(5, b5, Ob.cells [.bool false]), (4, b4, Ob.cells (Str.cs ⟨0, 0, 0, 0⟩))]) (l₂ := [(3, b3, Ob.cells [.fn ff a1 a2]), (2, b2, Ob.cells z.cs)])) ⟨.keep _, Frz.ptr0 (by simp [Own.find]), .keep _, .keep _, trivial⟩ ?_
  refine awp_range 99 hr (by rfl) (by rw [hP]; exact okf35) fun l => ?_
  rw [hP, hn]
  generalize hs0 : ([(8, .fn (.func 35) [] [.ref z.cs]), (3, .ref [.fn ff a1 a2]), (4, .ptr 4 b4 0), (5, .ptr 5 b5 0)] : Slots) = s0
  have g3 : Slots.get s0 3 = .ref [.fn ff a1 a2] := by rw [← hs0]; rfl
  have g4 : Slots.get s0 4 = .ptr 4 b4 0 := by rw [← hs0]; rfl
  have g5 : Slots.get s0 5 = .ptr 5 b5 0 := by rw [← hs0]; rfl
  refine call_of (rest := []) (f35 z (.yield l) [] [] (fun k o => o = findO l (.loop s0 (LP Try.prog 15 [9] zc23_0 zc23_4 .ready none)) b4 b5 ⟨0, 0, 0, 0⟩ false ∧ ∀ j, j < k → p (str z j) = false)
    (fun o => ∃ k, k ≤ z.ch.length ∧ (∀ j, j < k → p (str z j) = false) ∧ p (str z k) = true ∧ o = findO l (.loop s0 (LP Try.prog 15 [9] zc23_0 zc23_4 .done (some .ret))) b4 b5 (str z k) true) hl ?_ _ ⟨rfl, fun j hj => by omega⟩) (by rw [List.append_nil]; exact List.Perm.refl _) ?_
  · rintro k o hk ⟨rfl, hj⟩
    refine round_intro (k := 99) (s0 := s0) (by exact find_head) (by rfl) (by rfl) fun X hP hn hd hr => ?_
    refine awp_reg fun K Q hK hQ => ?_
    simp -implicitDefEqProofs (disch := first | omega | rfl) only [go_sem, Nat.reduceEqDiff, Nat.reduceAdd, Nat.reduceMul, Nat.reduceSub, Nat.reduceLeDiff, Nat.reduceLT, Int.reduceLE, Int.reduceLT, Int.reduceEq, Int.reduceAdd, Int.reduceMul, Int.reduceSub, Int.reduceNeg, Int.reduceToNat, Int.reduceDiv, Int.reduceMod, Int.reduceTDiv, Int.reduceTMod, Int.cast_ofNat_Int, ↓reduceIte, false_implies, true_implies, zr23_2, Str.av, Str.cs]
    intro b6
    refine hK _ _ ?_; clear hK hQ K Q
    refine ⟨s0, find_next (by decide) find_head, ?_⟩
    simp -implicitDefEqProofs (disch := first | omega | rfl) only [go_sem, Nat.reduceEqDiff, Nat.reduceAdd, Nat.reduceMul, Nat.reduceSub, Nat.reduceLeDiff, Nat.reduceLT, Int.reduceLE, Int.reduceLT, Int.reduceEq, Int.reduceAdd, Int.reduceMul, Int.reduceSub, Int.reduceNeg, Int.reduceToNat, Int.reduceDiv, Int.reduceMod, Int.reduceTDiv, Int.reduceTMod, Int.cast_ofNat_Int, ↓reduceIte, false_implies, true_implies, findO]
    repeat refine awp_seq ?_
    refine awp_block ?_
    have F := hp k hk
    cases hc : p (str z k)
    · rw [hc] at F
      repeat refine awp_seq ?_
      refine awp_reg fun K Q hK hQ => ?_
      simp -implicitDefEqProofs (disch := first | omega | rfl) only [go_sem, Nat.reduceEqDiff, Nat.reduceAdd, Nat.reduceMul, Nat.reduceSub, Nat.reduceLeDiff, Nat.reduceLT, Int.reduceLE, Int.reduceLT, Int.reduceEq, Int.reduceAdd, Int.reduceMul, Int.reduceSub, Int.reduceNeg, Int.reduceToNat, Int.reduceDiv, Int.reduceMod, Int.reduceTDiv, Int.reduceTMod, Int.cast_ofNat_Int, ↓reduceIte, false_implies, true_implies, zr23_3, g3]
      refine val_pure hP F ?_
      simp -implicitDefEqProofs (disch := first | omega | rfl) only [go_sem, Nat.reduceEqDiff, Nat.reduceAdd, Nat.reduceMul, Nat.reduceSub, Nat.reduceLeDiff, Nat.reduceLT, Int.reduceLE, Int.reduceLT, Int.reduceEq, Int.reduceAdd, Int.reduceMul, Int.reduceSub, Int.reduceNeg, Int.reduceToNat, Int.reduceDiv, Int.reduceMod, Int.reduceTDiv, Int.reduceTMod, Int.cast_ofNat_Int, ↓reduceIte, false_implies, true_implies]
      refine hK _ _ ?_; clear hK hQ K Q
      repeat refine awp_seq ?_
      refine awp_else (by rfl) ?_
      refine awp_skip ?_
      refine ⟨s0, find_next (by decide) find_head, findO l (.loop s0 (LP Try.prog 15 [9] zc23_0 zc23_4 .ready none)) b4 b5 ⟨0, 0, 0, 0⟩ false, .cons _ (List.Sublist.refl _), .inl ⟨rfl, rfl, fun j hj' => ?_⟩⟩
      by_cases h : j = k
      · rw [h]; exact hc
      · exact hj j (by omega)
    · rw [hc] at F
      repeat refine awp_seq ?_
      refine awp_reg fun K Q hK hQ => ?_
      simp -implicitDefEqProofs (disch := first | omega | rfl) only [go_sem, Nat.reduceEqDiff, Nat.reduceAdd, Nat.reduceMul, Nat.reduceSub, Nat.reduceLeDiff, Nat.reduceLT, Int.reduceLE, Int.reduceLT, Int.reduceEq, Int.reduceAdd, Int.reduceMul, Int.reduceSub, Int.reduceNeg, Int.reduceToNat, Int.reduceDiv, Int.reduceMod, Int.reduceTDiv, Int.reduceTMod, Int.cast_ofNat_Int, ↓reduceIte, false_implies, true_implies, zr23_3, g3]
      refine val_pure hP F ?_
      simp -implicitDefEqProofs (disch := first | omega | rfl) only [go_sem, Nat.reduceEqDiff, Nat.reduceAdd, Nat.reduceMul, Nat.reduceSub, Nat.reduceLeDiff, Nat.reduceLT, Int.reduceLE, Int.reduceLT, Int.reduceEq, Int.reduceAdd, Int.reduceMul, Int.reduceSub, Int.reduceNeg, Int.reduceToNat, Int.reduceDiv, Int.reduceMod, Int.reduceTDiv, Int.reduceTMod, Int.cast_ofNat_Int, ↓reduceIte, false_implies, true_implies]
      refine hK _ _ ?_; clear hK hQ K Q
      repeat refine awp_seq ?_
      refine awp_then (by rfl) ?_
      repeat refine awp_seq ?_
      refine awp_reg fun K Q hK hQ => ?_
      simp -implicitDefEqProofs (disch := first | omega | rfl) only [go_sem, Nat.reduceEqDiff, Nat.reduceAdd, Nat.reduceMul, Nat.reduceSub, Nat.reduceLeDiff, Nat.reduceLT, Int.reduceLE, Int.reduceLT, Int.reduceEq, Int.reduceAdd, Int.reduceMul, Int.reduceSub, Int.reduceNeg, Int.reduceToNat, Int.reduceDiv, Int.reduceMod, Int.reduceTDiv, Int.reduceTMod, Int.cast_ofNat_Int, ↓reduceIte, false_implies, true_implies, zr23_4, g4, g5, Str.cs]
      refine hK _ _ ?_; clear hK hQ K Q
      refine awp_ret ?_
      exact ⟨s0, find_next (by decide) find_head, findO l (.loop s0 (LP Try.prog 15 [9] zc23_0 zc23_4 .done (some .ret))) b4 b5 (str z k) true, .cons _ (List.Sublist.refl _), .inr ⟨rfl, k, hk, hj, hc, rfl⟩⟩
  · rintro r own' ⟨rfl, ⟨rfl, hj⟩ | ⟨k, hk, hj, hc, rfl⟩⟩
    · rw [List.append_nil]
      refine rangeK_none (by exact find_head) (by simp) ?_
      refine (?_ : AWP X zc23_7 s0 [(5, b5, .cells [.bool false]), (4, b4, .cells (Str.cs ⟨0, 0, 0, 0⟩))] _)
      repeat refine awp_seq ?_
      refine awp_reg fun K Q hK hQ => ?_
      simp -implicitDefEqProofs (disch := first | omega | rfl) only [go_sem, Nat.reduceEqDiff, Nat.reduceAdd, Nat.reduceMul, Nat.reduceSub, Nat.reduceLeDiff, Nat.reduceLT, Int.reduceLE, Int.reduceLT, Int.reduceEq, Int.reduceAdd, Int.reduceMul, Int.reduceSub, Int.reduceNeg, Int.reduceToNat, Int.reduceDiv, Int.reduceMod, Int.reduceTDiv, Int.reduceTMod, Int.cast_ofNat_Int, ↓reduceIte, false_implies, true_implies, zr23_5, g4, g5, Str.cs]
      refine hK _ _ ?_; clear hK hQ K Q
      refine awp_ret ?_
      repeat' (first | refine then_ret ?_ | refine blk_ret ?_)
      refine ret_q ?_
      simp -implicitDefEqProofs (disch := first | omega | rfl) only [go_sem, Nat.reduceEqDiff, Nat.reduceAdd, Nat.reduceMul, Nat.reduceSub, Nat.reduceLeDiff, Nat.reduceLT, Int.reduceLE, Int.reduceLT, Int.reduceEq, Int.reduceAdd, Int.reduceMul, Int.reduceSub, Int.reduceNeg, Int.reduceToNat, Int.reduceDiv, Int.reduceMod, Int.reduceTDiv, Int.reduceTMod, Int.cast_ofNat_Int, ↓reduceIte, false_implies, true_implies, g4, g5]
      exact leaves_none (by rw [findS_no z p _ 0 (fun j _ h => hj j (by omega))]; rfl)
    · rw [List.append_nil]
      refine rangeK_ret (by exact find_head) (by simp) ?_
      repeat' (first | refine then_ret ?_ | refine blk_ret ?_)
      refine ret_q (s := s0) (own := [(5, b5, .cells [.bool true]), (4, b4, .cells (Str.cs (str z k)))]) ?_
      simp -implicitDefEqProofs (disch := first | omega | rfl) only [go_sem, Nat.reduceEqDiff, Nat.reduceAdd, Nat.reduceMul, Nat.reduceSub, Nat.reduceLeDiff, Nat.reduceLT, Int.reduceLE, Int.reduceLT, Int.reduceEq, Int.reduceAdd, Int.reduceMul, Int.reduceSub, Int.reduceNeg, Int.reduceToNat, Int.reduceDiv, Int.reduceMod, Int.reduceTDiv, Int.reduceTMod, Int.cast_ofNat_Int, ↓reduceIte, false_implies, true_implies, g4, g5, Str.cs]
      exact leaves_none (by rw [findS_at z p _ 0 k (by omega) (by omega) (fun j _ h => hj j h) hc]; rfl)
end Go.Proofs.Zt
