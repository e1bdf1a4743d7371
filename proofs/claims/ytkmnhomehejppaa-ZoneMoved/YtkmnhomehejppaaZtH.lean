import Derived.Test.YtkmnhomehejppaaZtG
set_option linter.unusedSimpArgs false
set_option linter.unusedVariables false
set_option linter.deprecated false
namespace Go.Proofs.Zt
open Go.Aw

theorem okf23 : okF Try.prog 23 = true := by kernel_rfl

theorem seg_ge (l : List Chg) (t : Int) : ∀ j, j < seg l t → l[j]!.at_ ≤ t := by
  induction l with
  | nil => intro j hj; simp [seg] at hj
  | cons c r ih =>
    intro j hj
    simp only [seg] at hj
    split at hj
    · rename_i h
      cases j with
      | zero => simpa using h
      | succ j => have := ih j (by omega); simpa using this
    · omega
theorem seg_no (l : List Chg) (t : Int) (h : seg l t < l.length) : t < l[seg l t]!.at_ := by
  induction l with
  | nil => simp at h
  | cons c r ih =>
    simp only [seg] at h ⊢
    split
    · rename_i hc
      rw [if_pos hc] at h
      have := ih (by simpa using h)
      simpa using this
    · rename_i hc
      simp only [List.getElem!_cons_zero]
      omega

theorem sorted (b : Int) (l : List Chg) (h : okFrom b l = true) : ∀ i j, i < j → j < l.length → l[i]!.at_ < l[j]!.at_ := by
  induction l generalizing b with
  | nil => intro i j _ hj; simp at hj
  | cons c r ih =>
    intro i j hij hj
    have h' := h
    simp only [okFrom, Bool.and_eq_true, Bool.not_eq_true', decide_eq_true_eq] at h
    cases j with
    | zero => omega
    | succ j =>
      have hj' : j < r.length := by simpa using hj
      cases i with
      | zero =>
        obtain ⟨_, _, h3⟩ := okFrom_get c.at_ r h.2 j hj'
        simp only [List.getElem!_cons_zero, List.getElem!_cons_succ]
        omega
      | succ i =>
        have := ih c.at_ h.2 i j (by omega) hj'
        simpa using this

theorem str_seg {z : Zone} (ok : z.Ok) (t : Int) (h0 : 0 ≤ t) (h1 : t ≤ 105190559) : findS z (fun s => decide (t < s.to)) (z.ch.length + 1) 0 = (str z (seg z.ch t), true) := by
  have hk := seg_le z.ch t
  refine findS_at z _ _ 0 (seg z.ch t) (by omega) (by omega) (fun j _ hj => ?_) ?_
  · have := seg_ge z.ch t j hj
    have hlt : j < z.ch.length := by omega
    simp only [str, hlt, if_true]
    exact decide_eq_false (by omega)
  · unfold str
    simp only
    split
    · rename_i h
      exact decide_eq_true (seg_no z.ch t h)
    · exact decide_eq_true (by omega)


theorem f11 (z : Zone) (t : Int) : PureC Try.prog 11 [z.av, .int .i64 t] (tri (localR z t)) := by
  refine fn_intro' 41 Try.func11 nt11 ok11 res11 (by simp) fun X hP hn hd hr => ?_
  repeat refine awp_seq ?_
  refine awp_reg fun K Q hK hQ => ?_
  simp -implicitDefEqProofs (disch := first | omega | rfl) only [go_sem, Nat.reduceEqDiff, Nat.reduceAdd, Nat.reduceMul, Nat.reduceSub, Nat.reduceLeDiff, Nat.reduceLT, Int.reduceLE, Int.reduceLT, Int.reduceEq, Int.reduceAdd, Int.reduceMul, Int.reduceSub, Int.reduceNeg, Int.reduceToNat, Int.reduceDiv, Int.reduceMod, Int.reduceTDiv, Int.reduceTMod, Int.cast_ofNat_Int, ↓reduceIte, false_implies, true_implies, zr11_0, argS, Zone.av, Zone.cs]
  intro b b'
  refine hK _ _ ?_; clear hK hQ K Q
  have F := f17 z
  cases hv : z.valid
  · rw [hv] at F
    repeat refine awp_seq ?_
    refine awp_reg fun K Q hK hQ => ?_
    simp -implicitDefEqProofs (disch := first | omega | rfl) only [go_sem, Nat.reduceEqDiff, Nat.reduceAdd, Nat.reduceMul, Nat.reduceSub, Nat.reduceLeDiff, Nat.reduceLT, Int.reduceLE, Int.reduceLT, Int.reduceEq, Int.reduceAdd, Int.reduceMul, Int.reduceSub, Int.reduceNeg, Int.reduceToNat, Int.reduceDiv, Int.reduceMod, Int.reduceTDiv, Int.reduceTMod, Int.cast_ofNat_Int, ↓reduceIte, false_implies, true_implies, zr11_1]
    refine call_pure hP (F) ?_
    simp -implicitDefEqProofs (disch := first | omega | rfl) only [go_sem, Nat.reduceEqDiff, Nat.reduceAdd, Nat.reduceMul, Nat.reduceSub, Nat.reduceLeDiff, Nat.reduceLT, Int.reduceLE, Int.reduceLT, Int.reduceEq, Int.reduceAdd, Int.reduceMul, Int.reduceSub, Int.reduceNeg, Int.reduceToNat, Int.reduceDiv, Int.reduceMod, Int.reduceTDiv, Int.reduceTMod, Int.cast_ofNat_Int, ↓reduceIte, false_implies, true_implies, hv]
    refine hK _ _ ?_; clear hK hQ K Q
    repeat refine awp_seq ?_
    refine awp_then (by rfl) ?_
    repeat refine awp_seq ?_
    refine awp_reg fun K Q hK hQ => ?_
    simp -implicitDefEqProofs (disch := first | omega | rfl) only [go_sem, Nat.reduceEqDiff, Nat.reduceAdd, Nat.reduceMul, Nat.reduceSub, Nat.reduceLeDiff, Nat.reduceLT, Int.reduceLE, Int.reduceLT, Int.reduceEq, Int.reduceAdd, Int.reduceMul, Int.reduceSub, Int.reduceNeg, Int.reduceToNat, Int.reduceDiv, Int.reduceMod, Int.reduceTDiv, Int.reduceTMod, Int.cast_ofNat_Int, ↓reduceIte, false_implies, true_implies, zr11_2]
    refine hK _ _ ?_; clear hK hQ K Q
    refine awp_ret ?_
    repeat' (first | refine then_ret ?_ | refine blk_ret ?_)
    refine ret_q ?_
    simp -implicitDefEqProofs (disch := first | omega | rfl) only [go_sem, Nat.reduceEqDiff, Nat.reduceAdd, Nat.reduceMul, Nat.reduceSub, Nat.reduceLeDiff, Nat.reduceLT, Int.reduceLE, Int.reduceLT, Int.reduceEq, Int.reduceAdd, Int.reduceMul, Int.reduceSub, Int.reduceNeg, Int.reduceToNat, Int.reduceDiv, Int.reduceMod, Int.reduceTDiv, Int.reduceTMod, Int.cast_ofNat_Int, ↓reduceIte, false_implies, true_implies]
    exact leaves_none (by simp [tri, localR, hv])
  rw [hv] at F
  by_cases h1 : t < 0
  · repeat refine awp_seq ?_
    refine awp_reg fun K Q hK hQ => ?_
    simp -implicitDefEqProofs (disch := first | omega | rfl) only [go_sem, Nat.reduceEqDiff, Nat.reduceAdd, Nat.reduceMul, Nat.reduceSub, Nat.reduceLeDiff, Nat.reduceLT, Int.reduceLE, Int.reduceLT, Int.reduceEq, Int.reduceAdd, Int.reduceMul, Int.reduceSub, Int.reduceNeg, Int.reduceToNat, Int.reduceDiv, Int.reduceMod, Int.reduceTDiv, Int.reduceTMod, Int.cast_ofNat_Int, ↓reduceIte, false_implies, true_implies, zr11_1]
    refine call_pure hP (F) ?_
    simp -implicitDefEqProofs (disch := first | omega | rfl) only [go_sem, Nat.reduceEqDiff, Nat.reduceAdd, Nat.reduceMul, Nat.reduceSub, Nat.reduceLeDiff, Nat.reduceLT, Int.reduceLE, Int.reduceLT, Int.reduceEq, Int.reduceAdd, Int.reduceMul, Int.reduceSub, Int.reduceNeg, Int.reduceToNat, Int.reduceDiv, Int.reduceMod, Int.reduceTDiv, Int.reduceTMod, Int.cast_ofNat_Int, ↓reduceIte, false_implies, true_implies, hv, h1]
    refine hK _ _ ?_; clear hK hQ K Q
    repeat refine awp_seq ?_
    refine awp_then (by rfl) ?_
    repeat refine awp_seq ?_
    refine awp_reg fun K Q hK hQ => ?_
    simp -implicitDefEqProofs (disch := first | omega | rfl) only [go_sem, Nat.reduceEqDiff, Nat.reduceAdd, Nat.reduceMul, Nat.reduceSub, Nat.reduceLeDiff, Nat.reduceLT, Int.reduceLE, Int.reduceLT, Int.reduceEq, Int.reduceAdd, Int.reduceMul, Int.reduceSub, Int.reduceNeg, Int.reduceToNat, Int.reduceDiv, Int.reduceMod, Int.reduceTDiv, Int.reduceTMod, Int.cast_ofNat_Int, ↓reduceIte, false_implies, true_implies, zr11_2]
    refine hK _ _ ?_; clear hK hQ K Q
    refine awp_ret ?_
    repeat' (first | refine then_ret ?_ | refine blk_ret ?_)
    refine ret_q ?_
    simp -implicitDefEqProofs (disch := first | omega | rfl) only [go_sem, Nat.reduceEqDiff, Nat.reduceAdd, Nat.reduceMul, Nat.reduceSub, Nat.reduceLeDiff, Nat.reduceLT, Int.reduceLE, Int.reduceLT, Int.reduceEq, Int.reduceAdd, Int.reduceMul, Int.reduceSub, Int.reduceNeg, Int.reduceToNat, Int.reduceDiv, Int.reduceMod, Int.reduceTDiv, Int.reduceTMod, Int.cast_ofNat_Int, ↓reduceIte, false_implies, true_implies]
    exact leaves_none (by simp [tri, localR, hv, h1])
  by_cases h2 : 105190559 < t
  · repeat refine awp_seq ?_
    refine awp_reg fun K Q hK hQ => ?_
    simp -implicitDefEqProofs (disch := first | omega | rfl) only [go_sem, Nat.reduceEqDiff, Nat.reduceAdd, Nat.reduceMul, Nat.reduceSub, Nat.reduceLeDiff, Nat.reduceLT, Int.reduceLE, Int.reduceLT, Int.reduceEq, Int.reduceAdd, Int.reduceMul, Int.reduceSub, Int.reduceNeg, Int.reduceToNat, Int.reduceDiv, Int.reduceMod, Int.reduceTDiv, Int.reduceTMod, Int.cast_ofNat_Int, ↓reduceIte, false_implies, true_implies, zr11_1]
    refine call_pure hP (F) ?_
    simp -implicitDefEqProofs (disch := first | omega | rfl) only [go_sem, Nat.reduceEqDiff, Nat.reduceAdd, Nat.reduceMul, Nat.reduceSub, Nat.reduceLeDiff, Nat.reduceLT, Int.reduceLE, Int.reduceLT, Int.reduceEq, Int.reduceAdd, Int.reduceMul, Int.reduceSub, Int.reduceNeg, Int.reduceToNat, Int.reduceDiv, Int.reduceMod, Int.reduceTDiv, Int.reduceTMod, Int.cast_ofNat_Int, ↓reduceIte, false_implies, true_implies, hv, h1, h2]
    refine hK _ _ ?_; clear hK hQ K Q
    repeat refine awp_seq ?_
    refine awp_then (by rfl) ?_
    repeat refine awp_seq ?_
    refine awp_reg fun K Q hK hQ => ?_
    simp -implicitDefEqProofs (disch := first | omega | rfl) only [go_sem, Nat.reduceEqDiff, Nat.reduceAdd, Nat.reduceMul, Nat.reduceSub, Nat.reduceLeDiff, Nat.reduceLT, Int.reduceLE, Int.reduceLT, Int.reduceEq, Int.reduceAdd, Int.reduceMul, Int.reduceSub, Int.reduceNeg, Int.reduceToNat, Int.reduceDiv, Int.reduceMod, Int.reduceTDiv, Int.reduceTMod, Int.cast_ofNat_Int, ↓reduceIte, false_implies, true_implies, zr11_2]
    refine hK _ _ ?_; clear hK hQ K Q
    refine awp_ret ?_
    repeat' (first | refine then_ret ?_ | refine blk_ret ?_)
    refine ret_q ?_
    simp -implicitDefEqProofs (disch := first | omega | rfl) only [go_sem, Nat.reduceEqDiff, Nat.reduceAdd, Nat.reduceMul, Nat.reduceSub, Nat.reduceLeDiff, Nat.reduceLT, Int.reduceLE, Int.reduceLT, Int.reduceEq, Int.reduceAdd, Int.reduceMul, Int.reduceSub, Int.reduceNeg, Int.reduceToNat, Int.reduceDiv, Int.reduceMod, Int.reduceTDiv, Int.reduceTMod, Int.cast_ofNat_Int, ↓reduceIte, false_implies, true_implies]
    exact leaves_none (by simp [tri, localR, hv, h1, h2])
  repeat refine awp_seq ?_
  refine awp_reg fun K Q hK hQ => ?_
  simp -implicitDefEqProofs (disch := first | omega | rfl) only [go_sem, Nat.reduceEqDiff, Nat.reduceAdd, Nat.reduceMul, Nat.reduceSub, Nat.reduceLeDiff, Nat.reduceLT, Int.reduceLE, Int.reduceLT, Int.reduceEq, Int.reduceAdd, Int.reduceMul, Int.reduceSub, Int.reduceNeg, Int.reduceToNat, Int.reduceDiv, Int.reduceMod, Int.reduceTDiv, Int.reduceTMod, Int.cast_ofNat_Int, ↓reduceIte, false_implies, true_implies, zr11_1]
  refine call_pure hP (F) ?_
  simp -implicitDefEqProofs (disch := first | omega | rfl) only [go_sem, Nat.reduceEqDiff, Nat.reduceAdd, Nat.reduceMul, Nat.reduceSub, Nat.reduceLeDiff, Nat.reduceLT, Int.reduceLE, Int.reduceLT, Int.reduceEq, Int.reduceAdd, Int.reduceMul, Int.reduceSub, Int.reduceNeg, Int.reduceToNat, Int.reduceDiv, Int.reduceMod, Int.reduceTDiv, Int.reduceTMod, Int.cast_ofNat_Int, ↓reduceIte, false_implies, true_implies, hv, h1, h2]
  refine hK _ _ ?_; clear hK hQ K Q
  repeat refine awp_seq ?_
  refine awp_else (by rfl) ?_
  refine awp_skip ?_
  have ok := Zone.valid_ok hv
  have hk := seg_le z.ch t
  have ho := ok.offs _ hk
  have hl := ok.len
  have G := f23 z (.func 24) [] [.ref [.int .i64 t]] (fun s => decide (t < s.to)) (by omega) (fun k hk => valC_fn okf24 (f24 _ t))
  rw [str_seg ok t (by omega) (by omega)] at G
  refine awp_frz [(3, b', Ob.cells [.int .i64 t])] [(2, b, Ob.cells z.cs)] [(3, .ref [.int .i64 t]), (2, .ptr 2 b 0)] (List.Perm.refl _) ⟨Frz.ptr0 find_head, .keep _, trivial⟩ ?_
  repeat refine awp_seq ?_
  refine awp_reg fun K Q hK hQ => ?_
  simp -implicitDefEqProofs (disch := first | omega | rfl) only [go_sem, Nat.reduceEqDiff, Nat.reduceAdd, Nat.reduceMul, Nat.reduceSub, Nat.reduceLeDiff, Nat.reduceLT, Int.reduceLE, Int.reduceLT, Int.reduceEq, Int.reduceAdd, Int.reduceMul, Int.reduceSub, Int.reduceNeg, Int.reduceToNat, Int.reduceDiv, Int.reduceMod, Int.reduceTDiv, Int.reduceTMod, Int.cast_ofNat_Int, ↓reduceIte, false_implies, true_implies, zr11_3, Zone.cs]
  refine call_pure hP (G) ?_
  simp -implicitDefEqProofs (disch := first | omega | rfl) only [go_sem, Nat.reduceEqDiff, Nat.reduceAdd, Nat.reduceMul, Nat.reduceSub, Nat.reduceLeDiff, Nat.reduceLT, Int.reduceLE, Int.reduceLT, Int.reduceEq, Int.reduceAdd, Int.reduceMul, Int.reduceSub, Int.reduceNeg, Int.reduceToNat, Int.reduceDiv, Int.reduceMod, Int.reduceTDiv, Int.reduceTMod, Int.cast_ofNat_Int, ↓reduceIte, false_implies, true_implies, Str.av, Str.cs]
  intro b7
  refine hK _ _ ?_; clear hK hQ K Q
  have hso : (str z (seg z.ch t)).off = offs z (seg z.ch t) := rfl
  repeat refine awp_seq ?_
  refine awp_reg fun K Q hK hQ => ?_
  simp -implicitDefEqProofs (disch := first | omega | rfl) only [go_sem, Nat.reduceEqDiff, Nat.reduceAdd, Nat.reduceMul, Nat.reduceSub, Nat.reduceLeDiff, Nat.reduceLT, Int.reduceLE, Int.reduceLT, Int.reduceEq, Int.reduceAdd, Int.reduceMul, Int.reduceSub, Int.reduceNeg, Int.reduceToNat, Int.reduceDiv, Int.reduceMod, Int.reduceTDiv, Int.reduceTMod, Int.cast_ofNat_Int, ↓reduceIte, false_implies, true_implies, zr11_4, hso]
  refine hK _ _ ?_; clear hK hQ K Q
  by_cases h3 : t + offs z (seg z.ch t) < 0
  · repeat refine awp_seq ?_
    refine awp_reg fun K Q hK hQ => ?_
    simp -implicitDefEqProofs (disch := first | omega | rfl) only [go_sem, Nat.reduceEqDiff, Nat.reduceAdd, Nat.reduceMul, Nat.reduceSub, Nat.reduceLeDiff, Nat.reduceLT, Int.reduceLE, Int.reduceLT, Int.reduceEq, Int.reduceAdd, Int.reduceMul, Int.reduceSub, Int.reduceNeg, Int.reduceToNat, Int.reduceDiv, Int.reduceMod, Int.reduceTDiv, Int.reduceTMod, Int.cast_ofNat_Int, ↓reduceIte, false_implies, true_implies, zr11_5, h3]
    refine hK _ _ ?_; clear hK hQ K Q
    repeat refine awp_seq ?_
    refine awp_then (by rfl) ?_
    repeat refine awp_seq ?_
    refine awp_reg fun K Q hK hQ => ?_
    simp -implicitDefEqProofs (disch := first | omega | rfl) only [go_sem, Nat.reduceEqDiff, Nat.reduceAdd, Nat.reduceMul, Nat.reduceSub, Nat.reduceLeDiff, Nat.reduceLT, Int.reduceLE, Int.reduceLT, Int.reduceEq, Int.reduceAdd, Int.reduceMul, Int.reduceSub, Int.reduceNeg, Int.reduceToNat, Int.reduceDiv, Int.reduceMod, Int.reduceTDiv, Int.reduceTMod, Int.cast_ofNat_Int, ↓reduceIte, false_implies, true_implies, zr11_6]
    refine hK _ _ ?_; clear hK hQ K Q
    refine awp_ret ?_
    repeat' (first | refine then_ret ?_ | refine blk_ret ?_)
    refine ret_q ?_
    simp -implicitDefEqProofs (disch := first | omega | rfl) only [go_sem, Nat.reduceEqDiff, Nat.reduceAdd, Nat.reduceMul, Nat.reduceSub, Nat.reduceLeDiff, Nat.reduceLT, Int.reduceLE, Int.reduceLT, Int.reduceEq, Int.reduceAdd, Int.reduceMul, Int.reduceSub, Int.reduceNeg, Int.reduceToNat, Int.reduceDiv, Int.reduceMod, Int.reduceTDiv, Int.reduceTMod, Int.cast_ofNat_Int, ↓reduceIte, false_implies, true_implies]
    exact leaves_none (by simp [tri, localR, hv, h1, h2, h3])
  by_cases h4 : 105190559 < t + offs z (seg z.ch t)
  · repeat refine awp_seq ?_
    refine awp_reg fun K Q hK hQ => ?_
    simp -implicitDefEqProofs (disch := first | omega | rfl) only [go_sem, Nat.reduceEqDiff, Nat.reduceAdd, Nat.reduceMul, Nat.reduceSub, Nat.reduceLeDiff, Nat.reduceLT, Int.reduceLE, Int.reduceLT, Int.reduceEq, Int.reduceAdd, Int.reduceMul, Int.reduceSub, Int.reduceNeg, Int.reduceToNat, Int.reduceDiv, Int.reduceMod, Int.reduceTDiv, Int.reduceTMod, Int.cast_ofNat_Int, ↓reduceIte, false_implies, true_implies, zr11_5, h3, h4]
    refine hK _ _ ?_; clear hK hQ K Q
    repeat refine awp_seq ?_
    refine awp_then (by rfl) ?_
    repeat refine awp_seq ?_
    refine awp_reg fun K Q hK hQ => ?_
    simp -implicitDefEqProofs (disch := first | omega | rfl) only [go_sem, Nat.reduceEqDiff, Nat.reduceAdd, Nat.reduceMul, Nat.reduceSub, Nat.reduceLeDiff, Nat.reduceLT, Int.reduceLE, Int.reduceLT, Int.reduceEq, Int.reduceAdd, Int.reduceMul, Int.reduceSub, Int.reduceNeg, Int.reduceToNat, Int.reduceDiv, Int.reduceMod, Int.reduceTDiv, Int.reduceTMod, Int.cast_ofNat_Int, ↓reduceIte, false_implies, true_implies, zr11_6]
    refine hK _ _ ?_; clear hK hQ K Q
    refine awp_ret ?_
    repeat' (first | refine then_ret ?_ | refine blk_ret ?_)
    refine ret_q ?_
    simp -implicitDefEqProofs (disch := first | omega | rfl) only [go_sem, Nat.reduceEqDiff, Nat.reduceAdd, Nat.reduceMul, Nat.reduceSub, Nat.reduceLeDiff, Nat.reduceLT, Int.reduceLE, Int.reduceLT, Int.reduceEq, Int.reduceAdd, Int.reduceMul, Int.reduceSub, Int.reduceNeg, Int.reduceToNat, Int.reduceDiv, Int.reduceMod, Int.reduceTDiv, Int.reduceTMod, Int.cast_ofNat_Int, ↓reduceIte, false_implies, true_implies]
    exact leaves_none (by simp [tri, localR, hv, h1, h2, h3, h4])
  repeat refine awp_seq ?_
  refine awp_reg fun K Q hK hQ => ?_
  simp -implicitDefEqProofs (disch := first | omega | rfl) only [go_sem, Nat.reduceEqDiff, Nat.reduceAdd, Nat.reduceMul, Nat.reduceSub, Nat.reduceLeDiff, Nat.reduceLT, Int.reduceLE, Int.reduceLT, Int.reduceEq, Int.reduceAdd, Int.reduceMul, Int.reduceSub, Int.reduceNeg, Int.reduceToNat, Int.reduceDiv, Int.reduceMod, Int.reduceTDiv, Int.reduceTMod, Int.cast_ofNat_Int, ↓reduceIte, false_implies, true_implies, zr11_5, h3, h4]
  refine hK _ _ ?_; clear hK hQ K Q
  repeat refine awp_seq ?_
  refine awp_else (by rfl) ?_
  refine awp_skip ?_
  repeat refine awp_seq ?_
  refine awp_reg fun K Q hK hQ => ?_
  simp -implicitDefEqProofs (disch := first | omega | rfl) only [go_sem, Nat.reduceEqDiff, Nat.reduceAdd, Nat.reduceMul, Nat.reduceSub, Nat.reduceLeDiff, Nat.reduceLT, Int.reduceLE, Int.reduceLT, Int.reduceEq, Int.reduceAdd, Int.reduceMul, Int.reduceSub, Int.reduceNeg, Int.reduceToNat, Int.reduceDiv, Int.reduceMod, Int.reduceTDiv, Int.reduceTMod, Int.cast_ofNat_Int, ↓reduceIte, false_implies, true_implies, zr11_7]
  refine hK _ _ ?_; clear hK hQ K Q
  refine awp_ret ?_
  repeat' (first | refine then_ret ?_ | refine blk_ret ?_)
  refine ret_q ?_
  simp -implicitDefEqProofs (disch := first | omega | rfl) only [go_sem, Nat.reduceEqDiff, Nat.reduceAdd, Nat.reduceMul, Nat.reduceSub, Nat.reduceLeDiff, Nat.reduceLT, Int.reduceLE, Int.reduceLT, Int.reduceEq, Int.reduceAdd, Int.reduceMul, Int.reduceSub, Int.reduceNeg, Int.reduceToNat, Int.reduceDiv, Int.reduceMod, Int.reduceTDiv, Int.reduceTMod, Int.cast_ofNat_Int, ↓reduceIte, false_implies, true_implies]
  exact leaves_none (by simp [tri, localR, hv, h1, h2, h3, h4])

theorem skip_find (z : Zone) (L : Int) : ∀ n k, 1 ≤ k → skip z L n k = if (findS z (skips L) n k).2 then ((findS z (skips L) n k).1.fr, 0) else (0, 2)
  | 0, _, _ => rfl
  | n + 1, k, hk => by
    have hs : skips L (str z k) = decide (z.ch[k - 1]!.at_ + offs z (k - 1) ≤ L ∧ L < z.ch[k - 1]!.at_ + offs z k) := by
      simp only [skips, str, show ¬ k = 0 by omega, if_false, Bool.decide_and]
    rw [skip, findS, hs]
    by_cases c : z.ch[k - 1]!.at_ + offs z (k - 1) ≤ L ∧ L < z.ch[k - 1]!.at_ + offs z k
    · rw [if_pos c, if_pos (decide_eq_true c)]
      simp only [if_true, str, show ¬ k = 0 by omega, if_false]
    · rw [if_neg c, decide_eq_false c]
      simp only [Bool.false_eq_true, if_false]
      exact skip_find z L n (k + 1) (by omega)
theorem skip_all (z : Zone) (L : Int) (n : Nat) : findS z (skips L) (n + 1) 0 = findS z (skips L) n 1 := by
  rw [findS, if_neg]
  simp only [skips, str, if_true, Nat.zero_sub, Bool.and_eq_true, decide_eq_true_eq]
  omega

theorem seg_iff {z : Zone} (ok : z.Ok) (t : Int) (k : Nat) (hk : k ≤ z.ch.length) : (0 ≤ t ∧ t ≤ 105190559 ∧ seg z.ch t = k) ↔ ((str z k).fr ≤ t ∧ t < (str z k).to) := by
  constructor
  · rintro ⟨h0, h1, rfl⟩
    unfold str
    simp only
    constructor
    · split
      · exact h0
      · exact seg_ge z.ch t _ (by omega)
    · split
      · rename_i h; exact seg_no z.ch t h
      · omega
  · unfold str
    simp only
    rintro ⟨h2, h3⟩
    have h0 : 0 ≤ t := by
      split at h2
      · exact h2
      · obtain ⟨_, _, h4⟩ := okFrom_get 0 z.ch ok.ch (k - 1) (by omega)
        omega
    have h1 : t ≤ 105190559 := by
      split at h3
      · rename_i h
        obtain ⟨_, h4, _⟩ := okFrom_get 0 z.ch ok.ch k h
        omega
      · omega
    refine ⟨h0, h1, seg_stop z.ch t k hk (fun j hj => ?_) (fun h => ?_)⟩
    · rw [if_neg (by omega)] at h2
      by_cases he : j = k - 1
      · rw [he]; exact h2
      · have := sorted 0 z.ch ok.ch j (k - 1) (by omega) (by omega)
        omega
    · rw [if_pos h] at h3
      omega

theorem hit_str {z : Zone} (ok : z.Ok) (L : Int) (k : Nat) (hk : k ≤ z.ch.length) : hit z L k = if (str z k).fr ≤ L - offs z k ∧ L - offs z k < (str z k).to then [L - offs z k] else [] := by
  unfold hit
  simp only [seg_iff ok (L - offs z k) k hk]

/-- what the rounds of 'Instants' own -/
def instO (l : Nat) (lp : Ob) (b7 : Nat) (bo : Option Nat) (h : List Int) : Own := accO 38 bo h ++ [(99, l, lp), (7, b7, .cells [accV 38 bo h.length])]
theorem inst_find {l b7 : Nat} {lp : Ob} {bo : Option Nat} {h : List Int} : Own.find (instO l lp b7 bo h) 99 l = some lp := by cases bo <;> simp [instO, accO, Own.find]

set_option maxHeartbeats 1000000 in
theorem f20 (z : Zone) (d m : Int) : PureC Try.prog 20 [z.av, .int .i64 d, .int .i64 m] (ints (instantsR z d m)) := by
  refine fn_intro' 40 Try.func20 nt20 ok20 res20 (by simp) fun X hP hn hd hr => ?_
  repeat refine awp_seq ?_
  refine awp_reg fun K Q hK hQ => ?_
  simp -implicitDefEqProofs (disch := first | omega | rfl) only [go_sem, Nat.reduceEqDiff, Nat.reduceAdd, Nat.reduceMul, Nat.reduceSub, Nat.reduceLeDiff, Nat.reduceLT, Int.reduceLE, Int.reduceLT, Int.reduceEq, Int.reduceAdd, Int.reduceMul, Int.reduceSub, Int.reduceNeg, Int.reduceToNat, Int.reduceDiv, Int.reduceMod, Int.reduceTDiv, Int.reduceTMod, Int.cast_ofNat_Int, ↓reduceIte, false_implies, true_implies, zr20_0, argS, Zone.av, Zone.cs]
  intro b3 b4 b5
  refine hK _ _ ?_; clear hK hQ K Q
  have F := f27 z d m (f17 z)
  repeat refine awp_seq ?_
  refine awp_reg fun K Q hK hQ => ?_
  simp -implicitDefEqProofs (disch := first | omega | rfl) only [go_sem, Nat.reduceEqDiff, Nat.reduceAdd, Nat.reduceMul, Nat.reduceSub, Nat.reduceLeDiff, Nat.reduceLT, Int.reduceLE, Int.reduceLT, Int.reduceEq, Int.reduceAdd, Int.reduceMul, Int.reduceSub, Int.reduceNeg, Int.reduceToNat, Int.reduceDiv, Int.reduceMod, Int.reduceTDiv, Int.reduceTMod, Int.cast_ofNat_Int, ↓reduceIte, false_implies, true_implies, zr20_1]
  cases hv : good z d m
  · rw [hv] at F
    refine call_pure hP (F) ?_
    simp -implicitDefEqProofs (disch := first | omega | rfl) only [go_sem, Nat.reduceEqDiff, Nat.reduceAdd, Nat.reduceMul, Nat.reduceSub, Nat.reduceLeDiff, Nat.reduceLT, Int.reduceLE, Int.reduceLT, Int.reduceEq, Int.reduceAdd, Int.reduceMul, Int.reduceSub, Int.reduceNeg, Int.reduceToNat, Int.reduceDiv, Int.reduceMod, Int.reduceTDiv, Int.reduceTMod, Int.cast_ofNat_Int, ↓reduceIte, false_implies, true_implies]
    refine hK _ _ ?_; clear hK hQ K Q
    repeat refine awp_seq ?_
    refine awp_then (by rfl) ?_
    repeat refine awp_seq ?_
    refine awp_reg fun K Q hK hQ => ?_
    simp -implicitDefEqProofs (disch := first | omega | rfl) only [go_sem, Nat.reduceEqDiff, Nat.reduceAdd, Nat.reduceMul, Nat.reduceSub, Nat.reduceLeDiff, Nat.reduceLT, Int.reduceLE, Int.reduceLT, Int.reduceEq, Int.reduceAdd, Int.reduceMul, Int.reduceSub, Int.reduceNeg, Int.reduceToNat, Int.reduceDiv, Int.reduceMod, Int.reduceTDiv, Int.reduceTMod, Int.cast_ofNat_Int, ↓reduceIte, false_implies, true_implies, zr20_2]
    refine hK _ _ ?_; clear hK hQ K Q
    refine awp_frz [] _ [(6, .sl [])] (List.Perm.refl _) ⟨.nil, trivial⟩ ?_
    refine awp_ret ?_
    repeat' (first | refine then_ret ?_ | refine blk_ret ?_)
    refine ret_q ?_
    simp -implicitDefEqProofs (disch := first | omega | rfl) only [go_sem, Nat.reduceEqDiff, Nat.reduceAdd, Nat.reduceMul, Nat.reduceSub, Nat.reduceLeDiff, Nat.reduceLT, Int.reduceLE, Int.reduceLT, Int.reduceEq, Int.reduceAdd, Int.reduceMul, Int.reduceSub, Int.reduceNeg, Int.reduceToNat, Int.reduceDiv, Int.reduceMod, Int.reduceTDiv, Int.reduceTMod, Int.cast_ofNat_Int, ↓reduceIte, false_implies, true_implies]
    exact leaves_none (by simp [instantsR, hv, ints])
  rw [hv] at F
  refine call_pure hP (F) ?_
  simp -implicitDefEqProofs (disch := first | omega | rfl) only [go_sem, Nat.reduceEqDiff, Nat.reduceAdd, Nat.reduceMul, Nat.reduceSub, Nat.reduceLeDiff, Nat.reduceLT, Int.reduceLE, Int.reduceLT, Int.reduceEq, Int.reduceAdd, Int.reduceMul, Int.reduceSub, Int.reduceNeg, Int.reduceToNat, Int.reduceDiv, Int.reduceMod, Int.reduceTDiv, Int.reduceTMod, Int.cast_ofNat_Int, ↓reduceIte, false_implies, true_implies]
  refine hK _ _ ?_; clear hK hQ K Q
  repeat refine awp_seq ?_
  refine awp_else (by rfl) ?_
  refine awp_skip ?_
  obtain ⟨ok, d0, d1, m0, m1⟩ := good_ok hv
  have hl := ok.len
  generalize hL : d * 1440 + m = L
  repeat refine awp_seq ?_
  refine awp_reg fun K Q hK hQ => ?_
  simp -implicitDefEqProofs (disch := first | omega | rfl) only [go_sem, Nat.reduceEqDiff, Nat.reduceAdd, Nat.reduceMul, Nat.reduceSub, Nat.reduceLeDiff, Nat.reduceLT, Int.reduceLE, Int.reduceLT, Int.reduceEq, Int.reduceAdd, Int.reduceMul, Int.reduceSub, Int.reduceNeg, Int.reduceToNat, Int.reduceDiv, Int.reduceMod, Int.reduceTDiv, Int.reduceTMod, Int.cast_ofNat_Int, ↓reduceIte, false_implies, true_implies, zr20_3]
  intro b7
  refine hK _ _ ?_; clear hK hQ K Q
  repeat refine awp_seq ?_
  refine awp_reg fun K Q hK hQ => ?_
  simp -implicitDefEqProofs (disch := first | omega | rfl) only [go_sem, Nat.reduceEqDiff, Nat.reduceAdd, Nat.reduceMul, Nat.reduceSub, Nat.reduceLeDiff, Nat.reduceLT, Int.reduceLE, Int.reduceLT, Int.reduceEq, Int.reduceAdd, Int.reduceMul, Int.reduceSub, Int.reduceNeg, Int.reduceToNat, Int.reduceDiv, Int.reduceMod, Int.reduceTDiv, Int.reduceTMod, Int.cast_ofNat_Int, ↓reduceIte, false_implies, true_implies, zr20_4]
  refine call_pure hP (f33 z) ?_
  simp -implicitDefEqProofs (disch := first | omega | rfl) only [go_sem, Nat.reduceEqDiff, Nat.reduceAdd, Nat.reduceMul, Nat.reduceSub, Nat.reduceLeDiff, Nat.reduceLT, Int.reduceLE, Int.reduceLT, Int.reduceEq, Int.reduceAdd, Int.reduceMul, Int.reduceSub, Int.reduceNeg, Int.reduceToNat, Int.reduceDiv, Int.reduceMod, Int.reduceTDiv, Int.reduceTMod, Int.cast_ofNat_Int, ↓reduceIte, false_implies, true_implies]
  refine hK _ _ ?_; clear hK hQ K Q
  repeat refine awp_seq ?_
  refine awp_block ?_
  refine awp_frz [(5, b5, Ob.cells [.int .i64 m]), (4, b4, Ob.cells [.int .i64 d]), (3, b3, Ob.cells z.cs)] [(7, b7, Ob.cells [.nil])] [(16, .fn (.func 35) [] [.ref z.cs]), (4, .ref [.int .i64 d]), (5, .ref [.int .i64 m]), (7, .ptr 7 b7 0)]
    (List.perm_append_comm (l₁ := [(7, b7, Ob.cells [.nil])]) (l₂ := [(5, b5, Ob.cells [.int .i64 m]), (4, b4, Ob.cells [.int .i64 d]), (3, b3, Ob.cells z.cs)])) ⟨.keep _, Frz.ptr0 (find_next (by decide) find_head), Frz.ptr0 find_head, .keep _, trivial⟩ ?_
  refine awp_range 99 hr (by rfl) (by rw [hP]; exact okf35) fun l => ?_
  rw [hP, hn]
  generalize hs0 : ([(16, .fn (.func 35) [] [.ref z.cs]), (4, .ref [.int .i64 d]), (5, .ref [.int .i64 m]), (7, .ptr 7 b7 0)] : Slots) = s0
  have g4 : Slots.get s0 4 = .ref [.int .i64 d] := by rw [← hs0]; rfl
  have g5 : Slots.get s0 5 = .ref [.int .i64 m] := by rw [← hs0]; rfl
  have g7 : Slots.get s0 7 = .ptr 7 b7 0 := by rw [← hs0]; rfl
  refine call_of (rest := []) (f35 z (.yield l) [] [] (fun k o => ∃ bo, (bo = none → hits z L k = []) ∧ o = instO l (.loop s0 (LP Try.prog 40 [17] zc20_2 zc20_7 .ready none)) b7 bo (hits z L k)) (fun _ => False) (by omega) ?_ _ ⟨none, fun _ => rfl, rfl⟩) (by rw [List.append_nil]; exact List.Perm.refl _) ?_
  · rintro k o hk ⟨bo, hbo, rfl⟩
    refine round_intro (k := 99) (s0 := s0) inst_find (by rfl) (by rfl) fun X hP hn hd hr => ?_
    have ho := ok.offs k hk
    have hlen := hits_len z L k
    have hso : (str z k).off = offs z k := rfl
    cases bo with
    | none =>
      refine awp_reg fun K Q hK hQ => ?_
      simp -implicitDefEqProofs (disch := first | omega | rfl) only [go_sem, Nat.reduceEqDiff, Nat.reduceAdd, Nat.reduceMul, Nat.reduceSub, Nat.reduceLeDiff, Nat.reduceLT, Int.reduceLE, Int.reduceLT, Int.reduceEq, Int.reduceAdd, Int.reduceMul, Int.reduceSub, Int.reduceNeg, Int.reduceToNat, Int.reduceDiv, Int.reduceMod, Int.reduceTDiv, Int.reduceTMod, Int.cast_ofNat_Int, ↓reduceIte, false_implies, true_implies, zr20_5, Str.av, Str.cs]
      intro b8
      refine hK _ _ ?_; clear hK hQ K Q
      refine ⟨s0, find_next (by decide) inst_find, ?_⟩
      simp -implicitDefEqProofs (disch := first | omega | rfl) only [go_sem, Nat.reduceEqDiff, Nat.reduceAdd, Nat.reduceMul, Nat.reduceSub, Nat.reduceLeDiff, Nat.reduceLT, Int.reduceLE, Int.reduceLT, Int.reduceEq, Int.reduceAdd, Int.reduceMul, Int.reduceSub, Int.reduceNeg, Int.reduceToNat, Int.reduceDiv, Int.reduceMod, Int.reduceTDiv, Int.reduceTMod, Int.cast_ofNat_Int, ↓reduceIte, false_implies, true_implies, instO, accV, accO]
      repeat refine awp_seq ?_
      refine awp_block ?_
      repeat refine awp_seq ?_
      refine awp_reg fun K Q hK hQ => ?_
      simp -implicitDefEqProofs (disch := first | omega | rfl) only [go_sem, Nat.reduceEqDiff, Nat.reduceAdd, Nat.reduceMul, Nat.reduceSub, Nat.reduceLeDiff, Nat.reduceLT, Int.reduceLE, Int.reduceLT, Int.reduceEq, Int.reduceAdd, Int.reduceMul, Int.reduceSub, Int.reduceNeg, Int.reduceToNat, Int.reduceDiv, Int.reduceMod, Int.reduceTDiv, Int.reduceTMod, Int.cast_ofNat_Int, ↓reduceIte, false_implies, true_implies, zr20_6, g4, g5, hL, hso]
      refine hK _ _ ?_; clear hK hQ K Q
      by_cases c1 : (str z k).fr ≤ L - offs z k
      · by_cases c2 : L - offs z k < (str z k).to
        · have hh : hits z L (k + 1) = hits z L k ++ [L - offs z k] := by rw [hits_succ, hit_str ok L k hk, if_pos ⟨c1, c2⟩]
          repeat refine awp_seq ?_
          refine awp_reg fun K Q hK hQ => ?_
          simp -implicitDefEqProofs (disch := first | omega | rfl) only [go_sem, Nat.reduceEqDiff, Nat.reduceAdd, Nat.reduceMul, Nat.reduceSub, Nat.reduceLeDiff, Nat.reduceLT, Int.reduceLE, Int.reduceLT, Int.reduceEq, Int.reduceAdd, Int.reduceMul, Int.reduceSub, Int.reduceNeg, Int.reduceToNat, Int.reduceDiv, Int.reduceMod, Int.reduceTDiv, Int.reduceTMod, Int.cast_ofNat_Int, ↓reduceIte, false_implies, true_implies, zr20_7, c1, c2]
          refine hK _ _ ?_; clear hK hQ K Q
          repeat refine awp_seq ?_
          refine awp_then (by rfl) ?_
          refine awp_reg fun K Q hK hQ => ?_
          simp -implicitDefEqProofs (disch := first | omega | rfl) only [go_sem, Nat.reduceEqDiff, Nat.reduceAdd, Nat.reduceMul, Nat.reduceSub, Nat.reduceLeDiff, Nat.reduceLT, Int.reduceLE, Int.reduceLT, Int.reduceEq, Int.reduceAdd, Int.reduceMul, Int.reduceSub, Int.reduceNeg, Int.reduceToNat, Int.reduceDiv, Int.reduceMod, Int.reduceTDiv, Int.reduceTMod, Int.cast_ofNat_Int, ↓reduceIte, false_implies, true_implies, zr20_8, g7, List.length_map, hbo]
          intro b9
          skip; 
          intro b10
          refine hK _ _ ?_; clear hK hQ K Q
          refine ⟨s0, find_next (by decide) (find_next (by decide) (find_next (by decide) find_head)), instO l (.loop s0 (LP Try.prog 40 [17] zc20_2 zc20_7 .ready none)) b7 (some b10) (hits z L (k + 1)), ?_, .inl ⟨rfl, some b10, (by simp), rfl⟩⟩
          rw [hh]
          simp [instO, accO, accV, Own.put, hbo]
          all_goals (rw [List.take_of_length_le (by simp)]; exact .cons_cons _ (.cons _ (.cons _ (List.Sublist.refl _))))
        · have hh : hits z L (k + 1) = hits z L k := by rw [hits_succ, hit_str ok L k hk, if_neg (by omega)]; simp
          repeat refine awp_seq ?_
          refine awp_reg fun K Q hK hQ => ?_
          simp -implicitDefEqProofs (disch := first | omega | rfl) only [go_sem, Nat.reduceEqDiff, Nat.reduceAdd, Nat.reduceMul, Nat.reduceSub, Nat.reduceLeDiff, Nat.reduceLT, Int.reduceLE, Int.reduceLT, Int.reduceEq, Int.reduceAdd, Int.reduceMul, Int.reduceSub, Int.reduceNeg, Int.reduceToNat, Int.reduceDiv, Int.reduceMod, Int.reduceTDiv, Int.reduceTMod, Int.cast_ofNat_Int, ↓reduceIte, false_implies, true_implies, zr20_7, c1, c2]
          refine hK _ _ ?_; clear hK hQ K Q
          repeat refine awp_seq ?_
          refine awp_else (by rfl) ?_
          refine awp_skip ?_
          refine ⟨s0, by simp [Own.find], instO l (.loop s0 (LP Try.prog 40 [17] zc20_2 zc20_7 .ready none)) b7 none (hits z L (k + 1)), ?_, .inl ⟨rfl, none, by rw [hh]; exact hbo, rfl⟩⟩
          rw [hh]
          exact .cons _ (List.Sublist.refl _)
      · have hh : hits z L (k + 1) = hits z L k := by rw [hits_succ, hit_str ok L k hk, if_neg (by omega)]; simp
        repeat refine awp_seq ?_
        refine awp_reg fun K Q hK hQ => ?_
        simp -implicitDefEqProofs (disch := first | omega | rfl) only [go_sem, Nat.reduceEqDiff, Nat.reduceAdd, Nat.reduceMul, Nat.reduceSub, Nat.reduceLeDiff, Nat.reduceLT, Int.reduceLE, Int.reduceLT, Int.reduceEq, Int.reduceAdd, Int.reduceMul, Int.reduceSub, Int.reduceNeg, Int.reduceToNat, Int.reduceDiv, Int.reduceMod, Int.reduceTDiv, Int.reduceTMod, Int.cast_ofNat_Int, ↓reduceIte, false_implies, true_implies, zr20_7, c1]
        refine hK _ _ ?_; clear hK hQ K Q
        repeat refine awp_seq ?_
        refine awp_else (by rfl) ?_
        refine awp_skip ?_
        refine ⟨s0, by simp [Own.find], instO l (.loop s0 (LP Try.prog 40 [17] zc20_2 zc20_7 .ready none)) b7 none (hits z L (k + 1)), ?_, .inl ⟨rfl, none, by rw [hh]; exact hbo, rfl⟩⟩
        rw [hh]
        exact .cons _ (List.Sublist.refl _)
    | some bb =>
      refine awp_reg fun K Q hK hQ => ?_
      simp -implicitDefEqProofs (disch := first | omega | rfl) only [go_sem, Nat.reduceEqDiff, Nat.reduceAdd, Nat.reduceMul, Nat.reduceSub, Nat.reduceLeDiff, Nat.reduceLT, Int.reduceLE, Int.reduceLT, Int.reduceEq, Int.reduceAdd, Int.reduceMul, Int.reduceSub, Int.reduceNeg, Int.reduceToNat, Int.reduceDiv, Int.reduceMod, Int.reduceTDiv, Int.reduceTMod, Int.cast_ofNat_Int, ↓reduceIte, false_implies, true_implies, zr20_5, Str.av, Str.cs]
      intro b8
      refine hK _ _ ?_; clear hK hQ K Q
      refine ⟨s0, find_next (by decide) inst_find, ?_⟩
      simp -implicitDefEqProofs (disch := first | omega | rfl) only [go_sem, Nat.reduceEqDiff, Nat.reduceAdd, Nat.reduceMul, Nat.reduceSub, Nat.reduceLeDiff, Nat.reduceLT, Int.reduceLE, Int.reduceLT, Int.reduceEq, Int.reduceAdd, Int.reduceMul, Int.reduceSub, Int.reduceNeg, Int.reduceToNat, Int.reduceDiv, Int.reduceMod, Int.reduceTDiv, Int.reduceTMod, Int.cast_ofNat_Int, ↓reduceIte, false_implies, true_implies, instO, accV, accO]
      repeat refine awp_seq ?_
      refine awp_block ?_
      repeat refine awp_seq ?_
      refine awp_reg fun K Q hK hQ => ?_
      simp -implicitDefEqProofs (disch := first | omega | rfl) only [go_sem, Nat.reduceEqDiff, Nat.reduceAdd, Nat.reduceMul, Nat.reduceSub, Nat.reduceLeDiff, Nat.reduceLT, Int.reduceLE, Int.reduceLT, Int.reduceEq, Int.reduceAdd, Int.reduceMul, Int.reduceSub, Int.reduceNeg, Int.reduceToNat, Int.reduceDiv, Int.reduceMod, Int.reduceTDiv, Int.reduceTMod, Int.cast_ofNat_Int, ↓reduceIte, false_implies, true_implies, zr20_6, g4, g5, hL, hso]
      refine hK _ _ ?_; clear hK hQ K Q
      by_cases c1 : (str z k).fr ≤ L - offs z k
      · by_cases c2 : L - offs z k < (str z k).to
        · have hh : hits z L (k + 1) = hits z L k ++ [L - offs z k] := by rw [hits_succ, hit_str ok L k hk, if_pos ⟨c1, c2⟩]
          repeat refine awp_seq ?_
          refine awp_reg fun K Q hK hQ => ?_
          simp -implicitDefEqProofs (disch := first | omega | rfl) only [go_sem, Nat.reduceEqDiff, Nat.reduceAdd, Nat.reduceMul, Nat.reduceSub, Nat.reduceLeDiff, Nat.reduceLT, Int.reduceLE, Int.reduceLT, Int.reduceEq, Int.reduceAdd, Int.reduceMul, Int.reduceSub, Int.reduceNeg, Int.reduceToNat, Int.reduceDiv, Int.reduceMod, Int.reduceTDiv, Int.reduceTMod, Int.cast_ofNat_Int, ↓reduceIte, false_implies, true_implies, zr20_7, c1, c2]
          refine hK _ _ ?_; clear hK hQ K Q
          repeat refine awp_seq ?_
          refine awp_then (by rfl) ?_
          refine awp_reg fun K Q hK hQ => ?_
          simp -implicitDefEqProofs (disch := first | omega | rfl) only [go_sem, Nat.reduceEqDiff, Nat.reduceAdd, Nat.reduceMul, Nat.reduceSub, Nat.reduceLeDiff, Nat.reduceLT, Int.reduceLE, Int.reduceLT, Int.reduceEq, Int.reduceAdd, Int.reduceMul, Int.reduceSub, Int.reduceNeg, Int.reduceToNat, Int.reduceDiv, Int.reduceMod, Int.reduceTDiv, Int.reduceTMod, Int.cast_ofNat_Int, ↓reduceIte, false_implies, true_implies, zr20_8, g7, List.length_map, hbo]
          intro b9
          repeat refine ⟨by omega, ?_⟩; 
          intro b10
          refine hK _ _ ?_; clear hK hQ K Q
          refine ⟨s0, find_next (by decide) (find_next (by decide) (find_next (by decide) find_head)), instO l (.loop s0 (LP Try.prog 40 [17] zc20_2 zc20_7 .ready none)) b7 (some b10) (hits z L (k + 1)), ?_, .inl ⟨rfl, some b10, (by simp), rfl⟩⟩
          rw [hh]
          simp [instO, accO, accV, Own.put, hbo]
          all_goals (rw [List.take_of_length_le (by simp)]; exact .cons_cons _ (.cons _ (.cons _ (List.Sublist.refl _))))
        · have hh : hits z L (k + 1) = hits z L k := by rw [hits_succ, hit_str ok L k hk, if_neg (by omega)]; simp
          repeat refine awp_seq ?_
          refine awp_reg fun K Q hK hQ => ?_
          simp -implicitDefEqProofs (disch := first | omega | rfl) only [go_sem, Nat.reduceEqDiff, Nat.reduceAdd, Nat.reduceMul, Nat.reduceSub, Nat.reduceLeDiff, Nat.reduceLT, Int.reduceLE, Int.reduceLT, Int.reduceEq, Int.reduceAdd, Int.reduceMul, Int.reduceSub, Int.reduceNeg, Int.reduceToNat, Int.reduceDiv, Int.reduceMod, Int.reduceTDiv, Int.reduceTMod, Int.cast_ofNat_Int, ↓reduceIte, false_implies, true_implies, zr20_7, c1, c2]
          refine hK _ _ ?_; clear hK hQ K Q
          repeat refine awp_seq ?_
          refine awp_else (by rfl) ?_
          refine awp_skip ?_
          refine ⟨s0, by simp [Own.find], instO l (.loop s0 (LP Try.prog 40 [17] zc20_2 zc20_7 .ready none)) b7 (some bb) (hits z L (k + 1)), ?_, .inl ⟨rfl, (some bb), by rw [hh]; exact hbo, rfl⟩⟩
          rw [hh]
          exact .cons _ (List.Sublist.refl _)
      · have hh : hits z L (k + 1) = hits z L k := by rw [hits_succ, hit_str ok L k hk, if_neg (by omega)]; simp
        repeat refine awp_seq ?_
        refine awp_reg fun K Q hK hQ => ?_
        simp -implicitDefEqProofs (disch := first | omega | rfl) only [go_sem, Nat.reduceEqDiff, Nat.reduceAdd, Nat.reduceMul, Nat.reduceSub, Nat.reduceLeDiff, Nat.reduceLT, Int.reduceLE, Int.reduceLT, Int.reduceEq, Int.reduceAdd, Int.reduceMul, Int.reduceSub, Int.reduceNeg, Int.reduceToNat, Int.reduceDiv, Int.reduceMod, Int.reduceTDiv, Int.reduceTMod, Int.cast_ofNat_Int, ↓reduceIte, false_implies, true_implies, zr20_7, c1]
        refine hK _ _ ?_; clear hK hQ K Q
        repeat refine awp_seq ?_
        refine awp_else (by rfl) ?_
        refine awp_skip ?_
        refine ⟨s0, by simp [Own.find], instO l (.loop s0 (LP Try.prog 40 [17] zc20_2 zc20_7 .ready none)) b7 (some bb) (hits z L (k + 1)), ?_, .inl ⟨rfl, (some bb), by rw [hh]; exact hbo, rfl⟩⟩
        rw [hh]
        exact .cons _ (List.Sublist.refl _)
  · rintro r own' ⟨rfl, ⟨bo, hbo, rfl⟩ | h⟩
    · rw [List.append_nil]
      refine rangeK_none inst_find (by simp) ?_
      cases bo with
      | none =>
        refine (?_ : AWP X zc20_10 s0 (accO 38 none (hits z L (z.ch.length + 1)) ++ [(7, b7, .cells [accV 38 none (hits z L (z.ch.length + 1)).length])]) _)
        repeat refine awp_seq ?_
        refine awp_reg fun K Q hK hQ => ?_
        simp -implicitDefEqProofs (disch := first | omega | rfl) only [go_sem, Nat.reduceEqDiff, Nat.reduceAdd, Nat.reduceMul, Nat.reduceSub, Nat.reduceLeDiff, Nat.reduceLT, Int.reduceLE, Int.reduceLT, Int.reduceEq, Int.reduceAdd, Int.reduceMul, Int.reduceSub, Int.reduceNeg, Int.reduceToNat, Int.reduceDiv, Int.reduceMod, Int.reduceTDiv, Int.reduceTMod, Int.cast_ofNat_Int, ↓reduceIte, false_implies, true_implies, zr20_9, g7, accO]
        refine hK _ _ ?_; clear hK hQ K Q
        refine awp_frz (accO 38 none (hits z L (z.ch.length + 1))) _ [(6, ints (hits z L (z.ch.length + 1)))] (List.Perm.refl _) ⟨frz_acc 38 none _ hbo, trivial⟩ ?_
        refine awp_ret ?_
        repeat' (first | refine then_ret ?_ | refine blk_ret ?_)
        refine ret_q ?_
        simp -implicitDefEqProofs (disch := first | omega | rfl) only [go_sem, Nat.reduceEqDiff, Nat.reduceAdd, Nat.reduceMul, Nat.reduceSub, Nat.reduceLeDiff, Nat.reduceLT, Int.reduceLE, Int.reduceLT, Int.reduceEq, Int.reduceAdd, Int.reduceMul, Int.reduceSub, Int.reduceNeg, Int.reduceToNat, Int.reduceDiv, Int.reduceMod, Int.reduceTDiv, Int.reduceTMod, Int.cast_ofNat_Int, ↓reduceIte, false_implies, true_implies]
        exact leaves_none (by simp [instantsR, hv, hL])
      | some bb =>
        refine (?_ : AWP X zc20_10 s0 (accO 38 (some bb) (hits z L (z.ch.length + 1)) ++ [(7, b7, .cells [accV 38 (some bb) (hits z L (z.ch.length + 1)).length])]) _)
        repeat refine awp_seq ?_
        refine awp_reg fun K Q hK hQ => ?_
        simp -implicitDefEqProofs (disch := first | omega | rfl) only [go_sem, Nat.reduceEqDiff, Nat.reduceAdd, Nat.reduceMul, Nat.reduceSub, Nat.reduceLeDiff, Nat.reduceLT, Int.reduceLE, Int.reduceLT, Int.reduceEq, Int.reduceAdd, Int.reduceMul, Int.reduceSub, Int.reduceNeg, Int.reduceToNat, Int.reduceDiv, Int.reduceMod, Int.reduceTDiv, Int.reduceTMod, Int.cast_ofNat_Int, ↓reduceIte, false_implies, true_implies, zr20_9, g7, accO]
        refine hK _ _ ?_; clear hK hQ K Q
        refine awp_frz (accO 38 (some bb) (hits z L (z.ch.length + 1))) _ [(6, ints (hits z L (z.ch.length + 1)))] (List.Perm.refl _) ⟨frz_acc 38 (some bb) _ hbo, trivial⟩ ?_
        refine awp_ret ?_
        repeat' (first | refine then_ret ?_ | refine blk_ret ?_)
        refine ret_q ?_
        simp -implicitDefEqProofs (disch := first | omega | rfl) only [go_sem, Nat.reduceEqDiff, Nat.reduceAdd, Nat.reduceMul, Nat.reduceSub, Nat.reduceLeDiff, Nat.reduceLT, Int.reduceLE, Int.reduceLT, Int.reduceEq, Int.reduceAdd, Int.reduceMul, Int.reduceSub, Int.reduceNeg, Int.reduceToNat, Int.reduceDiv, Int.reduceMod, Int.reduceTDiv, Int.reduceTMod, Int.cast_ofNat_Int, ↓reduceIte, false_implies, true_implies]
        exact leaves_none (by simp [instantsR, hv, hL])
    · exact h.elim

theorem f13 (z : Zone) (d m : Int) (later : Bool) : PureC Try.prog 13 [z.av, .int .i64 d, .int .i64 m, .bool later] (two (instantR z d m later)) := by
  refine fn_intro' 50 Try.func13 nt13 ok13 res13 (by simp) fun X hP hn hd hr => ?_
  repeat refine awp_seq ?_
  refine awp_reg fun K Q hK hQ => ?_
  simp -implicitDefEqProofs (disch := first | omega | rfl) only [go_sem, Nat.reduceEqDiff, Nat.reduceAdd, Nat.reduceMul, Nat.reduceSub, Nat.reduceLeDiff, Nat.reduceLT, Int.reduceLE, Int.reduceLT, Int.reduceEq, Int.reduceAdd, Int.reduceMul, Int.reduceSub, Int.reduceNeg, Int.reduceToNat, Int.reduceDiv, Int.reduceMod, Int.reduceTDiv, Int.reduceTMod, Int.cast_ofNat_Int, ↓reduceIte, false_implies, true_implies, zr13_0, argS, Zone.av, Zone.cs]
  intro b
  refine hK _ _ ?_; clear hK hQ K Q
  have F := f27 z d m (f17 z)
  repeat refine awp_seq ?_
  refine awp_reg fun K Q hK hQ => ?_
  simp -implicitDefEqProofs (disch := first | omega | rfl) only [go_sem, Nat.reduceEqDiff, Nat.reduceAdd, Nat.reduceMul, Nat.reduceSub, Nat.reduceLeDiff, Nat.reduceLT, Int.reduceLE, Int.reduceLT, Int.reduceEq, Int.reduceAdd, Int.reduceMul, Int.reduceSub, Int.reduceNeg, Int.reduceToNat, Int.reduceDiv, Int.reduceMod, Int.reduceTDiv, Int.reduceTMod, Int.cast_ofNat_Int, ↓reduceIte, false_implies, true_implies, zr13_1]
  cases hv : good z d m
  · rw [hv] at F
    refine call_pure hP (F) ?_
    simp -implicitDefEqProofs (disch := first | omega | rfl) only [go_sem, Nat.reduceEqDiff, Nat.reduceAdd, Nat.reduceMul, Nat.reduceSub, Nat.reduceLeDiff, Nat.reduceLT, Int.reduceLE, Int.reduceLT, Int.reduceEq, Int.reduceAdd, Int.reduceMul, Int.reduceSub, Int.reduceNeg, Int.reduceToNat, Int.reduceDiv, Int.reduceMod, Int.reduceTDiv, Int.reduceTMod, Int.cast_ofNat_Int, ↓reduceIte, false_implies, true_implies]
    refine hK _ _ ?_; clear hK hQ K Q
    repeat refine awp_seq ?_
    refine awp_then (by rfl) ?_
    repeat refine awp_seq ?_
    refine awp_reg fun K Q hK hQ => ?_
    simp -implicitDefEqProofs (disch := first | omega | rfl) only [go_sem, Nat.reduceEqDiff, Nat.reduceAdd, Nat.reduceMul, Nat.reduceSub, Nat.reduceLeDiff, Nat.reduceLT, Int.reduceLE, Int.reduceLT, Int.reduceEq, Int.reduceAdd, Int.reduceMul, Int.reduceSub, Int.reduceNeg, Int.reduceToNat, Int.reduceDiv, Int.reduceMod, Int.reduceTDiv, Int.reduceTMod, Int.cast_ofNat_Int, ↓reduceIte, false_implies, true_implies, zr13_2]
    refine hK _ _ ?_; clear hK hQ K Q
    refine awp_ret ?_
    repeat' (first | refine then_ret ?_ | refine blk_ret ?_)
    refine ret_q ?_
    simp -implicitDefEqProofs (disch := first | omega | rfl) only [go_sem, Nat.reduceEqDiff, Nat.reduceAdd, Nat.reduceMul, Nat.reduceSub, Nat.reduceLeDiff, Nat.reduceLT, Int.reduceLE, Int.reduceLT, Int.reduceEq, Int.reduceAdd, Int.reduceMul, Int.reduceSub, Int.reduceNeg, Int.reduceToNat, Int.reduceDiv, Int.reduceMod, Int.reduceTDiv, Int.reduceTMod, Int.cast_ofNat_Int, ↓reduceIte, false_implies, true_implies]
    exact leaves_none (by simp [two, instantR, hv])
  rw [hv] at F
  refine call_pure hP (F) ?_
  simp -implicitDefEqProofs (disch := first | omega | rfl) only [go_sem, Nat.reduceEqDiff, Nat.reduceAdd, Nat.reduceMul, Nat.reduceSub, Nat.reduceLeDiff, Nat.reduceLT, Int.reduceLE, Int.reduceLT, Int.reduceEq, Int.reduceAdd, Int.reduceMul, Int.reduceSub, Int.reduceNeg, Int.reduceToNat, Int.reduceDiv, Int.reduceMod, Int.reduceTDiv, Int.reduceTMod, Int.cast_ofNat_Int, ↓reduceIte, false_implies, true_implies]
  refine hK _ _ ?_; clear hK hQ K Q
  repeat refine awp_seq ?_
  refine awp_else (by rfl) ?_
  refine awp_skip ?_
  obtain ⟨ok, d0, d1, m0, m1⟩ := good_ok hv
  have hl := ok.len
  repeat refine awp_seq ?_
  refine awp_reg fun K Q hK hQ => ?_
  simp -implicitDefEqProofs (disch := first | omega | rfl) only [go_sem, Nat.reduceEqDiff, Nat.reduceAdd, Nat.reduceMul, Nat.reduceSub, Nat.reduceLeDiff, Nat.reduceLT, Int.reduceLE, Int.reduceLT, Int.reduceEq, Int.reduceAdd, Int.reduceMul, Int.reduceSub, Int.reduceNeg, Int.reduceToNat, Int.reduceDiv, Int.reduceMod, Int.reduceTDiv, Int.reduceTMod, Int.cast_ofNat_Int, ↓reduceIte, false_implies, true_implies, zr13_3]
  refine call_pure hP (f20 z d m) ?_
  simp -implicitDefEqProofs (disch := first | omega | rfl) only [go_sem, Nat.reduceEqDiff, Nat.reduceAdd, Nat.reduceMul, Nat.reduceSub, Nat.reduceLeDiff, Nat.reduceLT, Int.reduceLE, Int.reduceLT, Int.reduceEq, Int.reduceAdd, Int.reduceMul, Int.reduceSub, Int.reduceNeg, Int.reduceToNat, Int.reduceDiv, Int.reduceMod, Int.reduceTDiv, Int.reduceTMod, Int.cast_ofNat_Int, ↓reduceIte, false_implies, true_implies]
  refine hK _ _ ?_; clear hK hQ K Q
  have hlen : (instantsR z d m).length ≤ z.ch.length + 1 := by rw [instantsR, if_pos hv]; exact hits_len _ _ _
  generalize hI : instantsR z d m = I at *
  by_cases hp : (0 : Int) < I.length
  · have hp' : 0 < I.length := by omega
    have hne : I.length ≠ 0 := by omega
    repeat refine awp_seq ?_
    refine awp_reg fun K Q hK hQ => ?_
    simp -implicitDefEqProofs (disch := first | omega | rfl) only [go_sem, Nat.reduceEqDiff, Nat.reduceAdd, Nat.reduceMul, Nat.reduceSub, Nat.reduceLeDiff, Nat.reduceLT, Int.reduceLE, Int.reduceLT, Int.reduceEq, Int.reduceAdd, Int.reduceMul, Int.reduceSub, Int.reduceNeg, Int.reduceToNat, Int.reduceDiv, Int.reduceMod, Int.reduceTDiv, Int.reduceTMod, Int.cast_ofNat_Int, ↓reduceIte, false_implies, true_implies, zr13_4, ints, List.length_map, hp]
    refine hK _ _ ?_; clear hK hQ K Q
    repeat refine awp_seq ?_
    refine awp_then (by rfl) ?_
    repeat refine awp_seq ?_
    refine awp_reg fun K Q hK hQ => ?_
    simp -implicitDefEqProofs (disch := first | omega | rfl) only [go_sem, Nat.reduceEqDiff, Nat.reduceAdd, Nat.reduceMul, Nat.reduceSub, Nat.reduceLeDiff, Nat.reduceLT, Int.reduceLE, Int.reduceLT, Int.reduceEq, Int.reduceAdd, Int.reduceMul, Int.reduceSub, Int.reduceNeg, Int.reduceToNat, Int.reduceDiv, Int.reduceMod, Int.reduceTDiv, Int.reduceTMod, Int.cast_ofNat_Int, ↓reduceIte, false_implies, true_implies, zr13_5]
    refine hK _ _ ?_; clear hK hQ K Q
    cases later
    · repeat refine awp_seq ?_
      refine awp_else (by rfl) ?_
      refine awp_skip ?_
      have h0 : 0 < I.length := by omega
      repeat refine awp_seq ?_
      refine awp_reg fun K Q hK hQ => ?_
      simp -implicitDefEqProofs (disch := first | omega | rfl) only [go_sem, Nat.reduceEqDiff, Nat.reduceAdd, Nat.reduceMul, Nat.reduceSub, Nat.reduceLeDiff, Nat.reduceLT, Int.reduceLE, Int.reduceLT, Int.reduceEq, Int.reduceAdd, Int.reduceMul, Int.reduceSub, Int.reduceNeg, Int.reduceToNat, Int.reduceDiv, Int.reduceMod, Int.reduceTDiv, Int.reduceTMod, Int.cast_ofNat_Int, ↓reduceIte, false_implies, true_implies, zr13_7, List.length_map, hp, getD_map, Int.toNat_zero, h0]
      refine hK _ _ ?_; clear hK hQ K Q
      refine awp_ret ?_
      repeat' (first | refine then_ret ?_ | refine blk_ret ?_)
      refine ret_q ?_
      simp -implicitDefEqProofs (disch := first | omega | rfl) only [go_sem, Nat.reduceEqDiff, Nat.reduceAdd, Nat.reduceMul, Nat.reduceSub, Nat.reduceLeDiff, Nat.reduceLT, Int.reduceLE, Int.reduceLT, Int.reduceEq, Int.reduceAdd, Int.reduceMul, Int.reduceSub, Int.reduceNeg, Int.reduceToNat, Int.reduceDiv, Int.reduceMod, Int.reduceTDiv, Int.reduceTMod, Int.cast_ofNat_Int, ↓reduceIte, false_implies, true_implies]
      exact leaves_none (by simp [two, instantR, hv, hI, hne, pick])
    · repeat refine awp_seq ?_
      refine awp_then (by rfl) ?_
      have h1 : (I.length : Int) - 1 = ((I.length - 1 : Nat) : Int) := by omega
      have h2 : I.length - 1 < I.length := by omega
      repeat refine awp_seq ?_
      refine awp_reg fun K Q hK hQ => ?_
      simp -implicitDefEqProofs (disch := first | omega | rfl) only [go_sem, Nat.reduceEqDiff, Nat.reduceAdd, Nat.reduceMul, Nat.reduceSub, Nat.reduceLeDiff, Nat.reduceLT, Int.reduceLE, Int.reduceLT, Int.reduceEq, Int.reduceAdd, Int.reduceMul, Int.reduceSub, Int.reduceNeg, Int.reduceToNat, Int.reduceDiv, Int.reduceMod, Int.reduceTDiv, Int.reduceTMod, Int.cast_ofNat_Int, ↓reduceIte, false_implies, true_implies, zr13_6, List.length_map, h1, Int.ofNat_lt, h2, getD_map]
      refine hK _ _ ?_; clear hK hQ K Q
      refine awp_ret ?_
      repeat' (first | refine then_ret ?_ | refine blk_ret ?_)
      refine ret_q ?_
      simp -implicitDefEqProofs (disch := first | omega | rfl) only [go_sem, Nat.reduceEqDiff, Nat.reduceAdd, Nat.reduceMul, Nat.reduceSub, Nat.reduceLeDiff, Nat.reduceLT, Int.reduceLE, Int.reduceLT, Int.reduceEq, Int.reduceAdd, Int.reduceMul, Int.reduceSub, Int.reduceNeg, Int.reduceToNat, Int.reduceDiv, Int.reduceMod, Int.reduceTDiv, Int.reduceTMod, Int.cast_ofNat_Int, ↓reduceIte, false_implies, true_implies]
      exact leaves_none (by simp [two, instantR, hv, hI, hne, pick])
  have hz : I.length = 0 := by omega
  repeat refine awp_seq ?_
  refine awp_reg fun K Q hK hQ => ?_
  simp -implicitDefEqProofs (disch := first | omega | rfl) only [go_sem, Nat.reduceEqDiff, Nat.reduceAdd, Nat.reduceMul, Nat.reduceSub, Nat.reduceLeDiff, Nat.reduceLT, Int.reduceLE, Int.reduceLT, Int.reduceEq, Int.reduceAdd, Int.reduceMul, Int.reduceSub, Int.reduceNeg, Int.reduceToNat, Int.reduceDiv, Int.reduceMod, Int.reduceTDiv, Int.reduceTMod, Int.cast_ofNat_Int, ↓reduceIte, false_implies, true_implies, zr13_4, ints, List.length_map, hp]
  refine hK _ _ ?_; clear hK hQ K Q
  repeat refine awp_seq ?_
  refine awp_else (by rfl) ?_
  refine awp_skip ?_
  generalize hL : d * 1440 + m = L
  repeat refine awp_seq ?_
  refine awp_reg fun K Q hK hQ => ?_
  simp -implicitDefEqProofs (disch := first | omega | rfl) only [go_sem, Nat.reduceEqDiff, Nat.reduceAdd, Nat.reduceMul, Nat.reduceSub, Nat.reduceLeDiff, Nat.reduceLT, Int.reduceLE, Int.reduceLT, Int.reduceEq, Int.reduceAdd, Int.reduceMul, Int.reduceSub, Int.reduceNeg, Int.reduceToNat, Int.reduceDiv, Int.reduceMod, Int.reduceTDiv, Int.reduceTMod, Int.cast_ofNat_Int, ↓reduceIte, false_implies, true_implies, zr13_8, hL]
  intro b'
  refine hK _ _ ?_; clear hK hQ K Q
  have G := f23 z (.func 28) [] [.ref [.int .i64 L]] (skips L) (by omega) (fun k hk => valC_fn okf28 (f28 _ L (str_ok ok k hk)))
  rw [skip_all] at G
  have hs := skip_find z L z.ch.length 1 (Nat.le_refl _)
  generalize findS z (skips L) z.ch.length 1 = r at G hs
  obtain ⟨r, found⟩ := r
  refine awp_seq ?_
  refine awp_frz [(11, b', Ob.cells [.int .i64 L])] [(4, b, Ob.cells z.cs)] [(11, .ref [.int .i64 L]), (4, .ptr 4 b 0)] (List.Perm.refl _) ⟨Frz.ptr0 find_head, .keep _, trivial⟩ ?_
  repeat refine awp_seq ?_
  refine awp_reg fun K Q hK hQ => ?_
  simp -implicitDefEqProofs (disch := first | omega | rfl) only [go_sem, Nat.reduceEqDiff, Nat.reduceAdd, Nat.reduceMul, Nat.reduceSub, Nat.reduceLeDiff, Nat.reduceLT, Int.reduceLE, Int.reduceLT, Int.reduceEq, Int.reduceAdd, Int.reduceMul, Int.reduceSub, Int.reduceNeg, Int.reduceToNat, Int.reduceDiv, Int.reduceMod, Int.reduceTDiv, Int.reduceTMod, Int.cast_ofNat_Int, ↓reduceIte, false_implies, true_implies, zr13_9, Zone.cs]
  refine call_pure hP (G) ?_
  simp -implicitDefEqProofs (disch := first | omega | rfl) only [go_sem, Nat.reduceEqDiff, Nat.reduceAdd, Nat.reduceMul, Nat.reduceSub, Nat.reduceLeDiff, Nat.reduceLT, Int.reduceLE, Int.reduceLT, Int.reduceEq, Int.reduceAdd, Int.reduceMul, Int.reduceSub, Int.reduceNeg, Int.reduceToNat, Int.reduceDiv, Int.reduceMod, Int.reduceTDiv, Int.reduceTMod, Int.cast_ofNat_Int, ↓reduceIte, false_implies, true_implies, Str.av, Str.cs]
  intro b7
  refine hK _ _ ?_; clear hK hQ K Q
  cases found
  · repeat refine awp_seq ?_
    refine awp_reg fun K Q hK hQ => ?_
    simp -implicitDefEqProofs (disch := first | omega | rfl) only [go_sem, Nat.reduceEqDiff, Nat.reduceAdd, Nat.reduceMul, Nat.reduceSub, Nat.reduceLeDiff, Nat.reduceLT, Int.reduceLE, Int.reduceLT, Int.reduceEq, Int.reduceAdd, Int.reduceMul, Int.reduceSub, Int.reduceNeg, Int.reduceToNat, Int.reduceDiv, Int.reduceMod, Int.reduceTDiv, Int.reduceTMod, Int.cast_ofNat_Int, ↓reduceIte, false_implies, true_implies, zr13_10]
    refine hK _ _ ?_; clear hK hQ K Q
    repeat refine awp_seq ?_
    refine awp_then (by rfl) ?_
    repeat refine awp_seq ?_
    refine awp_reg fun K Q hK hQ => ?_
    simp -implicitDefEqProofs (disch := first | omega | rfl) only [go_sem, Nat.reduceEqDiff, Nat.reduceAdd, Nat.reduceMul, Nat.reduceSub, Nat.reduceLeDiff, Nat.reduceLT, Int.reduceLE, Int.reduceLT, Int.reduceEq, Int.reduceAdd, Int.reduceMul, Int.reduceSub, Int.reduceNeg, Int.reduceToNat, Int.reduceDiv, Int.reduceMod, Int.reduceTDiv, Int.reduceTMod, Int.cast_ofNat_Int, ↓reduceIte, false_implies, true_implies, zr13_11]
    refine hK _ _ ?_; clear hK hQ K Q
    refine awp_ret ?_
    repeat' (first | refine then_ret ?_ | refine blk_ret ?_)
    refine ret_q ?_
    simp -implicitDefEqProofs (disch := first | omega | rfl) only [go_sem, Nat.reduceEqDiff, Nat.reduceAdd, Nat.reduceMul, Nat.reduceSub, Nat.reduceLeDiff, Nat.reduceLT, Int.reduceLE, Int.reduceLT, Int.reduceEq, Int.reduceAdd, Int.reduceMul, Int.reduceSub, Int.reduceNeg, Int.reduceToNat, Int.reduceDiv, Int.reduceMod, Int.reduceTDiv, Int.reduceTMod, Int.cast_ofNat_Int, ↓reduceIte, false_implies, true_implies]
    exact leaves_none (by simp [two, instantR, hv, hI, hz, hL, hs])
  · repeat refine awp_seq ?_
    refine awp_reg fun K Q hK hQ => ?_
    simp -implicitDefEqProofs (disch := first | omega | rfl) only [go_sem, Nat.reduceEqDiff, Nat.reduceAdd, Nat.reduceMul, Nat.reduceSub, Nat.reduceLeDiff, Nat.reduceLT, Int.reduceLE, Int.reduceLT, Int.reduceEq, Int.reduceAdd, Int.reduceMul, Int.reduceSub, Int.reduceNeg, Int.reduceToNat, Int.reduceDiv, Int.reduceMod, Int.reduceTDiv, Int.reduceTMod, Int.cast_ofNat_Int, ↓reduceIte, false_implies, true_implies, zr13_10]
    refine hK _ _ ?_; clear hK hQ K Q
    repeat refine awp_seq ?_
    refine awp_else (by rfl) ?_
    refine awp_skip ?_
    repeat refine awp_seq ?_
    refine awp_reg fun K Q hK hQ => ?_
    simp -implicitDefEqProofs (disch := first | omega | rfl) only [go_sem, Nat.reduceEqDiff, Nat.reduceAdd, Nat.reduceMul, Nat.reduceSub, Nat.reduceLeDiff, Nat.reduceLT, Int.reduceLE, Int.reduceLT, Int.reduceEq, Int.reduceAdd, Int.reduceMul, Int.reduceSub, Int.reduceNeg, Int.reduceToNat, Int.reduceDiv, Int.reduceMod, Int.reduceTDiv, Int.reduceTMod, Int.cast_ofNat_Int, ↓reduceIte, false_implies, true_implies, zr13_12]
    refine hK _ _ ?_; clear hK hQ K Q
    refine awp_ret ?_
    repeat' (first | refine then_ret ?_ | refine blk_ret ?_)
    refine ret_q ?_
    simp -implicitDefEqProofs (disch := first | omega | rfl) only [go_sem, Nat.reduceEqDiff, Nat.reduceAdd, Nat.reduceMul, Nat.reduceSub, Nat.reduceLeDiff, Nat.reduceLT, Int.reduceLE, Int.reduceLT, Int.reduceEq, Int.reduceAdd, Int.reduceMul, Int.reduceSub, Int.reduceNeg, Int.reduceToNat, Int.reduceDiv, Int.reduceMod, Int.reduceTDiv, Int.reduceTMod, Int.cast_ofNat_Int, ↓reduceIte, false_implies, true_implies]
    exact leaves_none (by simp [two, instantR, hv, hI, hz, hL, hs])


theorem f15 (z : Zone) (d : Int) : PureC Try.prog 15 [z.av, .int .i64 d] (tri (spanR z d)) := by
  refine fn_intro' 38 Try.func15 nt15 ok15 res15 (by simp) fun X hP hn hd hr => ?_
  repeat refine awp_seq ?_
  refine awp_reg fun K Q hK hQ => ?_
  simp -implicitDefEqProofs (disch := first | omega | rfl) only [go_sem, Nat.reduceEqDiff, Nat.reduceAdd, Nat.reduceMul, Nat.reduceSub, Nat.reduceLeDiff, Nat.reduceLT, Int.reduceLE, Int.reduceLT, Int.reduceEq, Int.reduceAdd, Int.reduceMul, Int.reduceSub, Int.reduceNeg, Int.reduceToNat, Int.reduceDiv, Int.reduceMod, Int.reduceTDiv, Int.reduceTMod, Int.cast_ofNat_Int, ↓reduceIte, false_implies, true_implies, zr15_0, argS, Zone.av, Zone.cs]
  intro b
  refine hK _ _ ?_; clear hK hQ K Q
  have F := f17 z
  cases hv : z.valid
  · rw [hv] at F
    repeat refine awp_seq ?_
    refine awp_reg fun K Q hK hQ => ?_
    simp -implicitDefEqProofs (disch := first | omega | rfl) only [go_sem, Nat.reduceEqDiff, Nat.reduceAdd, Nat.reduceMul, Nat.reduceSub, Nat.reduceLeDiff, Nat.reduceLT, Int.reduceLE, Int.reduceLT, Int.reduceEq, Int.reduceAdd, Int.reduceMul, Int.reduceSub, Int.reduceNeg, Int.reduceToNat, Int.reduceDiv, Int.reduceMod, Int.reduceTDiv, Int.reduceTMod, Int.cast_ofNat_Int, ↓reduceIte, false_implies, true_implies, zr15_1]
    refine call_pure hP (F) ?_
    simp -implicitDefEqProofs (disch := first | omega | rfl) only [go_sem, Nat.reduceEqDiff, Nat.reduceAdd, Nat.reduceMul, Nat.reduceSub, Nat.reduceLeDiff, Nat.reduceLT, Int.reduceLE, Int.reduceLT, Int.reduceEq, Int.reduceAdd, Int.reduceMul, Int.reduceSub, Int.reduceNeg, Int.reduceToNat, Int.reduceDiv, Int.reduceMod, Int.reduceTDiv, Int.reduceTMod, Int.cast_ofNat_Int, ↓reduceIte, false_implies, true_implies, hv]
    refine hK _ _ ?_; clear hK hQ K Q
    repeat refine awp_seq ?_
    refine awp_then (by rfl) ?_
    repeat refine awp_seq ?_
    refine awp_reg fun K Q hK hQ => ?_
    simp -implicitDefEqProofs (disch := first | omega | rfl) only [go_sem, Nat.reduceEqDiff, Nat.reduceAdd, Nat.reduceMul, Nat.reduceSub, Nat.reduceLeDiff, Nat.reduceLT, Int.reduceLE, Int.reduceLT, Int.reduceEq, Int.reduceAdd, Int.reduceMul, Int.reduceSub, Int.reduceNeg, Int.reduceToNat, Int.reduceDiv, Int.reduceMod, Int.reduceTDiv, Int.reduceTMod, Int.cast_ofNat_Int, ↓reduceIte, false_implies, true_implies, zr15_2]
    refine hK _ _ ?_; clear hK hQ K Q
    refine awp_ret ?_
    repeat' (first | refine then_ret ?_ | refine blk_ret ?_)
    refine ret_q ?_
    simp -implicitDefEqProofs (disch := first | omega | rfl) only [go_sem, Nat.reduceEqDiff, Nat.reduceAdd, Nat.reduceMul, Nat.reduceSub, Nat.reduceLeDiff, Nat.reduceLT, Int.reduceLE, Int.reduceLT, Int.reduceEq, Int.reduceAdd, Int.reduceMul, Int.reduceSub, Int.reduceNeg, Int.reduceToNat, Int.reduceDiv, Int.reduceMod, Int.reduceTDiv, Int.reduceTMod, Int.cast_ofNat_Int, ↓reduceIte, false_implies, true_implies]
    exact leaves_none (by simp [tri, spanR, hv])
  rw [hv] at F
  by_cases h1 : d < 0
  · repeat refine awp_seq ?_
    refine awp_reg fun K Q hK hQ => ?_
    simp -implicitDefEqProofs (disch := first | omega | rfl) only [go_sem, Nat.reduceEqDiff, Nat.reduceAdd, Nat.reduceMul, Nat.reduceSub, Nat.reduceLeDiff, Nat.reduceLT, Int.reduceLE, Int.reduceLT, Int.reduceEq, Int.reduceAdd, Int.reduceMul, Int.reduceSub, Int.reduceNeg, Int.reduceToNat, Int.reduceDiv, Int.reduceMod, Int.reduceTDiv, Int.reduceTMod, Int.cast_ofNat_Int, ↓reduceIte, false_implies, true_implies, zr15_1]
    refine call_pure hP (F) ?_
    simp -implicitDefEqProofs (disch := first | omega | rfl) only [go_sem, Nat.reduceEqDiff, Nat.reduceAdd, Nat.reduceMul, Nat.reduceSub, Nat.reduceLeDiff, Nat.reduceLT, Int.reduceLE, Int.reduceLT, Int.reduceEq, Int.reduceAdd, Int.reduceMul, Int.reduceSub, Int.reduceNeg, Int.reduceToNat, Int.reduceDiv, Int.reduceMod, Int.reduceTDiv, Int.reduceTMod, Int.cast_ofNat_Int, ↓reduceIte, false_implies, true_implies, hv, h1]
    refine hK _ _ ?_; clear hK hQ K Q
    repeat refine awp_seq ?_
    refine awp_then (by rfl) ?_
    repeat refine awp_seq ?_
    refine awp_reg fun K Q hK hQ => ?_
    simp -implicitDefEqProofs (disch := first | omega | rfl) only [go_sem, Nat.reduceEqDiff, Nat.reduceAdd, Nat.reduceMul, Nat.reduceSub, Nat.reduceLeDiff, Nat.reduceLT, Int.reduceLE, Int.reduceLT, Int.reduceEq, Int.reduceAdd, Int.reduceMul, Int.reduceSub, Int.reduceNeg, Int.reduceToNat, Int.reduceDiv, Int.reduceMod, Int.reduceTDiv, Int.reduceTMod, Int.cast_ofNat_Int, ↓reduceIte, false_implies, true_implies, zr15_2]
    refine hK _ _ ?_; clear hK hQ K Q
    refine awp_ret ?_
    repeat' (first | refine then_ret ?_ | refine blk_ret ?_)
    refine ret_q ?_
    simp -implicitDefEqProofs (disch := first | omega | rfl) only [go_sem, Nat.reduceEqDiff, Nat.reduceAdd, Nat.reduceMul, Nat.reduceSub, Nat.reduceLeDiff, Nat.reduceLT, Int.reduceLE, Int.reduceLT, Int.reduceEq, Int.reduceAdd, Int.reduceMul, Int.reduceSub, Int.reduceNeg, Int.reduceToNat, Int.reduceDiv, Int.reduceMod, Int.reduceTDiv, Int.reduceTMod, Int.cast_ofNat_Int, ↓reduceIte, false_implies, true_implies]
    exact leaves_none (by simp [tri, spanR, hv, h1])
  by_cases h2 : 73048 ≤ d
  · have h2' : 73047 < d := by omega
    repeat refine awp_seq ?_
    refine awp_reg fun K Q hK hQ => ?_
    simp -implicitDefEqProofs (disch := first | omega | rfl) only [go_sem, Nat.reduceEqDiff, Nat.reduceAdd, Nat.reduceMul, Nat.reduceSub, Nat.reduceLeDiff, Nat.reduceLT, Int.reduceLE, Int.reduceLT, Int.reduceEq, Int.reduceAdd, Int.reduceMul, Int.reduceSub, Int.reduceNeg, Int.reduceToNat, Int.reduceDiv, Int.reduceMod, Int.reduceTDiv, Int.reduceTMod, Int.cast_ofNat_Int, ↓reduceIte, false_implies, true_implies, zr15_1]
    refine call_pure hP (F) ?_
    simp -implicitDefEqProofs (disch := first | omega | rfl) only [go_sem, Nat.reduceEqDiff, Nat.reduceAdd, Nat.reduceMul, Nat.reduceSub, Nat.reduceLeDiff, Nat.reduceLT, Int.reduceLE, Int.reduceLT, Int.reduceEq, Int.reduceAdd, Int.reduceMul, Int.reduceSub, Int.reduceNeg, Int.reduceToNat, Int.reduceDiv, Int.reduceMod, Int.reduceTDiv, Int.reduceTMod, Int.cast_ofNat_Int, ↓reduceIte, false_implies, true_implies, hv, h1, h2]
    refine hK _ _ ?_; clear hK hQ K Q
    repeat refine awp_seq ?_
    refine awp_then (by rfl) ?_
    repeat refine awp_seq ?_
    refine awp_reg fun K Q hK hQ => ?_
    simp -implicitDefEqProofs (disch := first | omega | rfl) only [go_sem, Nat.reduceEqDiff, Nat.reduceAdd, Nat.reduceMul, Nat.reduceSub, Nat.reduceLeDiff, Nat.reduceLT, Int.reduceLE, Int.reduceLT, Int.reduceEq, Int.reduceAdd, Int.reduceMul, Int.reduceSub, Int.reduceNeg, Int.reduceToNat, Int.reduceDiv, Int.reduceMod, Int.reduceTDiv, Int.reduceTMod, Int.cast_ofNat_Int, ↓reduceIte, false_implies, true_implies, zr15_2]
    refine hK _ _ ?_; clear hK hQ K Q
    refine awp_ret ?_
    repeat' (first | refine then_ret ?_ | refine blk_ret ?_)
    refine ret_q ?_
    simp -implicitDefEqProofs (disch := first | omega | rfl) only [go_sem, Nat.reduceEqDiff, Nat.reduceAdd, Nat.reduceMul, Nat.reduceSub, Nat.reduceLeDiff, Nat.reduceLT, Int.reduceLE, Int.reduceLT, Int.reduceEq, Int.reduceAdd, Int.reduceMul, Int.reduceSub, Int.reduceNeg, Int.reduceToNat, Int.reduceDiv, Int.reduceMod, Int.reduceTDiv, Int.reduceTMod, Int.cast_ofNat_Int, ↓reduceIte, false_implies, true_implies]
    exact leaves_none (by simp [tri, spanR, hv, h1, h2'])
  have h2' : ¬ 73047 < d := by omega
  repeat refine awp_seq ?_
  refine awp_reg fun K Q hK hQ => ?_
  simp -implicitDefEqProofs (disch := first | omega | rfl) only [go_sem, Nat.reduceEqDiff, Nat.reduceAdd, Nat.reduceMul, Nat.reduceSub, Nat.reduceLeDiff, Nat.reduceLT, Int.reduceLE, Int.reduceLT, Int.reduceEq, Int.reduceAdd, Int.reduceMul, Int.reduceSub, Int.reduceNeg, Int.reduceToNat, Int.reduceDiv, Int.reduceMod, Int.reduceTDiv, Int.reduceTMod, Int.cast_ofNat_Int, ↓reduceIte, false_implies, true_implies, zr15_1]
  refine call_pure hP (F) ?_
  simp -implicitDefEqProofs (disch := first | omega | rfl) only [go_sem, Nat.reduceEqDiff, Nat.reduceAdd, Nat.reduceMul, Nat.reduceSub, Nat.reduceLeDiff, Nat.reduceLT, Int.reduceLE, Int.reduceLT, Int.reduceEq, Int.reduceAdd, Int.reduceMul, Int.reduceSub, Int.reduceNeg, Int.reduceToNat, Int.reduceDiv, Int.reduceMod, Int.reduceTDiv, Int.reduceTMod, Int.cast_ofNat_Int, ↓reduceIte, false_implies, true_implies, hv, h1, h2]
  refine hK _ _ ?_; clear hK hQ K Q
  repeat refine awp_seq ?_
  refine awp_else (by rfl) ?_
  refine awp_skip ?_
  repeat refine awp_seq ?_
  refine awp_reg fun K Q hK hQ => ?_
  simp -implicitDefEqProofs (disch := first | omega | rfl) only [go_sem, Nat.reduceEqDiff, Nat.reduceAdd, Nat.reduceMul, Nat.reduceSub, Nat.reduceLeDiff, Nat.reduceLT, Int.reduceLE, Int.reduceLT, Int.reduceEq, Int.reduceAdd, Int.reduceMul, Int.reduceSub, Int.reduceNeg, Int.reduceToNat, Int.reduceDiv, Int.reduceMod, Int.reduceTDiv, Int.reduceTMod, Int.cast_ofNat_Int, ↓reduceIte, false_implies, true_implies, zr15_3]
  refine call_pure hP (f13 z d 0 false) ?_
  simp -implicitDefEqProofs (disch := first | omega | rfl) only [go_sem, Nat.reduceEqDiff, Nat.reduceAdd, Nat.reduceMul, Nat.reduceSub, Nat.reduceLeDiff, Nat.reduceLT, Int.reduceLE, Int.reduceLT, Int.reduceEq, Int.reduceAdd, Int.reduceMul, Int.reduceSub, Int.reduceNeg, Int.reduceToNat, Int.reduceDiv, Int.reduceMod, Int.reduceTDiv, Int.reduceTMod, Int.cast_ofNat_Int, ↓reduceIte, false_implies, true_implies, two]
  refine hK _ _ ?_; clear hK hQ K Q
  generalize hf : instantR z d 0 false = f
  by_cases c1 : f.2 = 0
  rotate_left
  · repeat refine awp_seq ?_
    refine awp_reg fun K Q hK hQ => ?_
    simp -implicitDefEqProofs (disch := first | omega | rfl) only [go_sem, Nat.reduceEqDiff, Nat.reduceAdd, Nat.reduceMul, Nat.reduceSub, Nat.reduceLeDiff, Nat.reduceLT, Int.reduceLE, Int.reduceLT, Int.reduceEq, Int.reduceAdd, Int.reduceMul, Int.reduceSub, Int.reduceNeg, Int.reduceToNat, Int.reduceDiv, Int.reduceMod, Int.reduceTDiv, Int.reduceTMod, Int.cast_ofNat_Int, ↓reduceIte, false_implies, true_implies, zr15_4, c1]
    refine hK _ _ ?_; clear hK hQ K Q
    repeat refine awp_seq ?_
    refine awp_else (by rfl) ?_
    refine awp_skip ?_
    repeat refine awp_seq ?_
    refine awp_reg fun K Q hK hQ => ?_
    simp -implicitDefEqProofs (disch := first | omega | rfl) only [go_sem, Nat.reduceEqDiff, Nat.reduceAdd, Nat.reduceMul, Nat.reduceSub, Nat.reduceLeDiff, Nat.reduceLT, Int.reduceLE, Int.reduceLT, Int.reduceEq, Int.reduceAdd, Int.reduceMul, Int.reduceSub, Int.reduceNeg, Int.reduceToNat, Int.reduceDiv, Int.reduceMod, Int.reduceTDiv, Int.reduceTMod, Int.cast_ofNat_Int, ↓reduceIte, false_implies, true_implies, zr15_6, c1]
    refine hK _ _ ?_; clear hK hQ K Q
    repeat refine awp_seq ?_
    refine awp_then (by rfl) ?_
    repeat refine awp_seq ?_
    refine awp_reg fun K Q hK hQ => ?_
    simp -implicitDefEqProofs (disch := first | omega | rfl) only [go_sem, Nat.reduceEqDiff, Nat.reduceAdd, Nat.reduceMul, Nat.reduceSub, Nat.reduceLeDiff, Nat.reduceLT, Int.reduceLE, Int.reduceLT, Int.reduceEq, Int.reduceAdd, Int.reduceMul, Int.reduceSub, Int.reduceNeg, Int.reduceToNat, Int.reduceDiv, Int.reduceMod, Int.reduceTDiv, Int.reduceTMod, Int.cast_ofNat_Int, ↓reduceIte, false_implies, true_implies, zr15_7]
    refine hK _ _ ?_; clear hK hQ K Q
    refine awp_ret ?_
    repeat' (first | refine then_ret ?_ | refine blk_ret ?_)
    refine ret_q ?_
    simp -implicitDefEqProofs (disch := first | omega | rfl) only [go_sem, Nat.reduceEqDiff, Nat.reduceAdd, Nat.reduceMul, Nat.reduceSub, Nat.reduceLeDiff, Nat.reduceLT, Int.reduceLE, Int.reduceLT, Int.reduceEq, Int.reduceAdd, Int.reduceMul, Int.reduceSub, Int.reduceNeg, Int.reduceToNat, Int.reduceDiv, Int.reduceMod, Int.reduceTDiv, Int.reduceTMod, Int.cast_ofNat_Int, ↓reduceIte, false_implies, true_implies]
    exact leaves_none (by simp [tri, spanR, hv, h1, h2', hf, c1])
  repeat refine awp_seq ?_
  refine awp_reg fun K Q hK hQ => ?_
  simp -implicitDefEqProofs (disch := first | omega | rfl) only [go_sem, Nat.reduceEqDiff, Nat.reduceAdd, Nat.reduceMul, Nat.reduceSub, Nat.reduceLeDiff, Nat.reduceLT, Int.reduceLE, Int.reduceLT, Int.reduceEq, Int.reduceAdd, Int.reduceMul, Int.reduceSub, Int.reduceNeg, Int.reduceToNat, Int.reduceDiv, Int.reduceMod, Int.reduceTDiv, Int.reduceTMod, Int.cast_ofNat_Int, ↓reduceIte, false_implies, true_implies, zr15_4, c1]
  refine hK _ _ ?_; clear hK hQ K Q
  repeat refine awp_seq ?_
  refine awp_then (by rfl) ?_
  repeat refine awp_seq ?_
  refine awp_reg fun K Q hK hQ => ?_
  simp -implicitDefEqProofs (disch := first | omega | rfl) only [go_sem, Nat.reduceEqDiff, Nat.reduceAdd, Nat.reduceMul, Nat.reduceSub, Nat.reduceLeDiff, Nat.reduceLT, Int.reduceLE, Int.reduceLT, Int.reduceEq, Int.reduceAdd, Int.reduceMul, Int.reduceSub, Int.reduceNeg, Int.reduceToNat, Int.reduceDiv, Int.reduceMod, Int.reduceTDiv, Int.reduceTMod, Int.cast_ofNat_Int, ↓reduceIte, false_implies, true_implies, zr15_5]
  refine call_pure hP (f13 z (d + 1) 0 false) ?_
  simp -implicitDefEqProofs (disch := first | omega | rfl) only [go_sem, Nat.reduceEqDiff, Nat.reduceAdd, Nat.reduceMul, Nat.reduceSub, Nat.reduceLeDiff, Nat.reduceLT, Int.reduceLE, Int.reduceLT, Int.reduceEq, Int.reduceAdd, Int.reduceMul, Int.reduceSub, Int.reduceNeg, Int.reduceToNat, Int.reduceDiv, Int.reduceMod, Int.reduceTDiv, Int.reduceTMod, Int.cast_ofNat_Int, ↓reduceIte, false_implies, true_implies, two]
  refine hK _ _ ?_; clear hK hQ K Q
  generalize hg : instantR z (d + 1) 0 false = g
  by_cases c2 : g.2 = 0
  rotate_left
  · repeat refine awp_seq ?_
    refine awp_reg fun K Q hK hQ => ?_
    simp -implicitDefEqProofs (disch := first | omega | rfl) only [go_sem, Nat.reduceEqDiff, Nat.reduceAdd, Nat.reduceMul, Nat.reduceSub, Nat.reduceLeDiff, Nat.reduceLT, Int.reduceLE, Int.reduceLT, Int.reduceEq, Int.reduceAdd, Int.reduceMul, Int.reduceSub, Int.reduceNeg, Int.reduceToNat, Int.reduceDiv, Int.reduceMod, Int.reduceTDiv, Int.reduceTMod, Int.cast_ofNat_Int, ↓reduceIte, false_implies, true_implies, zr15_6, c2]
    refine hK _ _ ?_; clear hK hQ K Q
    repeat refine awp_seq ?_
    refine awp_then (by rfl) ?_
    repeat refine awp_seq ?_
    refine awp_reg fun K Q hK hQ => ?_
    simp -implicitDefEqProofs (disch := first | omega | rfl) only [go_sem, Nat.reduceEqDiff, Nat.reduceAdd, Nat.reduceMul, Nat.reduceSub, Nat.reduceLeDiff, Nat.reduceLT, Int.reduceLE, Int.reduceLT, Int.reduceEq, Int.reduceAdd, Int.reduceMul, Int.reduceSub, Int.reduceNeg, Int.reduceToNat, Int.reduceDiv, Int.reduceMod, Int.reduceTDiv, Int.reduceTMod, Int.cast_ofNat_Int, ↓reduceIte, false_implies, true_implies, zr15_7]
    refine hK _ _ ?_; clear hK hQ K Q
    refine awp_ret ?_
    repeat' (first | refine then_ret ?_ | refine blk_ret ?_)
    refine ret_q ?_
    simp -implicitDefEqProofs (disch := first | omega | rfl) only [go_sem, Nat.reduceEqDiff, Nat.reduceAdd, Nat.reduceMul, Nat.reduceSub, Nat.reduceLeDiff, Nat.reduceLT, Int.reduceLE, Int.reduceLT, Int.reduceEq, Int.reduceAdd, Int.reduceMul, Int.reduceSub, Int.reduceNeg, Int.reduceToNat, Int.reduceDiv, Int.reduceMod, Int.reduceTDiv, Int.reduceTMod, Int.cast_ofNat_Int, ↓reduceIte, false_implies, true_implies]
    exact leaves_none (by simp [tri, spanR, hv, h1, h2', hf, c1, hg, c2])
  repeat refine awp_seq ?_
  refine awp_reg fun K Q hK hQ => ?_
  simp -implicitDefEqProofs (disch := first | omega | rfl) only [go_sem, Nat.reduceEqDiff, Nat.reduceAdd, Nat.reduceMul, Nat.reduceSub, Nat.reduceLeDiff, Nat.reduceLT, Int.reduceLE, Int.reduceLT, Int.reduceEq, Int.reduceAdd, Int.reduceMul, Int.reduceSub, Int.reduceNeg, Int.reduceToNat, Int.reduceDiv, Int.reduceMod, Int.reduceTDiv, Int.reduceTMod, Int.cast_ofNat_Int, ↓reduceIte, false_implies, true_implies, zr15_6, c2]
  refine hK _ _ ?_; clear hK hQ K Q
  repeat refine awp_seq ?_
  refine awp_else (by rfl) ?_
  refine awp_skip ?_
  repeat refine awp_seq ?_
  refine awp_reg fun K Q hK hQ => ?_
  simp -implicitDefEqProofs (disch := first | omega | rfl) only [go_sem, Nat.reduceEqDiff, Nat.reduceAdd, Nat.reduceMul, Nat.reduceSub, Nat.reduceLeDiff, Nat.reduceLT, Int.reduceLE, Int.reduceLT, Int.reduceEq, Int.reduceAdd, Int.reduceMul, Int.reduceSub, Int.reduceNeg, Int.reduceToNat, Int.reduceDiv, Int.reduceMod, Int.reduceTDiv, Int.reduceTMod, Int.cast_ofNat_Int, ↓reduceIte, false_implies, true_implies, zr15_8]
  refine hK _ _ ?_; clear hK hQ K Q
  refine awp_ret ?_
  repeat' (first | refine then_ret ?_ | refine blk_ret ?_)
  refine ret_q ?_
  simp -implicitDefEqProofs (disch := first | omega | rfl) only [go_sem, Nat.reduceEqDiff, Nat.reduceAdd, Nat.reduceMul, Nat.reduceSub, Nat.reduceLeDiff, Nat.reduceLT, Int.reduceLE, Int.reduceLT, Int.reduceEq, Int.reduceAdd, Int.reduceMul, Int.reduceSub, Int.reduceNeg, Int.reduceToNat, Int.reduceDiv, Int.reduceMod, Int.reduceTDiv, Int.reduceTMod, Int.cast_ofNat_Int, ↓reduceIte, false_implies, true_implies]
  exact leaves_none (by simp [tri, spanR, hv, h1, h2', hf, c1, hg, c2])
end Go.Proofs.Zt
