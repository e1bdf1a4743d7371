import Derived.Test.YtkmnhomehejppaaZtL
set_option linter.unusedSimpArgs false
set_option linter.unusedVariables false
set_option linter.deprecated false
namespace Go.Proofs.Zt
open Go.Aw

theorem seg_mono (l : List Chg) {x y : Int} (h : y ≤ x) : seg l y ≤ seg l x := by
  induction l with
  | nil => simp [seg]
  | cons c r ih =>
    simp only [seg]
    by_cases h1 : c.at_ ≤ y
    · rw [if_pos h1, if_pos (by omega)]; omega
    · rw [if_neg h1]; omega

theorem gap (b : Int) (l : List Chg) (h : okFrom b l = true) (i : Nat) (hi : i + 1 < l.length) : l[i]!.at_ + 5760 < l[i + 1]!.at_ := by
  induction l generalizing b i with
  | nil => simp at hi
  | cons c r ih =>
    simp only [okFrom, Bool.and_eq_true, Bool.not_eq_true', decide_eq_true_eq] at h
    cases i with
    | zero =>
      cases r with
      | nil => simp at hi
      | cons e r =>
        have h2 := h.2
        simp only [okFrom, Bool.and_eq_true, Bool.not_eq_true', decide_eq_true_eq] at h2
        simpa using h2.1.2
    | succ i =>
      have := ih c.at_ h.2 i (by simpa using hi)
      simpa using this

theorem hits_mem {z : Zone} {L : Int} {n : Nat} {x : Int} (h : x ∈ hits z L n) : 0 ≤ x ∧ x ≤ 105190559 ∧ x + offs z (seg z.ch x) = L ∧ seg z.ch x < n := by
  obtain ⟨k, hk, hx⟩ := List.mem_flatMap.1 h
  unfold hit at hx
  split at hx
  · rename_i hc
    simp only [List.mem_singleton] at hx
    subst hx
    exact ⟨hc.1, hc.2.1, by rw [hc.2.2]; omega, by rw [hc.2.2]; exact List.mem_range.1 hk⟩
  · cases hx

theorem hits_seg (z : Zone) (L : Int) : ∀ n, (hits z L n).Pairwise (fun x y => seg z.ch x < seg z.ch y)
  | 0 => by simp [hits]
  | n + 1 => by
    rw [hits_succ, List.pairwise_append]
    refine ⟨hits_seg z L n, ?_, fun x hx y hy => ?_⟩
    · unfold hit
      split <;> simp
    · have h1 := (hits_mem hx).2.2.2
      unfold hit at hy
      split at hy
      · rename_i hc
        simp only [List.mem_singleton] at hy
        subst hy
        rw [hc.2.2]
        exact h1
      · cases hy

theorem hits_has {z : Zone} {t : Int} (h0 : 0 ≤ t) (h1 : t ≤ 105190559) : t ∈ hits z (t + offs z (seg z.ch t)) (z.ch.length + 1) := by
  refine List.mem_flatMap.2 ⟨seg z.ch t, List.mem_range.2 (by have := seg_le z.ch t; omega), ?_⟩
  rw [hit, show t + offs z (seg z.ch t) - offs z (seg z.ch t) = t by omega, if_pos ⟨h0, h1, rfl⟩]
  simp

theorem hits_two {z : Zone} (ok : z.Ok) (L : Int) : (hits z L (z.ch.length + 1)).length ≤ 2 := by
  have hp := hits_seg z L (z.ch.length + 1)
  have hm : ∀ x, x ∈ hits z L (z.ch.length + 1) → 0 ≤ x ∧ x ≤ 105190559 ∧ x + offs z (seg z.ch x) = L ∧ seg z.ch x < z.ch.length + 1 := fun x hx => hits_mem hx
  generalize hits z L (z.ch.length + 1) = l at hp hm
  match l with
  | [] => simp
  | [_] => simp
  | [_, _] => simp
  | x0 :: x1 :: x2 :: r =>
    exfalso
    simp only [List.pairwise_cons, List.mem_cons] at hp
    have s01 := hp.1 x1 (.inl rfl)
    have s12 := hp.2.1 x2 (.inl rfl)
    obtain ⟨_, _, a0, b0⟩ := hm x0 (by simp)
    obtain ⟨_, _, a1, b1⟩ := hm x1 (by simp)
    obtain ⟨_, _, a2, b2⟩ := hm x2 (by simp)
    have o0 := ok.offs (seg z.ch x0) (by omega)
    have o2 := ok.offs (seg z.ch x2) (by omega)
    have c0 := seg_no z.ch x0 (by omega)
    have c2 := seg_ge z.ch x2 (seg z.ch x1) s12
    have g := gap 0 z.ch ok.ch (seg z.ch x1 - 1) (by omega)
    rw [show seg z.ch x1 - 1 + 1 = seg z.ch x1 by omega] at g
    have m : z.ch[seg z.ch x0]!.at_ ≤ z.ch[seg z.ch x1 - 1]!.at_ := by
      by_cases he : seg z.ch x0 = seg z.ch x1 - 1
      · rw [he]; exact Int.le_refl _
      · have := sorted 0 z.ch ok.ch (seg z.ch x0) (seg z.ch x1 - 1) (by omega) (by omega)
        omega
    omega

theorem hits_lt (z : Zone) (L : Int) (n : Nat) : (hits z L n).Pairwise (· < ·) := by
  refine (hits_seg z L n).imp fun {x y} h => ?_
  by_cases h1 : x < y
  · exact h1
  · have := seg_mono z.ch (show y ≤ x by omega)
    omega

theorem pair_at {l : List Int} (h : l.Pairwise (· < ·)) (i : Nat) (hi : i < l.length) (h0 : 0 < i) : ¬ l[i]! ≤ l[0]! := by
  have := List.pairwise_iff_getElem.1 h 0 i (by omega) hi h0
  simp [hi, show 0 < l.length by omega]
  omega


set_option maxHeartbeats 1000000 in
theorem f4 (z : Zone) (u : Int) (u0 : 0 ≤ u) (u1 : u ≤ 4294967295) : PureC Try.prog 4 [z.av, .int .u32 u] (.bool true) := by
  refine fn_intro' 106 Try.func4 nt4 ok4 res4 (by simp) fun X hP hn hd hr => ?_
  repeat refine awp_seq ?_
  refine awp_reg fun K Q hK hQ => ?_
  simp -implicitDefEqProofs (disch := first | omega | rfl) only [go_sem, Nat.reduceEqDiff, Nat.reduceAdd, Nat.reduceMul, Nat.reduceSub, Nat.reduceLeDiff, Nat.reduceLT, Int.reduceLE, Int.reduceLT, Int.reduceEq, Int.reduceAdd, Int.reduceMul, Int.reduceSub, Int.reduceNeg, Int.reduceToNat, Int.reduceDiv, Int.reduceMod, Int.reduceTDiv, Int.reduceTMod, Int.cast_ofNat_Int, ↓reduceIte, false_implies, true_implies, zr4_0, argS, Zone.av, Zone.cs]
  intro b
  refine hK _ _ ?_; clear hK hQ K Q
  repeat refine awp_seq ?_
  refine awp_reg fun K Q hK hQ => ?_
  simp -implicitDefEqProofs (disch := first | omega | rfl) only [go_sem, Nat.reduceEqDiff, Nat.reduceAdd, Nat.reduceMul, Nat.reduceSub, Nat.reduceLeDiff, Nat.reduceLT, Int.reduceLE, Int.reduceLT, Int.reduceEq, Int.reduceAdd, Int.reduceMul, Int.reduceSub, Int.reduceNeg, Int.reduceToNat, Int.reduceDiv, Int.reduceMod, Int.reduceTDiv, Int.reduceTMod, Int.cast_ofNat_Int, ↓reduceIte, false_implies, true_implies, zr4_1]
  refine call_pure hP (f9) ?_
  simp -implicitDefEqProofs (disch := first | omega | rfl) only [go_sem, Nat.reduceEqDiff, Nat.reduceAdd, Nat.reduceMul, Nat.reduceSub, Nat.reduceLeDiff, Nat.reduceLT, Int.reduceLE, Int.reduceLT, Int.reduceEq, Int.reduceAdd, Int.reduceMul, Int.reduceSub, Int.reduceNeg, Int.reduceToNat, Int.reduceDiv, Int.reduceMod, Int.reduceTDiv, Int.reduceTMod, Int.cast_ofNat_Int, ↓reduceIte, false_implies, true_implies]
  refine hK _ _ ?_; clear hK hQ K Q
  generalize hT : u % 105190560 = T
  have t0 : 0 ≤ T := by omega
  have t1 : T ≤ 105190559 := by omega
  repeat refine awp_seq ?_
  refine awp_reg fun K Q hK hQ => ?_
  simp -implicitDefEqProofs (disch := first | omega | rfl) only [go_sem, Nat.reduceEqDiff, Nat.reduceAdd, Nat.reduceMul, Nat.reduceSub, Nat.reduceLeDiff, Nat.reduceLT, Int.reduceLE, Int.reduceLT, Int.reduceEq, Int.reduceAdd, Int.reduceMul, Int.reduceSub, Int.reduceNeg, Int.reduceToNat, Int.reduceDiv, Int.reduceMod, Int.reduceTDiv, Int.reduceTMod, Int.cast_ofNat_Int, ↓reduceIte, false_implies, true_implies, zr4_2, hT]
  refine hK _ _ ?_; clear hK hQ K Q
  have F := f10 z
  repeat refine awp_seq ?_
  refine awp_reg fun K Q hK hQ => ?_
  simp -implicitDefEqProofs (disch := first | omega | rfl) only [go_sem, Nat.reduceEqDiff, Nat.reduceAdd, Nat.reduceMul, Nat.reduceSub, Nat.reduceLeDiff, Nat.reduceLT, Int.reduceLE, Int.reduceLT, Int.reduceEq, Int.reduceAdd, Int.reduceMul, Int.reduceSub, Int.reduceNeg, Int.reduceToNat, Int.reduceDiv, Int.reduceMod, Int.reduceTDiv, Int.reduceTMod, Int.cast_ofNat_Int, ↓reduceIte, false_implies, true_implies, zr4_3]
  by_cases few : z.ch.length ≤ 100
  rotate_left
  · rw [decide_eq_false few] at F
    refine call_pure hP (F) ?_
    simp -implicitDefEqProofs (disch := first | omega | rfl) only [go_sem, Nat.reduceEqDiff, Nat.reduceAdd, Nat.reduceMul, Nat.reduceSub, Nat.reduceLeDiff, Nat.reduceLT, Int.reduceLE, Int.reduceLT, Int.reduceEq, Int.reduceAdd, Int.reduceMul, Int.reduceSub, Int.reduceNeg, Int.reduceToNat, Int.reduceDiv, Int.reduceMod, Int.reduceTDiv, Int.reduceTMod, Int.cast_ofNat_Int, ↓reduceIte, false_implies, true_implies]
    refine hK _ _ ?_; clear hK hQ K Q
    repeat refine awp_seq ?_
    refine awp_then (by rfl) ?_
    repeat refine awp_seq ?_
    refine awp_reg fun K Q hK hQ => ?_
    simp -implicitDefEqProofs (disch := first | omega | rfl) only [go_sem, Nat.reduceEqDiff, Nat.reduceAdd, Nat.reduceMul, Nat.reduceSub, Nat.reduceLeDiff, Nat.reduceLT, Int.reduceLE, Int.reduceLT, Int.reduceEq, Int.reduceAdd, Int.reduceMul, Int.reduceSub, Int.reduceNeg, Int.reduceToNat, Int.reduceDiv, Int.reduceMod, Int.reduceTDiv, Int.reduceTMod, Int.cast_ofNat_Int, ↓reduceIte, false_implies, true_implies, zr4_4]
    refine hK _ _ ?_; clear hK hQ K Q
    refine awp_ret ?_
    repeat' (first | refine then_ret ?_ | refine blk_ret ?_)
    refine ret_q ?_
    simp -implicitDefEqProofs (disch := first | omega | rfl) only [go_sem, Nat.reduceEqDiff, Nat.reduceAdd, Nat.reduceMul, Nat.reduceSub, Nat.reduceLeDiff, Nat.reduceLT, Int.reduceLE, Int.reduceLT, Int.reduceEq, Int.reduceAdd, Int.reduceMul, Int.reduceSub, Int.reduceNeg, Int.reduceToNat, Int.reduceDiv, Int.reduceMod, Int.reduceTDiv, Int.reduceTMod, Int.cast_ofNat_Int, ↓reduceIte, false_implies, true_implies]
    exact ⟨[], List.nil_sublist _, rfl⟩
  rw [decide_eq_true few] at F
  refine call_pure hP (F) ?_
  simp -implicitDefEqProofs (disch := first | omega | rfl) only [go_sem, Nat.reduceEqDiff, Nat.reduceAdd, Nat.reduceMul, Nat.reduceSub, Nat.reduceLeDiff, Nat.reduceLT, Int.reduceLE, Int.reduceLT, Int.reduceEq, Int.reduceAdd, Int.reduceMul, Int.reduceSub, Int.reduceNeg, Int.reduceToNat, Int.reduceDiv, Int.reduceMod, Int.reduceTDiv, Int.reduceTMod, Int.cast_ofNat_Int, ↓reduceIte, false_implies, true_implies]
  refine hK _ _ ?_; clear hK hQ K Q
  repeat refine awp_seq ?_
  refine awp_else (by rfl) ?_
  refine awp_skip ?_
  repeat refine awp_seq ?_
  refine awp_reg fun K Q hK hQ => ?_
  simp -implicitDefEqProofs (disch := first | omega | rfl) only [go_sem, Nat.reduceEqDiff, Nat.reduceAdd, Nat.reduceMul, Nat.reduceSub, Nat.reduceLeDiff, Nat.reduceLT, Int.reduceLE, Int.reduceLT, Int.reduceEq, Int.reduceAdd, Int.reduceMul, Int.reduceSub, Int.reduceNeg, Int.reduceToNat, Int.reduceDiv, Int.reduceMod, Int.reduceTDiv, Int.reduceTMod, Int.cast_ofNat_Int, ↓reduceIte, false_implies, true_implies, zr4_5]
  refine call_pure hP (f11 z T) ?_
  simp -implicitDefEqProofs (disch := first | omega | rfl) only [go_sem, Nat.reduceEqDiff, Nat.reduceAdd, Nat.reduceMul, Nat.reduceSub, Nat.reduceLeDiff, Nat.reduceLT, Int.reduceLE, Int.reduceLT, Int.reduceEq, Int.reduceAdd, Int.reduceMul, Int.reduceSub, Int.reduceNeg, Int.reduceToNat, Int.reduceDiv, Int.reduceMod, Int.reduceTDiv, Int.reduceTMod, Int.cast_ofNat_Int, ↓reduceIte, false_implies, true_implies, tri]
  refine hK _ _ ?_; clear hK hQ K Q
  have n0 : ¬ T < 0 := by omega
  have n1 : ¬ 105190559 < T := by omega
  have hloc : localR z T = if z.valid = false then (0, 0, 1) else if T + offs z (seg z.ch T) < 0 ∨ 105190559 < T + offs z (seg z.ch T) then (0, 0, 2) else ((T + offs z (seg z.ch T)) / 1440, (T + offs z (seg z.ch T)) % 1440, 0) := by
    unfold localR
    cases z.valid <;> simp [n0, n1]
  cases hv : z.valid
  · rw [hv, if_pos rfl] at hloc
    repeat refine awp_seq ?_
    refine awp_reg fun K Q hK hQ => ?_
    simp -implicitDefEqProofs (disch := first | omega | rfl) only [go_sem, Nat.reduceEqDiff, Nat.reduceAdd, Nat.reduceMul, Nat.reduceSub, Nat.reduceLeDiff, Nat.reduceLT, Int.reduceLE, Int.reduceLT, Int.reduceEq, Int.reduceAdd, Int.reduceMul, Int.reduceSub, Int.reduceNeg, Int.reduceToNat, Int.reduceDiv, Int.reduceMod, Int.reduceTDiv, Int.reduceTMod, Int.cast_ofNat_Int, ↓reduceIte, false_implies, true_implies, zr4_6, hloc]
    refine hK _ _ ?_; clear hK hQ K Q
    repeat refine awp_seq ?_
    refine awp_then (by rfl) ?_
    repeat refine awp_seq ?_
    refine awp_reg fun K Q hK hQ => ?_
    simp -implicitDefEqProofs (disch := first | omega | rfl) only [go_sem, Nat.reduceEqDiff, Nat.reduceAdd, Nat.reduceMul, Nat.reduceSub, Nat.reduceLeDiff, Nat.reduceLT, Int.reduceLE, Int.reduceLT, Int.reduceEq, Int.reduceAdd, Int.reduceMul, Int.reduceSub, Int.reduceNeg, Int.reduceToNat, Int.reduceDiv, Int.reduceMod, Int.reduceTDiv, Int.reduceTMod, Int.cast_ofNat_Int, ↓reduceIte, false_implies, true_implies, zr4_7, hloc]
    refine hK _ _ ?_; clear hK hQ K Q
    refine awp_ret ?_
    repeat' (first | refine then_ret ?_ | refine blk_ret ?_)
    refine ret_q ?_
    simp -implicitDefEqProofs (disch := first | omega | rfl) only [go_sem, Nat.reduceEqDiff, Nat.reduceAdd, Nat.reduceMul, Nat.reduceSub, Nat.reduceLeDiff, Nat.reduceLT, Int.reduceLE, Int.reduceLT, Int.reduceEq, Int.reduceAdd, Int.reduceMul, Int.reduceSub, Int.reduceNeg, Int.reduceToNat, Int.reduceDiv, Int.reduceMod, Int.reduceTDiv, Int.reduceTMod, Int.cast_ofNat_Int, ↓reduceIte, false_implies, true_implies]
    exact ⟨[], List.nil_sublist _, rfl⟩
  rw [hv, if_neg (by simp)] at hloc
  by_cases hr1 : T + offs z (seg z.ch T) < 0 ∨ 105190559 < T + offs z (seg z.ch T)
  · rw [if_pos hr1] at hloc
    repeat refine awp_seq ?_
    refine awp_reg fun K Q hK hQ => ?_
    simp -implicitDefEqProofs (disch := first | omega | rfl) only [go_sem, Nat.reduceEqDiff, Nat.reduceAdd, Nat.reduceMul, Nat.reduceSub, Nat.reduceLeDiff, Nat.reduceLT, Int.reduceLE, Int.reduceLT, Int.reduceEq, Int.reduceAdd, Int.reduceMul, Int.reduceSub, Int.reduceNeg, Int.reduceToNat, Int.reduceDiv, Int.reduceMod, Int.reduceTDiv, Int.reduceTMod, Int.cast_ofNat_Int, ↓reduceIte, false_implies, true_implies, zr4_6, hloc]
    refine hK _ _ ?_; clear hK hQ K Q
    repeat refine awp_seq ?_
    refine awp_then (by rfl) ?_
    repeat refine awp_seq ?_
    refine awp_reg fun K Q hK hQ => ?_
    simp -implicitDefEqProofs (disch := first | omega | rfl) only [go_sem, Nat.reduceEqDiff, Nat.reduceAdd, Nat.reduceMul, Nat.reduceSub, Nat.reduceLeDiff, Nat.reduceLT, Int.reduceLE, Int.reduceLT, Int.reduceEq, Int.reduceAdd, Int.reduceMul, Int.reduceSub, Int.reduceNeg, Int.reduceToNat, Int.reduceDiv, Int.reduceMod, Int.reduceTDiv, Int.reduceTMod, Int.cast_ofNat_Int, ↓reduceIte, false_implies, true_implies, zr4_7, hloc]
    refine hK _ _ ?_; clear hK hQ K Q
    refine awp_ret ?_
    repeat' (first | refine then_ret ?_ | refine blk_ret ?_)
    refine ret_q ?_
    simp -implicitDefEqProofs (disch := first | omega | rfl) only [go_sem, Nat.reduceEqDiff, Nat.reduceAdd, Nat.reduceMul, Nat.reduceSub, Nat.reduceLeDiff, Nat.reduceLT, Int.reduceLE, Int.reduceLT, Int.reduceEq, Int.reduceAdd, Int.reduceMul, Int.reduceSub, Int.reduceNeg, Int.reduceToNat, Int.reduceDiv, Int.reduceMod, Int.reduceTDiv, Int.reduceTMod, Int.cast_ofNat_Int, ↓reduceIte, false_implies, true_implies]
    exact ⟨[], List.nil_sublist _, rfl⟩
  rw [if_neg hr1] at hloc
  have ok := Zone.valid_ok hv
  have hhas := hits_has (z := z) t0 t1
  have hloc' : ∀ x, 0 ≤ x → x ≤ 105190559 → x + offs z (seg z.ch x) = T + offs z (seg z.ch T) → localR z x = localR z T := fun x x0 x1 hx => by
    have m0 : ¬ x < 0 := by omega
    have m1 : ¬ 105190559 < x := by omega
    unfold localR
    simp only [hx, m0, m1, n0, n1, decide_false]
  generalize hL : T + offs z (seg z.ch T) = L at *
  have e1 : L / 1440 * 1440 + L % 1440 = L := by omega
  have hg : good z (L / 1440) (L % 1440) = true := by
    have g1 : 0 ≤ L / 1440 ∧ L / 1440 ≤ 73048 := by omega
    have g2 : 0 ≤ L % 1440 ∧ L % 1440 ≤ 1439 := by omega
    simp [good, hv, g1, g2]
  have hI : instantsR z (L / 1440) (L % 1440) = hits z L (z.ch.length + 1) := by rw [instantsR, if_pos hg, e1]
  have hmem := fun x (h : x ∈ hits z L (z.ch.length + 1)) => hits_mem h
  have hlt := hits_lt z L (z.ch.length + 1)
  have h2 := hits_two ok L
  have C := f20 z (L / 1440) (L % 1440)
  rw [hI] at C
  generalize hits z L (z.ch.length + 1) = I at *
  generalize hD : L / 1440 = D at *
  generalize hM : L % 1440 = M at *
  have hx : ∀ i, i < I.length → localR z I[i]! = (D, M, 0) := fun i hi => by
    have hm : I[i]! ∈ I := by simp [hi]
    obtain ⟨m0, m1, m2, _⟩ := hmem _ hm
    rw [hloc' _ m0 m1 m2, hloc]
  repeat refine awp_seq ?_
  refine awp_reg fun K Q hK hQ => ?_
  simp -implicitDefEqProofs (disch := first | omega | rfl) only [go_sem, Nat.reduceEqDiff, Nat.reduceAdd, Nat.reduceMul, Nat.reduceSub, Nat.reduceLeDiff, Nat.reduceLT, Int.reduceLE, Int.reduceLT, Int.reduceEq, Int.reduceAdd, Int.reduceMul, Int.reduceSub, Int.reduceNeg, Int.reduceToNat, Int.reduceDiv, Int.reduceMod, Int.reduceTDiv, Int.reduceTMod, Int.cast_ofNat_Int, ↓reduceIte, false_implies, true_implies, zr4_6, hloc]
  refine hK _ _ ?_; clear hK hQ K Q
  repeat refine awp_seq ?_
  refine awp_else (by rfl) ?_
  refine awp_skip ?_
  repeat refine awp_seq ?_
  refine awp_reg fun K Q hK hQ => ?_
  simp -implicitDefEqProofs (disch := first | omega | rfl) only [go_sem, Nat.reduceEqDiff, Nat.reduceAdd, Nat.reduceMul, Nat.reduceSub, Nat.reduceLeDiff, Nat.reduceLT, Int.reduceLE, Int.reduceLT, Int.reduceEq, Int.reduceAdd, Int.reduceMul, Int.reduceSub, Int.reduceNeg, Int.reduceToNat, Int.reduceDiv, Int.reduceMod, Int.reduceTDiv, Int.reduceTMod, Int.cast_ofNat_Int, ↓reduceIte, false_implies, true_implies, zr4_8, hloc]
  refine call_pure hP (C) ?_
  simp -implicitDefEqProofs (disch := first | omega | rfl) only [go_sem, Nat.reduceEqDiff, Nat.reduceAdd, Nat.reduceMul, Nat.reduceSub, Nat.reduceLeDiff, Nat.reduceLT, Int.reduceLE, Int.reduceLT, Int.reduceEq, Int.reduceAdd, Int.reduceMul, Int.reduceSub, Int.reduceNeg, Int.reduceToNat, Int.reduceDiv, Int.reduceMod, Int.reduceTDiv, Int.reduceTMod, Int.cast_ofNat_Int, ↓reduceIte, false_implies, true_implies]
  refine hK _ _ ?_; clear hK hQ K Q
  repeat refine awp_seq ?_
  refine awp_reg fun K Q hK hQ => ?_
  simp -implicitDefEqProofs (disch := first | omega | rfl) only [go_sem, Nat.reduceEqDiff, Nat.reduceAdd, Nat.reduceMul, Nat.reduceSub, Nat.reduceLeDiff, Nat.reduceLT, Int.reduceLE, Int.reduceLT, Int.reduceEq, Int.reduceAdd, Int.reduceMul, Int.reduceSub, Int.reduceNeg, Int.reduceToNat, Int.reduceDiv, Int.reduceMod, Int.reduceTDiv, Int.reduceTMod, Int.cast_ofNat_Int, ↓reduceIte, false_implies, true_implies, zr4_9]
  refine hK _ _ ?_; clear hK hQ K Q
  repeat refine awp_seq ?_
  refine awp_reg fun K Q hK hQ => ?_
  simp -implicitDefEqProofs (disch := first | omega | rfl) only [go_sem, Nat.reduceEqDiff, Nat.reduceAdd, Nat.reduceMul, Nat.reduceSub, Nat.reduceLeDiff, Nat.reduceLT, Int.reduceLE, Int.reduceLT, Int.reduceEq, Int.reduceAdd, Int.reduceMul, Int.reduceSub, Int.reduceNeg, Int.reduceToNat, Int.reduceDiv, Int.reduceMod, Int.reduceTDiv, Int.reduceTMod, Int.cast_ofNat_Int, ↓reduceIte, false_implies, true_implies, zr4_10]
  refine hK _ _ ?_; clear hK hQ K Q
  repeat refine awp_seq ?_
  refine awp_block ?_
  refine awp_loop (ι := {i : Nat // i ≤ I.length}) (fun i => [(12, .int .i64 i.1), (11, .bool ((I.take i.1).contains T)), (10, ints I), (2, .ptr 2 b 0), (7, .int .i64 D), (8, .int .i64 M), (6, .int .i64 T), (5, .bool true)]) (fun _ => [(2, b, Ob.cells [AV.int IntKind.i64 z.off, AV.sl (List.map Chg.av z.ch)])])
    (fun i => I.length - i.1) ⟨0, Nat.zero_le _⟩ ?_ ?_
  · refine ent_sub ?_ (List.Sublist.refl _)
    simp -implicitDefEqProofs (disch := first | omega | rfl) only [go_sem, Nat.reduceEqDiff, Nat.reduceAdd, Nat.reduceMul, Nat.reduceSub, Nat.reduceLeDiff, Nat.reduceLT, Int.reduceLE, Int.reduceLT, Int.reduceEq, Int.reduceAdd, Int.reduceMul, Int.reduceSub, Int.reduceNeg, Int.reduceToNat, Int.reduceDiv, Int.reduceMod, Int.reduceTDiv, Int.reduceTMod, Int.cast_ofNat_Int, ↓reduceIte, false_implies, true_implies]
    rfl
  rintro ⟨i, hi⟩
  by_cases hlt' : i < I.length
  · have X1 := f11 z I[i]!
    rw [hx i hlt'] at X1
    repeat refine awp_seq ?_
    refine awp_reg fun K Q hK hQ => ?_
    simp -implicitDefEqProofs (disch := first | omega | rfl) only [go_sem, Nat.reduceEqDiff, Nat.reduceAdd, Nat.reduceMul, Nat.reduceSub, Nat.reduceLeDiff, Nat.reduceLT, Int.reduceLE, Int.reduceLT, Int.reduceEq, Int.reduceAdd, Int.reduceMul, Int.reduceSub, Int.reduceNeg, Int.reduceToNat, Int.reduceDiv, Int.reduceMod, Int.reduceTDiv, Int.reduceTMod, Int.cast_ofNat_Int, ↓reduceIte, false_implies, true_implies, zr4_11, ints, List.length_map, Int.ofNat_lt, hlt']
    refine hK _ _ ?_; clear hK hQ K Q
    repeat refine awp_seq ?_
    refine awp_then (by rfl) ?_
    refine awp_skip ?_
    repeat refine awp_seq ?_
    refine awp_block ?_
    repeat refine awp_seq ?_
    refine awp_regD ([(2, b, Ob.cells [AV.int IntKind.i64 z.off, AV.sl (List.map Chg.av z.ch)])]) ([]) (by rw [hP]; exact mixed) (List.Perm.refl _) fun K hK => ?_
    simp -implicitDefEqProofs (disch := first | omega | rfl) only [go_sem, Nat.reduceEqDiff, Nat.reduceAdd, Nat.reduceMul, Nat.reduceSub, Nat.reduceLeDiff, Nat.reduceLT, Int.reduceLE, Int.reduceLT, Int.reduceEq, Int.reduceAdd, Int.reduceMul, Int.reduceSub, Int.reduceNeg, Int.reduceToNat, Int.reduceDiv, Int.reduceMod, Int.reduceTDiv, Int.reduceTMod, Int.cast_ofNat_Int, ↓reduceIte, false_implies, true_implies, zr4_12, List.length_map, Int.ofNat_lt, hlt', getD_map]
    refine call_pure hP (X1) ?_
    simp -implicitDefEqProofs (disch := first | omega | rfl) only [go_sem, Nat.reduceEqDiff, Nat.reduceAdd, Nat.reduceMul, Nat.reduceSub, Nat.reduceLeDiff, Nat.reduceLT, Int.reduceLE, Int.reduceLT, Int.reduceEq, Int.reduceAdd, Int.reduceMul, Int.reduceSub, Int.reduceNeg, Int.reduceToNat, Int.reduceDiv, Int.reduceMod, Int.reduceTDiv, Int.reduceTMod, Int.cast_ofNat_Int, ↓reduceIte, false_implies, true_implies, tri]
    refine hK _ _ ?_; clear hK K
    have htk : (I.take (i + 1)).contains T = ((I.take i).contains T || decide (I[i]! = T)) := by
      rw [List.take_succ_eq_append_getElem hlt', List.contains_append]
      simp [hlt', eq_comm]
    cases hin : (I.take i).contains T
    · by_cases hq : I[i]! = T
      · repeat refine awp_seq ?_
        refine awp_reg fun K Q hK hQ => ?_
        simp -implicitDefEqProofs (disch := first | omega | rfl) only [go_sem, Nat.reduceEqDiff, Nat.reduceAdd, Nat.reduceMul, Nat.reduceSub, Nat.reduceLeDiff, Nat.reduceLT, Int.reduceLE, Int.reduceLT, Int.reduceEq, Int.reduceAdd, Int.reduceMul, Int.reduceSub, Int.reduceNeg, Int.reduceToNat, Int.reduceDiv, Int.reduceMod, Int.reduceTDiv, Int.reduceTMod, Int.cast_ofNat_Int, ↓reduceIte, false_implies, true_implies, zr4_13, List.length_map, Int.ofNat_lt, hlt', getD_map, hin, hq]
        refine hK _ _ ?_; clear hK hQ K Q
        by_cases hz : (0 : Int) < i
        · have hle := pair_at hlt i hlt' (by omega)
          have hz0 : (0 : Int) < I.length := by omega
          have hz1 : 0 < I.length := by omega
          repeat refine awp_seq ?_
          refine awp_regD ([]) ([(2, b, Ob.cells [AV.int IntKind.i64 z.off, AV.sl (List.map Chg.av z.ch)])]) (by rw [hP]; exact mixed) (List.Perm.refl _) fun K hK => ?_
          simp -implicitDefEqProofs (disch := first | omega | rfl) only [go_sem, Nat.reduceEqDiff, Nat.reduceAdd, Nat.reduceMul, Nat.reduceSub, Nat.reduceLeDiff, Nat.reduceLT, Int.reduceLE, Int.reduceLT, Int.reduceEq, Int.reduceAdd, Int.reduceMul, Int.reduceSub, Int.reduceNeg, Int.reduceToNat, Int.reduceDiv, Int.reduceMod, Int.reduceTDiv, Int.reduceTMod, Int.cast_ofNat_Int, ↓reduceIte, false_implies, true_implies, zr4_14, List.length_map, Int.ofNat_lt, hlt', getD_map, hz, hle, hz0, hz1, Int.toNat_zero]
          refine hK _ _ ?_; clear hK K
          repeat refine awp_seq ?_
          refine awp_else (by rfl) ?_
          refine awp_skip ?_
          refine awp_reg fun K Q hK hQ => ?_
          simp -implicitDefEqProofs (disch := first | omega | rfl) only [go_sem, Nat.reduceEqDiff, Nat.reduceAdd, Nat.reduceMul, Nat.reduceSub, Nat.reduceLeDiff, Nat.reduceLT, Int.reduceLE, Int.reduceLT, Int.reduceEq, Int.reduceAdd, Int.reduceMul, Int.reduceSub, Int.reduceNeg, Int.reduceToNat, Int.reduceDiv, Int.reduceMod, Int.reduceTDiv, Int.reduceTMod, Int.cast_ofNat_Int, ↓reduceIte, false_implies, true_implies, zr4_16]
          refine hK _ _ ?_; clear hK hQ K Q
          refine ⟨⟨i + 1, hlt'⟩, by simp only; omega, ?_⟩
          refine ent_sub ?_ (List.Sublist.refl _)
          simp only [htk]
          simp -implicitDefEqProofs (disch := first | omega | rfl) only [go_sem, Nat.reduceEqDiff, Nat.reduceAdd, Nat.reduceMul, Nat.reduceSub, Nat.reduceLeDiff, Nat.reduceLT, Int.reduceLE, Int.reduceLT, Int.reduceEq, Int.reduceAdd, Int.reduceMul, Int.reduceSub, Int.reduceNeg, Int.reduceToNat, Int.reduceDiv, Int.reduceMod, Int.reduceTDiv, Int.reduceTMod, Int.cast_ofNat_Int, ↓reduceIte, false_implies, true_implies, hin, hq]
          exact ⟨rfl, by simp, rfl⟩
        · repeat refine awp_seq ?_
          refine awp_regD ([]) ([(2, b, Ob.cells [AV.int IntKind.i64 z.off, AV.sl (List.map Chg.av z.ch)])]) (by rw [hP]; exact mixed) (List.Perm.refl _) fun K hK => ?_
          simp -implicitDefEqProofs (disch := first | omega | rfl) only [go_sem, Nat.reduceEqDiff, Nat.reduceAdd, Nat.reduceMul, Nat.reduceSub, Nat.reduceLeDiff, Nat.reduceLT, Int.reduceLE, Int.reduceLT, Int.reduceEq, Int.reduceAdd, Int.reduceMul, Int.reduceSub, Int.reduceNeg, Int.reduceToNat, Int.reduceDiv, Int.reduceMod, Int.reduceTDiv, Int.reduceTMod, Int.cast_ofNat_Int, ↓reduceIte, false_implies, true_implies, zr4_14, List.length_map, Int.ofNat_lt, hlt', getD_map, hz]
          refine hK _ _ ?_; clear hK K
          repeat refine awp_seq ?_
          refine awp_else (by rfl) ?_
          refine awp_skip ?_
          refine awp_reg fun K Q hK hQ => ?_
          simp -implicitDefEqProofs (disch := first | omega | rfl) only [go_sem, Nat.reduceEqDiff, Nat.reduceAdd, Nat.reduceMul, Nat.reduceSub, Nat.reduceLeDiff, Nat.reduceLT, Int.reduceLE, Int.reduceLT, Int.reduceEq, Int.reduceAdd, Int.reduceMul, Int.reduceSub, Int.reduceNeg, Int.reduceToNat, Int.reduceDiv, Int.reduceMod, Int.reduceTDiv, Int.reduceTMod, Int.cast_ofNat_Int, ↓reduceIte, false_implies, true_implies, zr4_16]
          refine hK _ _ ?_; clear hK hQ K Q
          refine ⟨⟨i + 1, hlt'⟩, by simp only; omega, ?_⟩
          refine ent_sub ?_ (List.Sublist.refl _)
          simp only [htk]
          simp -implicitDefEqProofs (disch := first | omega | rfl) only [go_sem, Nat.reduceEqDiff, Nat.reduceAdd, Nat.reduceMul, Nat.reduceSub, Nat.reduceLeDiff, Nat.reduceLT, Int.reduceLE, Int.reduceLT, Int.reduceEq, Int.reduceAdd, Int.reduceMul, Int.reduceSub, Int.reduceNeg, Int.reduceToNat, Int.reduceDiv, Int.reduceMod, Int.reduceTDiv, Int.reduceTMod, Int.cast_ofNat_Int, ↓reduceIte, false_implies, true_implies, hin, hq]
          exact ⟨rfl, by simp, rfl⟩
      · repeat refine awp_seq ?_
        refine awp_reg fun K Q hK hQ => ?_
        simp -implicitDefEqProofs (disch := first | omega | rfl) only [go_sem, Nat.reduceEqDiff, Nat.reduceAdd, Nat.reduceMul, Nat.reduceSub, Nat.reduceLeDiff, Nat.reduceLT, Int.reduceLE, Int.reduceLT, Int.reduceEq, Int.reduceAdd, Int.reduceMul, Int.reduceSub, Int.reduceNeg, Int.reduceToNat, Int.reduceDiv, Int.reduceMod, Int.reduceTDiv, Int.reduceTMod, Int.cast_ofNat_Int, ↓reduceIte, false_implies, true_implies, zr4_13, List.length_map, Int.ofNat_lt, hlt', getD_map, hin, hq]
        refine hK _ _ ?_; clear hK hQ K Q
        by_cases hz : (0 : Int) < i
        · have hle := pair_at hlt i hlt' (by omega)
          have hz0 : (0 : Int) < I.length := by omega
          have hz1 : 0 < I.length := by omega
          repeat refine awp_seq ?_
          refine awp_regD ([]) ([(2, b, Ob.cells [AV.int IntKind.i64 z.off, AV.sl (List.map Chg.av z.ch)])]) (by rw [hP]; exact mixed) (List.Perm.refl _) fun K hK => ?_
          simp -implicitDefEqProofs (disch := first | omega | rfl) only [go_sem, Nat.reduceEqDiff, Nat.reduceAdd, Nat.reduceMul, Nat.reduceSub, Nat.reduceLeDiff, Nat.reduceLT, Int.reduceLE, Int.reduceLT, Int.reduceEq, Int.reduceAdd, Int.reduceMul, Int.reduceSub, Int.reduceNeg, Int.reduceToNat, Int.reduceDiv, Int.reduceMod, Int.reduceTDiv, Int.reduceTMod, Int.cast_ofNat_Int, ↓reduceIte, false_implies, true_implies, zr4_14, List.length_map, Int.ofNat_lt, hlt', getD_map, hz, hle, hz0, hz1, Int.toNat_zero]
          refine hK _ _ ?_; clear hK K
          repeat refine awp_seq ?_
          refine awp_else (by rfl) ?_
          refine awp_skip ?_
          refine awp_reg fun K Q hK hQ => ?_
          simp -implicitDefEqProofs (disch := first | omega | rfl) only [go_sem, Nat.reduceEqDiff, Nat.reduceAdd, Nat.reduceMul, Nat.reduceSub, Nat.reduceLeDiff, Nat.reduceLT, Int.reduceLE, Int.reduceLT, Int.reduceEq, Int.reduceAdd, Int.reduceMul, Int.reduceSub, Int.reduceNeg, Int.reduceToNat, Int.reduceDiv, Int.reduceMod, Int.reduceTDiv, Int.reduceTMod, Int.cast_ofNat_Int, ↓reduceIte, false_implies, true_implies, zr4_16]
          refine hK _ _ ?_; clear hK hQ K Q
          refine ⟨⟨i + 1, hlt'⟩, by simp only; omega, ?_⟩
          refine ent_sub ?_ (List.Sublist.refl _)
          simp only [htk]
          simp -implicitDefEqProofs (disch := first | omega | rfl) only [go_sem, Nat.reduceEqDiff, Nat.reduceAdd, Nat.reduceMul, Nat.reduceSub, Nat.reduceLeDiff, Nat.reduceLT, Int.reduceLE, Int.reduceLT, Int.reduceEq, Int.reduceAdd, Int.reduceMul, Int.reduceSub, Int.reduceNeg, Int.reduceToNat, Int.reduceDiv, Int.reduceMod, Int.reduceTDiv, Int.reduceTMod, Int.cast_ofNat_Int, ↓reduceIte, false_implies, true_implies, hin, hq]
          exact ⟨rfl, by simp, rfl⟩
        · repeat refine awp_seq ?_
          refine awp_regD ([]) ([(2, b, Ob.cells [AV.int IntKind.i64 z.off, AV.sl (List.map Chg.av z.ch)])]) (by rw [hP]; exact mixed) (List.Perm.refl _) fun K hK => ?_
          simp -implicitDefEqProofs (disch := first | omega | rfl) only [go_sem, Nat.reduceEqDiff, Nat.reduceAdd, Nat.reduceMul, Nat.reduceSub, Nat.reduceLeDiff, Nat.reduceLT, Int.reduceLE, Int.reduceLT, Int.reduceEq, Int.reduceAdd, Int.reduceMul, Int.reduceSub, Int.reduceNeg, Int.reduceToNat, Int.reduceDiv, Int.reduceMod, Int.reduceTDiv, Int.reduceTMod, Int.cast_ofNat_Int, ↓reduceIte, false_implies, true_implies, zr4_14, List.length_map, Int.ofNat_lt, hlt', getD_map, hz]
          refine hK _ _ ?_; clear hK K
          repeat refine awp_seq ?_
          refine awp_else (by rfl) ?_
          refine awp_skip ?_
          refine awp_reg fun K Q hK hQ => ?_
          simp -implicitDefEqProofs (disch := first | omega | rfl) only [go_sem, Nat.reduceEqDiff, Nat.reduceAdd, Nat.reduceMul, Nat.reduceSub, Nat.reduceLeDiff, Nat.reduceLT, Int.reduceLE, Int.reduceLT, Int.reduceEq, Int.reduceAdd, Int.reduceMul, Int.reduceSub, Int.reduceNeg, Int.reduceToNat, Int.reduceDiv, Int.reduceMod, Int.reduceTDiv, Int.reduceTMod, Int.cast_ofNat_Int, ↓reduceIte, false_implies, true_implies, zr4_16]
          refine hK _ _ ?_; clear hK hQ K Q
          refine ⟨⟨i + 1, hlt'⟩, by simp only; omega, ?_⟩
          refine ent_sub ?_ (List.Sublist.refl _)
          simp only [htk]
          simp -implicitDefEqProofs (disch := first | omega | rfl) only [go_sem, Nat.reduceEqDiff, Nat.reduceAdd, Nat.reduceMul, Nat.reduceSub, Nat.reduceLeDiff, Nat.reduceLT, Int.reduceLE, Int.reduceLT, Int.reduceEq, Int.reduceAdd, Int.reduceMul, Int.reduceSub, Int.reduceNeg, Int.reduceToNat, Int.reduceDiv, Int.reduceMod, Int.reduceTDiv, Int.reduceTMod, Int.cast_ofNat_Int, ↓reduceIte, false_implies, true_implies, hin, hq]
          exact ⟨rfl, by simp, rfl⟩
    · repeat refine awp_seq ?_
      refine awp_reg fun K Q hK hQ => ?_
      simp -implicitDefEqProofs (disch := first | omega | rfl) only [go_sem, Nat.reduceEqDiff, Nat.reduceAdd, Nat.reduceMul, Nat.reduceSub, Nat.reduceLeDiff, Nat.reduceLT, Int.reduceLE, Int.reduceLT, Int.reduceEq, Int.reduceAdd, Int.reduceMul, Int.reduceSub, Int.reduceNeg, Int.reduceToNat, Int.reduceDiv, Int.reduceMod, Int.reduceTDiv, Int.reduceTMod, Int.cast_ofNat_Int, ↓reduceIte, false_implies, true_implies, zr4_13, List.length_map, Int.ofNat_lt, hlt', getD_map, hin]
      refine hK _ _ ?_; clear hK hQ K Q
      by_cases hz : (0 : Int) < i
      · have hle := pair_at hlt i hlt' (by omega)
        have hz0 : (0 : Int) < I.length := by omega
        have hz1 : 0 < I.length := by omega
        repeat refine awp_seq ?_
        refine awp_regD ([]) ([(2, b, Ob.cells [AV.int IntKind.i64 z.off, AV.sl (List.map Chg.av z.ch)])]) (by rw [hP]; exact mixed) (List.Perm.refl _) fun K hK => ?_
        simp -implicitDefEqProofs (disch := first | omega | rfl) only [go_sem, Nat.reduceEqDiff, Nat.reduceAdd, Nat.reduceMul, Nat.reduceSub, Nat.reduceLeDiff, Nat.reduceLT, Int.reduceLE, Int.reduceLT, Int.reduceEq, Int.reduceAdd, Int.reduceMul, Int.reduceSub, Int.reduceNeg, Int.reduceToNat, Int.reduceDiv, Int.reduceMod, Int.reduceTDiv, Int.reduceTMod, Int.cast_ofNat_Int, ↓reduceIte, false_implies, true_implies, zr4_14, List.length_map, Int.ofNat_lt, hlt', getD_map, hz, hle, hz0, hz1, Int.toNat_zero]
        refine hK _ _ ?_; clear hK K
        repeat refine awp_seq ?_
        refine awp_else (by rfl) ?_
        refine awp_skip ?_
        refine awp_reg fun K Q hK hQ => ?_
        simp -implicitDefEqProofs (disch := first | omega | rfl) only [go_sem, Nat.reduceEqDiff, Nat.reduceAdd, Nat.reduceMul, Nat.reduceSub, Nat.reduceLeDiff, Nat.reduceLT, Int.reduceLE, Int.reduceLT, Int.reduceEq, Int.reduceAdd, Int.reduceMul, Int.reduceSub, Int.reduceNeg, Int.reduceToNat, Int.reduceDiv, Int.reduceMod, Int.reduceTDiv, Int.reduceTMod, Int.cast_ofNat_Int, ↓reduceIte, false_implies, true_implies, zr4_16]
        refine hK _ _ ?_; clear hK hQ K Q
        refine ⟨⟨i + 1, hlt'⟩, by simp only; omega, ?_⟩
        refine ent_sub ?_ (List.Sublist.refl _)
        simp only [htk]
        simp -implicitDefEqProofs (disch := first | omega | rfl) only [go_sem, Nat.reduceEqDiff, Nat.reduceAdd, Nat.reduceMul, Nat.reduceSub, Nat.reduceLeDiff, Nat.reduceLT, Int.reduceLE, Int.reduceLT, Int.reduceEq, Int.reduceAdd, Int.reduceMul, Int.reduceSub, Int.reduceNeg, Int.reduceToNat, Int.reduceDiv, Int.reduceMod, Int.reduceTDiv, Int.reduceTMod, Int.cast_ofNat_Int, ↓reduceIte, false_implies, true_implies, hin]
        exact ⟨rfl, by simp, rfl⟩
      · repeat refine awp_seq ?_
        refine awp_regD ([]) ([(2, b, Ob.cells [AV.int IntKind.i64 z.off, AV.sl (List.map Chg.av z.ch)])]) (by rw [hP]; exact mixed) (List.Perm.refl _) fun K hK => ?_
        simp -implicitDefEqProofs (disch := first | omega | rfl) only [go_sem, Nat.reduceEqDiff, Nat.reduceAdd, Nat.reduceMul, Nat.reduceSub, Nat.reduceLeDiff, Nat.reduceLT, Int.reduceLE, Int.reduceLT, Int.reduceEq, Int.reduceAdd, Int.reduceMul, Int.reduceSub, Int.reduceNeg, Int.reduceToNat, Int.reduceDiv, Int.reduceMod, Int.reduceTDiv, Int.reduceTMod, Int.cast_ofNat_Int, ↓reduceIte, false_implies, true_implies, zr4_14, List.length_map, Int.ofNat_lt, hlt', getD_map, hz]
        refine hK _ _ ?_; clear hK K
        repeat refine awp_seq ?_
        refine awp_else (by rfl) ?_
        refine awp_skip ?_
        refine awp_reg fun K Q hK hQ => ?_
        simp -implicitDefEqProofs (disch := first | omega | rfl) only [go_sem, Nat.reduceEqDiff, Nat.reduceAdd, Nat.reduceMul, Nat.reduceSub, Nat.reduceLeDiff, Nat.reduceLT, Int.reduceLE, Int.reduceLT, Int.reduceEq, Int.reduceAdd, Int.reduceMul, Int.reduceSub, Int.reduceNeg, Int.reduceToNat, Int.reduceDiv, Int.reduceMod, Int.reduceTDiv, Int.reduceTMod, Int.cast_ofNat_Int, ↓reduceIte, false_implies, true_implies, zr4_16]
        refine hK _ _ ?_; clear hK hQ K Q
        refine ⟨⟨i + 1, hlt'⟩, by simp only; omega, ?_⟩
        refine ent_sub ?_ (List.Sublist.refl _)
        simp only [htk]
        simp -implicitDefEqProofs (disch := first | omega | rfl) only [go_sem, Nat.reduceEqDiff, Nat.reduceAdd, Nat.reduceMul, Nat.reduceSub, Nat.reduceLeDiff, Nat.reduceLT, Int.reduceLE, Int.reduceLT, Int.reduceEq, Int.reduceAdd, Int.reduceMul, Int.reduceSub, Int.reduceNeg, Int.reduceToNat, Int.reduceDiv, Int.reduceMod, Int.reduceTDiv, Int.reduceTMod, Int.cast_ofNat_Int, ↓reduceIte, false_implies, true_implies, hin]
        exact ⟨rfl, by simp, rfl⟩
  · repeat refine awp_seq ?_
    refine awp_reg fun K Q hK hQ => ?_
    simp -implicitDefEqProofs (disch := first | omega | rfl) only [go_sem, Nat.reduceEqDiff, Nat.reduceAdd, Nat.reduceMul, Nat.reduceSub, Nat.reduceLeDiff, Nat.reduceLT, Int.reduceLE, Int.reduceLT, Int.reduceEq, Int.reduceAdd, Int.reduceMul, Int.reduceSub, Int.reduceNeg, Int.reduceToNat, Int.reduceDiv, Int.reduceMod, Int.reduceTDiv, Int.reduceTMod, Int.cast_ofNat_Int, ↓reduceIte, false_implies, true_implies, zr4_11, ints, List.length_map, Int.ofNat_lt, hlt']
    refine hK _ _ ?_; clear hK hQ K Q
    repeat refine awp_seq ?_
    refine awp_else (by rfl) ?_
    refine awp_exit ?_
    repeat' (first | refine then_exit ?_ | refine exit_here ?_ | refine exit_on rfl ?_)
    have hin : (I.take i).contains T = true := by
      rw [List.take_of_length_le (by omega)]
      simpa using hhas
    have h2' : (I.length : Int) ≤ 2 := by omega
    repeat refine awp_seq ?_
    refine awp_reg fun K Q hK hQ => ?_
    simp -implicitDefEqProofs (disch := first | omega | rfl) only [go_sem, Nat.reduceEqDiff, Nat.reduceAdd, Nat.reduceMul, Nat.reduceSub, Nat.reduceLeDiff, Nat.reduceLT, Int.reduceLE, Int.reduceLT, Int.reduceEq, Int.reduceAdd, Int.reduceMul, Int.reduceSub, Int.reduceNeg, Int.reduceToNat, Int.reduceDiv, Int.reduceMod, Int.reduceTDiv, Int.reduceTMod, Int.cast_ofNat_Int, ↓reduceIte, false_implies, true_implies, zr4_17, hin, List.length_map, h2']
    refine hK _ _ ?_; clear hK hQ K Q
    refine awp_ret ?_
    repeat' (first | refine then_ret ?_ | refine blk_ret ?_)
    refine ret_q ?_
    simp -implicitDefEqProofs (disch := first | omega | rfl) only [go_sem, Nat.reduceEqDiff, Nat.reduceAdd, Nat.reduceMul, Nat.reduceSub, Nat.reduceLeDiff, Nat.reduceLT, Int.reduceLE, Int.reduceLT, Int.reduceEq, Int.reduceAdd, Int.reduceMul, Int.reduceSub, Int.reduceNeg, Int.reduceToNat, Int.reduceDiv, Int.reduceMod, Int.reduceTDiv, Int.reduceTMod, Int.cast_ofNat_Int, ↓reduceIte, false_implies, true_implies]
    exact ⟨[], List.nil_sublist _, rfl⟩
end Go.Proofs.Zt
