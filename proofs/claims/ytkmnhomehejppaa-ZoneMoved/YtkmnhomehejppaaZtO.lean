import Derived.Test.YtkmnhomehejppaaZtN
set_option linter.unusedSimpArgs false
set_option linter.unusedVariables false
set_option linter.deprecated false
namespace Go.Proofs.Zt
open Go.Aw

theorem inst_eq {z : Zone} {d m : Int} (hg : good z d m = true) (later : Bool) : instantR z d m later = if (hits z (d * 1440 + m) (z.ch.length + 1)).length ≠ 0 then (pick (hits z (d * 1440 + m) (z.ch.length + 1)) later, 0) else skip z (d * 1440 + m) z.ch.length 1 := by
  rw [instantR, hg, instantsR, if_pos hg]
  simp only [Bool.not_true, Bool.false_eq_true, if_false]

theorem inst_val {z : Zone} (ok : z.Ok) {d m : Int} (hg : good z d m = true) (h : (instantR z d m false).2 = 0) :
    0 ≤ (instantR z d m false).1 ∧ (instantR z d m false).1 ≤ 105190559 ∧ d * 1440 + m ≤ (instantR z d m false).1 + offs z (seg z.ch (instantR z d m false).1) ∧ (instantR z d m false).1 + offs z (seg z.ch (instantR z d m false).1) ≤ d * 1440 + m + 1680 := by
  rw [inst_eq hg] at h ⊢
  generalize d * 1440 + m = L at *
  by_cases hz : (hits z L (z.ch.length + 1)).length ≠ 0
  · rw [if_pos hz]
    have hm : (hits z L (z.ch.length + 1))[0]! ∈ hits z L (z.ch.length + 1) := by
      have : 0 < (hits z L (z.ch.length + 1)).length := by omega
      simp [this]
    obtain ⟨a, b, c, _⟩ := hits_mem hm
    show 0 ≤ (hits z L (z.ch.length + 1))[0]! ∧ _
    refine ⟨a, b, ?_, ?_⟩
    · show L ≤ (hits z L (z.ch.length + 1))[0]! + offs z (seg z.ch (hits z L (z.ch.length + 1))[0]!); omega
    · show (hits z L (z.ch.length + 1))[0]! + offs z (seg z.ch (hits z L (z.ch.length + 1))[0]!) ≤ _; omega
  · rw [if_neg hz] at h ⊢
    rcases skip_spec z L z.ch.length 1 (Nat.le_refl _) with hs | ⟨j, j1, j2, hs, c1, c2⟩
    · rw [hs] at h; simp at h
    · rw [hs]
      obtain ⟨t0, t1, s1, s2⟩ := at_change ok j j1 (by omega)
      have o1 := ok.offs j (by omega)
      have o2 := ok.offs (j - 1) (by omega)
      simp only [s1]
      omega

theorem skip_first (z : Zone) (L : Int) (k : Nat) : ∀ n k0, 1 ≤ k0 → k0 ≤ k → k < k0 + n → z.ch[k - 1]!.at_ + offs z (k - 1) ≤ L ∧ L < z.ch[k - 1]!.at_ + offs z k →
    ∃ j, k0 ≤ j ∧ j ≤ k ∧ skip z L n k0 = (z.ch[j - 1]!.at_, 0)
  | 0, _, _, _, _, _ => by omega
  | n + 1, k0, h0, h1, h2, h3 => by
    rw [skip]
    by_cases h : z.ch[k0 - 1]!.at_ + offs z (k0 - 1) ≤ L ∧ L < z.ch[k0 - 1]!.at_ + offs z k0
    · rw [if_pos h]
      exact ⟨k0, Nat.le_refl _, h1, rfl⟩
    · rw [if_neg h]
      have : k0 ≠ k := fun he => h (he ▸ h3)
      obtain ⟨j, a, b, c⟩ := skip_first z L k n (k0 + 1) (by omega) (by omega) (by omega) h3
      exact ⟨j, by omega, b, c⟩

theorem le_sorted {z : Zone} (ok : z.Ok) {i j : Nat} (h : i ≤ j) (hj : j < z.ch.length) : z.ch[i]!.at_ ≤ z.ch[j]!.at_ := by
  by_cases he : i = j
  · rw [he]; exact Int.le_refl _
  · have := sorted 0 z.ch ok.ch i j (by omega) hj
    omega

/-- nobody has a local time ahead of the instant that stands for it -/
theorem inst_first {z : Zone} (ok : z.Ok) {d m : Int} (hg : good z d m = true) (h : (instantR z d m false).2 = 0) : ∀ k t, seg z.ch t = k → 0 ≤ t → d * 1440 + m ≤ t + offs z (seg z.ch t) → (instantR z d m false).1 ≤ t := by
  obtain ⟨_, d0, d1, m0, m1⟩ := good_ok hg
  have hv := inst_val ok hg h
  rw [inst_eq hg] at h hv ⊢
  have hL : 0 ≤ d * 1440 + m := by omega
  generalize d * 1440 + m = L at *
  have hlt := hits_lt z L (z.ch.length + 1)
  have hle : ∀ x, x ∈ hits z L (z.ch.length + 1) → (if (hits z L (z.ch.length + 1)).length ≠ 0 then (pick (hits z L (z.ch.length + 1)) false, 0) else skip z L z.ch.length 1).1 ≤ x := fun x hx => by
    have hz : (hits z L (z.ch.length + 1)).length ≠ 0 := fun h0 => by rw [List.length_eq_zero_iff.1 h0] at hx; cases hx
    rw [if_pos hz]
    show (hits z L (z.ch.length + 1))[0]! ≤ x
    obtain ⟨i, hi, rfl⟩ := List.getElem_of_mem hx
    by_cases h0 : i = 0
    · subst h0; simp [hi]
    · have := List.pairwise_iff_getElem.1 hlt 0 i (by omega) hi (by omega)
      simp [show 0 < (hits z L (z.ch.length + 1)).length by omega]
      omega
  intro k
  induction k with
  | zero =>
    intro t hk t0 ht
    rw [hk] at ht
    have o0 := ok.offs 0 (by omega)
    by_cases hs : offs z 0 ≤ L
    · refine Int.le_trans (hle (L - offs z 0) (List.mem_flatMap.2 ⟨0, List.mem_range.2 (by omega), ?_⟩)) (by omega)
      have hsg : seg z.ch (L - offs z 0) = 0 := by
        have := seg_mono z.ch (show L - offs z 0 ≤ t by omega)
        omega
      by_cases hlast : L - offs z 0 ≤ 105190559
      · rw [hit, if_pos ⟨by omega, hlast, hsg⟩]; simp
      · exfalso
        have hx := hv.1
        have hx1 := hv.2.1
        have := seg_mono z.ch (show (if (hits z L (z.ch.length + 1)).length ≠ 0 then (pick (hits z L (z.ch.length + 1)) false, 0) else skip z L z.ch.length 1).1 ≤ L - offs z 0 by omega)
        have hv3 := hv.2.2.1
        rw [show seg z.ch (if (hits z L (z.ch.length + 1)).length ≠ 0 then (pick (hits z L (z.ch.length + 1)) false, 0) else skip z L z.ch.length 1).1 = 0 by omega] at hv3
        omega
    · exfalso
      have hx := hv
      generalize hX : (if (hits z L (z.ch.length + 1)).length ≠ 0 then (pick (hits z L (z.ch.length + 1)) false, 0) else skip z L z.ch.length 1) = X at *
      by_cases hz : (hits z L (z.ch.length + 1)).length ≠ 0
      · have hm : (hits z L (z.ch.length + 1))[0]! ∈ hits z L (z.ch.length + 1) := by
          have : 0 < (hits z L (z.ch.length + 1)).length := by omega
          simp [this]
        obtain ⟨a, b, c, e⟩ := hits_mem hm
        generalize (hits z L (z.ch.length + 1))[0]! = x at *
        by_cases hk0 : seg z.ch x = 0
        · rw [hk0] at c; omega
        · have := seg_ge z.ch x 0 (by omega)
          obtain ⟨_, _, q⟩ := okFrom_get 0 z.ch ok.ch 0 (by omega)
          have := ok.offs (seg z.ch x) (by omega)
          omega
      · rw [if_neg hz] at hX
        rcases skip_spec z L z.ch.length 1 (Nat.le_refl _) with hs' | ⟨j, j1, j2, hs', c1, c2⟩
        · rw [hs'] at hX; rw [← hX] at h; simp at h
        · obtain ⟨_, _, q⟩ := okFrom_get 0 z.ch ok.ch (j - 1) (by omega)
          have := ok.offs (j - 1) (by omega)
          omega
  | succ k ih =>
    intro t hk t0 ht
    rw [hk] at ht
    have hkn : k + 1 ≤ z.ch.length := by have := seg_le z.ch t; omega
    have hst := seg_ge z.ch t k (by omega)
    obtain ⟨a0, a1, s1, s2⟩ := at_change ok (k + 1) (by omega) hkn
    simp only [Nat.add_sub_cancel] at a0 a1 s1 s2
    have o1 := ok.offs (k + 1) hkn
    have o0 := ok.offs k (by omega)
    by_cases hs : z.ch[k]!.at_ + offs z (k + 1) ≤ L
    · have hsg : seg z.ch (L - offs z (k + 1)) = k + 1 := by
        have g1 := seg_mono z.ch (show L - offs z (k + 1) ≤ t by omega)
        have g2 := seg_mono z.ch (show z.ch[k]!.at_ ≤ L - offs z (k + 1) by omega)
        omega
      by_cases hlast : L - offs z (k + 1) ≤ 105190559
      · refine Int.le_trans (hle (L - offs z (k + 1)) (List.mem_flatMap.2 ⟨k + 1, List.mem_range.2 (by omega), ?_⟩)) (by omega)
        rw [hit, if_pos ⟨by omega, hlast, hsg⟩]; simp
      · have := hv.2.1
        omega
    · by_cases hs2 : z.ch[k]!.at_ + offs z k ≤ L
      · have hskip : z.ch[k + 1 - 1]!.at_ + offs z (k + 1 - 1) ≤ L ∧ L < z.ch[k + 1 - 1]!.at_ + offs z (k + 1) := by simp only [Nat.add_sub_cancel]; omega
        by_cases hz : (hits z L (z.ch.length + 1)).length ≠ 0
        · have hm : (hits z L (z.ch.length + 1))[0]! ∈ hits z L (z.ch.length + 1) := by
            have : 0 < (hits z L (z.ch.length + 1)).length := by omega
            simp [this]
          obtain ⟨a, b, c, e⟩ := hits_mem hm
          refine Int.le_trans (hle _ hm) ?_
          generalize (hits z L (z.ch.length + 1))[0]! = x at *
          by_cases hxt : x ≤ t
          · exact hxt
          · exfalso
            have g := seg_mono z.ch (show t ≤ x by omega)
            have ox := ok.offs (seg z.ch x) (by omega)
            by_cases hke : seg z.ch x = k + 1
            · rw [hke] at c; omega
            · have g1 := seg_ge z.ch x (k + 1) (by omega)
              have g2 := gap 0 z.ch ok.ch k (by omega)
              omega
        · rw [if_neg hz]
          obtain ⟨j, j1, j2, hs'⟩ := skip_first z L (k + 1) z.ch.length 1 (Nat.le_refl _) (by omega) (by omega) hskip
          rw [hs']
          have := le_sorted ok (show j - 1 ≤ k by omega) (by omega)
          show z.ch[j - 1]!.at_ ≤ t
          omega
      · have := ih (z.ch[k]!.at_ - 1) s2 (by omega) (by rw [s2]; omega)
        omega

theorem span_err (z : Zone) (d : Int) (h : (spanR z d).2.2 ≠ 0) : (spanR z d).1 = 0 ∧ (spanR z d).2.1 = 0 := by
  unfold spanR at h ⊢
  split
  · exact ⟨rfl, rfl⟩
  · rename_i h1
    rw [if_neg h1] at h
    simp only at h ⊢
    split
    · exact ⟨rfl, rfl⟩
    · rename_i h2
      rw [if_neg h2] at h
      split
      · exact ⟨rfl, rfl⟩
      · rename_i h3
        rw [if_neg h3] at h
        exact absurd rfl h

theorem span_ok (z : Zone) (d : Int) (h : (spanR z d).2.2 = 0) : z.valid = true ∧ 0 ≤ d ∧ d ≤ 73047 ∧ (instantR z d 0 false).2 = 0 ∧ (instantR z (d + 1) 0 false).2 = 0 ∧ (spanR z d).1 = (instantR z d 0 false).1 ∧ (spanR z d).2.1 = (instantR z (d + 1) 0 false).1 := by
  unfold spanR at h ⊢
  split
  · rename_i h1
    rw [if_pos h1] at h
    simp at h
  · rename_i h1
    rw [if_neg h1] at h
    simp only [Bool.or_eq_true, Bool.not_eq_true', decide_eq_true_eq, not_or] at h1
    simp only at h ⊢
    split
    · rename_i h2
      rw [if_pos h2] at h
      exact absurd h h2
    · rename_i h2
      rw [if_neg h2] at h
      split
      · rename_i h3
        rw [if_pos h3] at h
        exact absurd h h3
      · rename_i h3
        exact ⟨by simpa using h1.1.1, by omega, by omega, by omega, by omega, rfl, rfl⟩

set_option maxHeartbeats 1000000 in
theorem f7 (z : Zone) (u v : Int) (u0 : 0 ≤ u) (u1 : u ≤ 4294967295) (v0 : 0 ≤ v) (v1 : v ≤ 4294967295) : PureC Try.prog 7 [z.av, .int .u32 u, .int .u32 v] (.bool true) := by
  refine fn_intro' 117 Try.func7 nt7 ok7 res7 (by simp) fun X hP hn hd hr => ?_
  repeat refine awp_seq ?_
  refine awp_reg fun K Q hK hQ => ?_
  simp -implicitDefEqProofs (disch := first | omega | rfl) only [go_sem, Nat.reduceEqDiff, Nat.reduceAdd, Nat.reduceMul, Nat.reduceSub, Nat.reduceLeDiff, Nat.reduceLT, Int.reduceLE, Int.reduceLT, Int.reduceEq, Int.reduceAdd, Int.reduceMul, Int.reduceSub, Int.reduceNeg, Int.reduceToNat, Int.reduceDiv, Int.reduceMod, Int.reduceTDiv, Int.reduceTMod, Int.cast_ofNat_Int, ↓reduceIte, false_implies, true_implies, zr7_0, argS, Zone.av, Zone.cs]
  intro b
  refine hK _ _ ?_; clear hK hQ K Q
  repeat refine awp_seq ?_
  refine awp_reg fun K Q hK hQ => ?_
  simp -implicitDefEqProofs (disch := first | omega | rfl) only [go_sem, Nat.reduceEqDiff, Nat.reduceAdd, Nat.reduceMul, Nat.reduceSub, Nat.reduceLeDiff, Nat.reduceLT, Int.reduceLE, Int.reduceLT, Int.reduceEq, Int.reduceAdd, Int.reduceMul, Int.reduceSub, Int.reduceNeg, Int.reduceToNat, Int.reduceDiv, Int.reduceMod, Int.reduceTDiv, Int.reduceTMod, Int.cast_ofNat_Int, ↓reduceIte, false_implies, true_implies, zr7_1]
  refine call_pure hP (f9) ?_
  simp -implicitDefEqProofs (disch := first | omega | rfl) only [go_sem, Nat.reduceEqDiff, Nat.reduceAdd, Nat.reduceMul, Nat.reduceSub, Nat.reduceLeDiff, Nat.reduceLT, Int.reduceLE, Int.reduceLT, Int.reduceEq, Int.reduceAdd, Int.reduceMul, Int.reduceSub, Int.reduceNeg, Int.reduceToNat, Int.reduceDiv, Int.reduceMod, Int.reduceTDiv, Int.reduceTMod, Int.cast_ofNat_Int, ↓reduceIte, false_implies, true_implies]
  refine hK _ _ ?_; clear hK hQ K Q
  have F := f10 z
  repeat refine awp_seq ?_
  refine awp_reg fun K Q hK hQ => ?_
  simp -implicitDefEqProofs (disch := first | omega | rfl) only [go_sem, Nat.reduceEqDiff, Nat.reduceAdd, Nat.reduceMul, Nat.reduceSub, Nat.reduceLeDiff, Nat.reduceLT, Int.reduceLE, Int.reduceLT, Int.reduceEq, Int.reduceAdd, Int.reduceMul, Int.reduceSub, Int.reduceNeg, Int.reduceToNat, Int.reduceDiv, Int.reduceMod, Int.reduceTDiv, Int.reduceTMod, Int.cast_ofNat_Int, ↓reduceIte, false_implies, true_implies, zr7_2]
  by_cases few : z.ch.length ≤ 100
  rotate_left
  · rw [decide_eq_false few] at F
    refine call_pure hP (F) ?_
    simp -implicitDefEqProofs (disch := first | omega | rfl) only [go_sem, Nat.reduceEqDiff, Nat.reduceAdd, Nat.reduceMul, Nat.reduceSub, Nat.reduceLeDiff, Nat.reduceLT, Int.reduceLE, Int.reduceLT, Int.reduceEq, Int.reduceAdd, Int.reduceMul, Int.reduceSub, Int.reduceNeg, Int.reduceToNat, Int.reduceDiv, Int.reduceMod, Int.reduceTDiv, Int.reduceTMod, Int.cast_ofNat_Int, ↓reduceIte, false_implies, true_implies]
    refine hK _ _ ?_; clear hK hQ K Q
    repeat refine awp_seq ?_
    refine awp_then (by rfl) ?_
    repeat refine awp_seq ?_
    refine awp_reg fun K Q hK hQ => ?_
    simp -implicitDefEqProofs (disch := first | omega | rfl) only [go_sem, Nat.reduceEqDiff, Nat.reduceAdd, Nat.reduceMul, Nat.reduceSub, Nat.reduceLeDiff, Nat.reduceLT, Int.reduceLE, Int.reduceLT, Int.reduceEq, Int.reduceAdd, Int.reduceMul, Int.reduceSub, Int.reduceNeg, Int.reduceToNat, Int.reduceDiv, Int.reduceMod, Int.reduceTDiv, Int.reduceTMod, Int.cast_ofNat_Int, ↓reduceIte, false_implies, true_implies, zr7_3]
    refine hK _ _ ?_; clear hK hQ K Q
    refine awp_ret ?_
    repeat' (first | refine then_ret ?_ | refine blk_ret ?_)
    refine ret_q ?_
    simp -implicitDefEqProofs (disch := first | omega | rfl) only [go_sem, Nat.reduceEqDiff, Nat.reduceAdd, Nat.reduceMul, Nat.reduceSub, Nat.reduceLeDiff, Nat.reduceLT, Int.reduceLE, Int.reduceLT, Int.reduceEq, Int.reduceAdd, Int.reduceMul, Int.reduceSub, Int.reduceNeg, Int.reduceToNat, Int.reduceDiv, Int.reduceMod, Int.reduceTDiv, Int.reduceTMod, Int.cast_ofNat_Int, ↓reduceIte, false_implies, true_implies]
    exact ⟨[], List.nil_sublist _, rfl⟩
  rw [decide_eq_true few] at F
  refine call_pure hP (F) ?_
  simp -implicitDefEqProofs (disch := first | omega | rfl) only [go_sem, Nat.reduceEqDiff, Nat.reduceAdd, Nat.reduceMul, Nat.reduceSub, Nat.reduceLeDiff, Nat.reduceLT, Int.reduceLE, Int.reduceLT, Int.reduceEq, Int.reduceAdd, Int.reduceMul, Int.reduceSub, Int.reduceNeg, Int.reduceToNat, Int.reduceDiv, Int.reduceMod, Int.reduceTDiv, Int.reduceTMod, Int.cast_ofNat_Int, ↓reduceIte, false_implies, true_implies]
  refine hK _ _ ?_; clear hK hQ K Q
  repeat refine awp_seq ?_
  refine awp_else (by rfl) ?_
  refine awp_skip ?_
  generalize hD : u % 73047 = D
  generalize hA : v % 105190560 = A
  have d0 : 0 ≤ D ∧ D ≤ 73046 := by omega
  have a0 : 0 ≤ A ∧ A ≤ 105190559 := by omega
  repeat refine awp_seq ?_
  refine awp_reg fun K Q hK hQ => ?_
  simp -implicitDefEqProofs (disch := first | omega | rfl) only [go_sem, Nat.reduceEqDiff, Nat.reduceAdd, Nat.reduceMul, Nat.reduceSub, Nat.reduceLeDiff, Nat.reduceLT, Int.reduceLE, Int.reduceLT, Int.reduceEq, Int.reduceAdd, Int.reduceMul, Int.reduceSub, Int.reduceNeg, Int.reduceToNat, Int.reduceDiv, Int.reduceMod, Int.reduceTDiv, Int.reduceTMod, Int.cast_ofNat_Int, ↓reduceIte, false_implies, true_implies, zr7_4, hD]
  refine hK _ _ ?_; clear hK hQ K Q
  repeat refine awp_seq ?_
  refine awp_reg fun K Q hK hQ => ?_
  simp -implicitDefEqProofs (disch := first | omega | rfl) only [go_sem, Nat.reduceEqDiff, Nat.reduceAdd, Nat.reduceMul, Nat.reduceSub, Nat.reduceLeDiff, Nat.reduceLT, Int.reduceLE, Int.reduceLT, Int.reduceEq, Int.reduceAdd, Int.reduceMul, Int.reduceSub, Int.reduceNeg, Int.reduceToNat, Int.reduceDiv, Int.reduceMod, Int.reduceTDiv, Int.reduceTMod, Int.cast_ofNat_Int, ↓reduceIte, false_implies, true_implies, zr7_5]
  refine call_pure hP (f15 z D) ?_
  simp -implicitDefEqProofs (disch := first | omega | rfl) only [go_sem, Nat.reduceEqDiff, Nat.reduceAdd, Nat.reduceMul, Nat.reduceSub, Nat.reduceLeDiff, Nat.reduceLT, Int.reduceLE, Int.reduceLT, Int.reduceEq, Int.reduceAdd, Int.reduceMul, Int.reduceSub, Int.reduceNeg, Int.reduceToNat, Int.reduceDiv, Int.reduceMod, Int.reduceTDiv, Int.reduceTMod, Int.cast_ofNat_Int, ↓reduceIte, false_implies, true_implies, tri]
  refine hK _ _ ?_; clear hK hQ K Q
  repeat refine awp_seq ?_
  refine awp_reg fun K Q hK hQ => ?_
  simp -implicitDefEqProofs (disch := first | omega | rfl) only [go_sem, Nat.reduceEqDiff, Nat.reduceAdd, Nat.reduceMul, Nat.reduceSub, Nat.reduceLeDiff, Nat.reduceLT, Int.reduceLE, Int.reduceLT, Int.reduceEq, Int.reduceAdd, Int.reduceMul, Int.reduceSub, Int.reduceNeg, Int.reduceToNat, Int.reduceDiv, Int.reduceMod, Int.reduceTDiv, Int.reduceTMod, Int.cast_ofNat_Int, ↓reduceIte, false_implies, true_implies, zr7_6]
  refine call_pure hP (f15 z (D + 1)) ?_
  simp -implicitDefEqProofs (disch := first | omega | rfl) only [go_sem, Nat.reduceEqDiff, Nat.reduceAdd, Nat.reduceMul, Nat.reduceSub, Nat.reduceLeDiff, Nat.reduceLT, Int.reduceLE, Int.reduceLT, Int.reduceEq, Int.reduceAdd, Int.reduceMul, Int.reduceSub, Int.reduceNeg, Int.reduceToNat, Int.reduceDiv, Int.reduceMod, Int.reduceTDiv, Int.reduceTMod, Int.cast_ofNat_Int, ↓reduceIte, false_implies, true_implies, tri]
  refine hK _ _ ?_; clear hK hQ K Q
  by_cases he : (spanR z D).2.2 = 0
  rotate_left
  · obtain ⟨z1, z2⟩ := span_err z D he
    repeat refine awp_seq ?_
    refine awp_reg fun K Q hK hQ => ?_
    simp -implicitDefEqProofs (disch := first | omega | rfl) only [go_sem, Nat.reduceEqDiff, Nat.reduceAdd, Nat.reduceMul, Nat.reduceSub, Nat.reduceLeDiff, Nat.reduceLT, Int.reduceLE, Int.reduceLT, Int.reduceEq, Int.reduceAdd, Int.reduceMul, Int.reduceSub, Int.reduceNeg, Int.reduceToNat, Int.reduceDiv, Int.reduceMod, Int.reduceTDiv, Int.reduceTMod, Int.cast_ofNat_Int, ↓reduceIte, false_implies, true_implies, zr7_7, he]
    refine hK _ _ ?_; clear hK hQ K Q
    repeat refine awp_seq ?_
    refine awp_then (by rfl) ?_
    repeat refine awp_seq ?_
    refine awp_reg fun K Q hK hQ => ?_
    simp -implicitDefEqProofs (disch := first | omega | rfl) only [go_sem, Nat.reduceEqDiff, Nat.reduceAdd, Nat.reduceMul, Nat.reduceSub, Nat.reduceLeDiff, Nat.reduceLT, Int.reduceLE, Int.reduceLT, Int.reduceEq, Int.reduceAdd, Int.reduceMul, Int.reduceSub, Int.reduceNeg, Int.reduceToNat, Int.reduceDiv, Int.reduceMod, Int.reduceTDiv, Int.reduceTMod, Int.cast_ofNat_Int, ↓reduceIte, false_implies, true_implies, zr7_8, z1, z2]
    refine hK _ _ ?_; clear hK hQ K Q
    refine awp_ret ?_
    repeat' (first | refine then_ret ?_ | refine blk_ret ?_)
    refine ret_q ?_
    simp -implicitDefEqProofs (disch := first | omega | rfl) only [go_sem, Nat.reduceEqDiff, Nat.reduceAdd, Nat.reduceMul, Nat.reduceSub, Nat.reduceLeDiff, Nat.reduceLT, Int.reduceLE, Int.reduceLT, Int.reduceEq, Int.reduceAdd, Int.reduceMul, Int.reduceSub, Int.reduceNeg, Int.reduceToNat, Int.reduceDiv, Int.reduceMod, Int.reduceTDiv, Int.reduceTMod, Int.cast_ofNat_Int, ↓reduceIte, false_implies, true_implies]
    exact ⟨[], List.nil_sublist _, rfl⟩
  obtain ⟨hv, _, _, i1, i2, e1, e2⟩ := span_ok z D he
  have ok := Zone.valid_ok hv
  have g1 : good z D 0 = true := by
    have : D ≤ 73048 := by omega
    simp [good, hv, d0, this]
  have g2 : good z (D + 1) 0 = true := by
    have h1 : 0 ≤ D + 1 := by omega
    have h2 : D + 1 ≤ 73048 := by omega
    simp [good, hv, h1, h2]
  obtain ⟨p0, p1, p2, p3⟩ := inst_val ok g1 i1
  obtain ⟨q0, q1, q2, q3⟩ := inst_val ok g2 i2
  have hft := inst_first ok g1 i1 _ _ rfl q0 (by omega)
  have hfa := inst_first ok g1 i1 _ A rfl a0.1
  have hnext : (spanR z (D + 1)).2.2 = 0 → (spanR z (D + 1)).1 = (instantR z (D + 1) 0 false).1 := fun h => (span_ok z (D + 1) h).2.2.2.2.2.1
  rw [← e1] at p0 p1 p2 p3 hft hfa
  rw [← e2] at hft hnext
  generalize (spanR z D).1 = x at *
  generalize (spanR z D).2.1 = y at *
  have n1 : ¬ y < x := by omega
  have n2 : ¬ x < 0 := by omega
  have n3 : ¬ 105190559 < x := by omega
  have B := loc_val hv p0 p1
  have C := loc_val hv a0.1 a0.2
  have LB := f11 z x
  have LA := f11 z A
  repeat refine awp_seq ?_
  refine awp_reg fun K Q hK hQ => ?_
  simp -implicitDefEqProofs (disch := first | omega | rfl) only [go_sem, Nat.reduceEqDiff, Nat.reduceAdd, Nat.reduceMul, Nat.reduceSub, Nat.reduceLeDiff, Nat.reduceLT, Int.reduceLE, Int.reduceLT, Int.reduceEq, Int.reduceAdd, Int.reduceMul, Int.reduceSub, Int.reduceNeg, Int.reduceToNat, Int.reduceDiv, Int.reduceMod, Int.reduceTDiv, Int.reduceTMod, Int.cast_ofNat_Int, ↓reduceIte, false_implies, true_implies, zr7_7, he]
  refine hK _ _ ?_; clear hK hQ K Q
  repeat refine awp_seq ?_
  refine awp_else (by rfl) ?_
  refine awp_skip ?_
  by_cases hf : (spanR z (D + 1)).2.2 = 0
  · have hn := hnext hf
    repeat refine awp_seq ?_
    refine awp_reg fun K Q hK hQ => ?_
    simp -implicitDefEqProofs (disch := first | omega | rfl) only [go_sem, Nat.reduceEqDiff, Nat.reduceAdd, Nat.reduceMul, Nat.reduceSub, Nat.reduceLeDiff, Nat.reduceLT, Int.reduceLE, Int.reduceLT, Int.reduceEq, Int.reduceAdd, Int.reduceMul, Int.reduceSub, Int.reduceNeg, Int.reduceToNat, Int.reduceDiv, Int.reduceMod, Int.reduceTDiv, Int.reduceTMod, Int.cast_ofNat_Int, ↓reduceIte, false_implies, true_implies, zr7_9, n1, n2, n3, hf, hn]
    refine hK _ _ ?_; clear hK hQ K Q
    repeat refine awp_seq ?_
    refine awp_else (by rfl) ?_
    refine awp_skip ?_
    rcases B with ⟨b1, b2⟩ | ⟨b1, b2⟩
    · exfalso
      omega
    rw [b2] at LB
    have b3 : D ≤ (x + offs z (seg z.ch x)) / 1440 := by omega
    by_cases hxa : x ≤ A
    · repeat refine awp_seq ?_
      refine awp_reg fun K Q hK hQ => ?_
      simp -implicitDefEqProofs (disch := first | omega | rfl) only [go_sem, Nat.reduceEqDiff, Nat.reduceAdd, Nat.reduceMul, Nat.reduceSub, Nat.reduceLeDiff, Nat.reduceLT, Int.reduceLE, Int.reduceLT, Int.reduceEq, Int.reduceAdd, Int.reduceMul, Int.reduceSub, Int.reduceNeg, Int.reduceToNat, Int.reduceDiv, Int.reduceMod, Int.reduceTDiv, Int.reduceTMod, Int.cast_ofNat_Int, ↓reduceIte, false_implies, true_implies, zr7_11, hA]
      refine hK _ _ ?_; clear hK hQ K Q
      repeat refine awp_seq ?_
      refine awp_reg fun K Q hK hQ => ?_
      simp -implicitDefEqProofs (disch := first | omega | rfl) only [go_sem, Nat.reduceEqDiff, Nat.reduceAdd, Nat.reduceMul, Nat.reduceSub, Nat.reduceLeDiff, Nat.reduceLT, Int.reduceLE, Int.reduceLT, Int.reduceEq, Int.reduceAdd, Int.reduceMul, Int.reduceSub, Int.reduceNeg, Int.reduceToNat, Int.reduceDiv, Int.reduceMod, Int.reduceTDiv, Int.reduceTMod, Int.cast_ofNat_Int, ↓reduceIte, false_implies, true_implies, zr7_12]
      refine call_pure hP (LA) ?_
      simp -implicitDefEqProofs (disch := first | omega | rfl) only [go_sem, Nat.reduceEqDiff, Nat.reduceAdd, Nat.reduceMul, Nat.reduceSub, Nat.reduceLeDiff, Nat.reduceLT, Int.reduceLE, Int.reduceLT, Int.reduceEq, Int.reduceAdd, Int.reduceMul, Int.reduceSub, Int.reduceNeg, Int.reduceToNat, Int.reduceDiv, Int.reduceMod, Int.reduceTDiv, Int.reduceTMod, Int.cast_ofNat_Int, ↓reduceIte, false_implies, true_implies, tri]
      refine hK _ _ ?_; clear hK hQ K Q
      repeat refine awp_seq ?_
      refine awp_reg fun K Q hK hQ => ?_
      simp -implicitDefEqProofs (disch := first | omega | rfl) only [go_sem, Nat.reduceEqDiff, Nat.reduceAdd, Nat.reduceMul, Nat.reduceSub, Nat.reduceLeDiff, Nat.reduceLT, Int.reduceLE, Int.reduceLT, Int.reduceEq, Int.reduceAdd, Int.reduceMul, Int.reduceSub, Int.reduceNeg, Int.reduceToNat, Int.reduceDiv, Int.reduceMod, Int.reduceTDiv, Int.reduceTMod, Int.cast_ofNat_Int, ↓reduceIte, false_implies, true_implies, zr7_13]
      refine call_pure hP (LB) ?_
      simp -implicitDefEqProofs (disch := first | omega | rfl) only [go_sem, Nat.reduceEqDiff, Nat.reduceAdd, Nat.reduceMul, Nat.reduceSub, Nat.reduceLeDiff, Nat.reduceLT, Int.reduceLE, Int.reduceLT, Int.reduceEq, Int.reduceAdd, Int.reduceMul, Int.reduceSub, Int.reduceNeg, Int.reduceToNat, Int.reduceDiv, Int.reduceMod, Int.reduceTDiv, Int.reduceTMod, Int.cast_ofNat_Int, ↓reduceIte, false_implies, true_implies, tri]
      refine hK _ _ ?_; clear hK hQ K Q
      repeat refine awp_seq ?_
      refine awp_reg fun K Q hK hQ => ?_
      simp -implicitDefEqProofs (disch := first | omega | rfl) only [go_sem, Nat.reduceEqDiff, Nat.reduceAdd, Nat.reduceMul, Nat.reduceSub, Nat.reduceLeDiff, Nat.reduceLT, Int.reduceLE, Int.reduceLT, Int.reduceEq, Int.reduceAdd, Int.reduceMul, Int.reduceSub, Int.reduceNeg, Int.reduceToNat, Int.reduceDiv, Int.reduceMod, Int.reduceTDiv, Int.reduceTMod, Int.cast_ofNat_Int, ↓reduceIte, false_implies, true_implies, zr7_14, b3, hxa]
      refine hK _ _ ?_; clear hK hQ K Q
      refine awp_ret ?_
      repeat' (first | refine then_ret ?_ | refine blk_ret ?_)
      refine ret_q ?_
      simp -implicitDefEqProofs (disch := first | omega | rfl) only [go_sem, Nat.reduceEqDiff, Nat.reduceAdd, Nat.reduceMul, Nat.reduceSub, Nat.reduceLeDiff, Nat.reduceLT, Int.reduceLE, Int.reduceLT, Int.reduceEq, Int.reduceAdd, Int.reduceMul, Int.reduceSub, Int.reduceNeg, Int.reduceToNat, Int.reduceDiv, Int.reduceMod, Int.reduceTDiv, Int.reduceTMod, Int.cast_ofNat_Int, ↓reduceIte, false_implies, true_implies]
      exact ⟨[], List.nil_sublist _, rfl⟩
    · rcases C with ⟨c1, c2⟩ | ⟨c1, c2⟩
      · rw [c2] at LA
        repeat refine awp_seq ?_
        refine awp_reg fun K Q hK hQ => ?_
        simp -implicitDefEqProofs (disch := first | omega | rfl) only [go_sem, Nat.reduceEqDiff, Nat.reduceAdd, Nat.reduceMul, Nat.reduceSub, Nat.reduceLeDiff, Nat.reduceLT, Int.reduceLE, Int.reduceLT, Int.reduceEq, Int.reduceAdd, Int.reduceMul, Int.reduceSub, Int.reduceNeg, Int.reduceToNat, Int.reduceDiv, Int.reduceMod, Int.reduceTDiv, Int.reduceTMod, Int.cast_ofNat_Int, ↓reduceIte, false_implies, true_implies, zr7_11, hA]
        refine hK _ _ ?_; clear hK hQ K Q
        repeat refine awp_seq ?_
        refine awp_reg fun K Q hK hQ => ?_
        simp -implicitDefEqProofs (disch := first | omega | rfl) only [go_sem, Nat.reduceEqDiff, Nat.reduceAdd, Nat.reduceMul, Nat.reduceSub, Nat.reduceLeDiff, Nat.reduceLT, Int.reduceLE, Int.reduceLT, Int.reduceEq, Int.reduceAdd, Int.reduceMul, Int.reduceSub, Int.reduceNeg, Int.reduceToNat, Int.reduceDiv, Int.reduceMod, Int.reduceTDiv, Int.reduceTMod, Int.cast_ofNat_Int, ↓reduceIte, false_implies, true_implies, zr7_12]
        refine call_pure hP (LA) ?_
        simp -implicitDefEqProofs (disch := first | omega | rfl) only [go_sem, Nat.reduceEqDiff, Nat.reduceAdd, Nat.reduceMul, Nat.reduceSub, Nat.reduceLeDiff, Nat.reduceLT, Int.reduceLE, Int.reduceLT, Int.reduceEq, Int.reduceAdd, Int.reduceMul, Int.reduceSub, Int.reduceNeg, Int.reduceToNat, Int.reduceDiv, Int.reduceMod, Int.reduceTDiv, Int.reduceTMod, Int.cast_ofNat_Int, ↓reduceIte, false_implies, true_implies, tri]
        refine hK _ _ ?_; clear hK hQ K Q
        repeat refine awp_seq ?_
        refine awp_reg fun K Q hK hQ => ?_
        simp -implicitDefEqProofs (disch := first | omega | rfl) only [go_sem, Nat.reduceEqDiff, Nat.reduceAdd, Nat.reduceMul, Nat.reduceSub, Nat.reduceLeDiff, Nat.reduceLT, Int.reduceLE, Int.reduceLT, Int.reduceEq, Int.reduceAdd, Int.reduceMul, Int.reduceSub, Int.reduceNeg, Int.reduceToNat, Int.reduceDiv, Int.reduceMod, Int.reduceTDiv, Int.reduceTMod, Int.cast_ofNat_Int, ↓reduceIte, false_implies, true_implies, zr7_13]
        refine call_pure hP (LB) ?_
        simp -implicitDefEqProofs (disch := first | omega | rfl) only [go_sem, Nat.reduceEqDiff, Nat.reduceAdd, Nat.reduceMul, Nat.reduceSub, Nat.reduceLeDiff, Nat.reduceLT, Int.reduceLE, Int.reduceLT, Int.reduceEq, Int.reduceAdd, Int.reduceMul, Int.reduceSub, Int.reduceNeg, Int.reduceToNat, Int.reduceDiv, Int.reduceMod, Int.reduceTDiv, Int.reduceTMod, Int.cast_ofNat_Int, ↓reduceIte, false_implies, true_implies, tri]
        refine hK _ _ ?_; clear hK hQ K Q
        repeat refine awp_seq ?_
        refine awp_reg fun K Q hK hQ => ?_
        simp -implicitDefEqProofs (disch := first | omega | rfl) only [go_sem, Nat.reduceEqDiff, Nat.reduceAdd, Nat.reduceMul, Nat.reduceSub, Nat.reduceLeDiff, Nat.reduceLT, Int.reduceLE, Int.reduceLT, Int.reduceEq, Int.reduceAdd, Int.reduceMul, Int.reduceSub, Int.reduceNeg, Int.reduceToNat, Int.reduceDiv, Int.reduceMod, Int.reduceTDiv, Int.reduceTMod, Int.cast_ofNat_Int, ↓reduceIte, false_implies, true_implies, zr7_14, b3, hxa]
        refine hK _ _ ?_; clear hK hQ K Q
        refine awp_ret ?_
        repeat' (first | refine then_ret ?_ | refine blk_ret ?_)
        refine ret_q ?_
        simp -implicitDefEqProofs (disch := first | omega | rfl) only [go_sem, Nat.reduceEqDiff, Nat.reduceAdd, Nat.reduceMul, Nat.reduceSub, Nat.reduceLeDiff, Nat.reduceLT, Int.reduceLE, Int.reduceLT, Int.reduceEq, Int.reduceAdd, Int.reduceMul, Int.reduceSub, Int.reduceNeg, Int.reduceToNat, Int.reduceDiv, Int.reduceMod, Int.reduceTDiv, Int.reduceTMod, Int.cast_ofNat_Int, ↓reduceIte, false_implies, true_implies]
        exact ⟨[], List.nil_sublist _, rfl⟩
      · rw [c2] at LA
        have hlt : ¬ D * 1440 + 0 ≤ A + offs z (seg z.ch A) := fun h => hxa (hfa h)
        have c3 : (A + offs z (seg z.ch A)) / 1440 < D := by omega
        repeat refine awp_seq ?_
        refine awp_reg fun K Q hK hQ => ?_
        simp -implicitDefEqProofs (disch := first | omega | rfl) only [go_sem, Nat.reduceEqDiff, Nat.reduceAdd, Nat.reduceMul, Nat.reduceSub, Nat.reduceLeDiff, Nat.reduceLT, Int.reduceLE, Int.reduceLT, Int.reduceEq, Int.reduceAdd, Int.reduceMul, Int.reduceSub, Int.reduceNeg, Int.reduceToNat, Int.reduceDiv, Int.reduceMod, Int.reduceTDiv, Int.reduceTMod, Int.cast_ofNat_Int, ↓reduceIte, false_implies, true_implies, zr7_11, hA]
        refine hK _ _ ?_; clear hK hQ K Q
        repeat refine awp_seq ?_
        refine awp_reg fun K Q hK hQ => ?_
        simp -implicitDefEqProofs (disch := first | omega | rfl) only [go_sem, Nat.reduceEqDiff, Nat.reduceAdd, Nat.reduceMul, Nat.reduceSub, Nat.reduceLeDiff, Nat.reduceLT, Int.reduceLE, Int.reduceLT, Int.reduceEq, Int.reduceAdd, Int.reduceMul, Int.reduceSub, Int.reduceNeg, Int.reduceToNat, Int.reduceDiv, Int.reduceMod, Int.reduceTDiv, Int.reduceTMod, Int.cast_ofNat_Int, ↓reduceIte, false_implies, true_implies, zr7_12]
        refine call_pure hP (LA) ?_
        simp -implicitDefEqProofs (disch := first | omega | rfl) only [go_sem, Nat.reduceEqDiff, Nat.reduceAdd, Nat.reduceMul, Nat.reduceSub, Nat.reduceLeDiff, Nat.reduceLT, Int.reduceLE, Int.reduceLT, Int.reduceEq, Int.reduceAdd, Int.reduceMul, Int.reduceSub, Int.reduceNeg, Int.reduceToNat, Int.reduceDiv, Int.reduceMod, Int.reduceTDiv, Int.reduceTMod, Int.cast_ofNat_Int, ↓reduceIte, false_implies, true_implies, tri]
        refine hK _ _ ?_; clear hK hQ K Q
        repeat refine awp_seq ?_
        refine awp_reg fun K Q hK hQ => ?_
        simp -implicitDefEqProofs (disch := first | omega | rfl) only [go_sem, Nat.reduceEqDiff, Nat.reduceAdd, Nat.reduceMul, Nat.reduceSub, Nat.reduceLeDiff, Nat.reduceLT, Int.reduceLE, Int.reduceLT, Int.reduceEq, Int.reduceAdd, Int.reduceMul, Int.reduceSub, Int.reduceNeg, Int.reduceToNat, Int.reduceDiv, Int.reduceMod, Int.reduceTDiv, Int.reduceTMod, Int.cast_ofNat_Int, ↓reduceIte, false_implies, true_implies, zr7_13]
        refine call_pure hP (LB) ?_
        simp -implicitDefEqProofs (disch := first | omega | rfl) only [go_sem, Nat.reduceEqDiff, Nat.reduceAdd, Nat.reduceMul, Nat.reduceSub, Nat.reduceLeDiff, Nat.reduceLT, Int.reduceLE, Int.reduceLT, Int.reduceEq, Int.reduceAdd, Int.reduceMul, Int.reduceSub, Int.reduceNeg, Int.reduceToNat, Int.reduceDiv, Int.reduceMod, Int.reduceTDiv, Int.reduceTMod, Int.cast_ofNat_Int, ↓reduceIte, false_implies, true_implies, tri]
        refine hK _ _ ?_; clear hK hQ K Q
        repeat refine awp_seq ?_
        refine awp_reg fun K Q hK hQ => ?_
        simp -implicitDefEqProofs (disch := first | omega | rfl) only [go_sem, Nat.reduceEqDiff, Nat.reduceAdd, Nat.reduceMul, Nat.reduceSub, Nat.reduceLeDiff, Nat.reduceLT, Int.reduceLE, Int.reduceLT, Int.reduceEq, Int.reduceAdd, Int.reduceMul, Int.reduceSub, Int.reduceNeg, Int.reduceToNat, Int.reduceDiv, Int.reduceMod, Int.reduceTDiv, Int.reduceTMod, Int.cast_ofNat_Int, ↓reduceIte, false_implies, true_implies, zr7_14, b3, hxa, c3]
        refine hK _ _ ?_; clear hK hQ K Q
        refine awp_ret ?_
        repeat' (first | refine then_ret ?_ | refine blk_ret ?_)
        refine ret_q ?_
        simp -implicitDefEqProofs (disch := first | omega | rfl) only [go_sem, Nat.reduceEqDiff, Nat.reduceAdd, Nat.reduceMul, Nat.reduceSub, Nat.reduceLeDiff, Nat.reduceLT, Int.reduceLE, Int.reduceLT, Int.reduceEq, Int.reduceAdd, Int.reduceMul, Int.reduceSub, Int.reduceNeg, Int.reduceToNat, Int.reduceDiv, Int.reduceMod, Int.reduceTDiv, Int.reduceTMod, Int.cast_ofNat_Int, ↓reduceIte, false_implies, true_implies]
        exact ⟨[], List.nil_sublist _, rfl⟩
  · repeat refine awp_seq ?_
    refine awp_reg fun K Q hK hQ => ?_
    simp -implicitDefEqProofs (disch := first | omega | rfl) only [go_sem, Nat.reduceEqDiff, Nat.reduceAdd, Nat.reduceMul, Nat.reduceSub, Nat.reduceLeDiff, Nat.reduceLT, Int.reduceLE, Int.reduceLT, Int.reduceEq, Int.reduceAdd, Int.reduceMul, Int.reduceSub, Int.reduceNeg, Int.reduceToNat, Int.reduceDiv, Int.reduceMod, Int.reduceTDiv, Int.reduceTMod, Int.cast_ofNat_Int, ↓reduceIte, false_implies, true_implies, zr7_9, n1, n2, n3, hf]
    refine hK _ _ ?_; clear hK hQ K Q
    repeat refine awp_seq ?_
    refine awp_else (by rfl) ?_
    refine awp_skip ?_
    rcases B with ⟨b1, b2⟩ | ⟨b1, b2⟩
    · exfalso
      omega
    rw [b2] at LB
    have b3 : D ≤ (x + offs z (seg z.ch x)) / 1440 := by omega
    by_cases hxa : x ≤ A
    · repeat refine awp_seq ?_
      refine awp_reg fun K Q hK hQ => ?_
      simp -implicitDefEqProofs (disch := first | omega | rfl) only [go_sem, Nat.reduceEqDiff, Nat.reduceAdd, Nat.reduceMul, Nat.reduceSub, Nat.reduceLeDiff, Nat.reduceLT, Int.reduceLE, Int.reduceLT, Int.reduceEq, Int.reduceAdd, Int.reduceMul, Int.reduceSub, Int.reduceNeg, Int.reduceToNat, Int.reduceDiv, Int.reduceMod, Int.reduceTDiv, Int.reduceTMod, Int.cast_ofNat_Int, ↓reduceIte, false_implies, true_implies, zr7_11, hA]
      refine hK _ _ ?_; clear hK hQ K Q
      repeat refine awp_seq ?_
      refine awp_reg fun K Q hK hQ => ?_
      simp -implicitDefEqProofs (disch := first | omega | rfl) only [go_sem, Nat.reduceEqDiff, Nat.reduceAdd, Nat.reduceMul, Nat.reduceSub, Nat.reduceLeDiff, Nat.reduceLT, Int.reduceLE, Int.reduceLT, Int.reduceEq, Int.reduceAdd, Int.reduceMul, Int.reduceSub, Int.reduceNeg, Int.reduceToNat, Int.reduceDiv, Int.reduceMod, Int.reduceTDiv, Int.reduceTMod, Int.cast_ofNat_Int, ↓reduceIte, false_implies, true_implies, zr7_12]
      refine call_pure hP (LA) ?_
      simp -implicitDefEqProofs (disch := first | omega | rfl) only [go_sem, Nat.reduceEqDiff, Nat.reduceAdd, Nat.reduceMul, Nat.reduceSub, Nat.reduceLeDiff, Nat.reduceLT, Int.reduceLE, Int.reduceLT, Int.reduceEq, Int.reduceAdd, Int.reduceMul, Int.reduceSub, Int.reduceNeg, Int.reduceToNat, Int.reduceDiv, Int.reduceMod, Int.reduceTDiv, Int.reduceTMod, Int.cast_ofNat_Int, ↓reduceIte, false_implies, true_implies, tri]
      refine hK _ _ ?_; clear hK hQ K Q
      repeat refine awp_seq ?_
      refine awp_reg fun K Q hK hQ => ?_
      simp -implicitDefEqProofs (disch := first | omega | rfl) only [go_sem, Nat.reduceEqDiff, Nat.reduceAdd, Nat.reduceMul, Nat.reduceSub, Nat.reduceLeDiff, Nat.reduceLT, Int.reduceLE, Int.reduceLT, Int.reduceEq, Int.reduceAdd, Int.reduceMul, Int.reduceSub, Int.reduceNeg, Int.reduceToNat, Int.reduceDiv, Int.reduceMod, Int.reduceTDiv, Int.reduceTMod, Int.cast_ofNat_Int, ↓reduceIte, false_implies, true_implies, zr7_13]
      refine call_pure hP (LB) ?_
      simp -implicitDefEqProofs (disch := first | omega | rfl) only [go_sem, Nat.reduceEqDiff, Nat.reduceAdd, Nat.reduceMul, Nat.reduceSub, Nat.reduceLeDiff, Nat.reduceLT, Int.reduceLE, Int.reduceLT, Int.reduceEq, Int.reduceAdd, Int.reduceMul, Int.reduceSub, Int.reduceNeg, Int.reduceToNat, Int.reduceDiv, Int.reduceMod, Int.reduceTDiv, Int.reduceTMod, Int.cast_ofNat_Int, ↓reduceIte, false_implies, true_implies, tri]
      refine hK _ _ ?_; clear hK hQ K Q
      repeat refine awp_seq ?_
      refine awp_reg fun K Q hK hQ => ?_
      simp -implicitDefEqProofs (disch := first | omega | rfl) only [go_sem, Nat.reduceEqDiff, Nat.reduceAdd, Nat.reduceMul, Nat.reduceSub, Nat.reduceLeDiff, Nat.reduceLT, Int.reduceLE, Int.reduceLT, Int.reduceEq, Int.reduceAdd, Int.reduceMul, Int.reduceSub, Int.reduceNeg, Int.reduceToNat, Int.reduceDiv, Int.reduceMod, Int.reduceTDiv, Int.reduceTMod, Int.cast_ofNat_Int, ↓reduceIte, false_implies, true_implies, zr7_14, b3, hxa]
      refine hK _ _ ?_; clear hK hQ K Q
      refine awp_ret ?_
      repeat' (first | refine then_ret ?_ | refine blk_ret ?_)
      refine ret_q ?_
      simp -implicitDefEqProofs (disch := first | omega | rfl) only [go_sem, Nat.reduceEqDiff, Nat.reduceAdd, Nat.reduceMul, Nat.reduceSub, Nat.reduceLeDiff, Nat.reduceLT, Int.reduceLE, Int.reduceLT, Int.reduceEq, Int.reduceAdd, Int.reduceMul, Int.reduceSub, Int.reduceNeg, Int.reduceToNat, Int.reduceDiv, Int.reduceMod, Int.reduceTDiv, Int.reduceTMod, Int.cast_ofNat_Int, ↓reduceIte, false_implies, true_implies]
      exact ⟨[], List.nil_sublist _, rfl⟩
    · rcases C with ⟨c1, c2⟩ | ⟨c1, c2⟩
      · rw [c2] at LA
        repeat refine awp_seq ?_
        refine awp_reg fun K Q hK hQ => ?_
        simp -implicitDefEqProofs (disch := first | omega | rfl) only [go_sem, Nat.reduceEqDiff, Nat.reduceAdd, Nat.reduceMul, Nat.reduceSub, Nat.reduceLeDiff, Nat.reduceLT, Int.reduceLE, Int.reduceLT, Int.reduceEq, Int.reduceAdd, Int.reduceMul, Int.reduceSub, Int.reduceNeg, Int.reduceToNat, Int.reduceDiv, Int.reduceMod, Int.reduceTDiv, Int.reduceTMod, Int.cast_ofNat_Int, ↓reduceIte, false_implies, true_implies, zr7_11, hA]
        refine hK _ _ ?_; clear hK hQ K Q
        repeat refine awp_seq ?_
        refine awp_reg fun K Q hK hQ => ?_
        simp -implicitDefEqProofs (disch := first | omega | rfl) only [go_sem, Nat.reduceEqDiff, Nat.reduceAdd, Nat.reduceMul, Nat.reduceSub, Nat.reduceLeDiff, Nat.reduceLT, Int.reduceLE, Int.reduceLT, Int.reduceEq, Int.reduceAdd, Int.reduceMul, Int.reduceSub, Int.reduceNeg, Int.reduceToNat, Int.reduceDiv, Int.reduceMod, Int.reduceTDiv, Int.reduceTMod, Int.cast_ofNat_Int, ↓reduceIte, false_implies, true_implies, zr7_12]
        refine call_pure hP (LA) ?_
        simp -implicitDefEqProofs (disch := first | omega | rfl) only [go_sem, Nat.reduceEqDiff, Nat.reduceAdd, Nat.reduceMul, Nat.reduceSub, Nat.reduceLeDiff, Nat.reduceLT, Int.reduceLE, Int.reduceLT, Int.reduceEq, Int.reduceAdd, Int.reduceMul, Int.reduceSub, Int.reduceNeg, Int.reduceToNat, Int.reduceDiv, Int.reduceMod, Int.reduceTDiv, Int.reduceTMod, Int.cast_ofNat_Int, ↓reduceIte, false_implies, true_implies, tri]
        refine hK _ _ ?_; clear hK hQ K Q
        repeat refine awp_seq ?_
        refine awp_reg fun K Q hK hQ => ?_
        simp -implicitDefEqProofs (disch := first | omega | rfl) only [go_sem, Nat.reduceEqDiff, Nat.reduceAdd, Nat.reduceMul, Nat.reduceSub, Nat.reduceLeDiff, Nat.reduceLT, Int.reduceLE, Int.reduceLT, Int.reduceEq, Int.reduceAdd, Int.reduceMul, Int.reduceSub, Int.reduceNeg, Int.reduceToNat, Int.reduceDiv, Int.reduceMod, Int.reduceTDiv, Int.reduceTMod, Int.cast_ofNat_Int, ↓reduceIte, false_implies, true_implies, zr7_13]
        refine call_pure hP (LB) ?_
        simp -implicitDefEqProofs (disch := first | omega | rfl) only [go_sem, Nat.reduceEqDiff, Nat.reduceAdd, Nat.reduceMul, Nat.reduceSub, Nat.reduceLeDiff, Nat.reduceLT, Int.reduceLE, Int.reduceLT, Int.reduceEq, Int.reduceAdd, Int.reduceMul, Int.reduceSub, Int.reduceNeg, Int.reduceToNat, Int.reduceDiv, Int.reduceMod, Int.reduceTDiv, Int.reduceTMod, Int.cast_ofNat_Int, ↓reduceIte, false_implies, true_implies, tri]
        refine hK _ _ ?_; clear hK hQ K Q
        repeat refine awp_seq ?_
        refine awp_reg fun K Q hK hQ => ?_
        simp -implicitDefEqProofs (disch := first | omega | rfl) only [go_sem, Nat.reduceEqDiff, Nat.reduceAdd, Nat.reduceMul, Nat.reduceSub, Nat.reduceLeDiff, Nat.reduceLT, Int.reduceLE, Int.reduceLT, Int.reduceEq, Int.reduceAdd, Int.reduceMul, Int.reduceSub, Int.reduceNeg, Int.reduceToNat, Int.reduceDiv, Int.reduceMod, Int.reduceTDiv, Int.reduceTMod, Int.cast_ofNat_Int, ↓reduceIte, false_implies, true_implies, zr7_14, b3, hxa]
        refine hK _ _ ?_; clear hK hQ K Q
        refine awp_ret ?_
        repeat' (first | refine then_ret ?_ | refine blk_ret ?_)
        refine ret_q ?_
        simp -implicitDefEqProofs (disch := first | omega | rfl) only [go_sem, Nat.reduceEqDiff, Nat.reduceAdd, Nat.reduceMul, Nat.reduceSub, Nat.reduceLeDiff, Nat.reduceLT, Int.reduceLE, Int.reduceLT, Int.reduceEq, Int.reduceAdd, Int.reduceMul, Int.reduceSub, Int.reduceNeg, Int.reduceToNat, Int.reduceDiv, Int.reduceMod, Int.reduceTDiv, Int.reduceTMod, Int.cast_ofNat_Int, ↓reduceIte, false_implies, true_implies]
        exact ⟨[], List.nil_sublist _, rfl⟩
      · rw [c2] at LA
        have hlt : ¬ D * 1440 + 0 ≤ A + offs z (seg z.ch A) := fun h => hxa (hfa h)
        have c3 : (A + offs z (seg z.ch A)) / 1440 < D := by omega
        repeat refine awp_seq ?_
        refine awp_reg fun K Q hK hQ => ?_
        simp -implicitDefEqProofs (disch := first | omega | rfl) only [go_sem, Nat.reduceEqDiff, Nat.reduceAdd, Nat.reduceMul, Nat.reduceSub, Nat.reduceLeDiff, Nat.reduceLT, Int.reduceLE, Int.reduceLT, Int.reduceEq, Int.reduceAdd, Int.reduceMul, Int.reduceSub, Int.reduceNeg, Int.reduceToNat, Int.reduceDiv, Int.reduceMod, Int.reduceTDiv, Int.reduceTMod, Int.cast_ofNat_Int, ↓reduceIte, false_implies, true_implies, zr7_11, hA]
        refine hK _ _ ?_; clear hK hQ K Q
        repeat refine awp_seq ?_
        refine awp_reg fun K Q hK hQ => ?_
        simp -implicitDefEqProofs (disch := first | omega | rfl) only [go_sem, Nat.reduceEqDiff, Nat.reduceAdd, Nat.reduceMul, Nat.reduceSub, Nat.reduceLeDiff, Nat.reduceLT, Int.reduceLE, Int.reduceLT, Int.reduceEq, Int.reduceAdd, Int.reduceMul, Int.reduceSub, Int.reduceNeg, Int.reduceToNat, Int.reduceDiv, Int.reduceMod, Int.reduceTDiv, Int.reduceTMod, Int.cast_ofNat_Int, ↓reduceIte, false_implies, true_implies, zr7_12]
        refine call_pure hP (LA) ?_
        simp -implicitDefEqProofs (disch := first | omega | rfl) only [go_sem, Nat.reduceEqDiff, Nat.reduceAdd, Nat.reduceMul, Nat.reduceSub, Nat.reduceLeDiff, Nat.reduceLT, Int.reduceLE, Int.reduceLT, Int.reduceEq, Int.reduceAdd, Int.reduceMul, Int.reduceSub, Int.reduceNeg, Int.reduceToNat, Int.reduceDiv, Int.reduceMod, Int.reduceTDiv, Int.reduceTMod, Int.cast_ofNat_Int, ↓reduceIte, false_implies, true_implies, tri]
        refine hK _ _ ?_; clear hK hQ K Q
        repeat refine awp_seq ?_
        refine awp_reg fun K Q hK hQ => ?_
        simp -implicitDefEqProofs (disch := first | omega | rfl) only [go_sem, Nat.reduceEqDiff, Nat.reduceAdd, Nat.reduceMul, Nat.reduceSub, Nat.reduceLeDiff, Nat.reduceLT, Int.reduceLE, Int.reduceLT, Int.reduceEq, Int.reduceAdd, Int.reduceMul, Int.reduceSub, Int.reduceNeg, Int.reduceToNat, Int.reduceDiv, Int.reduceMod, Int.reduceTDiv, Int.reduceTMod, Int.cast_ofNat_Int, ↓reduceIte, false_implies, true_implies, zr7_13]
        refine call_pure hP (LB) ?_
        simp -implicitDefEqProofs (disch := first | omega | rfl) only [go_sem, Nat.reduceEqDiff, Nat.reduceAdd, Nat.reduceMul, Nat.reduceSub, Nat.reduceLeDiff, Nat.reduceLT, Int.reduceLE, Int.reduceLT, Int.reduceEq, Int.reduceAdd, Int.reduceMul, Int.reduceSub, Int.reduceNeg, Int.reduceToNat, Int.reduceDiv, Int.reduceMod, Int.reduceTDiv, Int.reduceTMod, Int.cast_ofNat_Int, ↓reduceIte, false_implies, true_implies, tri]
        refine hK _ _ ?_; clear hK hQ K Q
        repeat refine awp_seq ?_
        refine awp_reg fun K Q hK hQ => ?_
        simp -implicitDefEqProofs (disch := first | omega | rfl) only [go_sem, Nat.reduceEqDiff, Nat.reduceAdd, Nat.reduceMul, Nat.reduceSub, Nat.reduceLeDiff, Nat.reduceLT, Int.reduceLE, Int.reduceLT, Int.reduceEq, Int.reduceAdd, Int.reduceMul, Int.reduceSub, Int.reduceNeg, Int.reduceToNat, Int.reduceDiv, Int.reduceMod, Int.reduceTDiv, Int.reduceTMod, Int.cast_ofNat_Int, ↓reduceIte, false_implies, true_implies, zr7_14, b3, hxa, c3]
        refine hK _ _ ?_; clear hK hQ K Q
        refine awp_ret ?_
        repeat' (first | refine then_ret ?_ | refine blk_ret ?_)
        refine ret_q ?_
        simp -implicitDefEqProofs (disch := first | omega | rfl) only [go_sem, Nat.reduceEqDiff, Nat.reduceAdd, Nat.reduceMul, Nat.reduceSub, Nat.reduceLeDiff, Nat.reduceLT, Int.reduceLE, Int.reduceLT, Int.reduceEq, Int.reduceAdd, Int.reduceMul, Int.reduceSub, Int.reduceNeg, Int.reduceToNat, Int.reduceDiv, Int.reduceMod, Int.reduceTDiv, Int.reduceTMod, Int.cast_ofNat_Int, ↓reduceIte, false_implies, true_implies]
        exact ⟨[], List.nil_sublist _, rfl⟩
end Go.Proofs.Zt
