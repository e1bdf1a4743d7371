import Derived.Test.YtkmnhomehejppaaZtD
set_option linter.unusedSimpArgs false
set_option linter.unusedVariables false
set_option linter.deprecated false
namespace Go.Proofs.Zt
open Go.Aw

/-- a slice that grows by 'append' -/
def accV (key : Nat) (bo : Option Nat) (n : Nat) : AV := match bo with | none => .nil | some b => .row key b 0 n 1
def accO (key : Nat) (bo : Option Nat) (l : List Int) : Own := match bo with | none => [] | some b => [(key, b, .cells (l.map (.int .i64 ·)))]

theorem hits_succ (z : Zone) (l : Int) (k : Nat) : hits z l (k + 1) = hits z l k ++ hit z l k := by
  simp [hits, List.range_succ]
theorem hit_len (z : Zone) (l : Int) (k : Nat) : (hit z l k).length ≤ 1 := by
  unfold hit
  split <;> simp
theorem hits_len (z : Zone) (l : Int) (k : Nat) : (hits z l k).length ≤ k := by
  induction k with
  | zero => simp [hits]
  | succ k ih => rw [hits_succ, List.length_append]; have := hit_len z l k; omega

theorem frz_acc (key : Nat) (bo : Option Nat) (l : List Int) (hb : bo = none → l = []) : Frz (accO key bo l) (accV key bo l.length) (ints l) := by
  cases bo with
  | none => rw [hb rfl]; exact .nil
  | some b =>
    refine Frz.row1 (cs := l.map (.int .i64 ·)) (by simp [accO, Own.find]) (by simp) (fun x hx => ?_) (fun i x hx => hx)
    obtain ⟨n, _, rfl⟩ := List.mem_map.1 hx
    rfl

theorem f19 (a c : List Int) (hl : a.length ≤ 1000000) : PureC Try.prog 19 [ints a, ints c] (.bool (decide (a = c))) := by
  refine fn_intro' 26 Try.func19 nt19 ok19 res19 (by simp) fun X hP hn hd hr => ?_
  repeat refine awp_seq ?_
  refine awp_reg fun K Q hK hQ => ?_
  simp -implicitDefEqProofs (disch := first | omega | rfl) only [go_sem, Nat.reduceEqDiff, Nat.reduceAdd, Nat.reduceMul, Nat.reduceSub, Nat.reduceLeDiff, Nat.reduceLT, Int.reduceLE, Int.reduceLT, Int.reduceEq, Int.reduceAdd, Int.reduceMul, Int.reduceSub, Int.reduceNeg, Int.reduceToNat, Int.reduceDiv, Int.reduceMod, Int.reduceTDiv, Int.reduceTMod, Int.cast_ofNat_Int, ↓reduceIte, false_implies, true_implies, zr19_0, argS]
  refine hK _ _ ?_; clear hK hQ K Q
  by_cases h0 : (a.length : Int) = c.length
  rotate_left
  · repeat refine awp_seq ?_
    refine awp_reg fun K Q hK hQ => ?_
    simp -implicitDefEqProofs (disch := first | omega | rfl) only [go_sem, Nat.reduceEqDiff, Nat.reduceAdd, Nat.reduceMul, Nat.reduceSub, Nat.reduceLeDiff, Nat.reduceLT, Int.reduceLE, Int.reduceLT, Int.reduceEq, Int.reduceAdd, Int.reduceMul, Int.reduceSub, Int.reduceNeg, Int.reduceToNat, Int.reduceDiv, Int.reduceMod, Int.reduceTDiv, Int.reduceTMod, Int.cast_ofNat_Int, ↓reduceIte, false_implies, true_implies, zr19_1, ints, List.length_map, h0]
    refine hK _ _ ?_; clear hK hQ K Q
    repeat refine awp_seq ?_
    refine awp_then (by rfl) ?_
    repeat refine awp_seq ?_
    refine awp_reg fun K Q hK hQ => ?_
    simp -implicitDefEqProofs (disch := first | omega | rfl) only [go_sem, Nat.reduceEqDiff, Nat.reduceAdd, Nat.reduceMul, Nat.reduceSub, Nat.reduceLeDiff, Nat.reduceLT, Int.reduceLE, Int.reduceLT, Int.reduceEq, Int.reduceAdd, Int.reduceMul, Int.reduceSub, Int.reduceNeg, Int.reduceToNat, Int.reduceDiv, Int.reduceMod, Int.reduceTDiv, Int.reduceTMod, Int.cast_ofNat_Int, ↓reduceIte, false_implies, true_implies, zr19_2]
    refine hK _ _ ?_; clear hK hQ K Q
    refine awp_ret ?_
    repeat' (first | refine then_ret ?_ | refine blk_ret ?_)
    refine ret_q ?_
    simp -implicitDefEqProofs (disch := first | omega | rfl) only [go_sem, Nat.reduceEqDiff, Nat.reduceAdd, Nat.reduceMul, Nat.reduceSub, Nat.reduceLeDiff, Nat.reduceLT, Int.reduceLE, Int.reduceLT, Int.reduceEq, Int.reduceAdd, Int.reduceMul, Int.reduceSub, Int.reduceNeg, Int.reduceToNat, Int.reduceDiv, Int.reduceMod, Int.reduceTDiv, Int.reduceTMod, Int.cast_ofNat_Int, ↓reduceIte, false_implies, true_implies]
    exact leaves_none (by congr 1; exact (decide_eq_false (fun h => h0 (by rw [h]))).symm)
  repeat refine awp_seq ?_
  refine awp_reg fun K Q hK hQ => ?_
  simp -implicitDefEqProofs (disch := first | omega | rfl) only [go_sem, Nat.reduceEqDiff, Nat.reduceAdd, Nat.reduceMul, Nat.reduceSub, Nat.reduceLeDiff, Nat.reduceLT, Int.reduceLE, Int.reduceLT, Int.reduceEq, Int.reduceAdd, Int.reduceMul, Int.reduceSub, Int.reduceNeg, Int.reduceToNat, Int.reduceDiv, Int.reduceMod, Int.reduceTDiv, Int.reduceTMod, Int.cast_ofNat_Int, ↓reduceIte, false_implies, true_implies, zr19_1, ints, List.length_map, h0]
  refine hK _ _ ?_; clear hK hQ K Q
  repeat refine awp_seq ?_
  refine awp_else (by rfl) ?_
  refine awp_skip ?_
  repeat refine awp_seq ?_
  refine awp_reg fun K Q hK hQ => ?_
  simp -implicitDefEqProofs (disch := first | omega | rfl) only [go_sem, Nat.reduceEqDiff, Nat.reduceAdd, Nat.reduceMul, Nat.reduceSub, Nat.reduceLeDiff, Nat.reduceLT, Int.reduceLE, Int.reduceLT, Int.reduceEq, Int.reduceAdd, Int.reduceMul, Int.reduceSub, Int.reduceNeg, Int.reduceToNat, Int.reduceDiv, Int.reduceMod, Int.reduceTDiv, Int.reduceTMod, Int.cast_ofNat_Int, ↓reduceIte, false_implies, true_implies, zr19_3]
  refine hK _ _ ?_; clear hK hQ K Q
  repeat refine awp_seq ?_
  refine awp_block ?_
  refine awp_loop (ι := {k : Nat // k ≤ a.length ∧ ∀ j, j < k → a[j]! = c[j]!}) (fun k => [(5, .int .i64 k.1), (0, ints a), (1, ints c)]) (fun _ => []) (fun k => a.length - k.1) ⟨0, Nat.zero_le _, fun j hj => by omega⟩ ?_ ?_
  · refine ent_sub ?_ (List.Sublist.refl _)
    simp -implicitDefEqProofs (disch := first | omega | rfl) only [go_sem, Nat.reduceEqDiff, Nat.reduceAdd, Nat.reduceMul, Nat.reduceSub, Nat.reduceLeDiff, Nat.reduceLT, Int.reduceLE, Int.reduceLT, Int.reduceEq, Int.reduceAdd, Int.reduceMul, Int.reduceSub, Int.reduceNeg, Int.reduceToNat, Int.reduceDiv, Int.reduceMod, Int.reduceTDiv, Int.reduceTMod, Int.cast_ofNat_Int, ↓reduceIte, false_implies, true_implies]
    exact ⟨rfl, rfl⟩
  rintro ⟨k, hk, hj⟩
  by_cases hlt : k < a.length
  · have hlt' : k < c.length := by omega
    repeat refine awp_seq ?_
    refine awp_reg fun K Q hK hQ => ?_
    simp -implicitDefEqProofs (disch := first | omega | rfl) only [go_sem, Nat.reduceEqDiff, Nat.reduceAdd, Nat.reduceMul, Nat.reduceSub, Nat.reduceLeDiff, Nat.reduceLT, Int.reduceLE, Int.reduceLT, Int.reduceEq, Int.reduceAdd, Int.reduceMul, Int.reduceSub, Int.reduceNeg, Int.reduceToNat, Int.reduceDiv, Int.reduceMod, Int.reduceTDiv, Int.reduceTMod, Int.cast_ofNat_Int, ↓reduceIte, false_implies, true_implies, zr19_4, ints, List.length_map, Int.ofNat_lt, hlt]
    refine hK _ _ ?_; clear hK hQ K Q
    repeat refine awp_seq ?_
    refine awp_then (by rfl) ?_
    refine awp_skip ?_
    repeat refine awp_seq ?_
    refine awp_block ?_
    by_cases he : a[k]! = c[k]!
    · repeat refine awp_seq ?_
      refine awp_regD ([]) ([]) (by rw [hP]; exact mixed) (List.Perm.refl _) fun K hK => ?_
      simp -implicitDefEqProofs (disch := first | omega | rfl) only [go_sem, Nat.reduceEqDiff, Nat.reduceAdd, Nat.reduceMul, Nat.reduceSub, Nat.reduceLeDiff, Nat.reduceLT, Int.reduceLE, Int.reduceLT, Int.reduceEq, Int.reduceAdd, Int.reduceMul, Int.reduceSub, Int.reduceNeg, Int.reduceToNat, Int.reduceDiv, Int.reduceMod, Int.reduceTDiv, Int.reduceTMod, Int.cast_ofNat_Int, ↓reduceIte, false_implies, true_implies, zr19_5, List.length_map, Int.ofNat_lt, hlt, hlt', getD_map, he]
      refine hK _ _ ?_; clear hK K
      repeat refine awp_seq ?_
      refine awp_else (by rfl) ?_
      refine awp_skip ?_
      refine awp_reg fun K Q hK hQ => ?_
      simp -implicitDefEqProofs (disch := first | omega | rfl) only [go_sem, Nat.reduceEqDiff, Nat.reduceAdd, Nat.reduceMul, Nat.reduceSub, Nat.reduceLeDiff, Nat.reduceLT, Int.reduceLE, Int.reduceLT, Int.reduceEq, Int.reduceAdd, Int.reduceMul, Int.reduceSub, Int.reduceNeg, Int.reduceToNat, Int.reduceDiv, Int.reduceMod, Int.reduceTDiv, Int.reduceTMod, Int.cast_ofNat_Int, ↓reduceIte, false_implies, true_implies, zr19_7]
      refine hK _ _ ?_; clear hK hQ K Q
      refine ⟨⟨k + 1, hlt, fun j hj' => ?_⟩, by simp only; omega, ?_⟩
      · by_cases h : j = k
        · rw [h]; exact he
        · exact hj j (by omega)
      · refine ent_sub ?_ (List.Sublist.refl _)
        simp -implicitDefEqProofs (disch := first | omega | rfl) only [go_sem, Nat.reduceEqDiff, Nat.reduceAdd, Nat.reduceMul, Nat.reduceSub, Nat.reduceLeDiff, Nat.reduceLT, Int.reduceLE, Int.reduceLT, Int.reduceEq, Int.reduceAdd, Int.reduceMul, Int.reduceSub, Int.reduceNeg, Int.reduceToNat, Int.reduceDiv, Int.reduceMod, Int.reduceTDiv, Int.reduceTMod, Int.cast_ofNat_Int, ↓reduceIte, false_implies, true_implies]
        exact ⟨rfl, rfl, rfl⟩
    · repeat refine awp_seq ?_
      refine awp_regD ([]) ([]) (by rw [hP]; exact mixed) (List.Perm.refl _) fun K hK => ?_
      simp -implicitDefEqProofs (disch := first | omega | rfl) only [go_sem, Nat.reduceEqDiff, Nat.reduceAdd, Nat.reduceMul, Nat.reduceSub, Nat.reduceLeDiff, Nat.reduceLT, Int.reduceLE, Int.reduceLT, Int.reduceEq, Int.reduceAdd, Int.reduceMul, Int.reduceSub, Int.reduceNeg, Int.reduceToNat, Int.reduceDiv, Int.reduceMod, Int.reduceTDiv, Int.reduceTMod, Int.cast_ofNat_Int, ↓reduceIte, false_implies, true_implies, zr19_5, List.length_map, Int.ofNat_lt, hlt, hlt', getD_map, he]
      refine hK _ _ ?_; clear hK K
      repeat refine awp_seq ?_
      refine awp_then (by rfl) ?_
      repeat refine awp_seq ?_
      refine awp_reg fun K Q hK hQ => ?_
      simp -implicitDefEqProofs (disch := first | omega | rfl) only [go_sem, Nat.reduceEqDiff, Nat.reduceAdd, Nat.reduceMul, Nat.reduceSub, Nat.reduceLeDiff, Nat.reduceLT, Int.reduceLE, Int.reduceLT, Int.reduceEq, Int.reduceAdd, Int.reduceMul, Int.reduceSub, Int.reduceNeg, Int.reduceToNat, Int.reduceDiv, Int.reduceMod, Int.reduceTDiv, Int.reduceTMod, Int.cast_ofNat_Int, ↓reduceIte, false_implies, true_implies, zr19_6]
      refine hK _ _ ?_; clear hK hQ K Q
      refine awp_ret ?_
      repeat' (first | refine then_ret ?_ | refine blk_ret ?_)
      refine ret_q ?_
      simp -implicitDefEqProofs (disch := first | omega | rfl) only [go_sem, Nat.reduceEqDiff, Nat.reduceAdd, Nat.reduceMul, Nat.reduceSub, Nat.reduceLeDiff, Nat.reduceLT, Int.reduceLE, Int.reduceLT, Int.reduceEq, Int.reduceAdd, Int.reduceMul, Int.reduceSub, Int.reduceNeg, Int.reduceToNat, Int.reduceDiv, Int.reduceMod, Int.reduceTDiv, Int.reduceTMod, Int.cast_ofNat_Int, ↓reduceIte, false_implies, true_implies]
      refine leaves_none ?_
      congr 1
      exact (decide_eq_false (fun h => he (by rw [h]))).symm
  · repeat refine awp_seq ?_
    refine awp_reg fun K Q hK hQ => ?_
    simp -implicitDefEqProofs (disch := first | omega | rfl) only [go_sem, Nat.reduceEqDiff, Nat.reduceAdd, Nat.reduceMul, Nat.reduceSub, Nat.reduceLeDiff, Nat.reduceLT, Int.reduceLE, Int.reduceLT, Int.reduceEq, Int.reduceAdd, Int.reduceMul, Int.reduceSub, Int.reduceNeg, Int.reduceToNat, Int.reduceDiv, Int.reduceMod, Int.reduceTDiv, Int.reduceTMod, Int.cast_ofNat_Int, ↓reduceIte, false_implies, true_implies, zr19_4, ints, List.length_map, Int.ofNat_lt, hlt]
    refine hK _ _ ?_; clear hK hQ K Q
    repeat refine awp_seq ?_
    refine awp_else (by rfl) ?_
    refine awp_exit ?_
    repeat' (first | refine then_exit ?_ | refine exit_here ?_ | refine exit_on rfl ?_)
    repeat refine awp_seq ?_
    refine awp_reg fun K Q hK hQ => ?_
    simp -implicitDefEqProofs (disch := first | omega | rfl) only [go_sem, Nat.reduceEqDiff, Nat.reduceAdd, Nat.reduceMul, Nat.reduceSub, Nat.reduceLeDiff, Nat.reduceLT, Int.reduceLE, Int.reduceLT, Int.reduceEq, Int.reduceAdd, Int.reduceMul, Int.reduceSub, Int.reduceNeg, Int.reduceToNat, Int.reduceDiv, Int.reduceMod, Int.reduceTDiv, Int.reduceTMod, Int.cast_ofNat_Int, ↓reduceIte, false_implies, true_implies, zr19_8]
    refine hK _ _ ?_; clear hK hQ K Q
    refine awp_ret ?_
    repeat' (first | refine then_ret ?_ | refine blk_ret ?_)
    refine ret_q ?_
    simp -implicitDefEqProofs (disch := first | omega | rfl) only [go_sem, Nat.reduceEqDiff, Nat.reduceAdd, Nat.reduceMul, Nat.reduceSub, Nat.reduceLeDiff, Nat.reduceLT, Int.reduceLE, Int.reduceLT, Int.reduceEq, Int.reduceAdd, Int.reduceMul, Int.reduceSub, Int.reduceNeg, Int.reduceToNat, Int.reduceDiv, Int.reduceMod, Int.reduceTDiv, Int.reduceTMod, Int.cast_ofNat_Int, ↓reduceIte, false_implies, true_implies]
    refine leaves_none ?_
    congr 1
    refine (decide_eq_true (List.ext_getElem (by omega) fun i h1 h2 => ?_)).symm
    have := hj i (by omega)
    simpa [h1, h2] using this

theorem good_ok {z : Zone} {d m : Int} (h : good z d m = true) : z.Ok ∧ 0 ≤ d ∧ d ≤ 73048 ∧ 0 ≤ m ∧ m ≤ 1439 := by
  simp only [good, Bool.and_eq_true, decide_eq_true_eq] at h
  exact ⟨Zone.valid_ok h.1.1.1.1, h.1.1.1.2, h.1.1.2, h.1.2, h.2⟩

set_option maxHeartbeats 800000 in
theorem f21 (z : Zone) (d m : Int) : PureC Try.prog 21 [z.av, .int .i64 d, .int .i64 m] (ints (instantsR z d m)) := by
  refine fn_intro' 49 Try.func21 nt21 ok21 res21 (by simp) fun X hP hn hd hr => ?_
  repeat refine awp_seq ?_
  refine awp_reg fun K Q hK hQ => ?_
  simp -implicitDefEqProofs (disch := first | omega | rfl) only [go_sem, Nat.reduceEqDiff, Nat.reduceAdd, Nat.reduceMul, Nat.reduceSub, Nat.reduceLeDiff, Nat.reduceLT, Int.reduceLE, Int.reduceLT, Int.reduceEq, Int.reduceAdd, Int.reduceMul, Int.reduceSub, Int.reduceNeg, Int.reduceToNat, Int.reduceDiv, Int.reduceMod, Int.reduceTDiv, Int.reduceTMod, Int.cast_ofNat_Int, ↓reduceIte, false_implies, true_implies, zr21_0, argS, Zone.av, Zone.cs]
  intro b
  refine hK _ _ ?_; clear hK hQ K Q
  repeat refine awp_seq ?_
  refine awp_reg fun K Q hK hQ => ?_
  simp -implicitDefEqProofs (disch := first | omega | rfl) only [go_sem, Nat.reduceEqDiff, Nat.reduceAdd, Nat.reduceMul, Nat.reduceSub, Nat.reduceLeDiff, Nat.reduceLT, Int.reduceLE, Int.reduceLT, Int.reduceEq, Int.reduceAdd, Int.reduceMul, Int.reduceSub, Int.reduceNeg, Int.reduceToNat, Int.reduceDiv, Int.reduceMod, Int.reduceTDiv, Int.reduceTMod, Int.cast_ofNat_Int, ↓reduceIte, false_implies, true_implies, zr21_1]
  refine hK _ _ ?_; clear hK hQ K Q
  have F := f29 z d m
  repeat refine awp_seq ?_
  refine awp_reg fun K Q hK hQ => ?_
  simp -implicitDefEqProofs (disch := first | omega | rfl) only [go_sem, Nat.reduceEqDiff, Nat.reduceAdd, Nat.reduceMul, Nat.reduceSub, Nat.reduceLeDiff, Nat.reduceLT, Int.reduceLE, Int.reduceLT, Int.reduceEq, Int.reduceAdd, Int.reduceMul, Int.reduceSub, Int.reduceNeg, Int.reduceToNat, Int.reduceDiv, Int.reduceMod, Int.reduceTDiv, Int.reduceTMod, Int.cast_ofNat_Int, ↓reduceIte, false_implies, true_implies, zr21_2]
  cases hv : good z d m
  · rw [hv] at F
    refine call_pure hP (F) ?_
    simp -implicitDefEqProofs (disch := first | omega | rfl) only [go_sem, Nat.reduceEqDiff, Nat.reduceAdd, Nat.reduceMul, Nat.reduceSub, Nat.reduceLeDiff, Nat.reduceLT, Int.reduceLE, Int.reduceLT, Int.reduceEq, Int.reduceAdd, Int.reduceMul, Int.reduceSub, Int.reduceNeg, Int.reduceToNat, Int.reduceDiv, Int.reduceMod, Int.reduceTDiv, Int.reduceTMod, Int.cast_ofNat_Int, ↓reduceIte, false_implies, true_implies]
    refine hK _ _ ?_; clear hK hQ K Q
    repeat refine awp_seq ?_
    refine awp_then (by rfl) ?_
    repeat refine awp_seq ?_
    refine awp_reg fun K Q hK hQ => ?_
    simp -implicitDefEqProofs (disch := first | omega | rfl) only [go_sem, Nat.reduceEqDiff, Nat.reduceAdd, Nat.reduceMul, Nat.reduceSub, Nat.reduceLeDiff, Nat.reduceLT, Int.reduceLE, Int.reduceLT, Int.reduceEq, Int.reduceAdd, Int.reduceMul, Int.reduceSub, Int.reduceNeg, Int.reduceToNat, Int.reduceDiv, Int.reduceMod, Int.reduceTDiv, Int.reduceTMod, Int.cast_ofNat_Int, ↓reduceIte, false_implies, true_implies, zr21_3]
    refine hK _ _ ?_; clear hK hQ K Q
    refine awp_frz [] _ [(6, .sl [])] (List.Perm.refl _) ⟨.nil, trivial⟩ ?_
    refine awp_ret ?_
    repeat' (first | refine then_ret ?_ | refine blk_ret ?_)
    refine ret_q ?_
    simp -implicitDefEqProofs (disch := first | omega | rfl) only [go_sem, Nat.reduceEqDiff, Nat.reduceAdd, Nat.reduceMul, Nat.reduceSub, Nat.reduceLeDiff, Nat.reduceLT, Int.reduceLE, Int.reduceLT, Int.reduceEq, Int.reduceAdd, Int.reduceMul, Int.reduceSub, Int.reduceNeg, Int.reduceToNat, Int.reduceDiv, Int.reduceMod, Int.reduceTDiv, Int.reduceTMod, Int.cast_ofNat_Int, ↓reduceIte, false_implies, true_implies]
    exact leaves_none (by simp [instantsR, hv, ints])
  rw [hv] at F
  refine call_pure hP (F) ?_
  simp -implicitDefEqProofs (disch := first | omega | rfl) only [go_sem, Nat.reduceEqDiff, Nat.reduceAdd, Nat.reduceMul, Nat.reduceSub, Nat.reduceLeDiff, Nat.reduceLT, Int.reduceLE, Int.reduceLT, Int.reduceEq, Int.reduceAdd, Int.reduceMul, Int.reduceSub, Int.reduceNeg, Int.reduceToNat, Int.reduceDiv, Int.reduceMod, Int.reduceTDiv, Int.reduceTMod, Int.cast_ofNat_Int, ↓reduceIte, false_implies, true_implies]
  refine hK _ _ ?_; clear hK hQ K Q
  repeat refine awp_seq ?_
  refine awp_else (by rfl) ?_
  refine awp_skip ?_
  obtain ⟨ok, d0, d1, m0, m1⟩ := good_ok hv
  have hl := ok.len
  generalize hL : d * 1440 + m = L
  repeat refine awp_seq ?_
  refine awp_reg fun K Q hK hQ => ?_
  simp -implicitDefEqProofs (disch := first | omega | rfl) only [go_sem, Nat.reduceEqDiff, Nat.reduceAdd, Nat.reduceMul, Nat.reduceSub, Nat.reduceLeDiff, Nat.reduceLT, Int.reduceLE, Int.reduceLT, Int.reduceEq, Int.reduceAdd, Int.reduceMul, Int.reduceSub, Int.reduceNeg, Int.reduceToNat, Int.reduceDiv, Int.reduceMod, Int.reduceTDiv, Int.reduceTMod, Int.cast_ofNat_Int, ↓reduceIte, false_implies, true_implies, zr21_4]
  refine hK _ _ ?_; clear hK hQ K Q
  repeat refine awp_seq ?_
  refine awp_block ?_
  refine awp_loop (ι := {i : Nat × Option Nat // i.1 ≤ z.ch.length + 1 ∧ (i.2 = none → hits z L i.1 = [])}) (fun i => [(8, .int .i64 i.1.1), (7, accV 47 i.1.2 (hits z L i.1.1).length), (3, .ptr 3 b 0), (1, .int .i64 d), (2, .int .i64 m)])
    (fun i => accO 47 i.1.2 (hits z L i.1.1) ++ [(3, b, Ob.cells [AV.int IntKind.i64 z.off, AV.sl (List.map Chg.av z.ch)])]) (fun i => z.ch.length + 1 - i.1.1) ⟨(0, none), Nat.zero_le _, fun _ => rfl⟩ ?_ ?_
  · refine ent_sub ?_ (List.Sublist.refl _)
    simp -implicitDefEqProofs (disch := first | omega | rfl) only [go_sem, Nat.reduceEqDiff, Nat.reduceAdd, Nat.reduceMul, Nat.reduceSub, Nat.reduceLeDiff, Nat.reduceLT, Int.reduceLE, Int.reduceLT, Int.reduceEq, Int.reduceAdd, Int.reduceMul, Int.reduceSub, Int.reduceNeg, Int.reduceToNat, Int.reduceDiv, Int.reduceMod, Int.reduceTDiv, Int.reduceTMod, Int.cast_ofNat_Int, ↓reduceIte, false_implies, true_implies]
    rfl
  rintro ⟨⟨k, bo⟩, hk, hbo⟩
  simp only at hk hbo ⊢
  have hlen := hits_len z L k
  by_cases hlt : k ≤ z.ch.length
  · have ho := ok.offs k hlt
    cases bo with
    | none =>
      repeat refine awp_seq ?_
      refine awp_reg fun K Q hK hQ => ?_
      simp -implicitDefEqProofs (disch := first | omega | rfl) only [go_sem, Nat.reduceEqDiff, Nat.reduceAdd, Nat.reduceMul, Nat.reduceSub, Nat.reduceLeDiff, Nat.reduceLT, Int.reduceLE, Int.reduceLT, Int.reduceEq, Int.reduceAdd, Int.reduceMul, Int.reduceSub, Int.reduceNeg, Int.reduceToNat, Int.reduceDiv, Int.reduceMod, Int.reduceTDiv, Int.reduceTMod, Int.cast_ofNat_Int, ↓reduceIte, false_implies, true_implies, zr21_5, accV, accO, List.length_map, Int.ofNat_le, hlt]
      refine hK _ _ ?_; clear hK hQ K Q
      repeat refine awp_seq ?_
      refine awp_then (by rfl) ?_
      refine awp_skip ?_
      repeat refine awp_seq ?_
      refine awp_block ?_
      repeat refine awp_seq ?_
      refine awp_reg fun K Q hK hQ => ?_
      simp -implicitDefEqProofs (disch := first | omega | rfl) only [go_sem, Nat.reduceEqDiff, Nat.reduceAdd, Nat.reduceMul, Nat.reduceSub, Nat.reduceLeDiff, Nat.reduceLT, Int.reduceLE, Int.reduceLT, Int.reduceEq, Int.reduceAdd, Int.reduceMul, Int.reduceSub, Int.reduceNeg, Int.reduceToNat, Int.reduceDiv, Int.reduceMod, Int.reduceTDiv, Int.reduceTMod, Int.cast_ofNat_Int, ↓reduceIte, false_implies, true_implies, zr21_6]
      refine call_pure hP (f25 z k hlt (by omega)) ?_
      simp -implicitDefEqProofs (disch := first | omega | rfl) only [go_sem, Nat.reduceEqDiff, Nat.reduceAdd, Nat.reduceMul, Nat.reduceSub, Nat.reduceLeDiff, Nat.reduceLT, Int.reduceLE, Int.reduceLT, Int.reduceEq, Int.reduceAdd, Int.reduceMul, Int.reduceSub, Int.reduceNeg, Int.reduceToNat, Int.reduceDiv, Int.reduceMod, Int.reduceTDiv, Int.reduceTMod, Int.cast_ofNat_Int, ↓reduceIte, false_implies, true_implies, hL]
      refine hK _ _ ?_; clear hK hQ K Q
      by_cases c1 : 0 ≤ L - offs z k
      · by_cases c2 : L - offs z k ≤ 105190559
        · by_cases c3 : ((seg z.ch (L - offs z k) : Nat) : Int) = (k : Int)
          · have hh : hits z L (k + 1) = hits z L k ++ [L - offs z k] := by rw [hits_succ, hit, if_pos ⟨c1, c2, by omega⟩]
            repeat refine awp_seq ?_
            refine awp_reg fun K Q hK hQ => ?_
            simp -implicitDefEqProofs (disch := first | omega | rfl) only [go_sem, Nat.reduceEqDiff, Nat.reduceAdd, Nat.reduceMul, Nat.reduceSub, Nat.reduceLeDiff, Nat.reduceLT, Int.reduceLE, Int.reduceLT, Int.reduceEq, Int.reduceAdd, Int.reduceMul, Int.reduceSub, Int.reduceNeg, Int.reduceToNat, Int.reduceDiv, Int.reduceMod, Int.reduceTDiv, Int.reduceTMod, Int.cast_ofNat_Int, ↓reduceIte, false_implies, true_implies, zr21_7, c1, c2]
            refine call_pure hP (f26 z (L - offs z k) (by omega)) ?_
            simp -implicitDefEqProofs (disch := first | omega | rfl) only [go_sem, Nat.reduceEqDiff, Nat.reduceAdd, Nat.reduceMul, Nat.reduceSub, Nat.reduceLeDiff, Nat.reduceLT, Int.reduceLE, Int.reduceLT, Int.reduceEq, Int.reduceAdd, Int.reduceMul, Int.reduceSub, Int.reduceNeg, Int.reduceToNat, Int.reduceDiv, Int.reduceMod, Int.reduceTDiv, Int.reduceTMod, Int.cast_ofNat_Int, ↓reduceIte, false_implies, true_implies, c3]
            refine hK _ _ ?_; clear hK hQ K Q
            repeat refine awp_seq ?_
            refine awp_then (by rfl) ?_
            repeat refine awp_seq ?_
            refine awp_reg fun K Q hK hQ => ?_
            simp -implicitDefEqProofs (disch := first | omega | rfl) only [go_sem, Nat.reduceEqDiff, Nat.reduceAdd, Nat.reduceMul, Nat.reduceSub, Nat.reduceLeDiff, Nat.reduceLT, Int.reduceLE, Int.reduceLT, Int.reduceEq, Int.reduceAdd, Int.reduceMul, Int.reduceSub, Int.reduceNeg, Int.reduceToNat, Int.reduceDiv, Int.reduceMod, Int.reduceTDiv, Int.reduceTMod, Int.cast_ofNat_Int, ↓reduceIte, false_implies, true_implies, zr21_8, accV, accO, List.length_map, hbo]
            intro b1
            skip; 
            intro b2
            refine hK _ _ ?_; clear hK hQ K Q
            refine awp_reg fun K Q hK hQ => ?_
            simp -implicitDefEqProofs (disch := first | omega | rfl) only [go_sem, Nat.reduceEqDiff, Nat.reduceAdd, Nat.reduceMul, Nat.reduceSub, Nat.reduceLeDiff, Nat.reduceLT, Int.reduceLE, Int.reduceLT, Int.reduceEq, Int.reduceAdd, Int.reduceMul, Int.reduceSub, Int.reduceNeg, Int.reduceToNat, Int.reduceDiv, Int.reduceMod, Int.reduceTDiv, Int.reduceTMod, Int.cast_ofNat_Int, ↓reduceIte, false_implies, true_implies, zr21_9]
            refine hK _ _ ?_; clear hK hQ K Q
            refine ⟨⟨(k + 1, some b2), by simp only; omega, fun h => by cases h⟩, by simp only; omega, ?_⟩
            refine ent_sub ?_ ?_
            · simp [sub_cons, sub_nil, get_cons, hh, accV, hbo]
            · simp [accO, hh, hbo]
              all_goals (rw [List.take_of_length_le (by simp)]; exact .cons_cons _ (.cons _ (List.Sublist.refl _)))
          · have hh : hits z L (k + 1) = hits z L k := by rw [hits_succ, hit, if_neg (by omega)]; simp
            repeat refine awp_seq ?_
            refine awp_reg fun K Q hK hQ => ?_
            simp -implicitDefEqProofs (disch := first | omega | rfl) only [go_sem, Nat.reduceEqDiff, Nat.reduceAdd, Nat.reduceMul, Nat.reduceSub, Nat.reduceLeDiff, Nat.reduceLT, Int.reduceLE, Int.reduceLT, Int.reduceEq, Int.reduceAdd, Int.reduceMul, Int.reduceSub, Int.reduceNeg, Int.reduceToNat, Int.reduceDiv, Int.reduceMod, Int.reduceTDiv, Int.reduceTMod, Int.cast_ofNat_Int, ↓reduceIte, false_implies, true_implies, zr21_7, c1, c2]
            refine call_pure hP (f26 z (L - offs z k) (by omega)) ?_
            simp -implicitDefEqProofs (disch := first | omega | rfl) only [go_sem, Nat.reduceEqDiff, Nat.reduceAdd, Nat.reduceMul, Nat.reduceSub, Nat.reduceLeDiff, Nat.reduceLT, Int.reduceLE, Int.reduceLT, Int.reduceEq, Int.reduceAdd, Int.reduceMul, Int.reduceSub, Int.reduceNeg, Int.reduceToNat, Int.reduceDiv, Int.reduceMod, Int.reduceTDiv, Int.reduceTMod, Int.cast_ofNat_Int, ↓reduceIte, false_implies, true_implies, c3]
            refine hK _ _ ?_; clear hK hQ K Q
            repeat refine awp_seq ?_
            refine awp_else (by rfl) ?_
            refine awp_skip ?_
            refine awp_reg fun K Q hK hQ => ?_
            simp -implicitDefEqProofs (disch := first | omega | rfl) only [go_sem, Nat.reduceEqDiff, Nat.reduceAdd, Nat.reduceMul, Nat.reduceSub, Nat.reduceLeDiff, Nat.reduceLT, Int.reduceLE, Int.reduceLT, Int.reduceEq, Int.reduceAdd, Int.reduceMul, Int.reduceSub, Int.reduceNeg, Int.reduceToNat, Int.reduceDiv, Int.reduceMod, Int.reduceTDiv, Int.reduceTMod, Int.cast_ofNat_Int, ↓reduceIte, false_implies, true_implies, zr21_9]
            refine hK _ _ ?_; clear hK hQ K Q
            refine ⟨⟨(k + 1, none), by simp only; omega, by rw [hh]; exact hbo⟩, by simp only; omega, ?_⟩
            refine ent_sub ?_ (by simp only [hh]; exact List.Sublist.refl _)
            simp -implicitDefEqProofs (disch := first | omega | rfl) only [go_sem, Nat.reduceEqDiff, Nat.reduceAdd, Nat.reduceMul, Nat.reduceSub, Nat.reduceLeDiff, Nat.reduceLT, Int.reduceLE, Int.reduceLT, Int.reduceEq, Int.reduceAdd, Int.reduceMul, Int.reduceSub, Int.reduceNeg, Int.reduceToNat, Int.reduceDiv, Int.reduceMod, Int.reduceTDiv, Int.reduceTMod, Int.cast_ofNat_Int, ↓reduceIte, false_implies, true_implies, hh, accV]
            rfl
        · have hh : hits z L (k + 1) = hits z L k := by rw [hits_succ, hit, if_neg (by omega)]; simp
          repeat refine awp_seq ?_
          refine awp_reg fun K Q hK hQ => ?_
          simp -implicitDefEqProofs (disch := first | omega | rfl) only [go_sem, Nat.reduceEqDiff, Nat.reduceAdd, Nat.reduceMul, Nat.reduceSub, Nat.reduceLeDiff, Nat.reduceLT, Int.reduceLE, Int.reduceLT, Int.reduceEq, Int.reduceAdd, Int.reduceMul, Int.reduceSub, Int.reduceNeg, Int.reduceToNat, Int.reduceDiv, Int.reduceMod, Int.reduceTDiv, Int.reduceTMod, Int.cast_ofNat_Int, ↓reduceIte, false_implies, true_implies, zr21_7, c1, c2]
          refine hK _ _ ?_; clear hK hQ K Q
          repeat refine awp_seq ?_
          refine awp_else (by rfl) ?_
          refine awp_skip ?_
          refine awp_reg fun K Q hK hQ => ?_
          simp -implicitDefEqProofs (disch := first | omega | rfl) only [go_sem, Nat.reduceEqDiff, Nat.reduceAdd, Nat.reduceMul, Nat.reduceSub, Nat.reduceLeDiff, Nat.reduceLT, Int.reduceLE, Int.reduceLT, Int.reduceEq, Int.reduceAdd, Int.reduceMul, Int.reduceSub, Int.reduceNeg, Int.reduceToNat, Int.reduceDiv, Int.reduceMod, Int.reduceTDiv, Int.reduceTMod, Int.cast_ofNat_Int, ↓reduceIte, false_implies, true_implies, zr21_9]
          refine hK _ _ ?_; clear hK hQ K Q
          refine ⟨⟨(k + 1, none), by simp only; omega, by rw [hh]; exact hbo⟩, by simp only; omega, ?_⟩
          refine ent_sub ?_ (by simp only [hh]; exact List.Sublist.refl _)
          simp -implicitDefEqProofs (disch := first | omega | rfl) only [go_sem, Nat.reduceEqDiff, Nat.reduceAdd, Nat.reduceMul, Nat.reduceSub, Nat.reduceLeDiff, Nat.reduceLT, Int.reduceLE, Int.reduceLT, Int.reduceEq, Int.reduceAdd, Int.reduceMul, Int.reduceSub, Int.reduceNeg, Int.reduceToNat, Int.reduceDiv, Int.reduceMod, Int.reduceTDiv, Int.reduceTMod, Int.cast_ofNat_Int, ↓reduceIte, false_implies, true_implies, hh, accV]
          rfl
      · have hh : hits z L (k + 1) = hits z L k := by rw [hits_succ, hit, if_neg (by omega)]; simp
        repeat refine awp_seq ?_
        refine awp_reg fun K Q hK hQ => ?_
        simp -implicitDefEqProofs (disch := first | omega | rfl) only [go_sem, Nat.reduceEqDiff, Nat.reduceAdd, Nat.reduceMul, Nat.reduceSub, Nat.reduceLeDiff, Nat.reduceLT, Int.reduceLE, Int.reduceLT, Int.reduceEq, Int.reduceAdd, Int.reduceMul, Int.reduceSub, Int.reduceNeg, Int.reduceToNat, Int.reduceDiv, Int.reduceMod, Int.reduceTDiv, Int.reduceTMod, Int.cast_ofNat_Int, ↓reduceIte, false_implies, true_implies, zr21_7, c1]
        refine hK _ _ ?_; clear hK hQ K Q
        repeat refine awp_seq ?_
        refine awp_else (by rfl) ?_
        refine awp_skip ?_
        refine awp_reg fun K Q hK hQ => ?_
        simp -implicitDefEqProofs (disch := first | omega | rfl) only [go_sem, Nat.reduceEqDiff, Nat.reduceAdd, Nat.reduceMul, Nat.reduceSub, Nat.reduceLeDiff, Nat.reduceLT, Int.reduceLE, Int.reduceLT, Int.reduceEq, Int.reduceAdd, Int.reduceMul, Int.reduceSub, Int.reduceNeg, Int.reduceToNat, Int.reduceDiv, Int.reduceMod, Int.reduceTDiv, Int.reduceTMod, Int.cast_ofNat_Int, ↓reduceIte, false_implies, true_implies, zr21_9]
        refine hK _ _ ?_; clear hK hQ K Q
        refine ⟨⟨(k + 1, none), by simp only; omega, by rw [hh]; exact hbo⟩, by simp only; omega, ?_⟩
        refine ent_sub ?_ (by simp only [hh]; exact List.Sublist.refl _)
        simp -implicitDefEqProofs (disch := first | omega | rfl) only [go_sem, Nat.reduceEqDiff, Nat.reduceAdd, Nat.reduceMul, Nat.reduceSub, Nat.reduceLeDiff, Nat.reduceLT, Int.reduceLE, Int.reduceLT, Int.reduceEq, Int.reduceAdd, Int.reduceMul, Int.reduceSub, Int.reduceNeg, Int.reduceToNat, Int.reduceDiv, Int.reduceMod, Int.reduceTDiv, Int.reduceTMod, Int.cast_ofNat_Int, ↓reduceIte, false_implies, true_implies, hh, accV]
        rfl
    | some bb =>
      repeat refine awp_seq ?_
      refine awp_reg fun K Q hK hQ => ?_
      simp -implicitDefEqProofs (disch := first | omega | rfl) only [go_sem, Nat.reduceEqDiff, Nat.reduceAdd, Nat.reduceMul, Nat.reduceSub, Nat.reduceLeDiff, Nat.reduceLT, Int.reduceLE, Int.reduceLT, Int.reduceEq, Int.reduceAdd, Int.reduceMul, Int.reduceSub, Int.reduceNeg, Int.reduceToNat, Int.reduceDiv, Int.reduceMod, Int.reduceTDiv, Int.reduceTMod, Int.cast_ofNat_Int, ↓reduceIte, false_implies, true_implies, zr21_5, accV, accO, List.length_map, Int.ofNat_le, hlt]
      refine hK _ _ ?_; clear hK hQ K Q
      repeat refine awp_seq ?_
      refine awp_then (by rfl) ?_
      refine awp_skip ?_
      repeat refine awp_seq ?_
      refine awp_block ?_
      repeat refine awp_seq ?_
      refine awp_reg fun K Q hK hQ => ?_
      simp -implicitDefEqProofs (disch := first | omega | rfl) only [go_sem, Nat.reduceEqDiff, Nat.reduceAdd, Nat.reduceMul, Nat.reduceSub, Nat.reduceLeDiff, Nat.reduceLT, Int.reduceLE, Int.reduceLT, Int.reduceEq, Int.reduceAdd, Int.reduceMul, Int.reduceSub, Int.reduceNeg, Int.reduceToNat, Int.reduceDiv, Int.reduceMod, Int.reduceTDiv, Int.reduceTMod, Int.cast_ofNat_Int, ↓reduceIte, false_implies, true_implies, zr21_6]
      refine call_pure hP (f25 z k hlt (by omega)) ?_
      simp -implicitDefEqProofs (disch := first | omega | rfl) only [go_sem, Nat.reduceEqDiff, Nat.reduceAdd, Nat.reduceMul, Nat.reduceSub, Nat.reduceLeDiff, Nat.reduceLT, Int.reduceLE, Int.reduceLT, Int.reduceEq, Int.reduceAdd, Int.reduceMul, Int.reduceSub, Int.reduceNeg, Int.reduceToNat, Int.reduceDiv, Int.reduceMod, Int.reduceTDiv, Int.reduceTMod, Int.cast_ofNat_Int, ↓reduceIte, false_implies, true_implies, hL]
      refine hK _ _ ?_; clear hK hQ K Q
      by_cases c1 : 0 ≤ L - offs z k
      · by_cases c2 : L - offs z k ≤ 105190559
        · by_cases c3 : ((seg z.ch (L - offs z k) : Nat) : Int) = (k : Int)
          · have hh : hits z L (k + 1) = hits z L k ++ [L - offs z k] := by rw [hits_succ, hit, if_pos ⟨c1, c2, by omega⟩]
            repeat refine awp_seq ?_
            refine awp_reg fun K Q hK hQ => ?_
            simp -implicitDefEqProofs (disch := first | omega | rfl) only [go_sem, Nat.reduceEqDiff, Nat.reduceAdd, Nat.reduceMul, Nat.reduceSub, Nat.reduceLeDiff, Nat.reduceLT, Int.reduceLE, Int.reduceLT, Int.reduceEq, Int.reduceAdd, Int.reduceMul, Int.reduceSub, Int.reduceNeg, Int.reduceToNat, Int.reduceDiv, Int.reduceMod, Int.reduceTDiv, Int.reduceTMod, Int.cast_ofNat_Int, ↓reduceIte, false_implies, true_implies, zr21_7, c1, c2]
            refine call_pure hP (f26 z (L - offs z k) (by omega)) ?_
            simp -implicitDefEqProofs (disch := first | omega | rfl) only [go_sem, Nat.reduceEqDiff, Nat.reduceAdd, Nat.reduceMul, Nat.reduceSub, Nat.reduceLeDiff, Nat.reduceLT, Int.reduceLE, Int.reduceLT, Int.reduceEq, Int.reduceAdd, Int.reduceMul, Int.reduceSub, Int.reduceNeg, Int.reduceToNat, Int.reduceDiv, Int.reduceMod, Int.reduceTDiv, Int.reduceTMod, Int.cast_ofNat_Int, ↓reduceIte, false_implies, true_implies, c3]
            refine hK _ _ ?_; clear hK hQ K Q
            repeat refine awp_seq ?_
            refine awp_then (by rfl) ?_
            repeat refine awp_seq ?_
            refine awp_reg fun K Q hK hQ => ?_
            simp -implicitDefEqProofs (disch := first | omega | rfl) only [go_sem, Nat.reduceEqDiff, Nat.reduceAdd, Nat.reduceMul, Nat.reduceSub, Nat.reduceLeDiff, Nat.reduceLT, Int.reduceLE, Int.reduceLT, Int.reduceEq, Int.reduceAdd, Int.reduceMul, Int.reduceSub, Int.reduceNeg, Int.reduceToNat, Int.reduceDiv, Int.reduceMod, Int.reduceTDiv, Int.reduceTMod, Int.cast_ofNat_Int, ↓reduceIte, false_implies, true_implies, zr21_8, accV, accO, List.length_map, hbo]
            intro b1
            repeat refine ⟨by omega, ?_⟩; 
            intro b2
            refine hK _ _ ?_; clear hK hQ K Q
            refine awp_reg fun K Q hK hQ => ?_
            simp -implicitDefEqProofs (disch := first | omega | rfl) only [go_sem, Nat.reduceEqDiff, Nat.reduceAdd, Nat.reduceMul, Nat.reduceSub, Nat.reduceLeDiff, Nat.reduceLT, Int.reduceLE, Int.reduceLT, Int.reduceEq, Int.reduceAdd, Int.reduceMul, Int.reduceSub, Int.reduceNeg, Int.reduceToNat, Int.reduceDiv, Int.reduceMod, Int.reduceTDiv, Int.reduceTMod, Int.cast_ofNat_Int, ↓reduceIte, false_implies, true_implies, zr21_9]
            refine hK _ _ ?_; clear hK hQ K Q
            refine ⟨⟨(k + 1, some b2), by simp only; omega, fun h => by cases h⟩, by simp only; omega, ?_⟩
            refine ent_sub ?_ ?_
            · simp [sub_cons, sub_nil, get_cons, hh, accV, hbo]
            · simp [accO, hh, hbo]
              all_goals (rw [List.take_of_length_le (by simp)]; exact .cons_cons _ (.cons _ (List.Sublist.refl _)))
          · have hh : hits z L (k + 1) = hits z L k := by rw [hits_succ, hit, if_neg (by omega)]; simp
            repeat refine awp_seq ?_
            refine awp_reg fun K Q hK hQ => ?_
            simp -implicitDefEqProofs (disch := first | omega | rfl) only [go_sem, Nat.reduceEqDiff, Nat.reduceAdd, Nat.reduceMul, Nat.reduceSub, Nat.reduceLeDiff, Nat.reduceLT, Int.reduceLE, Int.reduceLT, Int.reduceEq, Int.reduceAdd, Int.reduceMul, Int.reduceSub, Int.reduceNeg, Int.reduceToNat, Int.reduceDiv, Int.reduceMod, Int.reduceTDiv, Int.reduceTMod, Int.cast_ofNat_Int, ↓reduceIte, false_implies, true_implies, zr21_7, c1, c2]
            refine call_pure hP (f26 z (L - offs z k) (by omega)) ?_
            simp -implicitDefEqProofs (disch := first | omega | rfl) only [go_sem, Nat.reduceEqDiff, Nat.reduceAdd, Nat.reduceMul, Nat.reduceSub, Nat.reduceLeDiff, Nat.reduceLT, Int.reduceLE, Int.reduceLT, Int.reduceEq, Int.reduceAdd, Int.reduceMul, Int.reduceSub, Int.reduceNeg, Int.reduceToNat, Int.reduceDiv, Int.reduceMod, Int.reduceTDiv, Int.reduceTMod, Int.cast_ofNat_Int, ↓reduceIte, false_implies, true_implies, c3]
            refine hK _ _ ?_; clear hK hQ K Q
            repeat refine awp_seq ?_
            refine awp_else (by rfl) ?_
            refine awp_skip ?_
            refine awp_reg fun K Q hK hQ => ?_
            simp -implicitDefEqProofs (disch := first | omega | rfl) only [go_sem, Nat.reduceEqDiff, Nat.reduceAdd, Nat.reduceMul, Nat.reduceSub, Nat.reduceLeDiff, Nat.reduceLT, Int.reduceLE, Int.reduceLT, Int.reduceEq, Int.reduceAdd, Int.reduceMul, Int.reduceSub, Int.reduceNeg, Int.reduceToNat, Int.reduceDiv, Int.reduceMod, Int.reduceTDiv, Int.reduceTMod, Int.cast_ofNat_Int, ↓reduceIte, false_implies, true_implies, zr21_9]
            refine hK _ _ ?_; clear hK hQ K Q
            refine ⟨⟨(k + 1, some bb), by simp only; omega, by rw [hh]; exact hbo⟩, by simp only; omega, ?_⟩
            refine ent_sub ?_ (by simp only [hh]; exact List.Sublist.refl _)
            simp -implicitDefEqProofs (disch := first | omega | rfl) only [go_sem, Nat.reduceEqDiff, Nat.reduceAdd, Nat.reduceMul, Nat.reduceSub, Nat.reduceLeDiff, Nat.reduceLT, Int.reduceLE, Int.reduceLT, Int.reduceEq, Int.reduceAdd, Int.reduceMul, Int.reduceSub, Int.reduceNeg, Int.reduceToNat, Int.reduceDiv, Int.reduceMod, Int.reduceTDiv, Int.reduceTMod, Int.cast_ofNat_Int, ↓reduceIte, false_implies, true_implies, hh, accV]
            rfl
        · have hh : hits z L (k + 1) = hits z L k := by rw [hits_succ, hit, if_neg (by omega)]; simp
          repeat refine awp_seq ?_
          refine awp_reg fun K Q hK hQ => ?_
          simp -implicitDefEqProofs (disch := first | omega | rfl) only [go_sem, Nat.reduceEqDiff, Nat.reduceAdd, Nat.reduceMul, Nat.reduceSub, Nat.reduceLeDiff, Nat.reduceLT, Int.reduceLE, Int.reduceLT, Int.reduceEq, Int.reduceAdd, Int.reduceMul, Int.reduceSub, Int.reduceNeg, Int.reduceToNat, Int.reduceDiv, Int.reduceMod, Int.reduceTDiv, Int.reduceTMod, Int.cast_ofNat_Int, ↓reduceIte, false_implies, true_implies, zr21_7, c1, c2]
          refine hK _ _ ?_; clear hK hQ K Q
          repeat refine awp_seq ?_
          refine awp_else (by rfl) ?_
          refine awp_skip ?_
          refine awp_reg fun K Q hK hQ => ?_
          simp -implicitDefEqProofs (disch := first | omega | rfl) only [go_sem, Nat.reduceEqDiff, Nat.reduceAdd, Nat.reduceMul, Nat.reduceSub, Nat.reduceLeDiff, Nat.reduceLT, Int.reduceLE, Int.reduceLT, Int.reduceEq, Int.reduceAdd, Int.reduceMul, Int.reduceSub, Int.reduceNeg, Int.reduceToNat, Int.reduceDiv, Int.reduceMod, Int.reduceTDiv, Int.reduceTMod, Int.cast_ofNat_Int, ↓reduceIte, false_implies, true_implies, zr21_9]
          refine hK _ _ ?_; clear hK hQ K Q
          refine ⟨⟨(k + 1, some bb), by simp only; omega, by rw [hh]; exact hbo⟩, by simp only; omega, ?_⟩
          refine ent_sub ?_ (by simp only [hh]; exact List.Sublist.refl _)
          simp -implicitDefEqProofs (disch := first | omega | rfl) only [go_sem, Nat.reduceEqDiff, Nat.reduceAdd, Nat.reduceMul, Nat.reduceSub, Nat.reduceLeDiff, Nat.reduceLT, Int.reduceLE, Int.reduceLT, Int.reduceEq, Int.reduceAdd, Int.reduceMul, Int.reduceSub, Int.reduceNeg, Int.reduceToNat, Int.reduceDiv, Int.reduceMod, Int.reduceTDiv, Int.reduceTMod, Int.cast_ofNat_Int, ↓reduceIte, false_implies, true_implies, hh, accV]
          rfl
      · have hh : hits z L (k + 1) = hits z L k := by rw [hits_succ, hit, if_neg (by omega)]; simp
        repeat refine awp_seq ?_
        refine awp_reg fun K Q hK hQ => ?_
        simp -implicitDefEqProofs (disch := first | omega | rfl) only [go_sem, Nat.reduceEqDiff, Nat.reduceAdd, Nat.reduceMul, Nat.reduceSub, Nat.reduceLeDiff, Nat.reduceLT, Int.reduceLE, Int.reduceLT, Int.reduceEq, Int.reduceAdd, Int.reduceMul, Int.reduceSub, Int.reduceNeg, Int.reduceToNat, Int.reduceDiv, Int.reduceMod, Int.reduceTDiv, Int.reduceTMod, Int.cast_ofNat_Int, ↓reduceIte, false_implies, true_implies, zr21_7, c1]
        refine hK _ _ ?_; clear hK hQ K Q
        repeat refine awp_seq ?_
        refine awp_else (by rfl) ?_
        refine awp_skip ?_
        refine awp_reg fun K Q hK hQ => ?_
        simp -implicitDefEqProofs (disch := first | omega | rfl) only [go_sem, Nat.reduceEqDiff, Nat.reduceAdd, Nat.reduceMul, Nat.reduceSub, Nat.reduceLeDiff, Nat.reduceLT, Int.reduceLE, Int.reduceLT, Int.reduceEq, Int.reduceAdd, Int.reduceMul, Int.reduceSub, Int.reduceNeg, Int.reduceToNat, Int.reduceDiv, Int.reduceMod, Int.reduceTDiv, Int.reduceTMod, Int.cast_ofNat_Int, ↓reduceIte, false_implies, true_implies, zr21_9]
        refine hK _ _ ?_; clear hK hQ K Q
        refine ⟨⟨(k + 1, some bb), by simp only; omega, by rw [hh]; exact hbo⟩, by simp only; omega, ?_⟩
        refine ent_sub ?_ (by simp only [hh]; exact List.Sublist.refl _)
        simp -implicitDefEqProofs (disch := first | omega | rfl) only [go_sem, Nat.reduceEqDiff, Nat.reduceAdd, Nat.reduceMul, Nat.reduceSub, Nat.reduceLeDiff, Nat.reduceLT, Int.reduceLE, Int.reduceLT, Int.reduceEq, Int.reduceAdd, Int.reduceMul, Int.reduceSub, Int.reduceNeg, Int.reduceToNat, Int.reduceDiv, Int.reduceMod, Int.reduceTDiv, Int.reduceTMod, Int.cast_ofNat_Int, ↓reduceIte, false_implies, true_implies, hh, accV]
        rfl
  · have hk' : k = z.ch.length + 1 := by omega
    cases bo with
    | none =>
      repeat refine awp_seq ?_
      refine awp_reg fun K Q hK hQ => ?_
      simp -implicitDefEqProofs (disch := first | omega | rfl) only [go_sem, Nat.reduceEqDiff, Nat.reduceAdd, Nat.reduceMul, Nat.reduceSub, Nat.reduceLeDiff, Nat.reduceLT, Int.reduceLE, Int.reduceLT, Int.reduceEq, Int.reduceAdd, Int.reduceMul, Int.reduceSub, Int.reduceNeg, Int.reduceToNat, Int.reduceDiv, Int.reduceMod, Int.reduceTDiv, Int.reduceTMod, Int.cast_ofNat_Int, ↓reduceIte, false_implies, true_implies, zr21_5, accV, accO, List.length_map, Int.ofNat_le, hlt]
      refine hK _ _ ?_; clear hK hQ K Q
      repeat refine awp_seq ?_
      refine awp_else (by rfl) ?_
      refine awp_exit ?_
      repeat' (first | refine then_exit ?_ | refine exit_here ?_ | refine exit_on rfl ?_)
      repeat refine awp_seq ?_
      refine awp_reg fun K Q hK hQ => ?_
      simp -implicitDefEqProofs (disch := first | omega | rfl) only [go_sem, Nat.reduceEqDiff, Nat.reduceAdd, Nat.reduceMul, Nat.reduceSub, Nat.reduceLeDiff, Nat.reduceLT, Int.reduceLE, Int.reduceLT, Int.reduceEq, Int.reduceAdd, Int.reduceMul, Int.reduceSub, Int.reduceNeg, Int.reduceToNat, Int.reduceDiv, Int.reduceMod, Int.reduceTDiv, Int.reduceTMod, Int.cast_ofNat_Int, ↓reduceIte, false_implies, true_implies, zr21_10]
      refine hK _ _ ?_; clear hK hQ K Q
      refine awp_frz (accO 47 none (hits z L k)) _ [(6, ints (hits z L k))] (List.Perm.refl _) ⟨frz_acc 47 none _ hbo, trivial⟩ ?_
      refine awp_ret ?_
      repeat' (first | refine then_ret ?_ | refine blk_ret ?_)
      refine ret_q ?_
      simp -implicitDefEqProofs (disch := first | omega | rfl) only [go_sem, Nat.reduceEqDiff, Nat.reduceAdd, Nat.reduceMul, Nat.reduceSub, Nat.reduceLeDiff, Nat.reduceLT, Int.reduceLE, Int.reduceLT, Int.reduceEq, Int.reduceAdd, Int.reduceMul, Int.reduceSub, Int.reduceNeg, Int.reduceToNat, Int.reduceDiv, Int.reduceMod, Int.reduceTDiv, Int.reduceTMod, Int.cast_ofNat_Int, ↓reduceIte, false_implies, true_implies]
      exact leaves_none (by simp [instantsR, hv, hk', hL])
    | some bb =>
      repeat refine awp_seq ?_
      refine awp_reg fun K Q hK hQ => ?_
      simp -implicitDefEqProofs (disch := first | omega | rfl) only [go_sem, Nat.reduceEqDiff, Nat.reduceAdd, Nat.reduceMul, Nat.reduceSub, Nat.reduceLeDiff, Nat.reduceLT, Int.reduceLE, Int.reduceLT, Int.reduceEq, Int.reduceAdd, Int.reduceMul, Int.reduceSub, Int.reduceNeg, Int.reduceToNat, Int.reduceDiv, Int.reduceMod, Int.reduceTDiv, Int.reduceTMod, Int.cast_ofNat_Int, ↓reduceIte, false_implies, true_implies, zr21_5, accV, accO, List.length_map, Int.ofNat_le, hlt]
      refine hK _ _ ?_; clear hK hQ K Q
      repeat refine awp_seq ?_
      refine awp_else (by rfl) ?_
      refine awp_exit ?_
      repeat' (first | refine then_exit ?_ | refine exit_here ?_ | refine exit_on rfl ?_)
      repeat refine awp_seq ?_
      refine awp_reg fun K Q hK hQ => ?_
      simp -implicitDefEqProofs (disch := first | omega | rfl) only [go_sem, Nat.reduceEqDiff, Nat.reduceAdd, Nat.reduceMul, Nat.reduceSub, Nat.reduceLeDiff, Nat.reduceLT, Int.reduceLE, Int.reduceLT, Int.reduceEq, Int.reduceAdd, Int.reduceMul, Int.reduceSub, Int.reduceNeg, Int.reduceToNat, Int.reduceDiv, Int.reduceMod, Int.reduceTDiv, Int.reduceTMod, Int.cast_ofNat_Int, ↓reduceIte, false_implies, true_implies, zr21_10]
      refine hK _ _ ?_; clear hK hQ K Q
      refine awp_frz (accO 47 (some bb) (hits z L k)) _ [(6, ints (hits z L k))] (List.Perm.refl _) ⟨frz_acc 47 (some bb) _ hbo, trivial⟩ ?_
      refine awp_ret ?_
      repeat' (first | refine then_ret ?_ | refine blk_ret ?_)
      refine ret_q ?_
      simp -implicitDefEqProofs (disch := first | omega | rfl) only [go_sem, Nat.reduceEqDiff, Nat.reduceAdd, Nat.reduceMul, Nat.reduceSub, Nat.reduceLeDiff, Nat.reduceLT, Int.reduceLE, Int.reduceLT, Int.reduceEq, Int.reduceAdd, Int.reduceMul, Int.reduceSub, Int.reduceNeg, Int.reduceToNat, Int.reduceDiv, Int.reduceMod, Int.reduceTDiv, Int.reduceTMod, Int.cast_ofNat_Int, ↓reduceIte, false_implies, true_implies]
      exact leaves_none (by simp [instantsR, hv, hk', hL])

theorem f14 (z : Zone) (d m : Int) (later : Bool) : PureC Try.prog 14 [z.av, .int .i64 d, .int .i64 m, .bool later] (two (instantR z d m later)) := by
  refine fn_intro' 72 Try.func14 nt14 ok14 res14 (by simp) fun X hP hn hd hr => ?_
  repeat refine awp_seq ?_
  refine awp_reg fun K Q hK hQ => ?_
  simp -implicitDefEqProofs (disch := first | omega | rfl) only [go_sem, Nat.reduceEqDiff, Nat.reduceAdd, Nat.reduceMul, Nat.reduceSub, Nat.reduceLeDiff, Nat.reduceLT, Int.reduceLE, Int.reduceLT, Int.reduceEq, Int.reduceAdd, Int.reduceMul, Int.reduceSub, Int.reduceNeg, Int.reduceToNat, Int.reduceDiv, Int.reduceMod, Int.reduceTDiv, Int.reduceTMod, Int.cast_ofNat_Int, ↓reduceIte, false_implies, true_implies, zr14_0, argS, Zone.av, Zone.cs]
  intro b
  refine hK _ _ ?_; clear hK hQ K Q
  have F := f29 z d m
  repeat refine awp_seq ?_
  refine awp_reg fun K Q hK hQ => ?_
  simp -implicitDefEqProofs (disch := first | omega | rfl) only [go_sem, Nat.reduceEqDiff, Nat.reduceAdd, Nat.reduceMul, Nat.reduceSub, Nat.reduceLeDiff, Nat.reduceLT, Int.reduceLE, Int.reduceLT, Int.reduceEq, Int.reduceAdd, Int.reduceMul, Int.reduceSub, Int.reduceNeg, Int.reduceToNat, Int.reduceDiv, Int.reduceMod, Int.reduceTDiv, Int.reduceTMod, Int.cast_ofNat_Int, ↓reduceIte, false_implies, true_implies, zr14_1]
  cases hv : good z d m
  · rw [hv] at F
    refine call_pure hP (F) ?_
    simp -implicitDefEqProofs (disch := first | omega | rfl) only [go_sem, Nat.reduceEqDiff, Nat.reduceAdd, Nat.reduceMul, Nat.reduceSub, Nat.reduceLeDiff, Nat.reduceLT, Int.reduceLE, Int.reduceLT, Int.reduceEq, Int.reduceAdd, Int.reduceMul, Int.reduceSub, Int.reduceNeg, Int.reduceToNat, Int.reduceDiv, Int.reduceMod, Int.reduceTDiv, Int.reduceTMod, Int.cast_ofNat_Int, ↓reduceIte, false_implies, true_implies]
    refine hK _ _ ?_; clear hK hQ K Q
    repeat refine awp_seq ?_
    refine awp_then (by rfl) ?_
    repeat refine awp_seq ?_
    refine awp_reg fun K Q hK hQ => ?_
    simp -implicitDefEqProofs (disch := first | omega | rfl) only [go_sem, Nat.reduceEqDiff, Nat.reduceAdd, Nat.reduceMul, Nat.reduceSub, Nat.reduceLeDiff, Nat.reduceLT, Int.reduceLE, Int.reduceLT, Int.reduceEq, Int.reduceAdd, Int.reduceMul, Int.reduceSub, Int.reduceNeg, Int.reduceToNat, Int.reduceDiv, Int.reduceMod, Int.reduceTDiv, Int.reduceTMod, Int.cast_ofNat_Int, ↓reduceIte, false_implies, true_implies, zr14_2]
    refine hK _ _ ?_; clear hK hQ K Q
    refine awp_ret ?_
    repeat' (first | refine then_ret ?_ | refine blk_ret ?_)
    refine ret_q ?_
    simp -implicitDefEqProofs (disch := first | omega | rfl) only [go_sem, Nat.reduceEqDiff, Nat.reduceAdd, Nat.reduceMul, Nat.reduceSub, Nat.reduceLeDiff, Nat.reduceLT, Int.reduceLE, Int.reduceLT, Int.reduceEq, Int.reduceAdd, Int.reduceMul, Int.reduceSub, Int.reduceNeg, Int.reduceToNat, Int.reduceDiv, Int.reduceMod, Int.reduceTDiv, Int.reduceTMod, Int.cast_ofNat_Int, ↓reduceIte, false_implies, true_implies]
    exact leaves_none (by simp [two, instantR, hv])
  rw [hv] at F
  refine call_pure hP (F) ?_
  simp -implicitDefEqProofs (disch := first | omega | rfl) only [go_sem, Nat.reduceEqDiff, Nat.reduceAdd, Nat.reduceMul, Nat.reduceSub, Nat.reduceLeDiff, Nat.reduceLT, Int.reduceLE, Int.reduceLT, Int.reduceEq, Int.reduceAdd, Int.reduceMul, Int.reduceSub, Int.reduceNeg, Int.reduceToNat, Int.reduceDiv, Int.reduceMod, Int.reduceTDiv, Int.reduceTMod, Int.cast_ofNat_Int, ↓reduceIte, false_implies, true_implies]
  refine hK _ _ ?_; clear hK hQ K Q
  repeat refine awp_seq ?_
  refine awp_else (by rfl) ?_
  refine awp_skip ?_
  obtain ⟨ok, d0, d1, m0, m1⟩ := good_ok hv
  have hl := ok.len
  repeat refine awp_seq ?_
  refine awp_reg fun K Q hK hQ => ?_
  simp -implicitDefEqProofs (disch := first | omega | rfl) only [go_sem, Nat.reduceEqDiff, Nat.reduceAdd, Nat.reduceMul, Nat.reduceSub, Nat.reduceLeDiff, Nat.reduceLT, Int.reduceLE, Int.reduceLT, Int.reduceEq, Int.reduceAdd, Int.reduceMul, Int.reduceSub, Int.reduceNeg, Int.reduceToNat, Int.reduceDiv, Int.reduceMod, Int.reduceTDiv, Int.reduceTMod, Int.cast_ofNat_Int, ↓reduceIte, false_implies, true_implies, zr14_3]
  refine call_pure hP (f21 z d m) ?_
  simp -implicitDefEqProofs (disch := first | omega | rfl) only [go_sem, Nat.reduceEqDiff, Nat.reduceAdd, Nat.reduceMul, Nat.reduceSub, Nat.reduceLeDiff, Nat.reduceLT, Int.reduceLE, Int.reduceLT, Int.reduceEq, Int.reduceAdd, Int.reduceMul, Int.reduceSub, Int.reduceNeg, Int.reduceToNat, Int.reduceDiv, Int.reduceMod, Int.reduceTDiv, Int.reduceTMod, Int.cast_ofNat_Int, ↓reduceIte, false_implies, true_implies]
  refine hK _ _ ?_; clear hK hQ K Q
  have hlen : (instantsR z d m).length ≤ z.ch.length + 1 := by rw [instantsR, if_pos hv]; exact hits_len _ _ _
  generalize hI : instantsR z d m = I at *
  by_cases hp : (0 : Int) < I.length
  · have hp' : 0 < I.length := by omega
    have hne : I.length ≠ 0 := by omega
    repeat refine awp_seq ?_
    refine awp_reg fun K Q hK hQ => ?_
    simp -implicitDefEqProofs (disch := first | omega | rfl) only [go_sem, Nat.reduceEqDiff, Nat.reduceAdd, Nat.reduceMul, Nat.reduceSub, Nat.reduceLeDiff, Nat.reduceLT, Int.reduceLE, Int.reduceLT, Int.reduceEq, Int.reduceAdd, Int.reduceMul, Int.reduceSub, Int.reduceNeg, Int.reduceToNat, Int.reduceDiv, Int.reduceMod, Int.reduceTDiv, Int.reduceTMod, Int.cast_ofNat_Int, ↓reduceIte, false_implies, true_implies, zr14_4, ints, List.length_map, hp]
    refine hK _ _ ?_; clear hK hQ K Q
    repeat refine awp_seq ?_
    refine awp_then (by rfl) ?_
    repeat refine awp_seq ?_
    refine awp_reg fun K Q hK hQ => ?_
    simp -implicitDefEqProofs (disch := first | omega | rfl) only [go_sem, Nat.reduceEqDiff, Nat.reduceAdd, Nat.reduceMul, Nat.reduceSub, Nat.reduceLeDiff, Nat.reduceLT, Int.reduceLE, Int.reduceLT, Int.reduceEq, Int.reduceAdd, Int.reduceMul, Int.reduceSub, Int.reduceNeg, Int.reduceToNat, Int.reduceDiv, Int.reduceMod, Int.reduceTDiv, Int.reduceTMod, Int.cast_ofNat_Int, ↓reduceIte, false_implies, true_implies, zr14_5]
    refine hK _ _ ?_; clear hK hQ K Q
    cases later
    · repeat refine awp_seq ?_
      refine awp_else (by rfl) ?_
      refine awp_skip ?_
      have h0 : 0 < I.length := by omega
      repeat refine awp_seq ?_
      refine awp_reg fun K Q hK hQ => ?_
      simp -implicitDefEqProofs (disch := first | omega | rfl) only [go_sem, Nat.reduceEqDiff, Nat.reduceAdd, Nat.reduceMul, Nat.reduceSub, Nat.reduceLeDiff, Nat.reduceLT, Int.reduceLE, Int.reduceLT, Int.reduceEq, Int.reduceAdd, Int.reduceMul, Int.reduceSub, Int.reduceNeg, Int.reduceToNat, Int.reduceDiv, Int.reduceMod, Int.reduceTDiv, Int.reduceTMod, Int.cast_ofNat_Int, ↓reduceIte, false_implies, true_implies, zr14_7, List.length_map, hp, getD_map, Int.toNat_zero, h0]
      refine hK _ _ ?_; clear hK hQ K Q
      refine awp_ret ?_
      repeat' (first | refine then_ret ?_ | refine blk_ret ?_)
      refine ret_q ?_
      simp -implicitDefEqProofs (disch := first | omega | rfl) only [go_sem, Nat.reduceEqDiff, Nat.reduceAdd, Nat.reduceMul, Nat.reduceSub, Nat.reduceLeDiff, Nat.reduceLT, Int.reduceLE, Int.reduceLT, Int.reduceEq, Int.reduceAdd, Int.reduceMul, Int.reduceSub, Int.reduceNeg, Int.reduceToNat, Int.reduceDiv, Int.reduceMod, Int.reduceTDiv, Int.reduceTMod, Int.cast_ofNat_Int, ↓reduceIte, false_implies, true_implies]
      exact leaves_none (by simp [two, instantR, hv, hI, hne, pick])
    · repeat refine awp_seq ?_
      refine awp_then (by rfl) ?_
      have h1 : (I.length : Int) - 1 = ((I.length - 1 : Nat) : Int) := by omega
      have h2 : I.length - 1 < I.length := by omega
      repeat refine awp_seq ?_
      refine awp_reg fun K Q hK hQ => ?_
      simp -implicitDefEqProofs (disch := first | omega | rfl) only [go_sem, Nat.reduceEqDiff, Nat.reduceAdd, Nat.reduceMul, Nat.reduceSub, Nat.reduceLeDiff, Nat.reduceLT, Int.reduceLE, Int.reduceLT, Int.reduceEq, Int.reduceAdd, Int.reduceMul, Int.reduceSub, Int.reduceNeg, Int.reduceToNat, Int.reduceDiv, Int.reduceMod, Int.reduceTDiv, Int.reduceTMod, Int.cast_ofNat_Int, ↓reduceIte, false_implies, true_implies, zr14_6, List.length_map, h1, Int.ofNat_lt, h2, getD_map]
      refine hK _ _ ?_; clear hK hQ K Q
      refine awp_ret ?_
      repeat' (first | refine then_ret ?_ | refine blk_ret ?_)
      refine ret_q ?_
      simp -implicitDefEqProofs (disch := first | omega | rfl) only [go_sem, Nat.reduceEqDiff, Nat.reduceAdd, Nat.reduceMul, Nat.reduceSub, Nat.reduceLeDiff, Nat.reduceLT, Int.reduceLE, Int.reduceLT, Int.reduceEq, Int.reduceAdd, Int.reduceMul, Int.reduceSub, Int.reduceNeg, Int.reduceToNat, Int.reduceDiv, Int.reduceMod, Int.reduceTDiv, Int.reduceTMod, Int.cast_ofNat_Int, ↓reduceIte, false_implies, true_implies]
      exact leaves_none (by simp [two, instantR, hv, hI, hne, pick])
  have hz : I.length = 0 := by omega
  repeat refine awp_seq ?_
  refine awp_reg fun K Q hK hQ => ?_
  simp -implicitDefEqProofs (disch := first | omega | rfl) only [go_sem, Nat.reduceEqDiff, Nat.reduceAdd, Nat.reduceMul, Nat.reduceSub, Nat.reduceLeDiff, Nat.reduceLT, Int.reduceLE, Int.reduceLT, Int.reduceEq, Int.reduceAdd, Int.reduceMul, Int.reduceSub, Int.reduceNeg, Int.reduceToNat, Int.reduceDiv, Int.reduceMod, Int.reduceTDiv, Int.reduceTMod, Int.cast_ofNat_Int, ↓reduceIte, false_implies, true_implies, zr14_4, ints, List.length_map, hp]
  refine hK _ _ ?_; clear hK hQ K Q
  repeat refine awp_seq ?_
  refine awp_else (by rfl) ?_
  refine awp_skip ?_
  generalize hL : d * 1440 + m = L
  repeat refine awp_seq ?_
  refine awp_reg fun K Q hK hQ => ?_
  simp -implicitDefEqProofs (disch := first | omega | rfl) only [go_sem, Nat.reduceEqDiff, Nat.reduceAdd, Nat.reduceMul, Nat.reduceSub, Nat.reduceLeDiff, Nat.reduceLT, Int.reduceLE, Int.reduceLT, Int.reduceEq, Int.reduceAdd, Int.reduceMul, Int.reduceSub, Int.reduceNeg, Int.reduceToNat, Int.reduceDiv, Int.reduceMod, Int.reduceTDiv, Int.reduceTMod, Int.cast_ofNat_Int, ↓reduceIte, false_implies, true_implies, zr14_8, hL]
  refine hK _ _ ?_; clear hK hQ K Q
  repeat refine awp_seq ?_
  refine awp_reg fun K Q hK hQ => ?_
  simp -implicitDefEqProofs (disch := first | omega | rfl) only [go_sem, Nat.reduceEqDiff, Nat.reduceAdd, Nat.reduceMul, Nat.reduceSub, Nat.reduceLeDiff, Nat.reduceLT, Int.reduceLE, Int.reduceLT, Int.reduceEq, Int.reduceAdd, Int.reduceMul, Int.reduceSub, Int.reduceNeg, Int.reduceToNat, Int.reduceDiv, Int.reduceMod, Int.reduceTDiv, Int.reduceTMod, Int.cast_ofNat_Int, ↓reduceIte, false_implies, true_implies, zr14_9]
  refine hK _ _ ?_; clear hK hQ K Q
  repeat refine awp_seq ?_
  refine awp_block ?_
  refine awp_loop (ι := {k : Nat // 1 ≤ k ∧ k ≤ z.ch.length + 1 ∧ skip z L (z.ch.length + 1 - k) k = skip z L z.ch.length 1}) (fun k => [(12, .int .i64 k.1), (11, .int .i64 L), (4, .ptr 4 b 0)])
    (fun k => [(4, b, Ob.cells [AV.int IntKind.i64 z.off, AV.sl (List.map Chg.av z.ch)])]) (fun k => z.ch.length + 1 - k.1) ⟨1, Nat.le_refl _, by omega, rfl⟩ ?_ ?_
  · refine ent_sub ?_ (List.Sublist.refl _)
    simp -implicitDefEqProofs (disch := first | omega | rfl) only [go_sem, Nat.reduceEqDiff, Nat.reduceAdd, Nat.reduceMul, Nat.reduceSub, Nat.reduceLeDiff, Nat.reduceLT, Int.reduceLE, Int.reduceLT, Int.reduceEq, Int.reduceAdd, Int.reduceMul, Int.reduceSub, Int.reduceNeg, Int.reduceToNat, Int.reduceDiv, Int.reduceMod, Int.reduceTDiv, Int.reduceTMod, Int.cast_ofNat_Int, ↓reduceIte, false_implies, true_implies]
    try rfl
  rintro ⟨k, hk1, hk, hs⟩
  by_cases hlt : k ≤ z.ch.length
  · have h2 : (k : Int) - 1 = ((k - 1 : Nat) : Int) := by omega
    have h3 : k - 1 < z.ch.length := by omega
    have o1 := ok.offs (k - 1) (by omega)
    have o2 := ok.offs k hlt
    obtain ⟨_, b1, b2⟩ := okFrom_get 0 z.ch ok.ch (k - 1) h3
    have hsk : skip z L (z.ch.length + 1 - k) k = if z.ch[k - 1]!.at_ + offs z (k - 1) ≤ L ∧ L < z.ch[k - 1]!.at_ + offs z k then (z.ch[k - 1]!.at_, 0) else skip z L (z.ch.length + 1 - (k + 1)) (k + 1) := by
      rw [show z.ch.length + 1 - k = (z.ch.length + 1 - (k + 1)) + 1 by omega]
      rfl
    repeat refine awp_seq ?_
    refine awp_reg fun K Q hK hQ => ?_
    simp -implicitDefEqProofs (disch := first | omega | rfl) only [go_sem, Nat.reduceEqDiff, Nat.reduceAdd, Nat.reduceMul, Nat.reduceSub, Nat.reduceLeDiff, Nat.reduceLT, Int.reduceLE, Int.reduceLT, Int.reduceEq, Int.reduceAdd, Int.reduceMul, Int.reduceSub, Int.reduceNeg, Int.reduceToNat, Int.reduceDiv, Int.reduceMod, Int.reduceTDiv, Int.reduceTMod, Int.cast_ofNat_Int, ↓reduceIte, false_implies, true_implies, zr14_10, List.length_map, Int.ofNat_le, hlt]
    refine hK _ _ ?_; clear hK hQ K Q
    repeat refine awp_seq ?_
    refine awp_then (by rfl) ?_
    refine awp_skip ?_
    repeat refine awp_seq ?_
    refine awp_block ?_
    repeat refine awp_seq ?_
    refine awp_reg fun K Q hK hQ => ?_
    simp -implicitDefEqProofs (disch := first | omega | rfl) only [go_sem, Nat.reduceEqDiff, Nat.reduceAdd, Nat.reduceMul, Nat.reduceSub, Nat.reduceLeDiff, Nat.reduceLT, Int.reduceLE, Int.reduceLT, Int.reduceEq, Int.reduceAdd, Int.reduceMul, Int.reduceSub, Int.reduceNeg, Int.reduceToNat, Int.reduceDiv, Int.reduceMod, Int.reduceTDiv, Int.reduceTMod, Int.cast_ofNat_Int, ↓reduceIte, false_implies, true_implies, zr14_11, h2, List.length_map, Int.ofNat_lt, h3, getD_map, Chg.av]
    refine hK _ _ ?_; clear hK hQ K Q
    by_cases c1 : z.ch[k - 1]!.at_ + offs z (k - 1) ≤ L
    · by_cases c2 : L < z.ch[k - 1]!.at_ + offs z k
      · repeat refine awp_seq ?_
        refine awp_reg fun K Q hK hQ => ?_
        simp -implicitDefEqProofs (disch := first | omega | rfl) only [go_sem, Nat.reduceEqDiff, Nat.reduceAdd, Nat.reduceMul, Nat.reduceSub, Nat.reduceLeDiff, Nat.reduceLT, Int.reduceLE, Int.reduceLT, Int.reduceEq, Int.reduceAdd, Int.reduceMul, Int.reduceSub, Int.reduceNeg, Int.reduceToNat, Int.reduceDiv, Int.reduceMod, Int.reduceTDiv, Int.reduceTMod, Int.cast_ofNat_Int, ↓reduceIte, false_implies, true_implies, zr14_12, h2]
        refine call_pure hP (f25 z (k - 1) (by omega) (by omega)) ?_
        simp -implicitDefEqProofs (disch := first | omega | rfl) only [go_sem, Nat.reduceEqDiff, Nat.reduceAdd, Nat.reduceMul, Nat.reduceSub, Nat.reduceLeDiff, Nat.reduceLT, Int.reduceLE, Int.reduceLT, Int.reduceEq, Int.reduceAdd, Int.reduceMul, Int.reduceSub, Int.reduceNeg, Int.reduceToNat, Int.reduceDiv, Int.reduceMod, Int.reduceTDiv, Int.reduceTMod, Int.cast_ofNat_Int, ↓reduceIte, false_implies, true_implies, c1]
        refine call_pure hP (f25 z k hlt (by omega)) ?_
        simp -implicitDefEqProofs (disch := first | omega | rfl) only [go_sem, Nat.reduceEqDiff, Nat.reduceAdd, Nat.reduceMul, Nat.reduceSub, Nat.reduceLeDiff, Nat.reduceLT, Int.reduceLE, Int.reduceLT, Int.reduceEq, Int.reduceAdd, Int.reduceMul, Int.reduceSub, Int.reduceNeg, Int.reduceToNat, Int.reduceDiv, Int.reduceMod, Int.reduceTDiv, Int.reduceTMod, Int.cast_ofNat_Int, ↓reduceIte, false_implies, true_implies, c2]
        refine hK _ _ ?_; clear hK hQ K Q
        repeat refine awp_seq ?_
        refine awp_then (by rfl) ?_
        repeat refine awp_seq ?_
        refine awp_reg fun K Q hK hQ => ?_
        simp -implicitDefEqProofs (disch := first | omega | rfl) only [go_sem, Nat.reduceEqDiff, Nat.reduceAdd, Nat.reduceMul, Nat.reduceSub, Nat.reduceLeDiff, Nat.reduceLT, Int.reduceLE, Int.reduceLT, Int.reduceEq, Int.reduceAdd, Int.reduceMul, Int.reduceSub, Int.reduceNeg, Int.reduceToNat, Int.reduceDiv, Int.reduceMod, Int.reduceTDiv, Int.reduceTMod, Int.cast_ofNat_Int, ↓reduceIte, false_implies, true_implies, zr14_13]
        refine hK _ _ ?_; clear hK hQ K Q
        refine awp_ret ?_
        repeat' (first | refine then_ret ?_ | refine blk_ret ?_)
        refine ret_q ?_
        simp -implicitDefEqProofs (disch := first | omega | rfl) only [go_sem, Nat.reduceEqDiff, Nat.reduceAdd, Nat.reduceMul, Nat.reduceSub, Nat.reduceLeDiff, Nat.reduceLT, Int.reduceLE, Int.reduceLT, Int.reduceEq, Int.reduceAdd, Int.reduceMul, Int.reduceSub, Int.reduceNeg, Int.reduceToNat, Int.reduceDiv, Int.reduceMod, Int.reduceTDiv, Int.reduceTMod, Int.cast_ofNat_Int, ↓reduceIte, false_implies, true_implies]
        exact leaves_none (by rw [hsk, if_pos ⟨c1, c2⟩] at hs; simp [two, instantR, hv, hI, hz, hL, ← hs])
      · repeat refine awp_seq ?_
        refine awp_reg fun K Q hK hQ => ?_
        simp -implicitDefEqProofs (disch := first | omega | rfl) only [go_sem, Nat.reduceEqDiff, Nat.reduceAdd, Nat.reduceMul, Nat.reduceSub, Nat.reduceLeDiff, Nat.reduceLT, Int.reduceLE, Int.reduceLT, Int.reduceEq, Int.reduceAdd, Int.reduceMul, Int.reduceSub, Int.reduceNeg, Int.reduceToNat, Int.reduceDiv, Int.reduceMod, Int.reduceTDiv, Int.reduceTMod, Int.cast_ofNat_Int, ↓reduceIte, false_implies, true_implies, zr14_12, h2]
        refine call_pure hP (f25 z (k - 1) (by omega) (by omega)) ?_
        simp -implicitDefEqProofs (disch := first | omega | rfl) only [go_sem, Nat.reduceEqDiff, Nat.reduceAdd, Nat.reduceMul, Nat.reduceSub, Nat.reduceLeDiff, Nat.reduceLT, Int.reduceLE, Int.reduceLT, Int.reduceEq, Int.reduceAdd, Int.reduceMul, Int.reduceSub, Int.reduceNeg, Int.reduceToNat, Int.reduceDiv, Int.reduceMod, Int.reduceTDiv, Int.reduceTMod, Int.cast_ofNat_Int, ↓reduceIte, false_implies, true_implies, c1]
        refine call_pure hP (f25 z k hlt (by omega)) ?_
        simp -implicitDefEqProofs (disch := first | omega | rfl) only [go_sem, Nat.reduceEqDiff, Nat.reduceAdd, Nat.reduceMul, Nat.reduceSub, Nat.reduceLeDiff, Nat.reduceLT, Int.reduceLE, Int.reduceLT, Int.reduceEq, Int.reduceAdd, Int.reduceMul, Int.reduceSub, Int.reduceNeg, Int.reduceToNat, Int.reduceDiv, Int.reduceMod, Int.reduceTDiv, Int.reduceTMod, Int.cast_ofNat_Int, ↓reduceIte, false_implies, true_implies, c2]
        refine hK _ _ ?_; clear hK hQ K Q
        repeat refine awp_seq ?_
        refine awp_else (by rfl) ?_
        refine awp_skip ?_
        refine awp_reg fun K Q hK hQ => ?_
        simp -implicitDefEqProofs (disch := first | omega | rfl) only [go_sem, Nat.reduceEqDiff, Nat.reduceAdd, Nat.reduceMul, Nat.reduceSub, Nat.reduceLeDiff, Nat.reduceLT, Int.reduceLE, Int.reduceLT, Int.reduceEq, Int.reduceAdd, Int.reduceMul, Int.reduceSub, Int.reduceNeg, Int.reduceToNat, Int.reduceDiv, Int.reduceMod, Int.reduceTDiv, Int.reduceTMod, Int.cast_ofNat_Int, ↓reduceIte, false_implies, true_implies, zr14_14]
        refine hK _ _ ?_; clear hK hQ K Q
        refine ⟨⟨k + 1, by omega, by omega, ?_⟩, by simp only; omega, ?_⟩
        · rw [← hs, hsk, if_neg (by omega)]
        · refine ent_sub ?_ (List.Sublist.refl _)
          simp -implicitDefEqProofs (disch := first | omega | rfl) only [go_sem, Nat.reduceEqDiff, Nat.reduceAdd, Nat.reduceMul, Nat.reduceSub, Nat.reduceLeDiff, Nat.reduceLT, Int.reduceLE, Int.reduceLT, Int.reduceEq, Int.reduceAdd, Int.reduceMul, Int.reduceSub, Int.reduceNeg, Int.reduceToNat, Int.reduceDiv, Int.reduceMod, Int.reduceTDiv, Int.reduceTMod, Int.cast_ofNat_Int, ↓reduceIte, false_implies, true_implies]
          rfl
    · repeat refine awp_seq ?_
      refine awp_reg fun K Q hK hQ => ?_
      simp -implicitDefEqProofs (disch := first | omega | rfl) only [go_sem, Nat.reduceEqDiff, Nat.reduceAdd, Nat.reduceMul, Nat.reduceSub, Nat.reduceLeDiff, Nat.reduceLT, Int.reduceLE, Int.reduceLT, Int.reduceEq, Int.reduceAdd, Int.reduceMul, Int.reduceSub, Int.reduceNeg, Int.reduceToNat, Int.reduceDiv, Int.reduceMod, Int.reduceTDiv, Int.reduceTMod, Int.cast_ofNat_Int, ↓reduceIte, false_implies, true_implies, zr14_12, h2]
      refine call_pure hP (f25 z (k - 1) (by omega) (by omega)) ?_
      simp -implicitDefEqProofs (disch := first | omega | rfl) only [go_sem, Nat.reduceEqDiff, Nat.reduceAdd, Nat.reduceMul, Nat.reduceSub, Nat.reduceLeDiff, Nat.reduceLT, Int.reduceLE, Int.reduceLT, Int.reduceEq, Int.reduceAdd, Int.reduceMul, Int.reduceSub, Int.reduceNeg, Int.reduceToNat, Int.reduceDiv, Int.reduceMod, Int.reduceTDiv, Int.reduceTMod, Int.cast_ofNat_Int, ↓reduceIte, false_implies, true_implies, c1]
      refine hK _ _ ?_; clear hK hQ K Q
      repeat refine awp_seq ?_
      refine awp_else (by rfl) ?_
      refine awp_skip ?_
      refine awp_reg fun K Q hK hQ => ?_
      simp -implicitDefEqProofs (disch := first | omega | rfl) only [go_sem, Nat.reduceEqDiff, Nat.reduceAdd, Nat.reduceMul, Nat.reduceSub, Nat.reduceLeDiff, Nat.reduceLT, Int.reduceLE, Int.reduceLT, Int.reduceEq, Int.reduceAdd, Int.reduceMul, Int.reduceSub, Int.reduceNeg, Int.reduceToNat, Int.reduceDiv, Int.reduceMod, Int.reduceTDiv, Int.reduceTMod, Int.cast_ofNat_Int, ↓reduceIte, false_implies, true_implies, zr14_14]
      refine hK _ _ ?_; clear hK hQ K Q
      refine ⟨⟨k + 1, by omega, by omega, ?_⟩, by simp only; omega, ?_⟩
      · rw [← hs, hsk, if_neg (by omega)]
      · refine ent_sub ?_ (List.Sublist.refl _)
        simp -implicitDefEqProofs (disch := first | omega | rfl) only [go_sem, Nat.reduceEqDiff, Nat.reduceAdd, Nat.reduceMul, Nat.reduceSub, Nat.reduceLeDiff, Nat.reduceLT, Int.reduceLE, Int.reduceLT, Int.reduceEq, Int.reduceAdd, Int.reduceMul, Int.reduceSub, Int.reduceNeg, Int.reduceToNat, Int.reduceDiv, Int.reduceMod, Int.reduceTDiv, Int.reduceTMod, Int.cast_ofNat_Int, ↓reduceIte, false_implies, true_implies]
        rfl
  · repeat refine awp_seq ?_
    refine awp_reg fun K Q hK hQ => ?_
    simp -implicitDefEqProofs (disch := first | omega | rfl) only [go_sem, Nat.reduceEqDiff, Nat.reduceAdd, Nat.reduceMul, Nat.reduceSub, Nat.reduceLeDiff, Nat.reduceLT, Int.reduceLE, Int.reduceLT, Int.reduceEq, Int.reduceAdd, Int.reduceMul, Int.reduceSub, Int.reduceNeg, Int.reduceToNat, Int.reduceDiv, Int.reduceMod, Int.reduceTDiv, Int.reduceTMod, Int.cast_ofNat_Int, ↓reduceIte, false_implies, true_implies, zr14_10, List.length_map, Int.ofNat_le, hlt]
    refine hK _ _ ?_; clear hK hQ K Q
    repeat refine awp_seq ?_
    refine awp_else (by rfl) ?_
    refine awp_exit ?_
    repeat' (first | refine then_exit ?_ | refine exit_here ?_ | refine exit_on rfl ?_)
    repeat refine awp_seq ?_
    refine awp_reg fun K Q hK hQ => ?_
    simp -implicitDefEqProofs (disch := first | omega | rfl) only [go_sem, Nat.reduceEqDiff, Nat.reduceAdd, Nat.reduceMul, Nat.reduceSub, Nat.reduceLeDiff, Nat.reduceLT, Int.reduceLE, Int.reduceLT, Int.reduceEq, Int.reduceAdd, Int.reduceMul, Int.reduceSub, Int.reduceNeg, Int.reduceToNat, Int.reduceDiv, Int.reduceMod, Int.reduceTDiv, Int.reduceTMod, Int.cast_ofNat_Int, ↓reduceIte, false_implies, true_implies, zr14_15]
    refine hK _ _ ?_; clear hK hQ K Q
    refine awp_ret ?_
    repeat' (first | refine then_ret ?_ | refine blk_ret ?_)
    refine ret_q ?_
    simp -implicitDefEqProofs (disch := first | omega | rfl) only [go_sem, Nat.reduceEqDiff, Nat.reduceAdd, Nat.reduceMul, Nat.reduceSub, Nat.reduceLeDiff, Nat.reduceLT, Int.reduceLE, Int.reduceLT, Int.reduceEq, Int.reduceAdd, Int.reduceMul, Int.reduceSub, Int.reduceNeg, Int.reduceToNat, Int.reduceDiv, Int.reduceMod, Int.reduceTDiv, Int.reduceTMod, Int.cast_ofNat_Int, ↓reduceIte, false_implies, true_implies]
    exact leaves_none (by rw [show z.ch.length + 1 - k = 0 by omega] at hs; simp [two, instantR, hv, hI, hz, hL, ← hs, skip])
end Go.Proofs.Zt
