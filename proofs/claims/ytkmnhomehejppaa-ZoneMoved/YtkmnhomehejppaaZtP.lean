import Derived.Test.YtkmnhomehejppaaZtO
import Derived.Test.YtkmnhomehejppaaAwDraw2
set_option linter.unusedSimpArgs false
set_option linter.unusedVariables false
set_option linter.deprecated false
namespace Go.Proofs.Zt
open Go.Aw

def moved (z : Zone) (n : Int) : Zone := ⟨z.off + n, z.ch.map fun c => ⟨c.at_, c.off + n⟩⟩
def cells2 (l : List Chg) : List AV := l.flatMap fun c => [.int .i64 c.at_, .int .i64 c.off]
def acc2V (key : Nat) (bo : Option Nat) (n : Nat) : AV := match bo with | none => .nil | some b => .row key b 0 n 2
def acc2O (key : Nat) (bo : Option Nat) (l : List Chg) : Own := match bo with | none => [] | some b => [(key, b, .cells (cells2 l))]

theorem cells2_len (l : List Chg) : (cells2 l).length = l.length * 2 := by
  induction l with
  | nil => rfl
  | cons c r ih => simp [cells2] at ih ⊢; omega
theorem cells2_snoc (l : List Chg) (c : Chg) : cells2 (l ++ [c]) = cells2 l ++ [.int .i64 c.at_, .int .i64 c.off] := by simp [cells2]
theorem cells2_get (l : List Chg) (i : Nat) (c : Chg) (h : l[i]? = some c) : (cells2 l)[i * 2]? = some (.int .i64 c.at_) ∧ (cells2 l)[i * 2 + 1]? = some (.int .i64 c.off) := by
  induction l generalizing i with
  | nil => simp at h
  | cons e r ih =>
    cases i with
    | zero => simp at h; subst h; simp [cells2]
    | succ i =>
      have := ih i (by simpa using h)
      have e1 : (i + 1) * 2 = i * 2 + 2 := by omega
      rw [e1]
      simpa [cells2] using this

theorem frz_acc2 (key : Nat) (bo : Option Nat) (l : List Chg) (r : Own) (hb : bo = none → l = []) : Frz (acc2O key bo l ++ r) (acc2V key bo l.length) (.sl (l.map Chg.av)) := by
  cases bo with
  | none => rw [hb rfl]; exact .nil
  | some b =>
    have hg : ∀ (i : Nat) (x : AV), (l.map Chg.av)[i]? = some x → ∃ c, l[i]? = some c ∧ x = c.av := fun i x hx => by
      rw [List.getElem?_map] at hx
      obtain ⟨c, h1, h2⟩ := Option.map_eq_some_iff.1 hx
      exact ⟨c, h1, h2.symm⟩
    have hcell : ∀ (i : Nat) (x : AV) (j : Nat) (y : AV), (l.map Chg.av)[i]? = some x → x.cells[j]? = some y → (cells2 l)[i * 2 + j]? = some y := fun i x j y hx hy => by
      obtain ⟨c, h1, rfl⟩ := hg i x hx
      obtain ⟨q1, q2⟩ := cells2_get l i c h1
      match j with
      | 0 => simp [Chg.av, AV.cells] at hy; rw [← hy]; exact q1
      | 1 => simp [Chg.av, AV.cells] at hy; rw [← hy]; exact q2
      | j + 2 => simp [Chg.av, AV.cells] at hy
    refine .row key b 0 l.length 2 (cells2 l) _ (fun j => (cells2 l).getD j .any) find_head (by simp) (fun i x hx => ?_) (fun i x j y hx hy => ?_) (fun i x j y hx hy => ?_)
    · obtain ⟨c, _, rfl⟩ := hg i x hx; rfl
    · have := hcell i x j y hx hy
      simp [this]
    · have := hcell i x j y hx hy
      simp [this]
      exact .keep _

theorem moved_seg (z : Zone) (n t : Int) : seg (moved z n).ch t = seg z.ch t := by
  unfold moved
  simp only
  induction z.ch with
  | nil => rfl
  | cons c r ih => simp only [List.map_cons, seg, ih]
theorem moved_offs (z : Zone) (n : Int) (k : Nat) (hk : k ≤ z.ch.length) : offs (moved z n) k = offs z k + n := by
  unfold offs moved
  simp only
  split
  · rfl
  · have : k - 1 < z.ch.length := by omega
    simp [this]

set_option maxHeartbeats 1000000 in
theorem f22 (z : Zone) (n : Int) (ok : z.Ok) (n0 : -1680 ≤ n) (n1 : n ≤ 1680) : PureC Try.prog 22 [z.av, .int .i64 n] ((moved z n).av) := by
  refine fn_intro' 40 Try.func22 nt22 ok22 res22 (by simp) fun X hP hn hd hr => ?_
  have hl := ok.len
  have hz := ok.off
  repeat refine awp_seq ?_
  refine awp_reg fun K Q hK hQ => ?_
  simp -implicitDefEqProofs (disch := first | omega | rfl) only [go_sem, Nat.reduceEqDiff, Nat.reduceAdd, Nat.reduceMul, Nat.reduceSub, Nat.reduceLeDiff, Nat.reduceLT, Int.reduceLE, Int.reduceLT, Int.reduceEq, Int.reduceAdd, Int.reduceMul, Int.reduceSub, Int.reduceNeg, Int.reduceToNat, Int.reduceDiv, Int.reduceMod, Int.reduceTDiv, Int.reduceTMod, Int.cast_ofNat_Int, ↓reduceIte, false_implies, true_implies, zr22_0, argS, Zone.av, Zone.cs]
  intro b2 b4
  refine hK _ _ ?_; clear hK hQ K Q
  repeat refine awp_seq ?_
  refine awp_reg fun K Q hK hQ => ?_
  simp -implicitDefEqProofs (disch := first | omega | rfl) only [go_sem, Nat.reduceEqDiff, Nat.reduceAdd, Nat.reduceMul, Nat.reduceSub, Nat.reduceLeDiff, Nat.reduceLT, Int.reduceLE, Int.reduceLT, Int.reduceEq, Int.reduceAdd, Int.reduceMul, Int.reduceSub, Int.reduceNeg, Int.reduceToNat, Int.reduceDiv, Int.reduceMod, Int.reduceTDiv, Int.reduceTMod, Int.cast_ofNat_Int, ↓reduceIte, false_implies, true_implies, zr22_1]
  intro b5
  refine hK _ _ ?_; clear hK hQ K Q
  repeat refine awp_seq ?_
  refine awp_reg fun K Q hK hQ => ?_
  simp -implicitDefEqProofs (disch := first | omega | rfl) only [go_sem, Nat.reduceEqDiff, Nat.reduceAdd, Nat.reduceMul, Nat.reduceSub, Nat.reduceLeDiff, Nat.reduceLT, Int.reduceLE, Int.reduceLT, Int.reduceEq, Int.reduceAdd, Int.reduceMul, Int.reduceSub, Int.reduceNeg, Int.reduceToNat, Int.reduceDiv, Int.reduceMod, Int.reduceTDiv, Int.reduceTMod, Int.cast_ofNat_Int, ↓reduceIte, false_implies, true_implies, zr22_2]
  refine hK _ _ ?_; clear hK hQ K Q
  repeat refine awp_seq ?_
  refine awp_block ?_
  refine awp_perm ([(5, b5, Ob.cells [.int .i64 (z.off + n), .nil]), (2, b2, Ob.cells [AV.int IntKind.i64 z.off, AV.sl (List.map Chg.av z.ch)]), (4, b4, Ob.cells [.int .i64 0, .nil])]) (List.Perm.cons _ (List.Perm.swap _ _ _)) ?_
  refine awp_loop (ι := {i : Nat × Option Nat // i.1 ≤ z.ch.length ∧ (i.2 = none → (moved z n).ch.take i.1 = [])}) (fun i => [(6, .int .i64 i.1.1), (2, .ptr 2 b2 0), (5, .ptr 5 b5 0), (4, .ptr 4 b4 0), (1, .int .i64 n)])
    (fun i => (5, b5, Ob.cells [.int .i64 (z.off + n), acc2V 37 i.1.2 i.1.1]) :: (2, b2, Ob.cells [AV.int IntKind.i64 z.off, AV.sl (List.map Chg.av z.ch)]) :: (acc2O 37 i.1.2 ((moved z n).ch.take i.1.1) ++ [(4, b4, Ob.cells [.int .i64 0, .nil])])) (fun i => z.ch.length - i.1.1) ⟨(0, none), Nat.zero_le _, fun _ => rfl⟩ ?_ ?_
  · refine ent_sub ?_ (List.Sublist.refl _)
    simp [sub_cons, sub_nil, get_cons, acc2V]
  rintro ⟨⟨i, bo⟩, hi, hbo⟩
  simp only at hi hbo ⊢
  have htl : ((moved z n).ch.take i).length = i := by simp [moved]; omega
  by_cases hlt : i < z.ch.length
  · have hoff := badOff_false (okFrom_get 0 z.ch ok.ch i hlt).1
    cases bo with
    | none =>
      have hi0 : i = 0 := by
        rw [hbo rfl] at htl
        simpa using htl.symm
      repeat refine awp_seq ?_
      refine awp_reg fun K Q hK hQ => ?_
      simp -implicitDefEqProofs (disch := first | omega | rfl) only [go_sem, Nat.reduceEqDiff, Nat.reduceAdd, Nat.reduceMul, Nat.reduceSub, Nat.reduceLeDiff, Nat.reduceLT, Int.reduceLE, Int.reduceLT, Int.reduceEq, Int.reduceAdd, Int.reduceMul, Int.reduceSub, Int.reduceNeg, Int.reduceToNat, Int.reduceDiv, Int.reduceMod, Int.reduceTDiv, Int.reduceTMod, Int.cast_ofNat_Int, ↓reduceIte, false_implies, true_implies, zr22_3, acc2V, acc2O, List.length_map, Int.ofNat_lt, hlt]
      refine hK _ _ ?_; clear hK hQ K Q
      repeat refine awp_seq ?_
      refine awp_then (by rfl) ?_
      refine awp_skip ?_
      repeat refine awp_seq ?_
      refine awp_block ?_
      repeat refine awp_seq ?_
      refine awp_regE ([(5, b5, Ob.cells [.int .i64 (z.off + n), acc2V 37 none i]), (2, b2, Ob.cells [AV.int IntKind.i64 z.off, AV.sl (List.map Chg.av z.ch)])]) (acc2O 37 none ((moved z n).ch.take i) ++ [(4, b4, Ob.cells [.int .i64 0, .nil])]) (by rw [hP]; exact mixed) (List.Perm.refl _) fun K hK => ?_
      simp -implicitDefEqProofs (disch := first | omega | rfl) only [go_sem, Nat.reduceEqDiff, Nat.reduceAdd, Nat.reduceMul, Nat.reduceSub, Nat.reduceLeDiff, Nat.reduceLT, Int.reduceLE, Int.reduceLT, Int.reduceEq, Int.reduceAdd, Int.reduceMul, Int.reduceSub, Int.reduceNeg, Int.reduceToNat, Int.reduceDiv, Int.reduceMod, Int.reduceTDiv, Int.reduceTMod, Int.cast_ofNat_Int, ↓reduceIte, false_implies, true_implies, zr22_4, acc2V, acc2O, List.length_map, Int.ofNat_lt, hlt, getD_map, Chg.av, cells2_len, htl]
      intro b6
      skip; 
      intro b7
      refine hK _ _ ?_; clear hK K
      refine awp_reg fun K Q hK hQ => ?_
      simp -implicitDefEqProofs (disch := first | omega | rfl) only [go_sem, Nat.reduceEqDiff, Nat.reduceAdd, Nat.reduceMul, Nat.reduceSub, Nat.reduceLeDiff, Nat.reduceLT, Int.reduceLE, Int.reduceLT, Int.reduceEq, Int.reduceAdd, Int.reduceMul, Int.reduceSub, Int.reduceNeg, Int.reduceToNat, Int.reduceDiv, Int.reduceMod, Int.reduceTDiv, Int.reduceTMod, Int.cast_ofNat_Int, ↓reduceIte, false_implies, true_implies, zr22_5]
      refine hK _ _ ?_; clear hK hQ K Q
      have hts : (moved z n).ch.take (i + 1) = (moved z n).ch.take i ++ [⟨z.ch[i]!.at_, z.ch[i]!.off + n⟩] := by
        have h1 : i < (moved z n).ch.length := by simpa [moved] using hlt
        rw [List.take_succ_eq_append_getElem h1]
        simp [moved, hlt]
      refine ⟨⟨(i + 1, some b7), hlt, fun h => by cases h⟩, by simp only; omega, ?_⟩
      refine ent_sub ?_ ?_
      · simp [sub_cons, sub_nil, get_cons]
        done
      · simp only [hts, acc2O, acc2V, cells2_snoc]
        subst hi0; simp [cells2]
    | some bb =>
      have hcl := cells2_len ((moved z n).ch.take i)
      repeat refine awp_seq ?_
      refine awp_reg fun K Q hK hQ => ?_
      simp -implicitDefEqProofs (disch := first | omega | rfl) only [go_sem, Nat.reduceEqDiff, Nat.reduceAdd, Nat.reduceMul, Nat.reduceSub, Nat.reduceLeDiff, Nat.reduceLT, Int.reduceLE, Int.reduceLT, Int.reduceEq, Int.reduceAdd, Int.reduceMul, Int.reduceSub, Int.reduceNeg, Int.reduceToNat, Int.reduceDiv, Int.reduceMod, Int.reduceTDiv, Int.reduceTMod, Int.cast_ofNat_Int, ↓reduceIte, false_implies, true_implies, zr22_3, acc2V, acc2O, List.length_map, Int.ofNat_lt, hlt]
      refine hK _ _ ?_; clear hK hQ K Q
      repeat refine awp_seq ?_
      refine awp_then (by rfl) ?_
      refine awp_skip ?_
      repeat refine awp_seq ?_
      refine awp_block ?_
      repeat refine awp_seq ?_
      refine awp_regE ([(5, b5, Ob.cells [.int .i64 (z.off + n), acc2V 37 (some bb) i]), (2, b2, Ob.cells [AV.int IntKind.i64 z.off, AV.sl (List.map Chg.av z.ch)])]) (acc2O 37 (some bb) ((moved z n).ch.take i) ++ [(4, b4, Ob.cells [.int .i64 0, .nil])]) (by rw [hP]; exact mixed) (List.Perm.refl _) fun K hK => ?_
      simp -implicitDefEqProofs (disch := first | omega | rfl) only [go_sem, Nat.reduceEqDiff, Nat.reduceAdd, Nat.reduceMul, Nat.reduceSub, Nat.reduceLeDiff, Nat.reduceLT, Int.reduceLE, Int.reduceLT, Int.reduceEq, Int.reduceAdd, Int.reduceMul, Int.reduceSub, Int.reduceNeg, Int.reduceToNat, Int.reduceDiv, Int.reduceMod, Int.reduceTDiv, Int.reduceTMod, Int.cast_ofNat_Int, ↓reduceIte, false_implies, true_implies, zr22_4, acc2V, acc2O, List.length_map, Int.ofNat_lt, hlt, getD_map, Chg.av, cells2_len, htl]
      intro b6
      repeat refine ⟨by omega, ?_⟩; 
      intro b7
      refine hK _ _ ?_; clear hK K
      refine awp_reg fun K Q hK hQ => ?_
      simp -implicitDefEqProofs (disch := first | omega | rfl) only [go_sem, Nat.reduceEqDiff, Nat.reduceAdd, Nat.reduceMul, Nat.reduceSub, Nat.reduceLeDiff, Nat.reduceLT, Int.reduceLE, Int.reduceLT, Int.reduceEq, Int.reduceAdd, Int.reduceMul, Int.reduceSub, Int.reduceNeg, Int.reduceToNat, Int.reduceDiv, Int.reduceMod, Int.reduceTDiv, Int.reduceTMod, Int.cast_ofNat_Int, ↓reduceIte, false_implies, true_implies, zr22_5]
      refine hK _ _ ?_; clear hK hQ K Q
      have hts : (moved z n).ch.take (i + 1) = (moved z n).ch.take i ++ [⟨z.ch[i]!.at_, z.ch[i]!.off + n⟩] := by
        have h1 : i < (moved z n).ch.length := by simpa [moved] using hlt
        rw [List.take_succ_eq_append_getElem h1]
        simp [moved, hlt]
      refine ⟨⟨(i + 1, some b7), hlt, fun h => by cases h⟩, by simp only; omega, ?_⟩
      refine ent_sub ?_ ?_
      · simp [sub_cons, sub_nil, get_cons]
        done
      · simp only [hts, acc2O, acc2V, cells2_snoc]
        rw [show List.take (i * 2) (cells2 (List.take i (moved z n).ch)) = cells2 (List.take i (moved z n).ch) from List.take_of_length_le (by omega)]; exact .cons_cons _ (.cons_cons _ (.cons_cons _ (.cons _ (List.Sublist.refl _))))
  · have hk : i = z.ch.length := by omega
    have hch : (moved z n).ch.take i = (moved z n).ch := List.take_of_length_le (by simp [moved]; omega)
    have hml : (moved z n).ch.length = i := by simp [moved, hk]
    have hfr := frz_acc2 37 bo (moved z n).ch [(4, b4, Ob.cells [.int .i64 (z.off + n), acc2V 37 bo i])] (fun h => by rw [← hch]; exact hbo h)
    rw [hml] at hfr
    rw [hch] at hbo ⊢
    cases bo with
    | none =>
      repeat refine awp_seq ?_
      refine awp_reg fun K Q hK hQ => ?_
      simp -implicitDefEqProofs (disch := first | omega | rfl) only [go_sem, Nat.reduceEqDiff, Nat.reduceAdd, Nat.reduceMul, Nat.reduceSub, Nat.reduceLeDiff, Nat.reduceLT, Int.reduceLE, Int.reduceLT, Int.reduceEq, Int.reduceAdd, Int.reduceMul, Int.reduceSub, Int.reduceNeg, Int.reduceToNat, Int.reduceDiv, Int.reduceMod, Int.reduceTDiv, Int.reduceTMod, Int.cast_ofNat_Int, ↓reduceIte, false_implies, true_implies, zr22_3, acc2V, acc2O, List.length_map, Int.ofNat_lt, hlt]
      refine hK _ _ ?_; clear hK hQ K Q
      repeat refine awp_seq ?_
      refine awp_else (by rfl) ?_
      refine awp_exit ?_
      repeat' (first | refine then_exit ?_ | refine exit_here ?_ | refine exit_on rfl ?_)
      repeat refine awp_seq ?_
      refine awp_reg fun K Q hK hQ => ?_
      simp -implicitDefEqProofs (disch := first | omega | rfl) only [go_sem, Nat.reduceEqDiff, Nat.reduceAdd, Nat.reduceMul, Nat.reduceSub, Nat.reduceLeDiff, Nat.reduceLT, Int.reduceLE, Int.reduceLT, Int.reduceEq, Int.reduceAdd, Int.reduceMul, Int.reduceSub, Int.reduceNeg, Int.reduceToNat, Int.reduceDiv, Int.reduceMod, Int.reduceTDiv, Int.reduceTMod, Int.cast_ofNat_Int, ↓reduceIte, false_implies, true_implies, zr22_6, acc2V, acc2O]
      refine hK _ _ ?_; clear hK hQ K Q
      refine awp_perm _ (List.perm_append_comm (l₁ := [(5, b5, Ob.cells [.int .i64 (z.off + n), acc2V 37 none i]), (2, b2, Ob.cells [AV.int IntKind.i64 z.off, AV.sl (List.map Chg.av z.ch)])]) (l₂ := acc2O 37 none (moved z n).ch ++ [(4, b4, Ob.cells [.int .i64 (z.off + n), acc2V 37 none i])])) ?_
      refine awp_frz (acc2O 37 none (moved z n).ch ++ [(4, b4, Ob.cells [.int .i64 (z.off + n), acc2V 37 none i])]) _ [(4, .ref (moved z n).cs)] (List.Perm.refl _) ⟨?_, trivial⟩ ?_
      · refine .ptr 4 b4 0 [.int .i64 (z.off + n), acc2V 37 none i] _ (fun j => [AV.int .i64 (z.off + n), acc2V 37 none i].getD j .any) (by simp [acc2O, Own.find]) (fun j y hy => ?_) (fun j y hy => ?_)
        · match j with
          | 0 => rfl
          | 1 => rfl
          | j + 2 => simp [Zone.cs] at hy
        · match j with
          | 0 => simp [Zone.cs, moved] at hy; subst hy; exact .keep _
          | 1 =>
            simp only [Zone.cs, List.getElem?_cons_succ, List.getElem?_cons_zero, Option.some.injEq] at hy
            subst hy
            exact hfr
          | j + 2 => simp [Zone.cs] at hy
      refine awp_ret ?_
      repeat' (first | refine then_ret ?_ | refine blk_ret ?_)
      refine ret_q ?_
      simp -implicitDefEqProofs (disch := first | omega | rfl) only [go_sem, Nat.reduceEqDiff, Nat.reduceAdd, Nat.reduceMul, Nat.reduceSub, Nat.reduceLeDiff, Nat.reduceLT, Int.reduceLE, Int.reduceLT, Int.reduceEq, Int.reduceAdd, Int.reduceMul, Int.reduceSub, Int.reduceNeg, Int.reduceToNat, Int.reduceDiv, Int.reduceMod, Int.reduceTDiv, Int.reduceTMod, Int.cast_ofNat_Int, ↓reduceIte, false_implies, true_implies, Zone.cs]
      exact leaves_none (by simp [Zone.av, Zone.cs])
    | some bb =>
      repeat refine awp_seq ?_
      refine awp_reg fun K Q hK hQ => ?_
      simp -implicitDefEqProofs (disch := first | omega | rfl) only [go_sem, Nat.reduceEqDiff, Nat.reduceAdd, Nat.reduceMul, Nat.reduceSub, Nat.reduceLeDiff, Nat.reduceLT, Int.reduceLE, Int.reduceLT, Int.reduceEq, Int.reduceAdd, Int.reduceMul, Int.reduceSub, Int.reduceNeg, Int.reduceToNat, Int.reduceDiv, Int.reduceMod, Int.reduceTDiv, Int.reduceTMod, Int.cast_ofNat_Int, ↓reduceIte, false_implies, true_implies, zr22_3, acc2V, acc2O, List.length_map, Int.ofNat_lt, hlt]
      refine hK _ _ ?_; clear hK hQ K Q
      repeat refine awp_seq ?_
      refine awp_else (by rfl) ?_
      refine awp_exit ?_
      repeat' (first | refine then_exit ?_ | refine exit_here ?_ | refine exit_on rfl ?_)
      repeat refine awp_seq ?_
      refine awp_reg fun K Q hK hQ => ?_
      simp -implicitDefEqProofs (disch := first | omega | rfl) only [go_sem, Nat.reduceEqDiff, Nat.reduceAdd, Nat.reduceMul, Nat.reduceSub, Nat.reduceLeDiff, Nat.reduceLT, Int.reduceLE, Int.reduceLT, Int.reduceEq, Int.reduceAdd, Int.reduceMul, Int.reduceSub, Int.reduceNeg, Int.reduceToNat, Int.reduceDiv, Int.reduceMod, Int.reduceTDiv, Int.reduceTMod, Int.cast_ofNat_Int, ↓reduceIte, false_implies, true_implies, zr22_6, acc2V, acc2O]
      refine hK _ _ ?_; clear hK hQ K Q
      refine awp_perm _ (List.perm_append_comm (l₁ := [(5, b5, Ob.cells [.int .i64 (z.off + n), acc2V 37 (some bb) i]), (2, b2, Ob.cells [AV.int IntKind.i64 z.off, AV.sl (List.map Chg.av z.ch)])]) (l₂ := acc2O 37 (some bb) (moved z n).ch ++ [(4, b4, Ob.cells [.int .i64 (z.off + n), acc2V 37 (some bb) i])])) ?_
      refine awp_frz (acc2O 37 (some bb) (moved z n).ch ++ [(4, b4, Ob.cells [.int .i64 (z.off + n), acc2V 37 (some bb) i])]) _ [(4, .ref (moved z n).cs)] (List.Perm.refl _) ⟨?_, trivial⟩ ?_
      · refine .ptr 4 b4 0 [.int .i64 (z.off + n), acc2V 37 (some bb) i] _ (fun j => [AV.int .i64 (z.off + n), acc2V 37 (some bb) i].getD j .any) (by simp [acc2O, Own.find]) (fun j y hy => ?_) (fun j y hy => ?_)
        · match j with
          | 0 => rfl
          | 1 => rfl
          | j + 2 => simp [Zone.cs] at hy
        · match j with
          | 0 => simp [Zone.cs, moved] at hy; subst hy; exact .keep _
          | 1 =>
            simp only [Zone.cs, List.getElem?_cons_succ, List.getElem?_cons_zero, Option.some.injEq] at hy
            subst hy
            exact hfr
          | j + 2 => simp [Zone.cs] at hy
      refine awp_ret ?_
      repeat' (first | refine then_ret ?_ | refine blk_ret ?_)
      refine ret_q ?_
      simp -implicitDefEqProofs (disch := first | omega | rfl) only [go_sem, Nat.reduceEqDiff, Nat.reduceAdd, Nat.reduceMul, Nat.reduceSub, Nat.reduceLeDiff, Nat.reduceLT, Int.reduceLE, Int.reduceLT, Int.reduceEq, Int.reduceAdd, Int.reduceMul, Int.reduceSub, Int.reduceNeg, Int.reduceToNat, Int.reduceDiv, Int.reduceMod, Int.reduceTDiv, Int.reduceTMod, Int.cast_ofNat_Int, ↓reduceIte, false_implies, true_implies, Zone.cs]
      exact leaves_none (by simp [Zone.av, Zone.cs])
end Go.Proofs.Zt
