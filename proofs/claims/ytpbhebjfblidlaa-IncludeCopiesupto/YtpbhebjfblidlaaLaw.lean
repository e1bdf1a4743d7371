/- For every argument of bulk at most 1048576, estoppellaw09.IncludeCopies returns true and leaves its arguments as they were. -/
import Derived.Test.YtpbhebjfblidlaaRows
import Derived.WalkKit
import Derived.ProofKit
import Derived.OpenShut
import Derived.JoinedCond
import Derived.Test.YtpbhebjfblidlaaPf
set_option linter.unusedSimpArgs false
set_option linter.unusedVariables false
set_option linter.deprecated false
namespace Go.Proofs.Ytpbhebjfblidlaa
open Go.Aw Go.Proofs.Inc Go.ChangeShapes Go.WideShapes Go.ChangeAt Go.RowKit
theorem includeCopies_law (us : List AV) (h : Args Try.prog Try.f8.params.toList us) (hb : bulkL us ≤ 1048576) : PureC Try.prog 8 us (.bool true) := by
  have k0 : Args Try.prog [54, 55, 9, 9] us := h
  clear h
  obtain ⟨x0, us0, n0, e0, h0, k1⟩ := args_cons k0
  subst e0
  clear k0
  obtain ⟨a0, e0, o0⟩ := rd54 _ _ h0
  subst e0
  obtain ⟨x1, us1, n1, e1, h1, k2⟩ := args_cons k1
  subst e1
  clear k1
  obtain ⟨a1, e1, o1⟩ := rd55 _ _ h1
  subst e1
  obtain ⟨x2, us2, n2, e2, h2, k3⟩ := args_cons k2
  subst e2
  clear k2
  obtain ⟨a2, e2, o2⟩ := rd9 _ _ h2
  subst e2
  obtain ⟨x3, us3, n3, e3, h3, k4⟩ := args_cons k3
  subst e3
  clear k3
  obtain ⟨a3, e3, o3⟩ := rd9 _ _ h3
  subst e3
  have en := args_nil k4
  subst en
  rw [arg_slice Try.underlying54, arg_slice Try.underlying55, arg_string Try.underlying9, arg_string Try.underlying9] at hb
  rw [arg_slice Try.underlying54, arg_slice Try.underlying55, arg_string Try.underlying9, arg_string Try.underlying9]
  exact Go.Proofs.Inc.law8 a0 o0 a1 o1 a2 o2 a3 o3 hb
theorem own_ : ownKnob Try.prog.godebug = none := by kernel_rfl
theorem lays_ : lays Try.prog = true := by kernel_rfl
theorem okS_ : okS Try.prog [5, 9, 48, 54, 55] = true := by kernel_rfl
def bulk_ (H : Type) : Bulk H where
  b := Rows.uptoBulk
  l := Rows.uptoBulkAll
  str s := by simp [Rows.uptoBulk]
  one d := by
    cases d with
    | lit l => cases l <;> simp [Rows.uptoBulk]
    | _ => simp [Rows.uptoBulk]
  ptr d := by simp [Rows.uptoBulk]
  slice x y := by simp [Rows.uptoBulk]
  agg x := by simp [Rows.uptoBulk]
  nil := by simp [Rows.uptoBulkAll]
  cons d r := by simp [Rows.uptoBulkAll]
set_option maxRecDepth 100000 in
theorem includeCopies_lifted (os : Os) (started : os.Started) (H : Type) (enc : TypeId × Value → H) (F : Stop.Interp) :
    ReturnsInHanded {} Try.checked os 8 .any ((Rows.OpenSpec.upto Rows.includeCopiesSpec).pre6 enc Try.prog Try.f8 Rows.includeCopiesUptoRow.domain false) (((Rows.OpenSpec.upto Rows.includeCopiesSpec).at F).post enc Try.prog Try.f8 false true false false) := by
  refine returnsInHanded_of_cond (C := Try.checked) (s := Rows.OpenSpec.upto Rows.includeCopiesSpec) (k := Rows.uptoSmall) rfl own_ started (by kernel_rfl) Try.func8
    (OpenSpec.witness (enc := enc) (C := Try.checked) (s := Rows.OpenSpec.upto Rows.includeCopiesSpec) (k := Rows.uptoSmall) rfl false ⟨#[], #[.slice none 0 0, .slice none 0 0, .string ⟨#[]⟩, .string ⟨#[]⟩], []⟩ 8 (by kernel_rfl) (by kernel_rfl) (by kernel_rfl)
      (x := ([.nil, .nil, .lit (.string []), .lit (.string [])], [], [])) (by kernel_rfl) rfl (by kernel_rfl)) ?_
  intro W base args ds gs before hval hW _ hk _
  have hk : Rows.uptoBulkAll (ds ++ gs) ≤ 1048576 := of_decide_eq_true hk
  exact law_contract (S := [5, 9, 48, 54, 55]) lays_ okS_ (by kernel_rfl) rfl (fun ds hd => by
    match ds, hd with
    | [_, _, _, _], _ => rfl) rfl Try.underlying4 W base args ds gs before (fun vs ha hb => includeCopies_law vs ha (Nat.le_trans (hb (bulk_ H)) hk)) hval hW
theorem includeCopiesUpto_holds : Rows.IncludeCopiesUptoSaid :=
  OpenClaim.holds_of_cond 8 Try.f8 rfl rfl rfl rfl rfl rfl rfl ⟨rfl, rfl, rfl, rfl, rfl⟩ rfl rfl rfl rfl rfl (by kernel_rfl) Try.func8 (by kernel_rfl)
    (of_decide_eq_true (by kernel_rfl)) (by unfold Func.isWrapper; first | (rw [if_pos (by decide +kernel)]; kernel_rfl) | (rw [if_neg (by decide +kernel)]; exact ⟨rfl, rfl⟩))
    (fun os started H enc _ F => includeCopies_lifted os started H enc F)
end Go.Proofs.Ytpbhebjfblidlaa
