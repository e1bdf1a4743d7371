/- For every argument of bulk at most 1048576, estoppellaw09.IncludeParts returns true and leaves its arguments as they were. -/
import Derived.Test.YtpbhebjfblidlaaRows
import Derived.WalkKit
import Derived.ProofKit
import Derived.OpenShut
import Derived.JoinedCond
import Derived.Test.YtpbhebjfblidlaaPg
set_option linter.unusedSimpArgs false
set_option linter.unusedVariables false
set_option linter.deprecated false
namespace Go.Proofs.Ytpbhebjfblidlaa
open Go.Aw Go.Proofs.Inc Go.ChangeShapes Go.WideShapes Go.ChangeAt Go.RowKit
theorem includeParts_law (us : List AV) (h : Args Try.prog Try.f7.params.toList us) (hb : bulkL us ≤ 1048576) : PureC Try.prog 7 us (.bool true) := by
  have k0 : Args Try.prog [26, 41] us := h
  clear h
  obtain ⟨x0, us0, n0, e0, h0, k1⟩ := args_cons k0
  subst e0
  clear k0
  obtain ⟨a0, e0, o0⟩ := rd26 _ _ h0
  subst e0
  obtain ⟨x1, us1, n1, e1, h1, k2⟩ := args_cons k1
  subst e1
  clear k1
  obtain ⟨a1, e1, o1⟩ := rd41 _ _ h1
  subst e1
  have en := args_nil k2
  subst en
  rw [arg_struct Try.underlying26, arg_struct Try.underlying41] at hb
  rw [arg_struct Try.underlying26, arg_struct Try.underlying41]
  exact Go.Proofs.Inc.law7 a0 o0 a1 o1 hb
theorem own_ : ownKnob Try.prog.godebug = none := by kernel_rfl
theorem lays_ : lays Try.prog = true := by kernel_rfl
theorem okS_ : okS Try.prog [3, 4, 9, 23, 24, 26, 33, 34, 36, 37, 38, 39, 41, 57] = true := by kernel_rfl
def bulk_ (H : Type) : Bulk H where
  b := Rows.uptoBulk
  l := Rows.uptoBulkAll
  str s := by simp [Rows.uptoBulk]
  one d := by
    cases d with
    | lit l => cases l <;> simp [Rows.uptoBulk]
    | _ => simp [Rows.uptoBulk]
  ptr d := by simp [Rows.uptoBulk]
  slice x y := by simp [Rows.uptoBulk]
  agg x := by simp [Rows.uptoBulk]
  nil := by simp [Rows.uptoBulkAll]
  cons d r := by simp [Rows.uptoBulkAll]
set_option maxRecDepth 100000 in
theorem includeParts_lifted (os : Os) (started : os.Started) (H : Type) (enc : TypeId × Value → H) (F : Stop.Interp) :
    ReturnsInHanded {} Try.checked os 7 .any ((Rows.OpenSpec.upto Rows.includePartsSpec).pre6 enc Try.prog Try.f7 Rows.includePartsUptoRow.domain false) (((Rows.OpenSpec.upto Rows.includePartsSpec).at F).post enc Try.prog Try.f7 false true false false) := by
  refine returnsInHanded_of_cond (C := Try.checked) (s := Rows.OpenSpec.upto Rows.includePartsSpec) (k := Rows.uptoSmall) rfl own_ started (by kernel_rfl) Try.func7
    (OpenSpec.witness (enc := enc) (C := Try.checked) (s := Rows.OpenSpec.upto Rows.includePartsSpec) (k := Rows.uptoSmall) rfl false ⟨#[], #[.agg #[.string ⟨#[]⟩, .int .i64 0, .int .i64 0, .int .i64 0, .int .i64 0, .slice none 0 0], .agg #[.int .i64 0, .string ⟨#[]⟩, .int .i64 0, .string ⟨#[]⟩, .string ⟨#[]⟩, .int .i64 0, .int .i64 0, .int .i64 0, .bool false, .string ⟨#[]⟩, .int .i64 0, .bool false, .string ⟨#[]⟩, .slice none 0 0, .string ⟨#[]⟩, .string ⟨#[]⟩, .int .i64 0, .int .i64 0, .string ⟨#[]⟩, .string ⟨#[]⟩, .bool false, .string ⟨#[]⟩, .string ⟨#[]⟩, .bool false, .bool false, .bool false, .bool false, .bool false, .bool false, .bool false, .slice none 0 0, .slice none 0 0, .slice none 0 0]], []⟩ 8 (by kernel_rfl) (by kernel_rfl) (by kernel_rfl)
      (x := ([.agg [.lit (.string []), .agg [.lit (.int .i64 0), .lit (.int .i64 0), .lit (.int .i64 0)], .lit (.int .i64 0), .nil], .agg [.lit (.int .i64 0), .lit (.string []), .lit (.int .i64 0), .lit (.string []), .lit (.string []), .lit (.int .i64 0), .lit (.int .i64 0), .agg [.lit (.int .i64 0), .lit (.bool false), .lit (.string [])], .agg [.lit (.int .i64 0), .lit (.bool false), .lit (.string [])], .nil, .lit (.string []), .lit (.string []), .agg [.lit (.int .i64 0), .lit (.int .i64 0)], .lit (.string []), .lit (.string []), .lit (.bool false), .lit (.string []), .lit (.string []), .agg [.lit (.bool false), .lit (.bool false), .lit (.bool false), .lit (.bool false), .lit (.bool false), .lit (.bool false), .lit (.bool false)], .nil, .nil, .nil]], [], [])) (by kernel_rfl) rfl (by kernel_rfl)) ?_
  intro W base args ds gs before hval hW _ hk _
  have hk : Rows.uptoBulkAll (ds ++ gs) ≤ 1048576 := of_decide_eq_true hk
  exact law_contract (S := [3, 4, 9, 23, 24, 26, 33, 34, 36, 37, 38, 39, 41, 57]) lays_ okS_ (by kernel_rfl) rfl (fun ds hd => by
    match ds, hd with
    | [_, _], _ => rfl) rfl Try.underlying4 W base args ds gs before (fun vs ha hb => includeParts_law vs ha (Nat.le_trans (hb (bulk_ H)) hk)) hval hW
theorem includePartsUpto_holds : Rows.IncludePartsUptoSaid :=
  OpenClaim.holds_of_cond 7 Try.f7 rfl rfl rfl rfl rfl rfl rfl ⟨rfl, rfl, rfl, rfl, rfl⟩ rfl rfl rfl rfl rfl (by kernel_rfl) Try.func7 (by kernel_rfl)
    (of_decide_eq_true (by kernel_rfl)) (by unfold Func.isWrapper; first | (rw [if_pos (by decide +kernel)]; kernel_rfl) | (rw [if_neg (by decide +kernel)]; exact ⟨rfl, rfl⟩))
    (fun os started H enc _ F => includeParts_lifted os started H enc F)
end Go.Proofs.Ytpbhebjfblidlaa
