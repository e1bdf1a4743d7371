import Derived.Test.YtkmnhomehejppaaZtK
import Derived.Test.YtkmnhomehejppaaZtQ
set_option linter.unusedSimpArgs false
set_option linter.unusedVariables false
set_option linter.deprecated false
namespace Go.Proofs.Ytkmnhomehejppaa
open Go.Aw Go.Proofs.Zt

theorem zoneMoved_law (us : List AV) (h : Args Try.prog 6 Try.f8.params.toList us) : PureC Try.prog 8 us (.bool true) := by
  have h : Args Try.prog 6 [24, 42, 36] us := h
  obtain ⟨x0, us, rfl, h0, h⟩ := args_cons h
  obtain ⟨x1, us, rfl, h1, h⟩ := args_cons h
  obtain ⟨x2, us, rfl, h2, h⟩ := args_cons h
  obtain rfl := args_nil h
  obtain ⟨a0, e0⟩ := sh_zone (k := 2) h0
  obtain ⟨a1, rfl, w1⟩ := sh_int Try.underlying42 h1
  simp [Lit.wf, IntKind.min, IntKind.max, IntKind.signed, IntKind.bits] at w1
  obtain ⟨a2, rfl, w2⟩ := sh_int Try.underlying36 h2
  simp [Lit.wf, IntKind.min, IntKind.max, IntKind.signed, IntKind.bits] at w2
  rw [e0, arg_int Try.underlying42, arg_int Try.underlying36]
  exact f8 a0 a1 a2 (by omega) (by omega) (by omega) (by omega)

set_option maxRecDepth 100000 in
theorem zoneMoved_lifted (os : Os) (started : os.Started) (H : Type) (enc : TypeId × Value → H) :
    ReturnsInHanded {} Try.checked os 8 .any (Rows.zoneMovedSpec.pre6 enc Try.prog Try.f8 Rows.zoneMovedRow.domain false) (Rows.zoneMovedSpec.post enc Try.prog Try.f8 false true false false) := by
  refine returnsInHanded_of_change (C := Try.checked) zOwn started (by kernel_rfl) Try.func8
    (ChangeSpec.witness6 (enc := enc) (C := Try.checked) false ⟨#[], #[.agg #[.int .i64 0, .slice none 0 0], .int .i16 0, .int .u32 0], []⟩ 8 (by kernel_rfl) (by kernel_rfl) (by kernel_rfl) (by kernel_rfl)) ?_
  intro W base args ds gs before hval hW _ _
  exact law_contract (k := 6) zLays (by kernel_rfl) rfl (fun ds hd => by
    match ds, hd with
    | [_, _, _], _ => rfl) rfl Try.underlying4 zoneMoved_law W base args ds gs before hval hW

theorem zoneMoved_holds : Rows.ZoneMovedSaid :=
  OpenClaim.holds_of_wide 8 Try.f8 rfl rfl rfl rfl rfl rfl rfl ⟨rfl, rfl, rfl, rfl, rfl⟩ rfl rfl rfl rfl rfl (by kernel_rfl) Try.func8 (by kernel_rfl)
    (of_decide_eq_true (by kernel_rfl)) (by unfold Func.isWrapper; first | (rw [if_pos (by decide +kernel)]; kernel_rfl) | (rw [if_neg (by decide +kernel)]; exact ⟨rfl, rfl⟩))
    (fun os started H enc _ => zoneMoved_lifted os started H enc)
end Go.Proofs.Ytkmnhomehejppaa
