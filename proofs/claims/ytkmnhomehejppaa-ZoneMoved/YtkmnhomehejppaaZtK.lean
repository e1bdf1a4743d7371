import Derived.Test.YtkmnhomehejppaaZtI
import Derived.Test.YtkmnhomehejppaaRows
import Derived.WalkKit
import Derived.ProofKit
set_option linter.unusedSimpArgs false
set_option linter.unusedVariables false
set_option linter.deprecated false
namespace Go.Proofs.Ytkmnhomehejppaa
open Go.Aw Go.Proofs.Zt

theorem zOwn : ownKnob Try.prog.godebug = none := by kernel_rfl
theorem zLays : lays Try.prog = true := by kernel_rfl

theorem sh_zone {k : Nat} {xs : List AV} (h : Sh Try.prog (k + 4) 24 xs) : ∃ z : Zone, argAV Try.prog 24 xs = z.av := by
  obtain ⟨y0, y1, rfl, h0, h1⟩ := sh_struct2 Try.underlying24 h
  obtain ⟨n, rfl, _⟩ := sh_int Try.underlying3 h0
  obtain ⟨ys, rfl, _, hy⟩ := sh_slice Try.underlying22 h1
  obtain ⟨cs, rfl⟩ := all_of (fun c : Chg => [.int .i64 c.at_, .int .i64 c.off]) ys (fun y hy' => by
    obtain ⟨a, b, rfl, ha, hb⟩ := sh_struct2 Try.underlying46 (hy y hy')
    obtain ⟨p, rfl, _⟩ := sh_int Try.underlying3 ha
    obtain ⟨q, rfl, _⟩ := sh_int Try.underlying3 hb
    exact ⟨⟨p, q⟩, rfl⟩)
  refine ⟨⟨n, cs⟩, ?_⟩
  rw [arg_struct Try.underlying24]
  simp [Zone.av, Zone.cs, Chg.av]

theorem zoneMatches_law (us : List AV) (h : Args Try.prog 6 Try.f3.params.toList us) : PureC Try.prog 3 us (.bool true) := by
  have h : Args Try.prog 6 [24, 3, 3, 3, 4] us := h
  obtain ⟨x0, us, rfl, h0, h⟩ := args_cons h
  obtain ⟨x1, us, rfl, h1, h⟩ := args_cons h
  obtain ⟨x2, us, rfl, h2, h⟩ := args_cons h
  obtain ⟨x3, us, rfl, h3, h⟩ := args_cons h
  obtain ⟨x4, us, rfl, h4, h⟩ := args_cons h
  obtain rfl := args_nil h
  obtain ⟨z, hz⟩ := sh_zone (k := 2) h0
  obtain ⟨t, rfl, _⟩ := sh_int Try.underlying3 h1
  obtain ⟨d, rfl, _⟩ := sh_int Try.underlying3 h2
  obtain ⟨m, rfl, _⟩ := sh_int Try.underlying3 h3
  obtain ⟨b, rfl⟩ := sh_bool Try.underlying4 h4
  rw [hz, arg_int Try.underlying3, arg_int Try.underlying3, arg_int Try.underlying3, arg_bool Try.underlying4]
  exact f3 z t d m b

set_option maxRecDepth 100000 in
theorem zoneMatches_lifted (os : Os) (started : os.Started) (H : Type) (enc : TypeId × Value → H) :
    ReturnsInHanded {} Try.checked os 3 .any (Rows.zoneMatchesReferenceSpec.pre6 enc Try.prog Try.f3 Rows.zoneMatchesReferenceRow.domain false) (Rows.zoneMatchesReferenceSpec.post enc Try.prog Try.f3 false true false false) := by
  refine returnsInHanded_of_change (C := Try.checked) zOwn started (by kernel_rfl) Try.func3
    (ChangeSpec.witness6 (enc := enc) (C := Try.checked) false ⟨#[], #[.agg #[.int .i64 0, .slice none 0 0], .int .i64 0, .int .i64 0, .int .i64 0, .bool false], []⟩ 8 (by kernel_rfl) (by kernel_rfl) (by kernel_rfl) (by kernel_rfl)) ?_
  intro W base args ds gs before hval hW _ _
  exact law_contract (k := 6) zLays (by kernel_rfl) rfl (fun ds hd => by
    match ds, hd with
    | [_, _, _, _, _], _ => rfl) rfl Try.underlying4 zoneMatches_law W base args ds gs before hval hW

theorem zoneMatches_holds : Rows.ZoneMatchesReferenceSaid :=
  OpenClaim.holds_of_wide 3 Try.f3 rfl rfl rfl rfl rfl rfl rfl ⟨rfl, rfl, rfl, rfl, rfl⟩ rfl rfl rfl rfl rfl (by kernel_rfl) Try.func3 (by kernel_rfl)
    (of_decide_eq_true (by kernel_rfl)) (by unfold Func.isWrapper; first | (rw [if_pos (by decide +kernel)]; kernel_rfl) | (rw [if_neg (by decide +kernel)]; exact ⟨rfl, rfl⟩))
    (fun os started H enc _ => zoneMatches_lifted os started H enc)
end Go.Proofs.Ytkmnhomehejppaa
