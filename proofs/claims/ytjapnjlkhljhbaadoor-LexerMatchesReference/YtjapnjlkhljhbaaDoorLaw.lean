/- For every argument, estoppellaw06.LexerMatchesReference returns true and leaves its arguments as they were, where the listed package variables hold what the program's text lays into them. -/
import Derived.Test.YtjapnjlkhljhbaaDoorCards
import Derived.Test.YtjapnjlkhljhbaaDoorTie
import Derived.Deep.DeepHandedRow
import Derived.Lay
import Derived.WalkKit
import Derived.ProofKit
import Derived.OpenShut
import Derived.JoinedCond
import Derived.Test.YtjapnjlkhljhbaaDoorPd
set_option linter.unusedSimpArgs false
set_option linter.unusedVariables false
set_option linter.deprecated false
namespace Go.Proofs.YtjapnjlkhljhbaaDoor
open Go.Aw Go.Proofs.Lex Go.ChangeShapes Go.WideShapes Go.ChangeAt Go.RowKit
theorem lexerMatchesReference_law (us : List AV) (h : Args Tryd.prog Tryd.f3.params.toList us) : PureC Tryd.prog 3 us (.bool true) := by
  have k0 : Args Tryd.prog [9] us := h
  clear h
  obtain ⟨x0, us0, n0, e0, h0, k1⟩ := args_cons k0
  subst e0
  clear k0
  obtain ⟨a0, e0, o0⟩ := rd9 _ _ h0
  subst e0
  have en := args_nil k1
  subst en
  rw [arg_string Tryd.underlying9]
  exact Go.Proofs.Lex.law3 a0 o0
theorem own_ : ownKnob Tryd.prog.godebug = none := by kernel_rfl
theorem lays_ : lays Tryd.prog = true := by kernel_rfl
theorem okS_ : okS Tryd.prog [9] = true := by kernel_rfl
set_option maxRecDepth 100000 in
theorem laid_met (os : Os) : laidMet Tryd.prog Rows.lexerMatchesReferenceRow.laid ((World.laidAll Tryd.prog os Rows.lexerMatchesReferenceRow.laid).forCall (fun _ _ => 0) ⟨#[], #[.string ⟨#[]⟩], []⟩).memory :=
  laidMet_laidAll _ (by kernel_rfl) (by kernel_rfl)
set_option maxRecDepth 100000 in
theorem reads (os : Os) {H : Type} (enc : TypeId × Value → H) : ∃ places, DataW.whole enc Tryd.prog ((World.laidAll Tryd.prog os Rows.lexerMatchesReferenceRow.laid).forCall (fun _ _ => 0) ⟨#[], #[.string ⟨#[]⟩], []⟩).memory Tryd.f3.params.toList Rows.lexerMatchesReferenceSpec.vars false (#[.string ⟨#[]⟩] : Array Value).toList 8 = some ([.lit (.string [])], [], places) :=
  ⟨[], by kernel_rfl⟩
set_option maxRecDepth 100000 in
theorem lexerMatchesReference_lifted (os : Os) (started : os.Started) (H : Type) (enc : TypeId × Value → H) (F : Stop.Interp) :
    ReturnsInHanded {} Tryd.checked os 3 .any ((OpenSpec.ofChange Rows.lexerMatchesReferenceSpec).preRow enc Tryd.prog Tryd.f3 Rows.lexerMatchesReferenceRow.domain false Rows.lexerMatchesReferenceRow.laid) (((OpenSpec.ofChange Rows.lexerMatchesReferenceSpec).at F).post enc Tryd.prog Tryd.f3 false true false false) := by
  obtain ⟨places, hx⟩ := reads os enc
  refine returnsInHanded_of_row (C := Tryd.checked) (s := OpenSpec.ofChange Rows.lexerMatchesReferenceSpec) own_ started (by kernel_rfl) Tryd.func3
    (witness_row_at (enc := enc) (C := Tryd.checked) false (World.laidAll Tryd.prog os Rows.lexerMatchesReferenceRow.laid) #[.string ⟨#[]⟩] (World.laidAll_os _ _ _) (by kernel_rfl) (by kernel_rfl) (by kernel_rfl)
      (OpenSpec.preRow_of_cond 8 hx (by kernel_rfl) (fun k hk => by cases hk) (by kernel_rfl) (laid_met os))) ?_
  intro W base args ds gs before hval hW _ _ _ hL _ _
  exact law_contract (S := [9]) lays_ okS_ (by kernel_rfl) rfl (fun ds hd => by
    match ds, hd with
    | [_], _ => rfl) rfl Tryd.underlying4 W base args ds gs before (fun vs ha _ => lexerMatchesReference_law vs ha) hval hW
theorem lexerMatchesReference_said : Rows.LexerMatchesReferenceSaid :=
  OpenClaim.holds_of_cond 3 Tryd.f3 rfl rfl rfl rfl rfl rfl rfl ⟨rfl, rfl, rfl, rfl, rfl⟩ rfl rfl rfl rfl rfl (by kernel_rfl) Tryd.func3 (by kernel_rfl)
    (of_decide_eq_true (by kernel_rfl)) (by unfold Func.isWrapper; first | (rw [if_pos (by decide +kernel)]; kernel_rfl) | (rw [if_neg (by decide +kernel)]; exact ⟨rfl, rfl⟩))
    (fun os started H enc _ F => by rw [OpenClaim.pre_eq_preRow]; exact lexerMatchesReference_lifted os started H enc F)
theorem plain_ (f : FuncId) (fn : Func) (hf : Tryd.pinned.checked.prog.funcNamed "estoppel/estoppellaw06.LexerMatchesReference" = some f) (hfn : Tryd.pinned.checked.prog.funcs[f]? = some fn) :
    true = Tryd.pinned.checked.prog.looks [] ∧ ∀ (j : Nat) t, fn.params[j]? = some t → Tryd.pinned.checked.prog.wantsStandIn t = false := by
  obtain rfl : f = 3 := Option.some.inj ((show Tryd.prog.funcNamed "estoppel/estoppellaw06.LexerMatchesReference" = some 3 by kernel_rfl).symm.trans hf) |>.symm
  obtain rfl : fn = Tryd.f3 := (Option.some.inj (Tryd.func3.symm.trans hfn)).symm
  refine ⟨by kernel_rfl, fun j t ht => ?_⟩
  have hm : t = 9 := by
    have := Array.mem_of_getElem? (show (#[9] : Array TypeId)[j]? = some t from ht)
    simpa using this
  rcases hm with rfl
  all_goals exact (show Tryd.prog.wantsStandIn _ = false by kernel_rfl)
theorem lexerMatchesReferenceCard_holds : Rows.LexerMatchesReferenceCardSaid :=
  Claim7.holds_tied_plain_at .later [] _ _ _ _ lexerMatchesReference_said (fun _ h => by cases h) (by kernel_rfl) (fun _ h => by cases h) lexerMatchesReference_row_tie rfl ⟨rfl, rfl⟩ (by kernel_rfl) rfl plain_ (by kernel_rfl)
end Go.Proofs.YtjapnjlkhljhbaaDoor
