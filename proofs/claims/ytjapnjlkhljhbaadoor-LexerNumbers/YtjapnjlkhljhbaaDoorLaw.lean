/- For every argument, estoppellaw06.LexerNumbers returns true and leaves its arguments as they were, where the listed package variables hold what the program's text lays into them. -/
import Derived.Test.YtjapnjlkhljhbaaDoorCards
import Derived.Test.YtjapnjlkhljhbaaDoorTie
import Derived.Deep.DeepHandedRow
import Derived.Lay
import Derived.WalkKit
import Derived.ProofKit
import Derived.OpenShut
import Derived.JoinedCond
import Derived.Test.YtjapnjlkhljhbaaDoorPc
set_option linter.unusedSimpArgs false
set_option linter.unusedVariables false
set_option linter.deprecated false
namespace Go.Proofs.YtjapnjlkhljhbaaDoor
open Go.Aw Go.Proofs.Lex Go.ChangeShapes Go.WideShapes Go.ChangeAt Go.RowKit
theorem lexerNumbers_law (us : List AV) (h : Args Tryd.prog Tryd.f9.params.toList us) : PureC Tryd.prog 9 us (.bool true) := by
  have k0 : Args Tryd.prog [36, 4] us := h
  clear h
  obtain ⟨x0, us0, n0, e0, h0, k1⟩ := args_cons k0
  subst e0
  clear k0
  obtain ⟨a0, e0, o0⟩ := rd36 _ _ h0
  subst e0
  obtain ⟨x1, us1, n1, e1, h1, k2⟩ := args_cons k1
  subst e1
  clear k1
  obtain ⟨a1, e1, o1⟩ := rd4 _ _ h1
  subst e1
  have en := args_nil k2
  subst en
  rw [arg_slice Tryd.underlying36, arg_bool Tryd.underlying4]
  exact Go.Proofs.Lex.law9 a0 o0 a1 o1
theorem own_ : ownKnob Tryd.prog.godebug = none := by kernel_rfl
theorem lays_ : lays Tryd.prog = true := by kernel_rfl
theorem okS_ : okS Tryd.prog [4, 36, 38] = true := by kernel_rfl
set_option maxRecDepth 100000 in
theorem laid_met (os : Os) : laidMet Tryd.prog Rows.lexerNumbersRow.laid ((World.laidAll Tryd.prog os Rows.lexerNumbersRow.laid).forCall (fun _ _ => 0) ⟨#[], #[.slice none 0 0, .bool false], []⟩).memory :=
  laidMet_laidAll _ (by kernel_rfl) (by kernel_rfl)
set_option maxRecDepth 100000 in
theorem reads (os : Os) {H : Type} (enc : TypeId × Value → H) : ∃ places, DataW.whole enc Tryd.prog ((World.laidAll Tryd.prog os Rows.lexerNumbersRow.laid).forCall (fun _ _ => 0) ⟨#[], #[.slice none 0 0, .bool false], []⟩).memory Tryd.f9.params.toList Rows.lexerNumbersSpec.vars false (#[.slice none 0 0, .bool false] : Array Value).toList 8 = some ([.nil, .lit (.bool false)], [], places) :=
  ⟨[], by kernel_rfl⟩
set_option maxRecDepth 100000 in
theorem lexerNumbers_lifted (os : Os) (started : os.Started) (H : Type) (enc : TypeId × Value → H) (F : Stop.Interp) :
    ReturnsInHanded {} Tryd.checked os 9 .any ((OpenSpec.ofChange Rows.lexerNumbersSpec).preRow enc Tryd.prog Tryd.f9 Rows.lexerNumbersRow.domain false Rows.lexerNumbersRow.laid) (((OpenSpec.ofChange Rows.lexerNumbersSpec).at F).post enc Tryd.prog Tryd.f9 false true false false) := by
  obtain ⟨places, hx⟩ := reads os enc
  refine returnsInHanded_of_row (C := Tryd.checked) (s := OpenSpec.ofChange Rows.lexerNumbersSpec) own_ started (by kernel_rfl) Tryd.func9
    (witness_row_at (enc := enc) (C := Tryd.checked) false (World.laidAll Tryd.prog os Rows.lexerNumbersRow.laid) #[.slice none 0 0, .bool false] (World.laidAll_os _ _ _) (by kernel_rfl) (by kernel_rfl) (by kernel_rfl)
      (OpenSpec.preRow_of_cond 8 hx (by kernel_rfl) (fun k hk => by cases hk) (by kernel_rfl) (laid_met os))) ?_
  intro W base args ds gs before hval hW _ _ _ hL _ _
  exact law_contract (S := [4, 36, 38]) lays_ okS_ (by kernel_rfl) rfl (fun ds hd => by
    match ds, hd with
    | [_, _], _ => rfl) rfl Tryd.underlying4 W base args ds gs before (fun vs ha _ => lexerNumbers_law vs ha) hval hW
theorem lexerNumbers_said : Rows.LexerNumbersSaid :=
  OpenClaim.holds_of_cond 9 Tryd.f9 rfl rfl rfl rfl rfl rfl rfl ⟨rfl, rfl, rfl, rfl, rfl⟩ rfl rfl rfl rfl rfl (by kernel_rfl) Tryd.func9 (by kernel_rfl)
    (of_decide_eq_true (by kernel_rfl)) (by unfold Func.isWrapper; first | (rw [if_pos (by decide +kernel)]; kernel_rfl) | (rw [if_neg (by decide +kernel)]; exact ⟨rfl, rfl⟩))
    (fun os started H enc _ F => by rw [OpenClaim.pre_eq_preRow]; exact lexerNumbers_lifted os started H enc F)
theorem plain_ (f : FuncId) (fn : Func) (hf : Tryd.pinned.checked.prog.funcNamed "estoppel/estoppellaw06.LexerNumbers" = some f) (hfn : Tryd.pinned.checked.prog.funcs[f]? = some fn) :
    true = Tryd.pinned.checked.prog.looks [] ∧ ∀ (j : Nat) t, fn.params[j]? = some t → Tryd.pinned.checked.prog.wantsStandIn t = false := by
  obtain rfl : f = 9 := Option.some.inj ((show Tryd.prog.funcNamed "estoppel/estoppellaw06.LexerNumbers" = some 9 by kernel_rfl).symm.trans hf) |>.symm
  obtain rfl : fn = Tryd.f9 := (Option.some.inj (Tryd.func9.symm.trans hfn)).symm
  refine ⟨by kernel_rfl, fun j t ht => ?_⟩
  have hm : t = 36 ∨ t = 4 := by
    have := Array.mem_of_getElem? (show (#[36, 4] : Array TypeId)[j]? = some t from ht)
    simpa using this
  rcases hm with rfl | rfl
  all_goals exact (show Tryd.prog.wantsStandIn _ = false by kernel_rfl)
theorem lexerNumbersCard_holds : Rows.LexerNumbersCardSaid :=
  Claim7.holds_tied_plain_at .later [] _ _ _ _ lexerNumbers_said (fun _ h => by cases h) (by kernel_rfl) (fun _ h => by cases h) lexerNumbers_row_tie rfl ⟨rfl, rfl⟩ (by kernel_rfl) rfl plain_ (by kernel_rfl)
end Go.Proofs.YtjapnjlkhljhbaaDoor
