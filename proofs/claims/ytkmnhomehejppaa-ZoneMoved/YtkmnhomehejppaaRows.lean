/-
  No cell of these rows narrows 'for every input' (looked for: loops, veiled, ifaces, maps, wideKeys, modest, calm, conditions, laid).
  DERIVED. THE GIVEN ROWS OF THIS SEAT. 6 by the template 'for every input the law returns true; each argument reads behind the call as it read before'; 0 by the template 'total and deterministic' (their statements: YtkmnhomehejppaaTotals.lean).
  GIVEN WITH THE SEED: the statements are not yours to turn. If you find one false, say at which input.
  Laid BY PROGRAM, IN A SANDBOX (cutbox-rows.mjs): the forced cells as the released guide's own fill.sh prints them over the translation 59ff87ca6f75d9bf… (all of the seat's roots in one cut). By AI agents, Wed Nov 11 2026. No macro, syntax, notation, axiom, sorry.
-/
import Derived.Test.YtkmnhomehejppaaChecked
import GoSem.Claim
import GoSem.ClaimJoined
import GoSem.ClaimMapViews
import Derived.JoinedTies
import Derived.KernelRfl
namespace Go.Proofs.Ytkmnhomehejppaa
/- THE CELL 'sum', in the pinned program and in every row, IS THE sha256 OF THE DUMP (.gsa) THAT YtkmnhomehejppaaProg.lean LOADS. Nothing in Lean hashes anything: it is a label: what it is worth is what the hold of that sum in a sandbox is worth. -/
noncomputable def Try.pinned : Pinned := { name := "ytkmnhomehejppaa", sum := "59ff87ca6f75d9bff9306342c0a0e7f26cbd9318747022d520b9d639ea83bf1b", checked := Try.checked }
namespace Rows
def none {H : Type} : Left H := { results := [], args := [] }

/-- 'estoppellaw03.ZoneMatchesReference': WHATEVER THE INPUT: true; the input reads as it did. -/
def zoneMatchesReferenceSpec : ChangeSpec := { name := "zoneMatchesReference", fn := fun _ => fun
  | [d1, d2, d3, d4, d5] => { results := [.lit (.bool true)], args := [d1, d2, d3, d4, d5] }
  | _ => none }
def zoneMatchesReferenceRow : OpenClaim := { program := "ytkmnhomehejppaa", sum := "59ff87ca6f75d9bff9306342c0a0e7f26cbd9318747022d520b9d639ea83bf1b", func := "estoppel/estoppellaw03.ZoneMatchesReference", spec := "zoneMatchesReference", unfollowed := true, recurses := true, apart := false }
def ZoneMatchesReferenceSaid : Prop := zoneMatchesReferenceRow.holds Try.pinned (OpenSpec.ofChange zoneMatchesReferenceSpec)

/-- ITS FALSE NEIGHBOUR: 'it returns false'. Refute it at one input. -/
def zoneMatchesReferenceWrong : ChangeSpec := { name := "zoneMatchesReference", fn := fun _ => fun
  | [d1, d2, d3, d4, d5] => { results := [.lit (.bool false)], args := [d1, d2, d3, d4, d5] }
  | _ => none }
def ZoneMatchesReferenceWrongFalsely : Prop := zoneMatchesReferenceRow.holds Try.pinned (OpenSpec.ofChange zoneMatchesReferenceWrong)

/-- 'estoppellaw03.ZoneInverse': WHATEVER THE INPUT: true; the input reads as it did. -/
def zoneInverseSpec : ChangeSpec := { name := "zoneInverse", fn := fun _ => fun
  | [d1, d2] => { results := [.lit (.bool true)], args := [d1, d2] }
  | _ => none }
def zoneInverseRow : OpenClaim := { program := "ytkmnhomehejppaa", sum := "59ff87ca6f75d9bff9306342c0a0e7f26cbd9318747022d520b9d639ea83bf1b", func := "estoppel/estoppellaw03.ZoneInverse", spec := "zoneInverse", unfollowed := true, recurses := true, apart := false }
def ZoneInverseSaid : Prop := zoneInverseRow.holds Try.pinned (OpenSpec.ofChange zoneInverseSpec)

/-- ITS FALSE NEIGHBOUR: 'it returns false'. Refute it at one input. -/
def zoneInverseWrong : ChangeSpec := { name := "zoneInverse", fn := fun _ => fun
  | [d1, d2] => { results := [.lit (.bool false)], args := [d1, d2] }
  | _ => none }
def ZoneInverseWrongFalsely : Prop := zoneInverseRow.holds Try.pinned (OpenSpec.ofChange zoneInverseWrong)

/-- 'estoppellaw03.ZoneSkipped': WHATEVER THE INPUT: true; the input reads as it did. -/
def zoneSkippedSpec : ChangeSpec := { name := "zoneSkipped", fn := fun _ => fun
  | [d1, d2, d3, d4] => { results := [.lit (.bool true)], args := [d1, d2, d3, d4] }
  | _ => none }
def zoneSkippedRow : OpenClaim := { program := "ytkmnhomehejppaa", sum := "59ff87ca6f75d9bff9306342c0a0e7f26cbd9318747022d520b9d639ea83bf1b", func := "estoppel/estoppellaw03.ZoneSkipped", spec := "zoneSkipped", unfollowed := true, recurses := true, apart := false }
def ZoneSkippedSaid : Prop := zoneSkippedRow.holds Try.pinned (OpenSpec.ofChange zoneSkippedSpec)

/-- ITS FALSE NEIGHBOUR: 'it returns false'. Refute it at one input. -/
def zoneSkippedWrong : ChangeSpec := { name := "zoneSkipped", fn := fun _ => fun
  | [d1, d2, d3, d4] => { results := [.lit (.bool false)], args := [d1, d2, d3, d4] }
  | _ => none }
def ZoneSkippedWrongFalsely : Prop := zoneSkippedRow.holds Try.pinned (OpenSpec.ofChange zoneSkippedWrong)

/-- 'estoppellaw03.ZoneFixed': WHATEVER THE INPUT: true; the input reads as it did. -/
def zoneFixedSpec : ChangeSpec := { name := "zoneFixed", fn := fun _ => fun
  | [d1, d2] => { results := [.lit (.bool true)], args := [d1, d2] }
  | _ => none }
def zoneFixedRow : OpenClaim := { program := "ytkmnhomehejppaa", sum := "59ff87ca6f75d9bff9306342c0a0e7f26cbd9318747022d520b9d639ea83bf1b", func := "estoppel/estoppellaw03.ZoneFixed", spec := "zoneFixed", unfollowed := true, recurses := true, apart := false }
def ZoneFixedSaid : Prop := zoneFixedRow.holds Try.pinned (OpenSpec.ofChange zoneFixedSpec)

/-- ITS FALSE NEIGHBOUR: 'it returns false'. Refute it at one input. -/
def zoneFixedWrong : ChangeSpec := { name := "zoneFixed", fn := fun _ => fun
  | [d1, d2] => { results := [.lit (.bool false)], args := [d1, d2] }
  | _ => none }
def ZoneFixedWrongFalsely : Prop := zoneFixedRow.holds Try.pinned (OpenSpec.ofChange zoneFixedWrong)

/-- 'estoppellaw03.ZoneDays': WHATEVER THE INPUT: true; the input reads as it did. -/
def zoneDaysSpec : ChangeSpec := { name := "zoneDays", fn := fun _ => fun
  | [d1, d2, d3] => { results := [.lit (.bool true)], args := [d1, d2, d3] }
  | _ => none }
def zoneDaysRow : OpenClaim := { program := "ytkmnhomehejppaa", sum := "59ff87ca6f75d9bff9306342c0a0e7f26cbd9318747022d520b9d639ea83bf1b", func := "estoppel/estoppellaw03.ZoneDays", spec := "zoneDays", unfollowed := true, recurses := true, apart := false }
def ZoneDaysSaid : Prop := zoneDaysRow.holds Try.pinned (OpenSpec.ofChange zoneDaysSpec)

/-- ITS FALSE NEIGHBOUR: 'it returns false'. Refute it at one input. -/
def zoneDaysWrong : ChangeSpec := { name := "zoneDays", fn := fun _ => fun
  | [d1, d2, d3] => { results := [.lit (.bool false)], args := [d1, d2, d3] }
  | _ => none }
def ZoneDaysWrongFalsely : Prop := zoneDaysRow.holds Try.pinned (OpenSpec.ofChange zoneDaysWrong)

/-- 'estoppellaw03.ZoneMoved': WHATEVER THE INPUT: true; the input reads as it did. -/
def zoneMovedSpec : ChangeSpec := { name := "zoneMoved", fn := fun _ => fun
  | [d1, d2, d3] => { results := [.lit (.bool true)], args := [d1, d2, d3] }
  | _ => none }
def zoneMovedRow : OpenClaim := { program := "ytkmnhomehejppaa", sum := "59ff87ca6f75d9bff9306342c0a0e7f26cbd9318747022d520b9d639ea83bf1b", func := "estoppel/estoppellaw03.ZoneMoved", spec := "zoneMoved", unfollowed := true, recurses := true, apart := false }
def ZoneMovedSaid : Prop := zoneMovedRow.holds Try.pinned (OpenSpec.ofChange zoneMovedSpec)

/-- ITS FALSE NEIGHBOUR: 'it returns false'. Refute it at one input. -/
def zoneMovedWrong : ChangeSpec := { name := "zoneMoved", fn := fun _ => fun
  | [d1, d2, d3] => { results := [.lit (.bool false)], args := [d1, d2, d3] }
  | _ => none }
def ZoneMovedWrongFalsely : Prop := zoneMovedRow.holds Try.pinned (OpenSpec.ofChange zoneMovedWrong)

/- THE SECOND FORM. 'bulk': how many values and letters a reading holds, each counted each time it is reached (what is shared counts as often as it is met; a slice's spare places count too). A statement '..UptoSaid' is the law's where the arguments, and the package variables that the reading takes, are together of bulk at most 1048576: NARROWER than '..Said'. Prove '..Said' where nothing that the law and all that it calls make is longer than what came in: it says more and counts as full. Else prove '..UptoSaid'. A law counts once. -/
mutual
def uptoBulk {H : Type} : DataW H → Nat
  | .lit (.string bytes) => bytes.length + 1
  | .lit _ => 1
  | .nil => 1
  | .ptr d => uptoBulk d + 1
  | .slice elems spare => uptoBulkAll elems + uptoBulkAll spare + 1
  | .agg parts => uptoBulkAll parts + 1
  | .iface _ d => uptoBulk d + 1
  | .map entries => uptoBulkEntries entries + 1
  | .held _ => 1
def uptoBulkAll {H : Type} : List (DataW H) → Nat
  | [] => 0
  | d :: r => uptoBulk d + uptoBulkAll r
def uptoBulkEntries {H : Type} : List (Lit × DataW H) → Nat
  | [] => 0
  | x :: r => uptoBulkEntry x + uptoBulkEntries r
def uptoBulkEntry {H : Type} : Lit × DataW H → Nat
  | (.string bytes, d) => bytes.length + uptoBulk d + 1
  | (_, d) => uptoBulk d + 1
 end
def uptoSmall : (H : Type) → List (DataW H) → Bool := fun _ ds => decide (uptoBulkAll ds ≤ 1048576)
def OpenSpec.upto (s : _root_.Go.ChangeSpec) : _root_.Go.OpenSpec := { _root_.Go.OpenSpec.ofChange s with cond := some uptoSmall }

/-- 'estoppellaw03.ZoneMatchesReference', WHERE WHAT IT READS IS OF BULK AT MOST 1048576: true; the input reads as it did. -/
def zoneMatchesReferenceUptoRow : OpenClaim := { program := "ytkmnhomehejppaa", sum := "59ff87ca6f75d9bff9306342c0a0e7f26cbd9318747022d520b9d639ea83bf1b", func := "estoppel/estoppellaw03.ZoneMatchesReference", spec := "zoneMatchesReference", unfollowed := true, recurses := true, apart := false, narrowed := true }
def ZoneMatchesReferenceUptoSaid : Prop := zoneMatchesReferenceUptoRow.holds Try.pinned (OpenSpec.upto zoneMatchesReferenceSpec)

/-- 'estoppellaw03.ZoneInverse', WHERE WHAT IT READS IS OF BULK AT MOST 1048576: true; the input reads as it did. -/
def zoneInverseUptoRow : OpenClaim := { program := "ytkmnhomehejppaa", sum := "59ff87ca6f75d9bff9306342c0a0e7f26cbd9318747022d520b9d639ea83bf1b", func := "estoppel/estoppellaw03.ZoneInverse", spec := "zoneInverse", unfollowed := true, recurses := true, apart := false, narrowed := true }
def ZoneInverseUptoSaid : Prop := zoneInverseUptoRow.holds Try.pinned (OpenSpec.upto zoneInverseSpec)

/-- 'estoppellaw03.ZoneSkipped', WHERE WHAT IT READS IS OF BULK AT MOST 1048576: true; the input reads as it did. -/
def zoneSkippedUptoRow : OpenClaim := { program := "ytkmnhomehejppaa", sum := "59ff87ca6f75d9bff9306342c0a0e7f26cbd9318747022d520b9d639ea83bf1b", func := "estoppel/estoppellaw03.ZoneSkipped", spec := "zoneSkipped", unfollowed := true, recurses := true, apart := false, narrowed := true }
def ZoneSkippedUptoSaid : Prop := zoneSkippedUptoRow.holds Try.pinned (OpenSpec.upto zoneSkippedSpec)

/-- 'estoppellaw03.ZoneFixed', WHERE WHAT IT READS IS OF BULK AT MOST 1048576: true; the input reads as it did. -/
def zoneFixedUptoRow : OpenClaim := { program := "ytkmnhomehejppaa", sum := "59ff87ca6f75d9bff9306342c0a0e7f26cbd9318747022d520b9d639ea83bf1b", func := "estoppel/estoppellaw03.ZoneFixed", spec := "zoneFixed", unfollowed := true, recurses := true, apart := false, narrowed := true }
def ZoneFixedUptoSaid : Prop := zoneFixedUptoRow.holds Try.pinned (OpenSpec.upto zoneFixedSpec)

/-- 'estoppellaw03.ZoneDays', WHERE WHAT IT READS IS OF BULK AT MOST 1048576: true; the input reads as it did. -/
def zoneDaysUptoRow : OpenClaim := { program := "ytkmnhomehejppaa", sum := "59ff87ca6f75d9bff9306342c0a0e7f26cbd9318747022d520b9d639ea83bf1b", func := "estoppel/estoppellaw03.ZoneDays", spec := "zoneDays", unfollowed := true, recurses := true, apart := false, narrowed := true }
def ZoneDaysUptoSaid : Prop := zoneDaysUptoRow.holds Try.pinned (OpenSpec.upto zoneDaysSpec)

/-- 'estoppellaw03.ZoneMoved', WHERE WHAT IT READS IS OF BULK AT MOST 1048576: true; the input reads as it did. -/
def zoneMovedUptoRow : OpenClaim := { program := "ytkmnhomehejppaa", sum := "59ff87ca6f75d9bff9306342c0a0e7f26cbd9318747022d520b9d639ea83bf1b", func := "estoppel/estoppellaw03.ZoneMoved", spec := "zoneMoved", unfollowed := true, recurses := true, apart := false, narrowed := true }
def ZoneMovedUptoSaid : Prop := zoneMovedUptoRow.holds Try.pinned (OpenSpec.upto zoneMovedSpec)

end Rows
end Go.Proofs.Ytkmnhomehejppaa
