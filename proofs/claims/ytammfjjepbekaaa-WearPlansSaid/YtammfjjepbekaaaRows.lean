/-
  No cell of these rows narrows 'for every input' (looked for: loops, veiled, ifaces, maps, wideKeys, modest, calm, conditions, laid).
  DERIVED. THE GIVEN ROWS OF THIS SEAT. 10 by the template 'for every input the law returns true; each argument reads behind the call as it read before'; 0 by the template 'total and deterministic' (their statements: YtammfjjepbekaaaTotals.lean).
  GIVEN WITH THE SEED: the statements are not yours to turn. If you find one false, say at which input.
  Laid BY PROGRAM, IN A SANDBOX (cutbox-rows.mjs): the forced cells as the released guide's own fill.sh prints them over the translation 774943c4a8e3135c… (all of the seat's roots in one cut). By AI agents, Wed Nov 11 2026. No macro, syntax, notation, axiom, sorry.
-/
import Derived.Test.YtammfjjepbekaaaChecked
import GoSem.Claim
import GoSem.ClaimJoined
import GoSem.ClaimMapViews
import Derived.JoinedTies
import Derived.KernelRfl
namespace Go.Proofs.Ytammfjjepbekaaa
/- THE CELL 'sum', in the pinned program and in every row, IS THE sha256 OF THE DUMP (.gsa) THAT YtammfjjepbekaaaProg.lean LOADS. Nothing in Lean hashes anything: it is a label: what it is worth is what the hold of that sum in a sandbox is worth. -/
noncomputable def Try.pinned : Pinned := { name := "ytammfjjepbekaaa", sum := "774943c4a8e3135cc3602e369d08425d1da39b2950765818bc2e1bc0272aca8f", checked := Try.checked }
namespace Rows
def none {H : Type} : Left H := { results := [], args := [] }

/-- 'windsocklaw07.WearGrows': WHATEVER THE INPUT: true; the input reads as it did. -/
def wearGrowsSpec : ChangeSpec := { name := "wearGrows", fn := fun _ => fun
  | [d1, d2, d3] => { results := [.lit (.bool true)], args := [d1, d2, d3] }
  | _ => none }
def wearGrowsRow : OpenClaim := { program := "ytammfjjepbekaaa", sum := "774943c4a8e3135cc3602e369d08425d1da39b2950765818bc2e1bc0272aca8f", func := "windsock/windsocklaw07.WearGrows", spec := "wearGrows", unfollowed := true, recurses := true, plainKeys := false, apart := false }
def WearGrowsSaid : Prop := wearGrowsRow.holds Try.pinned (OpenSpec.ofChange wearGrowsSpec)

/-- ITS FALSE NEIGHBOUR: 'it returns false'. Refute it at one input. -/
def wearGrowsWrong : ChangeSpec := { name := "wearGrows", fn := fun _ => fun
  | [d1, d2, d3] => { results := [.lit (.bool false)], args := [d1, d2, d3] }
  | _ => none }
def WearGrowsWrongFalsely : Prop := wearGrowsRow.holds Try.pinned (OpenSpec.ofChange wearGrowsWrong)

/-- 'windsocklaw07.WearRights': WHATEVER THE INPUT: true; the input reads as it did. -/
def wearRightsSpec : ChangeSpec := { name := "wearRights", fn := fun _ => fun
  | [d1, d2] => { results := [.lit (.bool true)], args := [d1, d2] }
  | _ => none }
def wearRightsRow : OpenClaim := { program := "ytammfjjepbekaaa", sum := "774943c4a8e3135cc3602e369d08425d1da39b2950765818bc2e1bc0272aca8f", func := "windsock/windsocklaw07.WearRights", spec := "wearRights", unfollowed := true, recurses := true, plainKeys := false, apart := false }
def WearRightsSaid : Prop := wearRightsRow.holds Try.pinned (OpenSpec.ofChange wearRightsSpec)

/-- ITS FALSE NEIGHBOUR: 'it returns false'. Refute it at one input. -/
def wearRightsWrong : ChangeSpec := { name := "wearRights", fn := fun _ => fun
  | [d1, d2] => { results := [.lit (.bool false)], args := [d1, d2] }
  | _ => none }
def WearRightsWrongFalsely : Prop := wearRightsRow.holds Try.pinned (OpenSpec.ofChange wearRightsWrong)

/-- 'windsocklaw07.WearHolds': WHATEVER THE INPUT: true; the input reads as it did. -/
def wearHoldsSpec : ChangeSpec := { name := "wearHolds", fn := fun _ => fun
  | [d1, d2, d3, d4] => { results := [.lit (.bool true)], args := [d1, d2, d3, d4] }
  | _ => none }
def wearHoldsRow : OpenClaim := { program := "ytammfjjepbekaaa", sum := "774943c4a8e3135cc3602e369d08425d1da39b2950765818bc2e1bc0272aca8f", func := "windsock/windsocklaw07.WearHolds", spec := "wearHolds", unfollowed := true, recurses := true, plainKeys := false, apart := false }
def WearHoldsSaid : Prop := wearHoldsRow.holds Try.pinned (OpenSpec.ofChange wearHoldsSpec)

/-- ITS FALSE NEIGHBOUR: 'it returns false'. Refute it at one input. -/
def wearHoldsWrong : ChangeSpec := { name := "wearHolds", fn := fun _ => fun
  | [d1, d2, d3, d4] => { results := [.lit (.bool false)], args := [d1, d2, d3, d4] }
  | _ => none }
def WearHoldsWrongFalsely : Prop := wearHoldsRow.holds Try.pinned (OpenSpec.ofChange wearHoldsWrong)

/-- 'windsocklaw07.WearPlans': WHATEVER THE INPUT: true; the input reads as it did. -/
def wearPlansSpec : ChangeSpec := { name := "wearPlans", fn := fun _ => fun
  | [d] => { results := [.lit (.bool true)], args := [d] }
  | _ => none }
def wearPlansRow : OpenClaim := { program := "ytammfjjepbekaaa", sum := "774943c4a8e3135cc3602e369d08425d1da39b2950765818bc2e1bc0272aca8f", func := "windsock/windsocklaw07.WearPlans", spec := "wearPlans", unfollowed := true, recurses := true, plainKeys := false, apart := false }
def WearPlansSaid : Prop := wearPlansRow.holds Try.pinned (OpenSpec.ofChange wearPlansSpec)

/-- ITS FALSE NEIGHBOUR: 'it returns false'. Refute it at one input. -/
def wearPlansWrong : ChangeSpec := { name := "wearPlans", fn := fun _ => fun
  | [d] => { results := [.lit (.bool false)], args := [d] }
  | _ => none }
def WearPlansWrongFalsely : Prop := wearPlansRow.holds Try.pinned (OpenSpec.ofChange wearPlansWrong)

/-- 'windsocklaw07.WearFewest': WHATEVER THE INPUT: true; the input reads as it did. -/
def wearFewestSpec : ChangeSpec := { name := "wearFewest", fn := fun _ => fun
  | [d1, d2] => { results := [.lit (.bool true)], args := [d1, d2] }
  | _ => none }
def wearFewestRow : OpenClaim := { program := "ytammfjjepbekaaa", sum := "774943c4a8e3135cc3602e369d08425d1da39b2950765818bc2e1bc0272aca8f", func := "windsock/windsocklaw07.WearFewest", spec := "wearFewest", unfollowed := true, recurses := true, plainKeys := false, apart := false }
def WearFewestSaid : Prop := wearFewestRow.holds Try.pinned (OpenSpec.ofChange wearFewestSpec)

/-- ITS FALSE NEIGHBOUR: 'it returns false'. Refute it at one input. -/
def wearFewestWrong : ChangeSpec := { name := "wearFewest", fn := fun _ => fun
  | [d1, d2] => { results := [.lit (.bool false)], args := [d1, d2] }
  | _ => none }
def WearFewestWrongFalsely : Prop := wearFewestRow.holds Try.pinned (OpenSpec.ofChange wearFewestWrong)

/-- 'windsocklaw07.WearDual': WHATEVER THE INPUT: true; the input reads as it did. -/
def wearDualSpec : ChangeSpec := { name := "wearDual", fn := fun _ => fun
  | [d1, d2, d3] => { results := [.lit (.bool true)], args := [d1, d2, d3] }
  | _ => none }
def wearDualRow : OpenClaim := { program := "ytammfjjepbekaaa", sum := "774943c4a8e3135cc3602e369d08425d1da39b2950765818bc2e1bc0272aca8f", func := "windsock/windsocklaw07.WearDual", spec := "wearDual", unfollowed := true, recurses := true, plainKeys := false, apart := false }
def WearDualSaid : Prop := wearDualRow.holds Try.pinned (OpenSpec.ofChange wearDualSpec)

/-- ITS FALSE NEIGHBOUR: 'it returns false'. Refute it at one input. -/
def wearDualWrong : ChangeSpec := { name := "wearDual", fn := fun _ => fun
  | [d1, d2, d3] => { results := [.lit (.bool false)], args := [d1, d2, d3] }
  | _ => none }
def WearDualWrongFalsely : Prop := wearDualRow.holds Try.pinned (OpenSpec.ofChange wearDualWrong)

/-- 'windsocklaw07.WearProofs': WHATEVER THE INPUT: true; the input reads as it did. -/
def wearProofsSpec : ChangeSpec := { name := "wearProofs", fn := fun _ => fun
  | [d1, d2] => { results := [.lit (.bool true)], args := [d1, d2] }
  | _ => none }
def wearProofsRow : OpenClaim := { program := "ytammfjjepbekaaa", sum := "774943c4a8e3135cc3602e369d08425d1da39b2950765818bc2e1bc0272aca8f", func := "windsock/windsocklaw07.WearProofs", spec := "wearProofs", unfollowed := true, recurses := true, plainKeys := false, apart := false }
def WearProofsSaid : Prop := wearProofsRow.holds Try.pinned (OpenSpec.ofChange wearProofsSpec)

/-- ITS FALSE NEIGHBOUR: 'it returns false'. Refute it at one input. -/
def wearProofsWrong : ChangeSpec := { name := "wearProofs", fn := fun _ => fun
  | [d1, d2] => { results := [.lit (.bool false)], args := [d1, d2] }
  | _ => none }
def WearProofsWrongFalsely : Prop := wearProofsRow.holds Try.pinned (OpenSpec.ofChange wearProofsWrong)

/-- 'windsocklaw07.WearWithin': WHATEVER THE INPUT: true; the input reads as it did. -/
def wearWithinSpec : ChangeSpec := { name := "wearWithin", fn := fun _ => fun
  | [d1, d2, d3, d4, d5] => { results := [.lit (.bool true)], args := [d1, d2, d3, d4, d5] }
  | _ => none }
def wearWithinRow : OpenClaim := { program := "ytammfjjepbekaaa", sum := "774943c4a8e3135cc3602e369d08425d1da39b2950765818bc2e1bc0272aca8f", func := "windsock/windsocklaw07.WearWithin", spec := "wearWithin", unfollowed := true, recurses := true, plainKeys := false, apart := false }
def WearWithinSaid : Prop := wearWithinRow.holds Try.pinned (OpenSpec.ofChange wearWithinSpec)

/-- ITS FALSE NEIGHBOUR: 'it returns false'. Refute it at one input. -/
def wearWithinWrong : ChangeSpec := { name := "wearWithin", fn := fun _ => fun
  | [d1, d2, d3, d4, d5] => { results := [.lit (.bool false)], args := [d1, d2, d3, d4, d5] }
  | _ => none }
def WearWithinWrongFalsely : Prop := wearWithinRow.holds Try.pinned (OpenSpec.ofChange wearWithinWrong)

/-- 'windsocklaw07.WearLasts': WHATEVER THE INPUT: true; the input reads as it did. -/
def wearLastsSpec : ChangeSpec := { name := "wearLasts", fn := fun _ => fun
  | [d1, d2, d3, d4] => { results := [.lit (.bool true)], args := [d1, d2, d3, d4] }
  | _ => none }
def wearLastsRow : OpenClaim := { program := "ytammfjjepbekaaa", sum := "774943c4a8e3135cc3602e369d08425d1da39b2950765818bc2e1bc0272aca8f", func := "windsock/windsocklaw07.WearLasts", spec := "wearLasts", unfollowed := true, recurses := true, plainKeys := false, apart := false }
def WearLastsSaid : Prop := wearLastsRow.holds Try.pinned (OpenSpec.ofChange wearLastsSpec)

/-- ITS FALSE NEIGHBOUR: 'it returns false'. Refute it at one input. -/
def wearLastsWrong : ChangeSpec := { name := "wearLasts", fn := fun _ => fun
  | [d1, d2, d3, d4] => { results := [.lit (.bool false)], args := [d1, d2, d3, d4] }
  | _ => none }
def WearLastsWrongFalsely : Prop := wearLastsRow.holds Try.pinned (OpenSpec.ofChange wearLastsWrong)

/-- 'windsocklaw07.WearTotals': WHATEVER THE INPUT: true; the input reads as it did. -/
def wearTotalsSpec : ChangeSpec := { name := "wearTotals", fn := fun _ => fun
  | [d1, d2] => { results := [.lit (.bool true)], args := [d1, d2] }
  | _ => none }
def wearTotalsRow : OpenClaim := { program := "ytammfjjepbekaaa", sum := "774943c4a8e3135cc3602e369d08425d1da39b2950765818bc2e1bc0272aca8f", func := "windsock/windsocklaw07.WearTotals", spec := "wearTotals", unfollowed := true, recurses := true, plainKeys := false, apart := false }
def WearTotalsSaid : Prop := wearTotalsRow.holds Try.pinned (OpenSpec.ofChange wearTotalsSpec)

/-- ITS FALSE NEIGHBOUR: 'it returns false'. Refute it at one input. -/
def wearTotalsWrong : ChangeSpec := { name := "wearTotals", fn := fun _ => fun
  | [d1, d2] => { results := [.lit (.bool false)], args := [d1, d2] }
  | _ => none }
def WearTotalsWrongFalsely : Prop := wearTotalsRow.holds Try.pinned (OpenSpec.ofChange wearTotalsWrong)

/- THE SECOND FORM. 'bulk': how many values and letters a reading holds, each counted each time it is reached (what is shared counts as often as it is met; a slice's spare places count too). A statement '..UptoSaid' is the law's where the arguments, and the package variables that the reading takes, are together of bulk at most 1048576: NARROWER than '..Said'. Prove '..Said' where nothing that the law and all that it calls make is longer than what came in: it says more and counts as full. Else prove '..UptoSaid'. A law counts once. -/
mutual
def uptoBulk {H : Type} : DataW H → Nat
  | .lit (.string bytes) => bytes.length + 1
  | .lit _ => 1
  | .nil => 1
  | .ptr d => uptoBulk d + 1
  | .slice elems spare => uptoBulkAll elems + uptoBulkAll spare + 1
  | .agg parts => uptoBulkAll parts + 1
  | .iface _ d => uptoBulk d + 1
  | .map entries => uptoBulkEntries entries + 1
  | .held _ => 1
def uptoBulkAll {H : Type} : List (DataW H) → Nat
  | [] => 0
  | d :: r => uptoBulk d + uptoBulkAll r
def uptoBulkEntries {H : Type} : List (Lit × DataW H) → Nat
  | [] => 0
  | x :: r => uptoBulkEntry x + uptoBulkEntries r
def uptoBulkEntry {H : Type} : Lit × DataW H → Nat
  | (.string bytes, d) => bytes.length + uptoBulk d + 1
  | (_, d) => uptoBulk d + 1
 end
def uptoSmall : (H : Type) → List (DataW H) → Bool := fun _ ds => decide (uptoBulkAll ds ≤ 1048576)
def OpenSpec.upto (s : _root_.Go.ChangeSpec) : _root_.Go.OpenSpec := { _root_.Go.OpenSpec.ofChange s with cond := some uptoSmall }

/-- 'windsocklaw07.WearGrows', WHERE WHAT IT READS IS OF BULK AT MOST 1048576: true; the input reads as it did. -/
def wearGrowsUptoRow : OpenClaim := { program := "ytammfjjepbekaaa", sum := "774943c4a8e3135cc3602e369d08425d1da39b2950765818bc2e1bc0272aca8f", func := "windsock/windsocklaw07.WearGrows", spec := "wearGrows", unfollowed := true, recurses := true, plainKeys := false, apart := false, narrowed := true }
def WearGrowsUptoSaid : Prop := wearGrowsUptoRow.holds Try.pinned (OpenSpec.upto wearGrowsSpec)

/-- 'windsocklaw07.WearRights', WHERE WHAT IT READS IS OF BULK AT MOST 1048576: true; the input reads as it did. -/
def wearRightsUptoRow : OpenClaim := { program := "ytammfjjepbekaaa", sum := "774943c4a8e3135cc3602e369d08425d1da39b2950765818bc2e1bc0272aca8f", func := "windsock/windsocklaw07.WearRights", spec := "wearRights", unfollowed := true, recurses := true, plainKeys := false, apart := false, narrowed := true }
def WearRightsUptoSaid : Prop := wearRightsUptoRow.holds Try.pinned (OpenSpec.upto wearRightsSpec)

/-- 'windsocklaw07.WearHolds', WHERE WHAT IT READS IS OF BULK AT MOST 1048576: true; the input reads as it did. -/
def wearHoldsUptoRow : OpenClaim := { program := "ytammfjjepbekaaa", sum := "774943c4a8e3135cc3602e369d08425d1da39b2950765818bc2e1bc0272aca8f", func := "windsock/windsocklaw07.WearHolds", spec := "wearHolds", unfollowed := true, recurses := true, plainKeys := false, apart := false, narrowed := true }
def WearHoldsUptoSaid : Prop := wearHoldsUptoRow.holds Try.pinned (OpenSpec.upto wearHoldsSpec)

/-- 'windsocklaw07.WearPlans', WHERE WHAT IT READS IS OF BULK AT MOST 1048576: true; the input reads as it did. -/
def wearPlansUptoRow : OpenClaim := { program := "ytammfjjepbekaaa", sum := "774943c4a8e3135cc3602e369d08425d1da39b2950765818bc2e1bc0272aca8f", func := "windsock/windsocklaw07.WearPlans", spec := "wearPlans", unfollowed := true, recurses := true, plainKeys := false, apart := false, narrowed := true }
def WearPlansUptoSaid : Prop := wearPlansUptoRow.holds Try.pinned (OpenSpec.upto wearPlansSpec)

/-- 'windsocklaw07.WearFewest', WHERE WHAT IT READS IS OF BULK AT MOST 1048576: true; the input reads as it did. -/
def wearFewestUptoRow : OpenClaim := { program := "ytammfjjepbekaaa", sum := "774943c4a8e3135cc3602e369d08425d1da39b2950765818bc2e1bc0272aca8f", func := "windsock/windsocklaw07.WearFewest", spec := "wearFewest", unfollowed := true, recurses := true, plainKeys := false, apart := false, narrowed := true }
def WearFewestUptoSaid : Prop := wearFewestUptoRow.holds Try.pinned (OpenSpec.upto wearFewestSpec)

/-- 'windsocklaw07.WearDual', WHERE WHAT IT READS IS OF BULK AT MOST 1048576: true; the input reads as it did. -/
def wearDualUptoRow : OpenClaim := { program := "ytammfjjepbekaaa", sum := "774943c4a8e3135cc3602e369d08425d1da39b2950765818bc2e1bc0272aca8f", func := "windsock/windsocklaw07.WearDual", spec := "wearDual", unfollowed := true, recurses := true, plainKeys := false, apart := false, narrowed := true }
def WearDualUptoSaid : Prop := wearDualUptoRow.holds Try.pinned (OpenSpec.upto wearDualSpec)

/-- 'windsocklaw07.WearProofs', WHERE WHAT IT READS IS OF BULK AT MOST 1048576: true; the input reads as it did. -/
def wearProofsUptoRow : OpenClaim := { program := "ytammfjjepbekaaa", sum := "774943c4a8e3135cc3602e369d08425d1da39b2950765818bc2e1bc0272aca8f", func := "windsock/windsocklaw07.WearProofs", spec := "wearProofs", unfollowed := true, recurses := true, plainKeys := false, apart := false, narrowed := true }
def WearProofsUptoSaid : Prop := wearProofsUptoRow.holds Try.pinned (OpenSpec.upto wearProofsSpec)

/-- 'windsocklaw07.WearWithin', WHERE WHAT IT READS IS OF BULK AT MOST 1048576: true; the input reads as it did. -/
def wearWithinUptoRow : OpenClaim := { program := "ytammfjjepbekaaa", sum := "774943c4a8e3135cc3602e369d08425d1da39b2950765818bc2e1bc0272aca8f", func := "windsock/windsocklaw07.WearWithin", spec := "wearWithin", unfollowed := true, recurses := true, plainKeys := false, apart := false, narrowed := true }
def WearWithinUptoSaid : Prop := wearWithinUptoRow.holds Try.pinned (OpenSpec.upto wearWithinSpec)

/-- 'windsocklaw07.WearLasts', WHERE WHAT IT READS IS OF BULK AT MOST 1048576: true; the input reads as it did. -/
def wearLastsUptoRow : OpenClaim := { program := "ytammfjjepbekaaa", sum := "774943c4a8e3135cc3602e369d08425d1da39b2950765818bc2e1bc0272aca8f", func := "windsock/windsocklaw07.WearLasts", spec := "wearLasts", unfollowed := true, recurses := true, plainKeys := false, apart := false, narrowed := true }
def WearLastsUptoSaid : Prop := wearLastsUptoRow.holds Try.pinned (OpenSpec.upto wearLastsSpec)

/-- 'windsocklaw07.WearTotals', WHERE WHAT IT READS IS OF BULK AT MOST 1048576: true; the input reads as it did. -/
def wearTotalsUptoRow : OpenClaim := { program := "ytammfjjepbekaaa", sum := "774943c4a8e3135cc3602e369d08425d1da39b2950765818bc2e1bc0272aca8f", func := "windsock/windsocklaw07.WearTotals", spec := "wearTotals", unfollowed := true, recurses := true, plainKeys := false, apart := false, narrowed := true }
def WearTotalsUptoSaid : Prop := wearTotalsUptoRow.holds Try.pinned (OpenSpec.upto wearTotalsSpec)

end Rows
end Go.Proofs.Ytammfjjepbekaaa
