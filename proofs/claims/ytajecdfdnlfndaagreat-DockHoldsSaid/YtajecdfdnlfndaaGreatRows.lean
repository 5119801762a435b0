/-
  No cell of these rows narrows 'for every input' (looked for: loops, veiled, ifaces, maps, wideKeys, modest, calm, conditions, laid).
  DERIVED. THE GIVEN ROWS OF THIS SEAT. 13 by the template 'for every input the law returns true; each argument reads behind the call as it read before'; 0 by the template 'total and deterministic' (their statements: YtajecdfdnlfndaaGreatTotals.lean).
  GIVEN WITH THE SEED: the statements are not yours to turn. If you find one false, say at which input.
  Laid BY PROGRAM, IN A SANDBOX (cutbox-rows.mjs): the forced cells as the released guide's own fill.sh prints them over the translation 4a46479a8e1fff6a… (all of the seat's roots in one cut). By AI agents, Wed Nov 11 2026. No macro, syntax, notation, axiom, sorry.
-/
import Derived.Test.YtajecdfdnlfndaaGreatChecked
import GoSem.Claim
import GoSem.ClaimJoined
import GoSem.ClaimMapViews
import Derived.JoinedTies
import Derived.KernelRfl
namespace Go.Proofs.YtajecdfdnlfndaaGreat
/- THE CELL 'sum', in the pinned program and in every row, IS THE sha256 OF THE DUMP (.gsa) THAT YtajecdfdnlfndaaGreatProg.lean LOADS. Nothing in Lean hashes anything: it is a label: what it is worth is what the hold of that sum in a sandbox is worth. -/
noncomputable def Tryz.pinned : Pinned := { name := "ytajecdfdnlfndaagreat", sum := "4a46479a8e1fff6ae2f2e0f6330a7e6de2c7cb3c47dc4fd7c52547055940d78e", checked := Tryz.checked }
namespace Rows
def none {H : Type} : Left H := { results := [], args := [] }

/-- 'windsocklaw06.DockBerths': WHATEVER THE INPUT: true; the input reads as it did. -/
def dockBerthsSpec : ChangeSpec := { name := "dockBerths", fn := fun _ => fun
  | [d1, d2] => { results := [.lit (.bool true)], args := [d1, d2] }
  | _ => none }
def dockBerthsRow : OpenClaim := { program := "ytajecdfdnlfndaagreat", sum := "4a46479a8e1fff6ae2f2e0f6330a7e6de2c7cb3c47dc4fd7c52547055940d78e", func := "windsock/windsocklaw06.DockBerths", spec := "dockBerths", unfollowed := true, recurses := true, plainKeys := false, apart := false }
def DockBerthsSaid : Prop := dockBerthsRow.holds Tryz.pinned (OpenSpec.ofChange dockBerthsSpec)

/-- ITS FALSE NEIGHBOUR: 'it returns false'. Refute it at one input. -/
def dockBerthsWrong : ChangeSpec := { name := "dockBerths", fn := fun _ => fun
  | [d1, d2] => { results := [.lit (.bool false)], args := [d1, d2] }
  | _ => none }
def DockBerthsWrongFalsely : Prop := dockBerthsRow.holds Tryz.pinned (OpenSpec.ofChange dockBerthsWrong)

/-- 'windsocklaw06.DockEither': WHATEVER THE INPUT: true; the input reads as it did. -/
def dockEitherSpec : ChangeSpec := { name := "dockEither", fn := fun _ => fun
  | [d1, d2, d3] => { results := [.lit (.bool true)], args := [d1, d2, d3] }
  | _ => none }
def dockEitherRow : OpenClaim := { program := "ytajecdfdnlfndaagreat", sum := "4a46479a8e1fff6ae2f2e0f6330a7e6de2c7cb3c47dc4fd7c52547055940d78e", func := "windsock/windsocklaw06.DockEither", spec := "dockEither", unfollowed := true, recurses := true, plainKeys := false, apart := false }
def DockEitherSaid : Prop := dockEitherRow.holds Tryz.pinned (OpenSpec.ofChange dockEitherSpec)

/-- ITS FALSE NEIGHBOUR: 'it returns false'. Refute it at one input. -/
def dockEitherWrong : ChangeSpec := { name := "dockEither", fn := fun _ => fun
  | [d1, d2, d3] => { results := [.lit (.bool false)], args := [d1, d2, d3] }
  | _ => none }
def DockEitherWrongFalsely : Prop := dockEitherRow.holds Tryz.pinned (OpenSpec.ofChange dockEitherWrong)

/-- 'windsocklaw06.DockPulls': WHATEVER THE INPUT: true; the input reads as it did. -/
def dockPullsSpec : ChangeSpec := { name := "dockPulls", fn := fun _ => fun
  | [d1, d2, d3, d4, d5, d6, d7] => { results := [.lit (.bool true)], args := [d1, d2, d3, d4, d5, d6, d7] }
  | _ => none }
def dockPullsRow : OpenClaim := { program := "ytajecdfdnlfndaagreat", sum := "4a46479a8e1fff6ae2f2e0f6330a7e6de2c7cb3c47dc4fd7c52547055940d78e", func := "windsock/windsocklaw06.DockPulls", spec := "dockPulls", unfollowed := true, recurses := true, plainKeys := false, apart := false }
def DockPullsSaid : Prop := dockPullsRow.holds Tryz.pinned (OpenSpec.ofChange dockPullsSpec)

/-- ITS FALSE NEIGHBOUR: 'it returns false'. Refute it at one input. -/
def dockPullsWrong : ChangeSpec := { name := "dockPulls", fn := fun _ => fun
  | [d1, d2, d3, d4, d5, d6, d7] => { results := [.lit (.bool false)], args := [d1, d2, d3, d4, d5, d6, d7] }
  | _ => none }
def DockPullsWrongFalsely : Prop := dockPullsRow.holds Tryz.pinned (OpenSpec.ofChange dockPullsWrong)

/-- 'windsocklaw06.DockStuck': WHATEVER THE INPUT: true; the input reads as it did. -/
def dockStuckSpec : ChangeSpec := { name := "dockStuck", fn := fun _ => fun
  | [d1, d2] => { results := [.lit (.bool true)], args := [d1, d2] }
  | _ => none }
def dockStuckRow : OpenClaim := { program := "ytajecdfdnlfndaagreat", sum := "4a46479a8e1fff6ae2f2e0f6330a7e6de2c7cb3c47dc4fd7c52547055940d78e", func := "windsock/windsocklaw06.DockStuck", spec := "dockStuck", unfollowed := true, recurses := true, plainKeys := false, apart := false }
def DockStuckSaid : Prop := dockStuckRow.holds Tryz.pinned (OpenSpec.ofChange dockStuckSpec)

/-- ITS FALSE NEIGHBOUR: 'it returns false'. Refute it at one input. -/
def dockStuckWrong : ChangeSpec := { name := "dockStuck", fn := fun _ => fun
  | [d1, d2] => { results := [.lit (.bool false)], args := [d1, d2] }
  | _ => none }
def DockStuckWrongFalsely : Prop := dockStuckRow.holds Tryz.pinned (OpenSpec.ofChange dockStuckWrong)

/-- 'windsocklaw06.DockMore': WHATEVER THE INPUT: true; the input reads as it did. -/
def dockMoreSpec : ChangeSpec := { name := "dockMore", fn := fun _ => fun
  | [d1, d2, d3, d4, d5, d6] => { results := [.lit (.bool true)], args := [d1, d2, d3, d4, d5, d6] }
  | _ => none }
def dockMoreRow : OpenClaim := { program := "ytajecdfdnlfndaagreat", sum := "4a46479a8e1fff6ae2f2e0f6330a7e6de2c7cb3c47dc4fd7c52547055940d78e", func := "windsock/windsocklaw06.DockMore", spec := "dockMore", unfollowed := true, recurses := true, plainKeys := false, apart := false }
def DockMoreSaid : Prop := dockMoreRow.holds Tryz.pinned (OpenSpec.ofChange dockMoreSpec)

/-- ITS FALSE NEIGHBOUR: 'it returns false'. Refute it at one input. -/
def dockMoreWrong : ChangeSpec := { name := "dockMore", fn := fun _ => fun
  | [d1, d2, d3, d4, d5, d6] => { results := [.lit (.bool false)], args := [d1, d2, d3, d4, d5, d6] }
  | _ => none }
def DockMoreWrongFalsely : Prop := dockMoreRow.holds Tryz.pinned (OpenSpec.ofChange dockMoreWrong)

/-- 'windsocklaw06.DockRuns': WHATEVER THE INPUT: true; the input reads as it did. -/
def dockRunsSpec : ChangeSpec := { name := "dockRuns", fn := fun _ => fun
  | [d1, d2, d3] => { results := [.lit (.bool true)], args := [d1, d2, d3] }
  | _ => none }
def dockRunsRow : OpenClaim := { program := "ytajecdfdnlfndaagreat", sum := "4a46479a8e1fff6ae2f2e0f6330a7e6de2c7cb3c47dc4fd7c52547055940d78e", func := "windsock/windsocklaw06.DockRuns", spec := "dockRuns", unfollowed := true, recurses := true, plainKeys := false, apart := false }
def DockRunsSaid : Prop := dockRunsRow.holds Tryz.pinned (OpenSpec.ofChange dockRunsSpec)

/-- ITS FALSE NEIGHBOUR: 'it returns false'. Refute it at one input. -/
def dockRunsWrong : ChangeSpec := { name := "dockRuns", fn := fun _ => fun
  | [d1, d2, d3] => { results := [.lit (.bool false)], args := [d1, d2, d3] }
  | _ => none }
def DockRunsWrongFalsely : Prop := dockRunsRow.holds Tryz.pinned (OpenSpec.ofChange dockRunsWrong)

/-- 'windsocklaw06.DockOne': WHATEVER THE INPUT: true; the input reads as it did. -/
def dockOneSpec : ChangeSpec := { name := "dockOne", fn := fun _ => fun
  | [d1, d2, d3] => { results := [.lit (.bool true)], args := [d1, d2, d3] }
  | _ => none }
def dockOneRow : OpenClaim := { program := "ytajecdfdnlfndaagreat", sum := "4a46479a8e1fff6ae2f2e0f6330a7e6de2c7cb3c47dc4fd7c52547055940d78e", func := "windsock/windsocklaw06.DockOne", spec := "dockOne", unfollowed := true, recurses := true, plainKeys := false, apart := false }
def DockOneSaid : Prop := dockOneRow.holds Tryz.pinned (OpenSpec.ofChange dockOneSpec)

/-- ITS FALSE NEIGHBOUR: 'it returns false'. Refute it at one input. -/
def dockOneWrong : ChangeSpec := { name := "dockOne", fn := fun _ => fun
  | [d1, d2, d3] => { results := [.lit (.bool false)], args := [d1, d2, d3] }
  | _ => none }
def DockOneWrongFalsely : Prop := dockOneRow.holds Tryz.pinned (OpenSpec.ofChange dockOneWrong)

/-- 'windsocklaw06.DockNever': WHATEVER THE INPUT: true; the input reads as it did. -/
def dockNeverSpec : ChangeSpec := { name := "dockNever", fn := fun _ => fun
  | [d1, d2, d3] => { results := [.lit (.bool true)], args := [d1, d2, d3] }
  | _ => none }
def dockNeverRow : OpenClaim := { program := "ytajecdfdnlfndaagreat", sum := "4a46479a8e1fff6ae2f2e0f6330a7e6de2c7cb3c47dc4fd7c52547055940d78e", func := "windsock/windsocklaw06.DockNever", spec := "dockNever", unfollowed := true, recurses := true, plainKeys := false, apart := false }
def DockNeverSaid : Prop := dockNeverRow.holds Tryz.pinned (OpenSpec.ofChange dockNeverSpec)

/-- ITS FALSE NEIGHBOUR: 'it returns false'. Refute it at one input. -/
def dockNeverWrong : ChangeSpec := { name := "dockNever", fn := fun _ => fun
  | [d1, d2, d3] => { results := [.lit (.bool false)], args := [d1, d2, d3] }
  | _ => none }
def DockNeverWrongFalsely : Prop := dockNeverRow.holds Tryz.pinned (OpenSpec.ofChange dockNeverWrong)

/-- 'windsocklaw06.DockLinear': WHATEVER THE INPUT: true; the input reads as it did. -/
def dockLinearSpec : ChangeSpec := { name := "dockLinear", fn := fun _ => fun
  | [d1, d2, d3] => { results := [.lit (.bool true)], args := [d1, d2, d3] }
  | _ => none }
def dockLinearRow : OpenClaim := { program := "ytajecdfdnlfndaagreat", sum := "4a46479a8e1fff6ae2f2e0f6330a7e6de2c7cb3c47dc4fd7c52547055940d78e", func := "windsock/windsocklaw06.DockLinear", spec := "dockLinear", unfollowed := true, recurses := true, plainKeys := false, apart := false }
def DockLinearSaid : Prop := dockLinearRow.holds Tryz.pinned (OpenSpec.ofChange dockLinearSpec)

/-- ITS FALSE NEIGHBOUR: 'it returns false'. Refute it at one input. -/
def dockLinearWrong : ChangeSpec := { name := "dockLinear", fn := fun _ => fun
  | [d1, d2, d3] => { results := [.lit (.bool false)], args := [d1, d2, d3] }
  | _ => none }
def DockLinearWrongFalsely : Prop := dockLinearRow.holds Tryz.pinned (OpenSpec.ofChange dockLinearWrong)

/-- 'windsocklaw06.DockOrders': WHATEVER THE INPUT: true; the input reads as it did. -/
def dockOrdersSpec : ChangeSpec := { name := "dockOrders", fn := fun _ => fun
  | [d1, d2, d3] => { results := [.lit (.bool true)], args := [d1, d2, d3] }
  | _ => none }
def dockOrdersRow : OpenClaim := { program := "ytajecdfdnlfndaagreat", sum := "4a46479a8e1fff6ae2f2e0f6330a7e6de2c7cb3c47dc4fd7c52547055940d78e", func := "windsock/windsocklaw06.DockOrders", spec := "dockOrders", unfollowed := true, recurses := true, plainKeys := false, apart := false }
def DockOrdersSaid : Prop := dockOrdersRow.holds Tryz.pinned (OpenSpec.ofChange dockOrdersSpec)

/-- ITS FALSE NEIGHBOUR: 'it returns false'. Refute it at one input. -/
def dockOrdersWrong : ChangeSpec := { name := "dockOrders", fn := fun _ => fun
  | [d1, d2, d3] => { results := [.lit (.bool false)], args := [d1, d2, d3] }
  | _ => none }
def DockOrdersWrongFalsely : Prop := dockOrdersRow.holds Tryz.pinned (OpenSpec.ofChange dockOrdersWrong)

/-- 'windsocklaw06.DockWitnessed': WHATEVER THE INPUT: true; the input reads as it did. -/
def dockWitnessedSpec : ChangeSpec := { name := "dockWitnessed", fn := fun _ => fun
  | [d1, d2, d3, d4] => { results := [.lit (.bool true)], args := [d1, d2, d3, d4] }
  | _ => none }
def dockWitnessedRow : OpenClaim := { program := "ytajecdfdnlfndaagreat", sum := "4a46479a8e1fff6ae2f2e0f6330a7e6de2c7cb3c47dc4fd7c52547055940d78e", func := "windsock/windsocklaw06.DockWitnessed", spec := "dockWitnessed", unfollowed := true, recurses := true, plainKeys := false, apart := false }
def DockWitnessedSaid : Prop := dockWitnessedRow.holds Tryz.pinned (OpenSpec.ofChange dockWitnessedSpec)

/-- ITS FALSE NEIGHBOUR: 'it returns false'. Refute it at one input. -/
def dockWitnessedWrong : ChangeSpec := { name := "dockWitnessed", fn := fun _ => fun
  | [d1, d2, d3, d4] => { results := [.lit (.bool false)], args := [d1, d2, d3, d4] }
  | _ => none }
def DockWitnessedWrongFalsely : Prop := dockWitnessedRow.holds Tryz.pinned (OpenSpec.ofChange dockWitnessedWrong)

/-- 'windsocklaw06.DockHolds': WHATEVER THE INPUT: true; the input reads as it did. -/
def dockHoldsSpec : ChangeSpec := { name := "dockHolds", fn := fun _ => fun
  | [d1, d2] => { results := [.lit (.bool true)], args := [d1, d2] }
  | _ => none }
def dockHoldsRow : OpenClaim := { program := "ytajecdfdnlfndaagreat", sum := "4a46479a8e1fff6ae2f2e0f6330a7e6de2c7cb3c47dc4fd7c52547055940d78e", func := "windsock/windsocklaw06.DockHolds", spec := "dockHolds", unfollowed := true, recurses := true, plainKeys := false, apart := false }
def DockHoldsSaid : Prop := dockHoldsRow.holds Tryz.pinned (OpenSpec.ofChange dockHoldsSpec)

/-- ITS FALSE NEIGHBOUR: 'it returns false'. Refute it at one input. -/
def dockHoldsWrong : ChangeSpec := { name := "dockHolds", fn := fun _ => fun
  | [d1, d2] => { results := [.lit (.bool false)], args := [d1, d2] }
  | _ => none }
def DockHoldsWrongFalsely : Prop := dockHoldsRow.holds Tryz.pinned (OpenSpec.ofChange dockHoldsWrong)

/-- 'windsocklaw06.DockFewest': WHATEVER THE INPUT: true; the input reads as it did. -/
def dockFewestSpec : ChangeSpec := { name := "dockFewest", fn := fun _ => fun
  | [d1, d2, d3, d4] => { results := [.lit (.bool true)], args := [d1, d2, d3, d4] }
  | _ => none }
def dockFewestRow : OpenClaim := { program := "ytajecdfdnlfndaagreat", sum := "4a46479a8e1fff6ae2f2e0f6330a7e6de2c7cb3c47dc4fd7c52547055940d78e", func := "windsock/windsocklaw06.DockFewest", spec := "dockFewest", unfollowed := true, recurses := true, plainKeys := false, apart := false }
def DockFewestSaid : Prop := dockFewestRow.holds Tryz.pinned (OpenSpec.ofChange dockFewestSpec)

/-- ITS FALSE NEIGHBOUR: 'it returns false'. Refute it at one input. -/
def dockFewestWrong : ChangeSpec := { name := "dockFewest", fn := fun _ => fun
  | [d1, d2, d3, d4] => { results := [.lit (.bool false)], args := [d1, d2, d3, d4] }
  | _ => none }
def DockFewestWrongFalsely : Prop := dockFewestRow.holds Tryz.pinned (OpenSpec.ofChange dockFewestWrong)

/- THE SECOND FORM. 'bulk': how many values and letters a reading holds, each counted each time it is reached (what is shared counts as often as it is met; a slice's spare places count too). A statement '..UptoSaid' is the law's where the arguments, and the package variables that the reading takes, are together of bulk at most 1048576: NARROWER than '..Said'. Prove '..Said' where nothing that the law and all that it calls make is longer than what came in: it says more and counts as full. Else prove '..UptoSaid'. A law counts once. -/
mutual
def uptoBulk {H : Type} : DataW H → Nat
  | .lit (.string bytes) => bytes.length + 1
  | .lit _ => 1
  | .nil => 1
  | .ptr d => uptoBulk d + 1
  | .slice elems spare => uptoBulkAll elems + uptoBulkAll spare + 1
  | .agg parts => uptoBulkAll parts + 1
  | .iface _ d => uptoBulk d + 1
  | .map entries => uptoBulkEntries entries + 1
  | .held _ => 1
def uptoBulkAll {H : Type} : List (DataW H) → Nat
  | [] => 0
  | d :: r => uptoBulk d + uptoBulkAll r
def uptoBulkEntries {H : Type} : List (Lit × DataW H) → Nat
  | [] => 0
  | x :: r => uptoBulkEntry x + uptoBulkEntries r
def uptoBulkEntry {H : Type} : Lit × DataW H → Nat
  | (.string bytes, d) => bytes.length + uptoBulk d + 1
  | (_, d) => uptoBulk d + 1
 end
def uptoSmall : (H : Type) → List (DataW H) → Bool := fun _ ds => decide (uptoBulkAll ds ≤ 1048576)
def OpenSpec.upto (s : _root_.Go.ChangeSpec) : _root_.Go.OpenSpec := { _root_.Go.OpenSpec.ofChange s with cond := some uptoSmall }

/-- 'windsocklaw06.DockBerths', WHERE WHAT IT READS IS OF BULK AT MOST 1048576: true; the input reads as it did. -/
def dockBerthsUptoRow : OpenClaim := { program := "ytajecdfdnlfndaagreat", sum := "4a46479a8e1fff6ae2f2e0f6330a7e6de2c7cb3c47dc4fd7c52547055940d78e", func := "windsock/windsocklaw06.DockBerths", spec := "dockBerths", unfollowed := true, recurses := true, plainKeys := false, apart := false, narrowed := true }
def DockBerthsUptoSaid : Prop := dockBerthsUptoRow.holds Tryz.pinned (OpenSpec.upto dockBerthsSpec)

/-- 'windsocklaw06.DockEither', WHERE WHAT IT READS IS OF BULK AT MOST 1048576: true; the input reads as it did. -/
def dockEitherUptoRow : OpenClaim := { program := "ytajecdfdnlfndaagreat", sum := "4a46479a8e1fff6ae2f2e0f6330a7e6de2c7cb3c47dc4fd7c52547055940d78e", func := "windsock/windsocklaw06.DockEither", spec := "dockEither", unfollowed := true, recurses := true, plainKeys := false, apart := false, narrowed := true }
def DockEitherUptoSaid : Prop := dockEitherUptoRow.holds Tryz.pinned (OpenSpec.upto dockEitherSpec)

/-- 'windsocklaw06.DockPulls', WHERE WHAT IT READS IS OF BULK AT MOST 1048576: true; the input reads as it did. -/
def dockPullsUptoRow : OpenClaim := { program := "ytajecdfdnlfndaagreat", sum := "4a46479a8e1fff6ae2f2e0f6330a7e6de2c7cb3c47dc4fd7c52547055940d78e", func := "windsock/windsocklaw06.DockPulls", spec := "dockPulls", unfollowed := true, recurses := true, plainKeys := false, apart := false, narrowed := true }
def DockPullsUptoSaid : Prop := dockPullsUptoRow.holds Tryz.pinned (OpenSpec.upto dockPullsSpec)

/-- 'windsocklaw06.DockStuck', WHERE WHAT IT READS IS OF BULK AT MOST 1048576: true; the input reads as it did. -/
def dockStuckUptoRow : OpenClaim := { program := "ytajecdfdnlfndaagreat", sum := "4a46479a8e1fff6ae2f2e0f6330a7e6de2c7cb3c47dc4fd7c52547055940d78e", func := "windsock/windsocklaw06.DockStuck", spec := "dockStuck", unfollowed := true, recurses := true, plainKeys := false, apart := false, narrowed := true }
def DockStuckUptoSaid : Prop := dockStuckUptoRow.holds Tryz.pinned (OpenSpec.upto dockStuckSpec)

/-- 'windsocklaw06.DockMore', WHERE WHAT IT READS IS OF BULK AT MOST 1048576: true; the input reads as it did. -/
def dockMoreUptoRow : OpenClaim := { program := "ytajecdfdnlfndaagreat", sum := "4a46479a8e1fff6ae2f2e0f6330a7e6de2c7cb3c47dc4fd7c52547055940d78e", func := "windsock/windsocklaw06.DockMore", spec := "dockMore", unfollowed := true, recurses := true, plainKeys := false, apart := false, narrowed := true }
def DockMoreUptoSaid : Prop := dockMoreUptoRow.holds Tryz.pinned (OpenSpec.upto dockMoreSpec)

/-- 'windsocklaw06.DockRuns', WHERE WHAT IT READS IS OF BULK AT MOST 1048576: true; the input reads as it did. -/
def dockRunsUptoRow : OpenClaim := { program := "ytajecdfdnlfndaagreat", sum := "4a46479a8e1fff6ae2f2e0f6330a7e6de2c7cb3c47dc4fd7c52547055940d78e", func := "windsock/windsocklaw06.DockRuns", spec := "dockRuns", unfollowed := true, recurses := true, plainKeys := false, apart := false, narrowed := true }
def DockRunsUptoSaid : Prop := dockRunsUptoRow.holds Tryz.pinned (OpenSpec.upto dockRunsSpec)

/-- 'windsocklaw06.DockOne', WHERE WHAT IT READS IS OF BULK AT MOST 1048576: true; the input reads as it did. -/
def dockOneUptoRow : OpenClaim := { program := "ytajecdfdnlfndaagreat", sum := "4a46479a8e1fff6ae2f2e0f6330a7e6de2c7cb3c47dc4fd7c52547055940d78e", func := "windsock/windsocklaw06.DockOne", spec := "dockOne", unfollowed := true, recurses := true, plainKeys := false, apart := false, narrowed := true }
def DockOneUptoSaid : Prop := dockOneUptoRow.holds Tryz.pinned (OpenSpec.upto dockOneSpec)

/-- 'windsocklaw06.DockNever', WHERE WHAT IT READS IS OF BULK AT MOST 1048576: true; the input reads as it did. -/
def dockNeverUptoRow : OpenClaim := { program := "ytajecdfdnlfndaagreat", sum := "4a46479a8e1fff6ae2f2e0f6330a7e6de2c7cb3c47dc4fd7c52547055940d78e", func := "windsock/windsocklaw06.DockNever", spec := "dockNever", unfollowed := true, recurses := true, plainKeys := false, apart := false, narrowed := true }
def DockNeverUptoSaid : Prop := dockNeverUptoRow.holds Tryz.pinned (OpenSpec.upto dockNeverSpec)

/-- 'windsocklaw06.DockLinear', WHERE WHAT IT READS IS OF BULK AT MOST 1048576: true; the input reads as it did. -/
def dockLinearUptoRow : OpenClaim := { program := "ytajecdfdnlfndaagreat", sum := "4a46479a8e1fff6ae2f2e0f6330a7e6de2c7cb3c47dc4fd7c52547055940d78e", func := "windsock/windsocklaw06.DockLinear", spec := "dockLinear", unfollowed := true, recurses := true, plainKeys := false, apart := false, narrowed := true }
def DockLinearUptoSaid : Prop := dockLinearUptoRow.holds Tryz.pinned (OpenSpec.upto dockLinearSpec)

/-- 'windsocklaw06.DockOrders', WHERE WHAT IT READS IS OF BULK AT MOST 1048576: true; the input reads as it did. -/
def dockOrdersUptoRow : OpenClaim := { program := "ytajecdfdnlfndaagreat", sum := "4a46479a8e1fff6ae2f2e0f6330a7e6de2c7cb3c47dc4fd7c52547055940d78e", func := "windsock/windsocklaw06.DockOrders", spec := "dockOrders", unfollowed := true, recurses := true, plainKeys := false, apart := false, narrowed := true }
def DockOrdersUptoSaid : Prop := dockOrdersUptoRow.holds Tryz.pinned (OpenSpec.upto dockOrdersSpec)

/-- 'windsocklaw06.DockWitnessed', WHERE WHAT IT READS IS OF BULK AT MOST 1048576: true; the input reads as it did. -/
def dockWitnessedUptoRow : OpenClaim := { program := "ytajecdfdnlfndaagreat", sum := "4a46479a8e1fff6ae2f2e0f6330a7e6de2c7cb3c47dc4fd7c52547055940d78e", func := "windsock/windsocklaw06.DockWitnessed", spec := "dockWitnessed", unfollowed := true, recurses := true, plainKeys := false, apart := false, narrowed := true }
def DockWitnessedUptoSaid : Prop := dockWitnessedUptoRow.holds Tryz.pinned (OpenSpec.upto dockWitnessedSpec)

/-- 'windsocklaw06.DockHolds', WHERE WHAT IT READS IS OF BULK AT MOST 1048576: true; the input reads as it did. -/
def dockHoldsUptoRow : OpenClaim := { program := "ytajecdfdnlfndaagreat", sum := "4a46479a8e1fff6ae2f2e0f6330a7e6de2c7cb3c47dc4fd7c52547055940d78e", func := "windsock/windsocklaw06.DockHolds", spec := "dockHolds", unfollowed := true, recurses := true, plainKeys := false, apart := false, narrowed := true }
def DockHoldsUptoSaid : Prop := dockHoldsUptoRow.holds Tryz.pinned (OpenSpec.upto dockHoldsSpec)

/-- 'windsocklaw06.DockFewest', WHERE WHAT IT READS IS OF BULK AT MOST 1048576: true; the input reads as it did. -/
def dockFewestUptoRow : OpenClaim := { program := "ytajecdfdnlfndaagreat", sum := "4a46479a8e1fff6ae2f2e0f6330a7e6de2c7cb3c47dc4fd7c52547055940d78e", func := "windsock/windsocklaw06.DockFewest", spec := "dockFewest", unfollowed := true, recurses := true, plainKeys := false, apart := false, narrowed := true }
def DockFewestUptoSaid : Prop := dockFewestUptoRow.holds Tryz.pinned (OpenSpec.upto dockFewestSpec)

end Rows
end Go.Proofs.YtajecdfdnlfndaaGreat
