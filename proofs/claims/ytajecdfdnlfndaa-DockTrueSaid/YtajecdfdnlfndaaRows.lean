/-
  No cell of these rows narrows 'for every input' (looked for: loops, veiled, ifaces, maps, wideKeys, modest, calm, conditions, laid).
  DERIVED. THE GIVEN ROWS OF THIS SEAT. 4 by the template 'for every input the law returns true; each argument reads behind the call as it read before'; 0 by the template 'total and deterministic' (their statements: YtajecdfdnlfndaaTotals.lean).
  GIVEN WITH THE SEED: the statements are not yours to turn. If you find one false, say at which input.
  Laid BY PROGRAM, IN A SANDBOX (cutbox-rows.mjs): the forced cells as the released guide's own fill.sh prints them over the translation 6cd71880d33995ce… (all of the seat's roots in one cut). By AI agents, Wed Nov 11 2026. No macro, syntax, notation, axiom, sorry.
-/
import Derived.Test.YtajecdfdnlfndaaChecked
import GoSem.Claim
import GoSem.ClaimJoined
import GoSem.ClaimMapViews
import Derived.JoinedTies
import Derived.KernelRfl
namespace Go.Proofs.Ytajecdfdnlfndaa
/- THE CELL 'sum', in the pinned program and in every row, IS THE sha256 OF THE DUMP (.gsa) THAT YtajecdfdnlfndaaProg.lean LOADS. Nothing in Lean hashes anything: it is a label: what it is worth is what the hold of that sum in a sandbox is worth. -/
noncomputable def Try.pinned : Pinned := { name := "ytajecdfdnlfndaa", sum := "6cd71880d33995cea3bd7242c26f0090cef503361b7503bc36ba3942b6051d4d", checked := Try.checked }
namespace Rows
def none {H : Type} : Left H := { results := [], args := [] }

/-- 'windsocklaw06.DockTrue': WHATEVER THE INPUT: true; the input reads as it did. -/
def dockTrueSpec : ChangeSpec := { name := "dockTrue", fn := fun _ => fun
  | [d1, d2, d3, d4] => { results := [.lit (.bool true)], args := [d1, d2, d3, d4] }
  | _ => none }
def dockTrueRow : OpenClaim := { program := "ytajecdfdnlfndaa", sum := "6cd71880d33995cea3bd7242c26f0090cef503361b7503bc36ba3942b6051d4d", func := "windsock/windsocklaw06.DockTrue", spec := "dockTrue", unfollowed := true, recurses := true, plainKeys := false, apart := false }
def DockTrueSaid : Prop := dockTrueRow.holds Try.pinned (OpenSpec.ofChange dockTrueSpec)

/-- ITS FALSE NEIGHBOUR: 'it returns false'. Refute it at one input. -/
def dockTrueWrong : ChangeSpec := { name := "dockTrue", fn := fun _ => fun
  | [d1, d2, d3, d4] => { results := [.lit (.bool false)], args := [d1, d2, d3, d4] }
  | _ => none }
def DockTrueWrongFalsely : Prop := dockTrueRow.holds Try.pinned (OpenSpec.ofChange dockTrueWrong)

/-- 'windsocklaw06.DockTense': WHATEVER THE INPUT: true; the input reads as it did. -/
def dockTenseSpec : ChangeSpec := { name := "dockTense", fn := fun _ => fun
  | [d1, d2, d3, d4, d5] => { results := [.lit (.bool true)], args := [d1, d2, d3, d4, d5] }
  | _ => none }
def dockTenseRow : OpenClaim := { program := "ytajecdfdnlfndaa", sum := "6cd71880d33995cea3bd7242c26f0090cef503361b7503bc36ba3942b6051d4d", func := "windsock/windsocklaw06.DockTense", spec := "dockTense", unfollowed := true, recurses := true, plainKeys := false, apart := false }
def DockTenseSaid : Prop := dockTenseRow.holds Try.pinned (OpenSpec.ofChange dockTenseSpec)

/-- ITS FALSE NEIGHBOUR: 'it returns false'. Refute it at one input. -/
def dockTenseWrong : ChangeSpec := { name := "dockTense", fn := fun _ => fun
  | [d1, d2, d3, d4, d5] => { results := [.lit (.bool false)], args := [d1, d2, d3, d4, d5] }
  | _ => none }
def DockTenseWrongFalsely : Prop := dockTenseRow.holds Try.pinned (OpenSpec.ofChange dockTenseWrong)

/-- 'windsocklaw06.DockCounts': WHATEVER THE INPUT: true; the input reads as it did. -/
def dockCountsSpec : ChangeSpec := { name := "dockCounts", fn := fun _ => fun
  | [d1, d2, d3] => { results := [.lit (.bool true)], args := [d1, d2, d3] }
  | _ => none }
def dockCountsRow : OpenClaim := { program := "ytajecdfdnlfndaa", sum := "6cd71880d33995cea3bd7242c26f0090cef503361b7503bc36ba3942b6051d4d", func := "windsock/windsocklaw06.DockCounts", spec := "dockCounts", unfollowed := true, recurses := true, plainKeys := false, apart := false }
def DockCountsSaid : Prop := dockCountsRow.holds Try.pinned (OpenSpec.ofChange dockCountsSpec)

/-- ITS FALSE NEIGHBOUR: 'it returns false'. Refute it at one input. -/
def dockCountsWrong : ChangeSpec := { name := "dockCounts", fn := fun _ => fun
  | [d1, d2, d3] => { results := [.lit (.bool false)], args := [d1, d2, d3] }
  | _ => none }
def DockCountsWrongFalsely : Prop := dockCountsRow.holds Try.pinned (OpenSpec.ofChange dockCountsWrong)

/-- 'windsocklaw06.DockJackets': WHATEVER THE INPUT: true; the input reads as it did. -/
def dockJacketsSpec : ChangeSpec := { name := "dockJackets", fn := fun _ => fun
  | [d1, d2, d3] => { results := [.lit (.bool true)], args := [d1, d2, d3] }
  | _ => none }
def dockJacketsRow : OpenClaim := { program := "ytajecdfdnlfndaa", sum := "6cd71880d33995cea3bd7242c26f0090cef503361b7503bc36ba3942b6051d4d", func := "windsock/windsocklaw06.DockJackets", spec := "dockJackets", unfollowed := true, recurses := true, plainKeys := false, apart := false }
def DockJacketsSaid : Prop := dockJacketsRow.holds Try.pinned (OpenSpec.ofChange dockJacketsSpec)

/-- ITS FALSE NEIGHBOUR: 'it returns false'. Refute it at one input. -/
def dockJacketsWrong : ChangeSpec := { name := "dockJackets", fn := fun _ => fun
  | [d1, d2, d3] => { results := [.lit (.bool false)], args := [d1, d2, d3] }
  | _ => none }
def DockJacketsWrongFalsely : Prop := dockJacketsRow.holds Try.pinned (OpenSpec.ofChange dockJacketsWrong)

/- THE SECOND FORM. 'bulk': how many values and letters a reading holds, each counted each time it is reached (what is shared counts as often as it is met; a slice's spare places count too). A statement '..UptoSaid' is the law's where the arguments, and the package variables that the reading takes, are together of bulk at most 1048576: NARROWER than '..Said'. Prove '..Said' where nothing that the law and all that it calls make is longer than what came in: it says more and counts as full. Else prove '..UptoSaid'. A law counts once. -/
mutual
def uptoBulk {H : Type} : DataW H → Nat
  | .lit (.string bytes) => bytes.length + 1
  | .lit _ => 1
  | .nil => 1
  | .ptr d => uptoBulk d + 1
  | .slice elems spare => uptoBulkAll elems + uptoBulkAll spare + 1
  | .agg parts => uptoBulkAll parts + 1
  | .iface _ d => uptoBulk d + 1
  | .map entries => uptoBulkEntries entries + 1
  | .held _ => 1
def uptoBulkAll {H : Type} : List (DataW H) → Nat
  | [] => 0
  | d :: r => uptoBulk d + uptoBulkAll r
def uptoBulkEntries {H : Type} : List (Lit × DataW H) → Nat
  | [] => 0
  | x :: r => uptoBulkEntry x + uptoBulkEntries r
def uptoBulkEntry {H : Type} : Lit × DataW H → Nat
  | (.string bytes, d) => bytes.length + uptoBulk d + 1
  | (_, d) => uptoBulk d + 1
 end
def uptoSmall : (H : Type) → List (DataW H) → Bool := fun _ ds => decide (uptoBulkAll ds ≤ 1048576)
def OpenSpec.upto (s : _root_.Go.ChangeSpec) : _root_.Go.OpenSpec := { _root_.Go.OpenSpec.ofChange s with cond := some uptoSmall }

/-- 'windsocklaw06.DockTrue', WHERE WHAT IT READS IS OF BULK AT MOST 1048576: true; the input reads as it did. -/
def dockTrueUptoRow : OpenClaim := { program := "ytajecdfdnlfndaa", sum := "6cd71880d33995cea3bd7242c26f0090cef503361b7503bc36ba3942b6051d4d", func := "windsock/windsocklaw06.DockTrue", spec := "dockTrue", unfollowed := true, recurses := true, plainKeys := false, apart := false, narrowed := true }
def DockTrueUptoSaid : Prop := dockTrueUptoRow.holds Try.pinned (OpenSpec.upto dockTrueSpec)

/-- 'windsocklaw06.DockTense', WHERE WHAT IT READS IS OF BULK AT MOST 1048576: true; the input reads as it did. -/
def dockTenseUptoRow : OpenClaim := { program := "ytajecdfdnlfndaa", sum := "6cd71880d33995cea3bd7242c26f0090cef503361b7503bc36ba3942b6051d4d", func := "windsock/windsocklaw06.DockTense", spec := "dockTense", unfollowed := true, recurses := true, plainKeys := false, apart := false, narrowed := true }
def DockTenseUptoSaid : Prop := dockTenseUptoRow.holds Try.pinned (OpenSpec.upto dockTenseSpec)

/-- 'windsocklaw06.DockCounts', WHERE WHAT IT READS IS OF BULK AT MOST 1048576: true; the input reads as it did. -/
def dockCountsUptoRow : OpenClaim := { program := "ytajecdfdnlfndaa", sum := "6cd71880d33995cea3bd7242c26f0090cef503361b7503bc36ba3942b6051d4d", func := "windsock/windsocklaw06.DockCounts", spec := "dockCounts", unfollowed := true, recurses := true, plainKeys := false, apart := false, narrowed := true }
def DockCountsUptoSaid : Prop := dockCountsUptoRow.holds Try.pinned (OpenSpec.upto dockCountsSpec)

/-- 'windsocklaw06.DockJackets', WHERE WHAT IT READS IS OF BULK AT MOST 1048576: true; the input reads as it did. -/
def dockJacketsUptoRow : OpenClaim := { program := "ytajecdfdnlfndaa", sum := "6cd71880d33995cea3bd7242c26f0090cef503361b7503bc36ba3942b6051d4d", func := "windsock/windsocklaw06.DockJackets", spec := "dockJackets", unfollowed := true, recurses := true, plainKeys := false, apart := false, narrowed := true }
def DockJacketsUptoSaid : Prop := dockJacketsUptoRow.holds Try.pinned (OpenSpec.upto dockJacketsSpec)

end Rows
end Go.Proofs.Ytajecdfdnlfndaa
