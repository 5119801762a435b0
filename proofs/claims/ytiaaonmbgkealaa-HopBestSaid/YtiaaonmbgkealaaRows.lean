/-
  No cell of these rows narrows 'for every input' (looked for: loops, veiled, ifaces, maps, wideKeys, modest, calm, conditions, laid).
  DERIVED. THE GIVEN ROWS OF THIS SEAT. 13 by the template 'for every input the law returns true; each argument reads behind the call as it read before'; 0 by the template 'total and deterministic' (their statements: YtiaaonmbgkealaaTotals.lean).
  GIVEN WITH THE SEED: the statements are not yours to turn. If you find one false, say at which input.
  Laid BY PROGRAM, IN A SANDBOX (cutbox-rows.mjs): the forced cells as the released guide's own fill.sh prints them over the translation 0f25f39a10468f85… (all of the seat's roots in one cut). By AI agents, Wed Nov 11 2026. No macro, syntax, notation, axiom, sorry.
-/
import Derived.Test.YtiaaonmbgkealaaChecked
import GoSem.Claim
import GoSem.ClaimJoined
import GoSem.ClaimMapViews
import Derived.JoinedTies
import Derived.KernelRfl
namespace Go.Proofs.Ytiaaonmbgkealaa
/- THE CELL 'sum', in the pinned program and in every row, IS THE sha256 OF THE DUMP (.gsa) THAT YtiaaonmbgkealaaProg.lean LOADS. Nothing in Lean hashes anything: it is a label: what it is worth is what the hold of that sum in a sandbox is worth. -/
noncomputable def Try.pinned : Pinned := { name := "ytiaaonmbgkealaa", sum := "0f25f39a10468f855d48e5d8d95b6dfc44e0a75385f39869aa4e4e41fcc43d5f", checked := Try.checked }
namespace Rows
def none {H : Type} : Left H := { results := [], args := [] }

/-- 'windsocklaw04.HopDeparts': WHATEVER THE INPUT: true; the input reads as it did. -/
def hopDepartsSpec : ChangeSpec := { name := "hopDeparts", fn := fun _ => fun
  | [d] => { results := [.lit (.bool true)], args := [d] }
  | _ => none }
def hopDepartsRow : OpenClaim := { program := "ytiaaonmbgkealaa", sum := "0f25f39a10468f855d48e5d8d95b6dfc44e0a75385f39869aa4e4e41fcc43d5f", func := "windsock/windsocklaw04.HopDeparts", spec := "hopDeparts", unfollowed := true, recurses := true, plainKeys := false, apart := false }
def HopDepartsSaid : Prop := hopDepartsRow.holds Try.pinned (OpenSpec.ofChange hopDepartsSpec)

/-- ITS FALSE NEIGHBOUR: 'it returns false'. Refute it at one input. -/
def hopDepartsWrong : ChangeSpec := { name := "hopDeparts", fn := fun _ => fun
  | [d] => { results := [.lit (.bool false)], args := [d] }
  | _ => none }
def HopDepartsWrongFalsely : Prop := hopDepartsRow.holds Try.pinned (OpenSpec.ofChange hopDepartsWrong)

/-- 'windsocklaw04.HopRides': WHATEVER THE INPUT: true; the input reads as it did. -/
def hopRidesSpec : ChangeSpec := { name := "hopRides", fn := fun _ => fun
  | [d1, d2, d3, d4] => { results := [.lit (.bool true)], args := [d1, d2, d3, d4] }
  | _ => none }
def hopRidesRow : OpenClaim := { program := "ytiaaonmbgkealaa", sum := "0f25f39a10468f855d48e5d8d95b6dfc44e0a75385f39869aa4e4e41fcc43d5f", func := "windsock/windsocklaw04.HopRides", spec := "hopRides", unfollowed := true, recurses := true, plainKeys := false, apart := false }
def HopRidesSaid : Prop := hopRidesRow.holds Try.pinned (OpenSpec.ofChange hopRidesSpec)

/-- ITS FALSE NEIGHBOUR: 'it returns false'. Refute it at one input. -/
def hopRidesWrong : ChangeSpec := { name := "hopRides", fn := fun _ => fun
  | [d1, d2, d3, d4] => { results := [.lit (.bool false)], args := [d1, d2, d3, d4] }
  | _ => none }
def HopRidesWrongFalsely : Prop := hopRidesRow.holds Try.pinned (OpenSpec.ofChange hopRidesWrong)

/-- 'windsocklaw04.HopSafe': WHATEVER THE INPUT: true; the input reads as it did. -/
def hopSafeSpec : ChangeSpec := { name := "hopSafe", fn := fun _ => fun
  | [d1, d2, d3] => { results := [.lit (.bool true)], args := [d1, d2, d3] }
  | _ => none }
def hopSafeRow : OpenClaim := { program := "ytiaaonmbgkealaa", sum := "0f25f39a10468f855d48e5d8d95b6dfc44e0a75385f39869aa4e4e41fcc43d5f", func := "windsock/windsocklaw04.HopSafe", spec := "hopSafe", unfollowed := true, recurses := true, plainKeys := false, apart := false }
def HopSafeSaid : Prop := hopSafeRow.holds Try.pinned (OpenSpec.ofChange hopSafeSpec)

/-- ITS FALSE NEIGHBOUR: 'it returns false'. Refute it at one input. -/
def hopSafeWrong : ChangeSpec := { name := "hopSafe", fn := fun _ => fun
  | [d1, d2, d3] => { results := [.lit (.bool false)], args := [d1, d2, d3] }
  | _ => none }
def HopSafeWrongFalsely : Prop := hopSafeRow.holds Try.pinned (OpenSpec.ofChange hopSafeWrong)

/-- 'windsocklaw04.HopFails': WHATEVER THE INPUT: true; the input reads as it did. -/
def hopFailsSpec : ChangeSpec := { name := "hopFails", fn := fun _ => fun
  | [d1, d2, d3] => { results := [.lit (.bool true)], args := [d1, d2, d3] }
  | _ => none }
def hopFailsRow : OpenClaim := { program := "ytiaaonmbgkealaa", sum := "0f25f39a10468f855d48e5d8d95b6dfc44e0a75385f39869aa4e4e41fcc43d5f", func := "windsock/windsocklaw04.HopFails", spec := "hopFails", unfollowed := true, recurses := true, plainKeys := false, apart := false }
def HopFailsSaid : Prop := hopFailsRow.holds Try.pinned (OpenSpec.ofChange hopFailsSpec)

/-- ITS FALSE NEIGHBOUR: 'it returns false'. Refute it at one input. -/
def hopFailsWrong : ChangeSpec := { name := "hopFails", fn := fun _ => fun
  | [d1, d2, d3] => { results := [.lit (.bool false)], args := [d1, d2, d3] }
  | _ => none }
def HopFailsWrongFalsely : Prop := hopFailsRow.holds Try.pinned (OpenSpec.ofChange hopFailsWrong)

/-- 'windsocklaw04.HopWider': WHATEVER THE INPUT: true; the input reads as it did. -/
def hopWiderSpec : ChangeSpec := { name := "hopWider", fn := fun _ => fun
  | [d1, d2, d3, d4, d5] => { results := [.lit (.bool true)], args := [d1, d2, d3, d4, d5] }
  | _ => none }
def hopWiderRow : OpenClaim := { program := "ytiaaonmbgkealaa", sum := "0f25f39a10468f855d48e5d8d95b6dfc44e0a75385f39869aa4e4e41fcc43d5f", func := "windsock/windsocklaw04.HopWider", spec := "hopWider", unfollowed := true, recurses := true, plainKeys := false, apart := false }
def HopWiderSaid : Prop := hopWiderRow.holds Try.pinned (OpenSpec.ofChange hopWiderSpec)

/-- ITS FALSE NEIGHBOUR: 'it returns false'. Refute it at one input. -/
def hopWiderWrong : ChangeSpec := { name := "hopWider", fn := fun _ => fun
  | [d1, d2, d3, d4, d5] => { results := [.lit (.bool false)], args := [d1, d2, d3, d4, d5] }
  | _ => none }
def HopWiderWrongFalsely : Prop := hopWiderRow.holds Try.pinned (OpenSpec.ofChange hopWiderWrong)

/-- 'windsocklaw04.HopMore': WHATEVER THE INPUT: true; the input reads as it did. -/
def hopMoreSpec : ChangeSpec := { name := "hopMore", fn := fun _ => fun
  | [d1, d2, d3, d4] => { results := [.lit (.bool true)], args := [d1, d2, d3, d4] }
  | _ => none }
def hopMoreRow : OpenClaim := { program := "ytiaaonmbgkealaa", sum := "0f25f39a10468f855d48e5d8d95b6dfc44e0a75385f39869aa4e4e41fcc43d5f", func := "windsock/windsocklaw04.HopMore", spec := "hopMore", unfollowed := true, recurses := true, plainKeys := false, apart := false }
def HopMoreSaid : Prop := hopMoreRow.holds Try.pinned (OpenSpec.ofChange hopMoreSpec)

/-- ITS FALSE NEIGHBOUR: 'it returns false'. Refute it at one input. -/
def hopMoreWrong : ChangeSpec := { name := "hopMore", fn := fun _ => fun
  | [d1, d2, d3, d4] => { results := [.lit (.bool false)], args := [d1, d2, d3, d4] }
  | _ => none }
def HopMoreWrongFalsely : Prop := hopMoreRow.holds Try.pinned (OpenSpec.ofChange hopMoreWrong)

/-- 'windsocklaw04.HopBest': WHATEVER THE INPUT: true; the input reads as it did. -/
def hopBestSpec : ChangeSpec := { name := "hopBest", fn := fun _ => fun
  | [d1, d2] => { results := [.lit (.bool true)], args := [d1, d2] }
  | _ => none }
def hopBestRow : OpenClaim := { program := "ytiaaonmbgkealaa", sum := "0f25f39a10468f855d48e5d8d95b6dfc44e0a75385f39869aa4e4e41fcc43d5f", func := "windsock/windsocklaw04.HopBest", spec := "hopBest", unfollowed := true, recurses := true, plainKeys := false, apart := false }
def HopBestSaid : Prop := hopBestRow.holds Try.pinned (OpenSpec.ofChange hopBestSpec)

/-- ITS FALSE NEIGHBOUR: 'it returns false'. Refute it at one input. -/
def hopBestWrong : ChangeSpec := { name := "hopBest", fn := fun _ => fun
  | [d1, d2] => { results := [.lit (.bool false)], args := [d1, d2] }
  | _ => none }
def HopBestWrongFalsely : Prop := hopBestRow.holds Try.pinned (OpenSpec.ofChange hopBestWrong)

/-- 'windsocklaw04.HopKnows': WHATEVER THE INPUT: true; the input reads as it did. -/
def hopKnowsSpec : ChangeSpec := { name := "hopKnows", fn := fun _ => fun
  | [d1, d2] => { results := [.lit (.bool true)], args := [d1, d2] }
  | _ => none }
def hopKnowsRow : OpenClaim := { program := "ytiaaonmbgkealaa", sum := "0f25f39a10468f855d48e5d8d95b6dfc44e0a75385f39869aa4e4e41fcc43d5f", func := "windsock/windsocklaw04.HopKnows", spec := "hopKnows", unfollowed := true, recurses := true, plainKeys := false, apart := false }
def HopKnowsSaid : Prop := hopKnowsRow.holds Try.pinned (OpenSpec.ofChange hopKnowsSpec)

/-- ITS FALSE NEIGHBOUR: 'it returns false'. Refute it at one input. -/
def hopKnowsWrong : ChangeSpec := { name := "hopKnows", fn := fun _ => fun
  | [d1, d2] => { results := [.lit (.bool false)], args := [d1, d2] }
  | _ => none }
def HopKnowsWrongFalsely : Prop := hopKnowsRow.holds Try.pinned (OpenSpec.ofChange hopKnowsWrong)

/-- 'windsocklaw04.HopAlikes': WHATEVER THE INPUT: true; the input reads as it did. -/
def hopAlikesSpec : ChangeSpec := { name := "hopAlikes", fn := fun _ => fun
  | [d1, d2, d3, d4] => { results := [.lit (.bool true)], args := [d1, d2, d3, d4] }
  | _ => none }
def hopAlikesRow : OpenClaim := { program := "ytiaaonmbgkealaa", sum := "0f25f39a10468f855d48e5d8d95b6dfc44e0a75385f39869aa4e4e41fcc43d5f", func := "windsock/windsocklaw04.HopAlikes", spec := "hopAlikes", unfollowed := true, recurses := true, plainKeys := false, apart := false }
def HopAlikesSaid : Prop := hopAlikesRow.holds Try.pinned (OpenSpec.ofChange hopAlikesSpec)

/-- ITS FALSE NEIGHBOUR: 'it returns false'. Refute it at one input. -/
def hopAlikesWrong : ChangeSpec := { name := "hopAlikes", fn := fun _ => fun
  | [d1, d2, d3, d4] => { results := [.lit (.bool false)], args := [d1, d2, d3, d4] }
  | _ => none }
def HopAlikesWrongFalsely : Prop := hopAlikesRow.holds Try.pinned (OpenSpec.ofChange hopAlikesWrong)

/-- 'windsocklaw04.HopTrue': WHATEVER THE INPUT: true; the input reads as it did. -/
def hopTrueSpec : ChangeSpec := { name := "hopTrue", fn := fun _ => fun
  | [d1, d2] => { results := [.lit (.bool true)], args := [d1, d2] }
  | _ => none }
def hopTrueRow : OpenClaim := { program := "ytiaaonmbgkealaa", sum := "0f25f39a10468f855d48e5d8d95b6dfc44e0a75385f39869aa4e4e41fcc43d5f", func := "windsock/windsocklaw04.HopTrue", spec := "hopTrue", unfollowed := true, recurses := true, plainKeys := false, apart := false }
def HopTrueSaid : Prop := hopTrueRow.holds Try.pinned (OpenSpec.ofChange hopTrueSpec)

/-- ITS FALSE NEIGHBOUR: 'it returns false'. Refute it at one input. -/
def hopTrueWrong : ChangeSpec := { name := "hopTrue", fn := fun _ => fun
  | [d1, d2] => { results := [.lit (.bool false)], args := [d1, d2] }
  | _ => none }
def HopTrueWrongFalsely : Prop := hopTrueRow.holds Try.pinned (OpenSpec.ofChange hopTrueWrong)

/-- 'windsocklaw04.HopFlies': WHATEVER THE INPUT: true; the input reads as it did. -/
def hopFliesSpec : ChangeSpec := { name := "hopFlies", fn := fun _ => fun
  | [d1, d2, d3, d4] => { results := [.lit (.bool true)], args := [d1, d2, d3, d4] }
  | _ => none }
def hopFliesRow : OpenClaim := { program := "ytiaaonmbgkealaa", sum := "0f25f39a10468f855d48e5d8d95b6dfc44e0a75385f39869aa4e4e41fcc43d5f", func := "windsock/windsocklaw04.HopFlies", spec := "hopFlies", unfollowed := true, recurses := true, plainKeys := false, apart := false }
def HopFliesSaid : Prop := hopFliesRow.holds Try.pinned (OpenSpec.ofChange hopFliesSpec)

/-- ITS FALSE NEIGHBOUR: 'it returns false'. Refute it at one input. -/
def hopFliesWrong : ChangeSpec := { name := "hopFlies", fn := fun _ => fun
  | [d1, d2, d3, d4] => { results := [.lit (.bool false)], args := [d1, d2, d3, d4] }
  | _ => none }
def HopFliesWrongFalsely : Prop := hopFliesRow.holds Try.pinned (OpenSpec.ofChange hopFliesWrong)

/-- 'windsocklaw04.HopWorsts': WHATEVER THE INPUT: true; the input reads as it did. -/
def hopWorstsSpec : ChangeSpec := { name := "hopWorsts", fn := fun _ => fun
  | [d1, d2] => { results := [.lit (.bool true)], args := [d1, d2] }
  | _ => none }
def hopWorstsRow : OpenClaim := { program := "ytiaaonmbgkealaa", sum := "0f25f39a10468f855d48e5d8d95b6dfc44e0a75385f39869aa4e4e41fcc43d5f", func := "windsock/windsocklaw04.HopWorsts", spec := "hopWorsts", unfollowed := true, recurses := true, plainKeys := false, apart := false }
def HopWorstsSaid : Prop := hopWorstsRow.holds Try.pinned (OpenSpec.ofChange hopWorstsSpec)

/-- ITS FALSE NEIGHBOUR: 'it returns false'. Refute it at one input. -/
def hopWorstsWrong : ChangeSpec := { name := "hopWorsts", fn := fun _ => fun
  | [d1, d2] => { results := [.lit (.bool false)], args := [d1, d2] }
  | _ => none }
def HopWorstsWrongFalsely : Prop := hopWorstsRow.holds Try.pinned (OpenSpec.ofChange hopWorstsWrong)

/-- 'windsocklaw04.HopCheapest': WHATEVER THE INPUT: true; the input reads as it did. -/
def hopCheapestSpec : ChangeSpec := { name := "hopCheapest", fn := fun _ => fun
  | [d1, d2] => { results := [.lit (.bool true)], args := [d1, d2] }
  | _ => none }
def hopCheapestRow : OpenClaim := { program := "ytiaaonmbgkealaa", sum := "0f25f39a10468f855d48e5d8d95b6dfc44e0a75385f39869aa4e4e41fcc43d5f", func := "windsock/windsocklaw04.HopCheapest", spec := "hopCheapest", unfollowed := true, recurses := true, plainKeys := false, apart := false }
def HopCheapestSaid : Prop := hopCheapestRow.holds Try.pinned (OpenSpec.ofChange hopCheapestSpec)

/-- ITS FALSE NEIGHBOUR: 'it returns false'. Refute it at one input. -/
def hopCheapestWrong : ChangeSpec := { name := "hopCheapest", fn := fun _ => fun
  | [d1, d2] => { results := [.lit (.bool false)], args := [d1, d2] }
  | _ => none }
def HopCheapestWrongFalsely : Prop := hopCheapestRow.holds Try.pinned (OpenSpec.ofChange hopCheapestWrong)

/- THE SECOND FORM. 'bulk': how many values and letters a reading holds, each counted each time it is reached (what is shared counts as often as it is met; a slice's spare places count too). A statement '..UptoSaid' is the law's where the arguments, and the package variables that the reading takes, are together of bulk at most 1048576: NARROWER than '..Said'. Prove '..Said' where nothing that the law and all that it calls make is longer than what came in: it says more and counts as full. Else prove '..UptoSaid'. A law counts once. -/
mutual
def uptoBulk {H : Type} : DataW H → Nat
  | .lit (.string bytes) => bytes.length + 1
  | .lit _ => 1
  | .nil => 1
  | .ptr d => uptoBulk d + 1
  | .slice elems spare => uptoBulkAll elems + uptoBulkAll spare + 1
  | .agg parts => uptoBulkAll parts + 1
  | .iface _ d => uptoBulk d + 1
  | .map entries => uptoBulkEntries entries + 1
  | .held _ => 1
def uptoBulkAll {H : Type} : List (DataW H) → Nat
  | [] => 0
  | d :: r => uptoBulk d + uptoBulkAll r
def uptoBulkEntries {H : Type} : List (Lit × DataW H) → Nat
  | [] => 0
  | x :: r => uptoBulkEntry x + uptoBulkEntries r
def uptoBulkEntry {H : Type} : Lit × DataW H → Nat
  | (.string bytes, d) => bytes.length + uptoBulk d + 1
  | (_, d) => uptoBulk d + 1
 end
def uptoSmall : (H : Type) → List (DataW H) → Bool := fun _ ds => decide (uptoBulkAll ds ≤ 1048576)
def OpenSpec.upto (s : _root_.Go.ChangeSpec) : _root_.Go.OpenSpec := { _root_.Go.OpenSpec.ofChange s with cond := some uptoSmall }

/-- 'windsocklaw04.HopDeparts', WHERE WHAT IT READS IS OF BULK AT MOST 1048576: true; the input reads as it did. -/
def hopDepartsUptoRow : OpenClaim := { program := "ytiaaonmbgkealaa", sum := "0f25f39a10468f855d48e5d8d95b6dfc44e0a75385f39869aa4e4e41fcc43d5f", func := "windsock/windsocklaw04.HopDeparts", spec := "hopDeparts", unfollowed := true, recurses := true, plainKeys := false, apart := false, narrowed := true }
def HopDepartsUptoSaid : Prop := hopDepartsUptoRow.holds Try.pinned (OpenSpec.upto hopDepartsSpec)

/-- 'windsocklaw04.HopRides', WHERE WHAT IT READS IS OF BULK AT MOST 1048576: true; the input reads as it did. -/
def hopRidesUptoRow : OpenClaim := { program := "ytiaaonmbgkealaa", sum := "0f25f39a10468f855d48e5d8d95b6dfc44e0a75385f39869aa4e4e41fcc43d5f", func := "windsock/windsocklaw04.HopRides", spec := "hopRides", unfollowed := true, recurses := true, plainKeys := false, apart := false, narrowed := true }
def HopRidesUptoSaid : Prop := hopRidesUptoRow.holds Try.pinned (OpenSpec.upto hopRidesSpec)

/-- 'windsocklaw04.HopSafe', WHERE WHAT IT READS IS OF BULK AT MOST 1048576: true; the input reads as it did. -/
def hopSafeUptoRow : OpenClaim := { program := "ytiaaonmbgkealaa", sum := "0f25f39a10468f855d48e5d8d95b6dfc44e0a75385f39869aa4e4e41fcc43d5f", func := "windsock/windsocklaw04.HopSafe", spec := "hopSafe", unfollowed := true, recurses := true, plainKeys := false, apart := false, narrowed := true }
def HopSafeUptoSaid : Prop := hopSafeUptoRow.holds Try.pinned (OpenSpec.upto hopSafeSpec)

/-- 'windsocklaw04.HopFails', WHERE WHAT IT READS IS OF BULK AT MOST 1048576: true; the input reads as it did. -/
def hopFailsUptoRow : OpenClaim := { program := "ytiaaonmbgkealaa", sum := "0f25f39a10468f855d48e5d8d95b6dfc44e0a75385f39869aa4e4e41fcc43d5f", func := "windsock/windsocklaw04.HopFails", spec := "hopFails", unfollowed := true, recurses := true, plainKeys := false, apart := false, narrowed := true }
def HopFailsUptoSaid : Prop := hopFailsUptoRow.holds Try.pinned (OpenSpec.upto hopFailsSpec)

/-- 'windsocklaw04.HopWider', WHERE WHAT IT READS IS OF BULK AT MOST 1048576: true; the input reads as it did. -/
def hopWiderUptoRow : OpenClaim := { program := "ytiaaonmbgkealaa", sum := "0f25f39a10468f855d48e5d8d95b6dfc44e0a75385f39869aa4e4e41fcc43d5f", func := "windsock/windsocklaw04.HopWider", spec := "hopWider", unfollowed := true, recurses := true, plainKeys := false, apart := false, narrowed := true }
def HopWiderUptoSaid : Prop := hopWiderUptoRow.holds Try.pinned (OpenSpec.upto hopWiderSpec)

/-- 'windsocklaw04.HopMore', WHERE WHAT IT READS IS OF BULK AT MOST 1048576: true; the input reads as it did. -/
def hopMoreUptoRow : OpenClaim := { program := "ytiaaonmbgkealaa", sum := "0f25f39a10468f855d48e5d8d95b6dfc44e0a75385f39869aa4e4e41fcc43d5f", func := "windsock/windsocklaw04.HopMore", spec := "hopMore", unfollowed := true, recurses := true, plainKeys := false, apart := false, narrowed := true }
def HopMoreUptoSaid : Prop := hopMoreUptoRow.holds Try.pinned (OpenSpec.upto hopMoreSpec)

/-- 'windsocklaw04.HopBest', WHERE WHAT IT READS IS OF BULK AT MOST 1048576: true; the input reads as it did. -/
def hopBestUptoRow : OpenClaim := { program := "ytiaaonmbgkealaa", sum := "0f25f39a10468f855d48e5d8d95b6dfc44e0a75385f39869aa4e4e41fcc43d5f", func := "windsock/windsocklaw04.HopBest", spec := "hopBest", unfollowed := true, recurses := true, plainKeys := false, apart := false, narrowed := true }
def HopBestUptoSaid : Prop := hopBestUptoRow.holds Try.pinned (OpenSpec.upto hopBestSpec)

/-- 'windsocklaw04.HopKnows', WHERE WHAT IT READS IS OF BULK AT MOST 1048576: true; the input reads as it did. -/
def hopKnowsUptoRow : OpenClaim := { program := "ytiaaonmbgkealaa", sum := "0f25f39a10468f855d48e5d8d95b6dfc44e0a75385f39869aa4e4e41fcc43d5f", func := "windsock/windsocklaw04.HopKnows", spec := "hopKnows", unfollowed := true, recurses := true, plainKeys := false, apart := false, narrowed := true }
def HopKnowsUptoSaid : Prop := hopKnowsUptoRow.holds Try.pinned (OpenSpec.upto hopKnowsSpec)

/-- 'windsocklaw04.HopAlikes', WHERE WHAT IT READS IS OF BULK AT MOST 1048576: true; the input reads as it did. -/
def hopAlikesUptoRow : OpenClaim := { program := "ytiaaonmbgkealaa", sum := "0f25f39a10468f855d48e5d8d95b6dfc44e0a75385f39869aa4e4e41fcc43d5f", func := "windsock/windsocklaw04.HopAlikes", spec := "hopAlikes", unfollowed := true, recurses := true, plainKeys := false, apart := false, narrowed := true }
def HopAlikesUptoSaid : Prop := hopAlikesUptoRow.holds Try.pinned (OpenSpec.upto hopAlikesSpec)

/-- 'windsocklaw04.HopTrue', WHERE WHAT IT READS IS OF BULK AT MOST 1048576: true; the input reads as it did. -/
def hopTrueUptoRow : OpenClaim := { program := "ytiaaonmbgkealaa", sum := "0f25f39a10468f855d48e5d8d95b6dfc44e0a75385f39869aa4e4e41fcc43d5f", func := "windsock/windsocklaw04.HopTrue", spec := "hopTrue", unfollowed := true, recurses := true, plainKeys := false, apart := false, narrowed := true }
def HopTrueUptoSaid : Prop := hopTrueUptoRow.holds Try.pinned (OpenSpec.upto hopTrueSpec)

/-- 'windsocklaw04.HopFlies', WHERE WHAT IT READS IS OF BULK AT MOST 1048576: true; the input reads as it did. -/
def hopFliesUptoRow : OpenClaim := { program := "ytiaaonmbgkealaa", sum := "0f25f39a10468f855d48e5d8d95b6dfc44e0a75385f39869aa4e4e41fcc43d5f", func := "windsock/windsocklaw04.HopFlies", spec := "hopFlies", unfollowed := true, recurses := true, plainKeys := false, apart := false, narrowed := true }
def HopFliesUptoSaid : Prop := hopFliesUptoRow.holds Try.pinned (OpenSpec.upto hopFliesSpec)

/-- 'windsocklaw04.HopWorsts', WHERE WHAT IT READS IS OF BULK AT MOST 1048576: true; the input reads as it did. -/
def hopWorstsUptoRow : OpenClaim := { program := "ytiaaonmbgkealaa", sum := "0f25f39a10468f855d48e5d8d95b6dfc44e0a75385f39869aa4e4e41fcc43d5f", func := "windsock/windsocklaw04.HopWorsts", spec := "hopWorsts", unfollowed := true, recurses := true, plainKeys := false, apart := false, narrowed := true }
def HopWorstsUptoSaid : Prop := hopWorstsUptoRow.holds Try.pinned (OpenSpec.upto hopWorstsSpec)

/-- 'windsocklaw04.HopCheapest', WHERE WHAT IT READS IS OF BULK AT MOST 1048576: true; the input reads as it did. -/
def hopCheapestUptoRow : OpenClaim := { program := "ytiaaonmbgkealaa", sum := "0f25f39a10468f855d48e5d8d95b6dfc44e0a75385f39869aa4e4e41fcc43d5f", func := "windsock/windsocklaw04.HopCheapest", spec := "hopCheapest", unfollowed := true, recurses := true, plainKeys := false, apart := false, narrowed := true }
def HopCheapestUptoSaid : Prop := hopCheapestUptoRow.holds Try.pinned (OpenSpec.upto hopCheapestSpec)

end Rows
end Go.Proofs.Ytiaaonmbgkealaa
