/-
  No cell of these rows narrows 'for every input' (looked for: loops, veiled, ifaces, maps, wideKeys, modest, calm, conditions, laid).
  DERIVED. THE GIVEN ROWS OF THIS SEAT. 4 by the template 'for every input the law returns true; each argument reads behind the call as it read before'; 0 by the template 'total and deterministic' (their statements: YthnkkchlgepdaaaTotals.lean).
  GIVEN WITH THE SEED: the statements are not yours to turn. If you find one false, say at which input.
  Laid BY PROGRAM, IN A SANDBOX (cutbox-rows.mjs): the forced cells as the released guide's own fill.sh prints them over the translation 783e14a7c88cfdbe… (all of the seat's roots in one cut). By AI agents, Wed Nov 11 2026. No macro, syntax, notation, axiom, sorry.
-/
import Derived.Test.YthnkkchlgepdaaaChecked
import GoSem.Claim
import GoSem.ClaimJoined
import GoSem.ClaimMapViews
import Derived.JoinedTies
import Derived.KernelRfl
namespace Go.Proofs.Ythnkkchlgepdaaa
/- THE CELL 'sum', in the pinned program and in every row, IS THE sha256 OF THE DUMP (.gsa) THAT YthnkkchlgepdaaaProg.lean LOADS. Nothing in Lean hashes anything: it is a label: what it is worth is what the hold of that sum in a sandbox is worth. -/
noncomputable def Try.pinned : Pinned := { name := "ythnkkchlgepdaaa", sum := "783e14a7c88cfdbefaedd6158d9268a17a46c0938d0dbd46f7a443aa077c17c0", checked := Try.checked }
namespace Rows
def none {H : Type} : Left H := { results := [], args := [] }

/-- 'laws.FnScenarios': WHATEVER THE INPUT: true; the input reads as it did. -/
def fnScenariosSpec : ChangeSpec := { name := "fnScenarios", fn := fun _ => fun
  | [d] => { results := [.lit (.bool true)], args := [d] }
  | _ => none }
def fnScenariosRow : OpenClaim := { program := "ythnkkchlgepdaaa", sum := "783e14a7c88cfdbefaedd6158d9268a17a46c0938d0dbd46f7a443aa077c17c0", func := "loop.example/g01103/laws.FnScenarios", spec := "fnScenarios", unfollowed := true, recurses := true, apart := false }
def FnScenariosSaid : Prop := fnScenariosRow.holds Try.pinned (OpenSpec.ofChange fnScenariosSpec)

/-- ITS FALSE NEIGHBOUR: 'it returns false'. Refute it at one input. -/
def fnScenariosWrong : ChangeSpec := { name := "fnScenarios", fn := fun _ => fun
  | [d] => { results := [.lit (.bool false)], args := [d] }
  | _ => none }
def FnScenariosWrongFalsely : Prop := fnScenariosRow.holds Try.pinned (OpenSpec.ofChange fnScenariosWrong)

/-- 'laws.FnLatenessFront': WHATEVER THE INPUT: true; the input reads as it did. -/
def fnLatenessFrontSpec : ChangeSpec := { name := "fnLatenessFront", fn := fun _ => fun
  | [d] => { results := [.lit (.bool true)], args := [d] }
  | _ => none }
def fnLatenessFrontRow : OpenClaim := { program := "ythnkkchlgepdaaa", sum := "783e14a7c88cfdbefaedd6158d9268a17a46c0938d0dbd46f7a443aa077c17c0", func := "loop.example/g01103/laws.FnLatenessFront", spec := "fnLatenessFront", unfollowed := true, recurses := true, apart := false }
def FnLatenessFrontSaid : Prop := fnLatenessFrontRow.holds Try.pinned (OpenSpec.ofChange fnLatenessFrontSpec)

/-- ITS FALSE NEIGHBOUR: 'it returns false'. Refute it at one input. -/
def fnLatenessFrontWrong : ChangeSpec := { name := "fnLatenessFront", fn := fun _ => fun
  | [d] => { results := [.lit (.bool false)], args := [d] }
  | _ => none }
def FnLatenessFrontWrongFalsely : Prop := fnLatenessFrontRow.holds Try.pinned (OpenSpec.ofChange fnLatenessFrontWrong)

/-- 'laws.FnDispatchers': WHATEVER THE INPUT: true; the input reads as it did. -/
def fnDispatchersSpec : ChangeSpec := { name := "fnDispatchers", fn := fun _ => fun
  | [d] => { results := [.lit (.bool true)], args := [d] }
  | _ => none }
def fnDispatchersRow : OpenClaim := { program := "ythnkkchlgepdaaa", sum := "783e14a7c88cfdbefaedd6158d9268a17a46c0938d0dbd46f7a443aa077c17c0", func := "loop.example/g01103/laws.FnDispatchers", spec := "fnDispatchers", apart := false }
def FnDispatchersSaid : Prop := fnDispatchersRow.holds Try.pinned (OpenSpec.ofChange fnDispatchersSpec)

/-- ITS FALSE NEIGHBOUR: 'it returns false'. Refute it at one input. -/
def fnDispatchersWrong : ChangeSpec := { name := "fnDispatchers", fn := fun _ => fun
  | [d] => { results := [.lit (.bool false)], args := [d] }
  | _ => none }
def FnDispatchersWrongFalsely : Prop := fnDispatchersRow.holds Try.pinned (OpenSpec.ofChange fnDispatchersWrong)

/-- 'laws.FnSplits': WHATEVER THE INPUT: true; the input reads as it did. -/
def fnSplitsSpec : ChangeSpec := { name := "fnSplits", fn := fun _ => fun
  | [d] => { results := [.lit (.bool true)], args := [d] }
  | _ => none }
def fnSplitsRow : OpenClaim := { program := "ythnkkchlgepdaaa", sum := "783e14a7c88cfdbefaedd6158d9268a17a46c0938d0dbd46f7a443aa077c17c0", func := "loop.example/g01103/laws.FnSplits", spec := "fnSplits", apart := false }
def FnSplitsSaid : Prop := fnSplitsRow.holds Try.pinned (OpenSpec.ofChange fnSplitsSpec)

/-- ITS FALSE NEIGHBOUR: 'it returns false'. Refute it at one input. -/
def fnSplitsWrong : ChangeSpec := { name := "fnSplits", fn := fun _ => fun
  | [d] => { results := [.lit (.bool false)], args := [d] }
  | _ => none }
def FnSplitsWrongFalsely : Prop := fnSplitsRow.holds Try.pinned (OpenSpec.ofChange fnSplitsWrong)

/- THE SECOND FORM. 'bulk': how many values and letters a reading holds, each counted each time it is reached (what is shared counts as often as it is met; a slice's spare places count too). A statement '..UptoSaid' is the law's where the arguments, and the package variables that the reading takes, are together of bulk at most 1048576: NARROWER than '..Said'. Prove '..Said' where nothing that the law and all that it calls make is longer than what came in: it says more and counts as full. Else prove '..UptoSaid'. A law counts once. -/
mutual
def uptoBulk {H : Type} : DataW H → Nat
  | .lit (.string bytes) => bytes.length + 1
  | .lit _ => 1
  | .nil => 1
  | .ptr d => uptoBulk d + 1
  | .slice elems spare => uptoBulkAll elems + uptoBulkAll spare + 1
  | .agg parts => uptoBulkAll parts + 1
  | .iface _ d => uptoBulk d + 1
  | .map entries => uptoBulkEntries entries + 1
  | .held _ => 1
def uptoBulkAll {H : Type} : List (DataW H) → Nat
  | [] => 0
  | d :: r => uptoBulk d + uptoBulkAll r
def uptoBulkEntries {H : Type} : List (Lit × DataW H) → Nat
  | [] => 0
  | x :: r => uptoBulkEntry x + uptoBulkEntries r
def uptoBulkEntry {H : Type} : Lit × DataW H → Nat
  | (.string bytes, d) => bytes.length + uptoBulk d + 1
  | (_, d) => uptoBulk d + 1
 end
def uptoSmall : (H : Type) → List (DataW H) → Bool := fun _ ds => decide (uptoBulkAll ds ≤ 1048576)
def OpenSpec.upto (s : _root_.Go.ChangeSpec) : _root_.Go.OpenSpec := { _root_.Go.OpenSpec.ofChange s with cond := some uptoSmall }

/-- 'laws.FnScenarios', WHERE WHAT IT READS IS OF BULK AT MOST 1048576: true; the input reads as it did. -/
def fnScenariosUptoRow : OpenClaim := { program := "ythnkkchlgepdaaa", sum := "783e14a7c88cfdbefaedd6158d9268a17a46c0938d0dbd46f7a443aa077c17c0", func := "loop.example/g01103/laws.FnScenarios", spec := "fnScenarios", unfollowed := true, recurses := true, apart := false, narrowed := true }
def FnScenariosUptoSaid : Prop := fnScenariosUptoRow.holds Try.pinned (OpenSpec.upto fnScenariosSpec)

/-- 'laws.FnLatenessFront', WHERE WHAT IT READS IS OF BULK AT MOST 1048576: true; the input reads as it did. -/
def fnLatenessFrontUptoRow : OpenClaim := { program := "ythnkkchlgepdaaa", sum := "783e14a7c88cfdbefaedd6158d9268a17a46c0938d0dbd46f7a443aa077c17c0", func := "loop.example/g01103/laws.FnLatenessFront", spec := "fnLatenessFront", unfollowed := true, recurses := true, apart := false, narrowed := true }
def FnLatenessFrontUptoSaid : Prop := fnLatenessFrontUptoRow.holds Try.pinned (OpenSpec.upto fnLatenessFrontSpec)

/-- 'laws.FnDispatchers', WHERE WHAT IT READS IS OF BULK AT MOST 1048576: true; the input reads as it did. -/
def fnDispatchersUptoRow : OpenClaim := { program := "ythnkkchlgepdaaa", sum := "783e14a7c88cfdbefaedd6158d9268a17a46c0938d0dbd46f7a443aa077c17c0", func := "loop.example/g01103/laws.FnDispatchers", spec := "fnDispatchers", apart := false, narrowed := true }
def FnDispatchersUptoSaid : Prop := fnDispatchersUptoRow.holds Try.pinned (OpenSpec.upto fnDispatchersSpec)

/-- 'laws.FnSplits', WHERE WHAT IT READS IS OF BULK AT MOST 1048576: true; the input reads as it did. -/
def fnSplitsUptoRow : OpenClaim := { program := "ythnkkchlgepdaaa", sum := "783e14a7c88cfdbefaedd6158d9268a17a46c0938d0dbd46f7a443aa077c17c0", func := "loop.example/g01103/laws.FnSplits", spec := "fnSplits", apart := false, narrowed := true }
def FnSplitsUptoSaid : Prop := fnSplitsUptoRow.holds Try.pinned (OpenSpec.upto fnSplitsSpec)

end Rows
end Go.Proofs.Ythnkkchlgepdaaa
