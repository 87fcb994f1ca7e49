/-
  No cell of these rows narrows 'for every input' (looked for: loops, veiled, ifaces, maps, wideKeys, modest, calm, conditions, laid).
  DERIVED. THE GIVEN ROWS OF THIS SEAT. 7 by the template 'for every input the law returns true; each argument reads behind the call as it read before'; 0 by the template 'total and deterministic' (their statements: YtidjnbnhkgobnaaTotals.lean).
  GIVEN WITH THE SEED: the statements are not yours to turn. If you find one false, say at which input.
  Laid BY PROGRAM, IN A SANDBOX (cutbox-rows.mjs): the forced cells as the released guide's own fill.sh prints them over the translation ccee346777e4953e… (all of the seat's roots in one cut). By AI agents, Wed Nov 11 2026. No macro, syntax, notation, axiom, sorry.
-/
import Derived.Test.YtidjnbnhkgobnaaChecked
import GoSem.Claim
import GoSem.ClaimJoined
import GoSem.ClaimMapViews
import Derived.JoinedTies
import Derived.KernelRfl
namespace Go.Proofs.Ytidjnbnhkgobnaa
/- THE CELL 'sum', in the pinned program and in every row, IS THE sha256 OF THE DUMP (.gsa) THAT YtidjnbnhkgobnaaProg.lean LOADS. Nothing in Lean hashes anything: it is a label: what it is worth is what the hold of that sum in a sandbox is worth. -/
noncomputable def Try.pinned : Pinned := { name := "ytidjnbnhkgobnaa", sum := "ccee346777e4953e95a98477830e34d35b9de5fbc304e0e9f1eeadf00cfb330c", checked := Try.checked }
namespace Rows
def none {H : Type} : Left H := { results := [], args := [] }

/-- 'laws.FnExactPowerCycle': WHATEVER THE INPUT: true; the input reads as it did. -/
def fnExactPowerCycleSpec : ChangeSpec := { name := "fnExactPowerCycle", fn := fun _ => fun
  | [d1, d2, d3] => { results := [.lit (.bool true)], args := [d1, d2, d3] }
  | _ => none }
def fnExactPowerCycleRow : OpenClaim := { program := "ytidjnbnhkgobnaa", sum := "ccee346777e4953e95a98477830e34d35b9de5fbc304e0e9f1eeadf00cfb330c", func := "loop.example/g03203/laws.FnExactPowerCycle", spec := "fnExactPowerCycle", unfollowed := true, recurses := true, apart := false }
def FnExactPowerCycleSaid : Prop := fnExactPowerCycleRow.holds Try.pinned (OpenSpec.ofChange fnExactPowerCycleSpec)

/-- ITS FALSE NEIGHBOUR: 'it returns false'. Refute it at one input. -/
def fnExactPowerCycleWrong : ChangeSpec := { name := "fnExactPowerCycle", fn := fun _ => fun
  | [d1, d2, d3] => { results := [.lit (.bool false)], args := [d1, d2, d3] }
  | _ => none }
def FnExactPowerCycleWrongFalsely : Prop := fnExactPowerCycleRow.holds Try.pinned (OpenSpec.ofChange fnExactPowerCycleWrong)

/-- 'laws.FnExactIsHappy': WHATEVER THE INPUT: true; the input reads as it did. -/
def fnExactIsHappySpec : ChangeSpec := { name := "fnExactIsHappy", fn := fun _ => fun
  | [d1, d2] => { results := [.lit (.bool true)], args := [d1, d2] }
  | _ => none }
def fnExactIsHappyRow : OpenClaim := { program := "ytidjnbnhkgobnaa", sum := "ccee346777e4953e95a98477830e34d35b9de5fbc304e0e9f1eeadf00cfb330c", func := "loop.example/g03203/laws.FnExactIsHappy", spec := "fnExactIsHappy", unfollowed := true, recurses := true, apart := false }
def FnExactIsHappySaid : Prop := fnExactIsHappyRow.holds Try.pinned (OpenSpec.ofChange fnExactIsHappySpec)

/-- ITS FALSE NEIGHBOUR: 'it returns false'. Refute it at one input. -/
def fnExactIsHappyWrong : ChangeSpec := { name := "fnExactIsHappy", fn := fun _ => fun
  | [d1, d2] => { results := [.lit (.bool false)], args := [d1, d2] }
  | _ => none }
def FnExactIsHappyWrongFalsely : Prop := fnExactIsHappyRow.holds Try.pinned (OpenSpec.ofChange fnExactIsHappyWrong)

/-- 'laws.FnExactCountHappy': WHATEVER THE INPUT: true; the input reads as it did. -/
def fnExactCountHappySpec : ChangeSpec := { name := "fnExactCountHappy", fn := fun _ => fun
  | [d1, d2] => { results := [.lit (.bool true)], args := [d1, d2] }
  | _ => none }
def fnExactCountHappyRow : OpenClaim := { program := "ytidjnbnhkgobnaa", sum := "ccee346777e4953e95a98477830e34d35b9de5fbc304e0e9f1eeadf00cfb330c", func := "loop.example/g03203/laws.FnExactCountHappy", spec := "fnExactCountHappy", unfollowed := true, recurses := true, apart := false }
def FnExactCountHappySaid : Prop := fnExactCountHappyRow.holds Try.pinned (OpenSpec.ofChange fnExactCountHappySpec)

/-- ITS FALSE NEIGHBOUR: 'it returns false'. Refute it at one input. -/
def fnExactCountHappyWrong : ChangeSpec := { name := "fnExactCountHappy", fn := fun _ => fun
  | [d1, d2] => { results := [.lit (.bool false)], args := [d1, d2] }
  | _ => none }
def FnExactCountHappyWrongFalsely : Prop := fnExactCountHappyRow.holds Try.pinned (OpenSpec.ofChange fnExactCountHappyWrong)

/-- 'laws.FnDynamics': WHATEVER THE INPUT: true; the input reads as it did. -/
def fnDynamicsSpec : ChangeSpec := { name := "fnDynamics", fn := fun _ => fun
  | [d] => { results := [.lit (.bool true)], args := [d] }
  | _ => none }
def fnDynamicsRow : OpenClaim := { program := "ytidjnbnhkgobnaa", sum := "ccee346777e4953e95a98477830e34d35b9de5fbc304e0e9f1eeadf00cfb330c", func := "loop.example/g03203/laws.FnDynamics", spec := "fnDynamics", unfollowed := true, recurses := true, apart := false }
def FnDynamicsSaid : Prop := fnDynamicsRow.holds Try.pinned (OpenSpec.ofChange fnDynamicsSpec)

/-- ITS FALSE NEIGHBOUR: 'it returns false'. Refute it at one input. -/
def fnDynamicsWrong : ChangeSpec := { name := "fnDynamics", fn := fun _ => fun
  | [d] => { results := [.lit (.bool false)], args := [d] }
  | _ => none }
def FnDynamicsWrongFalsely : Prop := fnDynamicsRow.holds Try.pinned (OpenSpec.ofChange fnDynamicsWrong)

/-- 'laws.FnExactSortLength': WHATEVER THE INPUT: true; the input reads as it did. -/
def fnExactSortLengthSpec : ChangeSpec := { name := "fnExactSortLength", fn := fun _ => fun
  | [d1, d2, d3] => { results := [.lit (.bool true)], args := [d1, d2, d3] }
  | _ => none }
def fnExactSortLengthRow : OpenClaim := { program := "ytidjnbnhkgobnaa", sum := "ccee346777e4953e95a98477830e34d35b9de5fbc304e0e9f1eeadf00cfb330c", func := "loop.example/g03203/laws.FnExactSortLength", spec := "fnExactSortLength", unfollowed := true, recurses := true, apart := false }
def FnExactSortLengthSaid : Prop := fnExactSortLengthRow.holds Try.pinned (OpenSpec.ofChange fnExactSortLengthSpec)

/-- ITS FALSE NEIGHBOUR: 'it returns false'. Refute it at one input. -/
def fnExactSortLengthWrong : ChangeSpec := { name := "fnExactSortLength", fn := fun _ => fun
  | [d1, d2, d3] => { results := [.lit (.bool false)], args := [d1, d2, d3] }
  | _ => none }
def FnExactSortLengthWrongFalsely : Prop := fnExactSortLengthRow.holds Try.pinned (OpenSpec.ofChange fnExactSortLengthWrong)

/-- 'laws.FnExactSortCycle': WHATEVER THE INPUT: true; the input reads as it did. -/
def fnExactSortCycleSpec : ChangeSpec := { name := "fnExactSortCycle", fn := fun _ => fun
  | [d1, d2, d3] => { results := [.lit (.bool true)], args := [d1, d2, d3] }
  | _ => none }
def fnExactSortCycleRow : OpenClaim := { program := "ytidjnbnhkgobnaa", sum := "ccee346777e4953e95a98477830e34d35b9de5fbc304e0e9f1eeadf00cfb330c", func := "loop.example/g03203/laws.FnExactSortCycle", spec := "fnExactSortCycle", unfollowed := true, recurses := true, apart := false }
def FnExactSortCycleSaid : Prop := fnExactSortCycleRow.holds Try.pinned (OpenSpec.ofChange fnExactSortCycleSpec)

/-- ITS FALSE NEIGHBOUR: 'it returns false'. Refute it at one input. -/
def fnExactSortCycleWrong : ChangeSpec := { name := "fnExactSortCycle", fn := fun _ => fun
  | [d1, d2, d3] => { results := [.lit (.bool false)], args := [d1, d2, d3] }
  | _ => none }
def FnExactSortCycleWrongFalsely : Prop := fnExactSortCycleRow.holds Try.pinned (OpenSpec.ofChange fnExactSortCycleWrong)

/-- 'laws.FnSorts': WHATEVER THE INPUT: true; the input reads as it did. -/
def fnSortsSpec : ChangeSpec := { name := "fnSorts", fn := fun _ => fun
  | [d] => { results := [.lit (.bool true)], args := [d] }
  | _ => none }
def fnSortsRow : OpenClaim := { program := "ytidjnbnhkgobnaa", sum := "ccee346777e4953e95a98477830e34d35b9de5fbc304e0e9f1eeadf00cfb330c", func := "loop.example/g03203/laws.FnSorts", spec := "fnSorts", unfollowed := true, recurses := true, apart := false }
def FnSortsSaid : Prop := fnSortsRow.holds Try.pinned (OpenSpec.ofChange fnSortsSpec)

/-- ITS FALSE NEIGHBOUR: 'it returns false'. Refute it at one input. -/
def fnSortsWrong : ChangeSpec := { name := "fnSorts", fn := fun _ => fun
  | [d] => { results := [.lit (.bool false)], args := [d] }
  | _ => none }
def FnSortsWrongFalsely : Prop := fnSortsRow.holds Try.pinned (OpenSpec.ofChange fnSortsWrong)

/- THE SECOND FORM. 'bulk': how many values and letters a reading holds, each counted each time it is reached (what is shared counts as often as it is met; a slice's spare places count too). A statement '..UptoSaid' is the law's where the arguments, and the package variables that the reading takes, are together of bulk at most 1048576: NARROWER than '..Said'. Prove '..Said' where nothing that the law and all that it calls make is longer than what came in: it says more and counts as full. Else prove '..UptoSaid'. A law counts once. -/
mutual
def uptoBulk {H : Type} : DataW H → Nat
  | .lit (.string bytes) => bytes.length + 1
  | .lit _ => 1
  | .nil => 1
  | .ptr d => uptoBulk d + 1
  | .slice elems spare => uptoBulkAll elems + uptoBulkAll spare + 1
  | .agg parts => uptoBulkAll parts + 1
  | .iface _ d => uptoBulk d + 1
  | .map entries => uptoBulkEntries entries + 1
  | .held _ => 1
def uptoBulkAll {H : Type} : List (DataW H) → Nat
  | [] => 0
  | d :: r => uptoBulk d + uptoBulkAll r
def uptoBulkEntries {H : Type} : List (Lit × DataW H) → Nat
  | [] => 0
  | x :: r => uptoBulkEntry x + uptoBulkEntries r
def uptoBulkEntry {H : Type} : Lit × DataW H → Nat
  | (.string bytes, d) => bytes.length + uptoBulk d + 1
  | (_, d) => uptoBulk d + 1
 end
def uptoSmall : (H : Type) → List (DataW H) → Bool := fun _ ds => decide (uptoBulkAll ds ≤ 1048576)
def OpenSpec.upto (s : _root_.Go.ChangeSpec) : _root_.Go.OpenSpec := { _root_.Go.OpenSpec.ofChange s with cond := some uptoSmall }

/-- 'laws.FnExactPowerCycle', WHERE WHAT IT READS IS OF BULK AT MOST 1048576: true; the input reads as it did. -/
def fnExactPowerCycleUptoRow : OpenClaim := { program := "ytidjnbnhkgobnaa", sum := "ccee346777e4953e95a98477830e34d35b9de5fbc304e0e9f1eeadf00cfb330c", func := "loop.example/g03203/laws.FnExactPowerCycle", spec := "fnExactPowerCycle", unfollowed := true, recurses := true, apart := false, narrowed := true }
def FnExactPowerCycleUptoSaid : Prop := fnExactPowerCycleUptoRow.holds Try.pinned (OpenSpec.upto fnExactPowerCycleSpec)

/-- 'laws.FnExactIsHappy', WHERE WHAT IT READS IS OF BULK AT MOST 1048576: true; the input reads as it did. -/
def fnExactIsHappyUptoRow : OpenClaim := { program := "ytidjnbnhkgobnaa", sum := "ccee346777e4953e95a98477830e34d35b9de5fbc304e0e9f1eeadf00cfb330c", func := "loop.example/g03203/laws.FnExactIsHappy", spec := "fnExactIsHappy", unfollowed := true, recurses := true, apart := false, narrowed := true }
def FnExactIsHappyUptoSaid : Prop := fnExactIsHappyUptoRow.holds Try.pinned (OpenSpec.upto fnExactIsHappySpec)

/-- 'laws.FnExactCountHappy', WHERE WHAT IT READS IS OF BULK AT MOST 1048576: true; the input reads as it did. -/
def fnExactCountHappyUptoRow : OpenClaim := { program := "ytidjnbnhkgobnaa", sum := "ccee346777e4953e95a98477830e34d35b9de5fbc304e0e9f1eeadf00cfb330c", func := "loop.example/g03203/laws.FnExactCountHappy", spec := "fnExactCountHappy", unfollowed := true, recurses := true, apart := false, narrowed := true }
def FnExactCountHappyUptoSaid : Prop := fnExactCountHappyUptoRow.holds Try.pinned (OpenSpec.upto fnExactCountHappySpec)

/-- 'laws.FnDynamics', WHERE WHAT IT READS IS OF BULK AT MOST 1048576: true; the input reads as it did. -/
def fnDynamicsUptoRow : OpenClaim := { program := "ytidjnbnhkgobnaa", sum := "ccee346777e4953e95a98477830e34d35b9de5fbc304e0e9f1eeadf00cfb330c", func := "loop.example/g03203/laws.FnDynamics", spec := "fnDynamics", unfollowed := true, recurses := true, apart := false, narrowed := true }
def FnDynamicsUptoSaid : Prop := fnDynamicsUptoRow.holds Try.pinned (OpenSpec.upto fnDynamicsSpec)

/-- 'laws.FnExactSortLength', WHERE WHAT IT READS IS OF BULK AT MOST 1048576: true; the input reads as it did. -/
def fnExactSortLengthUptoRow : OpenClaim := { program := "ytidjnbnhkgobnaa", sum := "ccee346777e4953e95a98477830e34d35b9de5fbc304e0e9f1eeadf00cfb330c", func := "loop.example/g03203/laws.FnExactSortLength", spec := "fnExactSortLength", unfollowed := true, recurses := true, apart := false, narrowed := true }
def FnExactSortLengthUptoSaid : Prop := fnExactSortLengthUptoRow.holds Try.pinned (OpenSpec.upto fnExactSortLengthSpec)

/-- 'laws.FnExactSortCycle', WHERE WHAT IT READS IS OF BULK AT MOST 1048576: true; the input reads as it did. -/
def fnExactSortCycleUptoRow : OpenClaim := { program := "ytidjnbnhkgobnaa", sum := "ccee346777e4953e95a98477830e34d35b9de5fbc304e0e9f1eeadf00cfb330c", func := "loop.example/g03203/laws.FnExactSortCycle", spec := "fnExactSortCycle", unfollowed := true, recurses := true, apart := false, narrowed := true }
def FnExactSortCycleUptoSaid : Prop := fnExactSortCycleUptoRow.holds Try.pinned (OpenSpec.upto fnExactSortCycleSpec)

/-- 'laws.FnSorts', WHERE WHAT IT READS IS OF BULK AT MOST 1048576: true; the input reads as it did. -/
def fnSortsUptoRow : OpenClaim := { program := "ytidjnbnhkgobnaa", sum := "ccee346777e4953e95a98477830e34d35b9de5fbc304e0e9f1eeadf00cfb330c", func := "loop.example/g03203/laws.FnSorts", spec := "fnSorts", unfollowed := true, recurses := true, apart := false, narrowed := true }
def FnSortsUptoSaid : Prop := fnSortsUptoRow.holds Try.pinned (OpenSpec.upto fnSortsSpec)

end Rows
end Go.Proofs.Ytidjnbnhkgobnaa
