/-
  No cell of these rows narrows 'for every input' (looked for: loops, veiled, ifaces, maps, wideKeys, modest, calm, conditions, laid).
  DERIVED. THE GIVEN ROWS OF THIS SEAT. 8 by the template 'for every input the law returns true; each argument reads behind the call as it read before'; 0 by the template 'total and deterministic' (their statements: YtfpndcjbiibgfaaTotals.lean).
  GIVEN WITH THE SEED: the statements are not yours to turn. If you find one false, say at which input.
  Laid BY PROGRAM, IN A SANDBOX (cutbox-rows.mjs): the forced cells as the released guide's own fill.sh prints them over the translation 7e9f1a45ee765bc3… (all of the seat's roots in one cut). By AI agents, Wed Nov 11 2026. No macro, syntax, notation, axiom, sorry.
-/
import Derived.Test.YtfpndcjbiibgfaaChecked
import GoSem.Claim
import GoSem.ClaimJoined
import GoSem.ClaimMapViews
import Derived.JoinedTies
import Derived.KernelRfl
namespace Go.Proofs.Ytfpndcjbiibgfaa
/- THE CELL 'sum', in the pinned program and in every row, IS THE sha256 OF THE DUMP (.gsa) THAT YtfpndcjbiibgfaaProg.lean LOADS. Nothing in Lean hashes anything: it is a label: what it is worth is what the hold of that sum in a sandbox is worth. -/
noncomputable def Try.pinned : Pinned := { name := "ytfpndcjbiibgfaa", sum := "7e9f1a45ee765bc3446aac95e602fb4b5c4205dd271b7db7e1ffdc0c162f65fe", checked := Try.checked }
namespace Rows
def none {H : Type} : Left H := { results := [], args := [] }

/-- 'laws.FnKummer': WHATEVER THE INPUT: true; the input reads as it did. -/
def fnKummerSpec : ChangeSpec := { name := "fnKummer", fn := fun _ => fun
  | [d] => { results := [.lit (.bool true)], args := [d] }
  | _ => none }
def fnKummerRow : OpenClaim := { program := "ytfpndcjbiibgfaa", sum := "7e9f1a45ee765bc3446aac95e602fb4b5c4205dd271b7db7e1ffdc0c162f65fe", func := "loop.example/g03203/laws.FnKummer", spec := "fnKummer", apart := false }
def FnKummerSaid : Prop := fnKummerRow.holds Try.pinned (OpenSpec.ofChange fnKummerSpec)

/-- ITS FALSE NEIGHBOUR: 'it returns false'. Refute it at one input. -/
def fnKummerWrong : ChangeSpec := { name := "fnKummer", fn := fun _ => fun
  | [d] => { results := [.lit (.bool false)], args := [d] }
  | _ => none }
def FnKummerWrongFalsely : Prop := fnKummerRow.holds Try.pinned (OpenSpec.ofChange fnKummerWrong)

/-- 'laws.FnRules': WHATEVER THE INPUT: true; the input reads as it did. -/
def fnRulesSpec : ChangeSpec := { name := "fnRules", fn := fun _ => fun
  | [d] => { results := [.lit (.bool true)], args := [d] }
  | _ => none }
def fnRulesRow : OpenClaim := { program := "ytfpndcjbiibgfaa", sum := "7e9f1a45ee765bc3446aac95e602fb4b5c4205dd271b7db7e1ffdc0c162f65fe", func := "loop.example/g03203/laws.FnRules", spec := "fnRules", unfollowed := true, recurses := true, apart := false }
def FnRulesSaid : Prop := fnRulesRow.holds Try.pinned (OpenSpec.ofChange fnRulesSpec)

/-- ITS FALSE NEIGHBOUR: 'it returns false'. Refute it at one input. -/
def fnRulesWrong : ChangeSpec := { name := "fnRules", fn := fun _ => fun
  | [d] => { results := [.lit (.bool false)], args := [d] }
  | _ => none }
def FnRulesWrongFalsely : Prop := fnRulesRow.holds Try.pinned (OpenSpec.ofChange fnRulesWrong)

/-- 'laws.FnRepunits': WHATEVER THE INPUT: true; the input reads as it did. -/
def fnRepunitsSpec : ChangeSpec := { name := "fnRepunits", fn := fun _ => fun
  | [d] => { results := [.lit (.bool true)], args := [d] }
  | _ => none }
def fnRepunitsRow : OpenClaim := { program := "ytfpndcjbiibgfaa", sum := "7e9f1a45ee765bc3446aac95e602fb4b5c4205dd271b7db7e1ffdc0c162f65fe", func := "loop.example/g03203/laws.FnRepunits", spec := "fnRepunits", recurses := true, apart := false }
def FnRepunitsSaid : Prop := fnRepunitsRow.holds Try.pinned (OpenSpec.ofChange fnRepunitsSpec)

/-- ITS FALSE NEIGHBOUR: 'it returns false'. Refute it at one input. -/
def fnRepunitsWrong : ChangeSpec := { name := "fnRepunits", fn := fun _ => fun
  | [d] => { results := [.lit (.bool false)], args := [d] }
  | _ => none }
def FnRepunitsWrongFalsely : Prop := fnRepunitsRow.holds Try.pinned (OpenSpec.ofChange fnRepunitsWrong)

/-- 'laws.FnExactRotationsOf': WHATEVER THE INPUT: true; the input reads as it did. -/
def fnExactRotationsOfSpec : ChangeSpec := { name := "fnExactRotationsOf", fn := fun _ => fun
  | [d1, d2, d3] => { results := [.lit (.bool true)], args := [d1, d2, d3] }
  | _ => none }
def fnExactRotationsOfRow : OpenClaim := { program := "ytfpndcjbiibgfaa", sum := "7e9f1a45ee765bc3446aac95e602fb4b5c4205dd271b7db7e1ffdc0c162f65fe", func := "loop.example/g03203/laws.FnExactRotationsOf", spec := "fnExactRotationsOf", recurses := true, apart := false }
def FnExactRotationsOfSaid : Prop := fnExactRotationsOfRow.holds Try.pinned (OpenSpec.ofChange fnExactRotationsOfSpec)

/-- ITS FALSE NEIGHBOUR: 'it returns false'. Refute it at one input. -/
def fnExactRotationsOfWrong : ChangeSpec := { name := "fnExactRotationsOf", fn := fun _ => fun
  | [d1, d2, d3] => { results := [.lit (.bool false)], args := [d1, d2, d3] }
  | _ => none }
def FnExactRotationsOfWrongFalsely : Prop := fnExactRotationsOfRow.holds Try.pinned (OpenSpec.ofChange fnExactRotationsOfWrong)

/-- 'laws.FnExactLeastRotation': WHATEVER THE INPUT: true; the input reads as it did. -/
def fnExactLeastRotationSpec : ChangeSpec := { name := "fnExactLeastRotation", fn := fun _ => fun
  | [d1, d2, d3] => { results := [.lit (.bool true)], args := [d1, d2, d3] }
  | _ => none }
def fnExactLeastRotationRow : OpenClaim := { program := "ytfpndcjbiibgfaa", sum := "7e9f1a45ee765bc3446aac95e602fb4b5c4205dd271b7db7e1ffdc0c162f65fe", func := "loop.example/g03203/laws.FnExactLeastRotation", spec := "fnExactLeastRotation", recurses := true, apart := false }
def FnExactLeastRotationSaid : Prop := fnExactLeastRotationRow.holds Try.pinned (OpenSpec.ofChange fnExactLeastRotationSpec)

/-- ITS FALSE NEIGHBOUR: 'it returns false'. Refute it at one input. -/
def fnExactLeastRotationWrong : ChangeSpec := { name := "fnExactLeastRotation", fn := fun _ => fun
  | [d1, d2, d3] => { results := [.lit (.bool false)], args := [d1, d2, d3] }
  | _ => none }
def FnExactLeastRotationWrongFalsely : Prop := fnExactLeastRotationRow.holds Try.pinned (OpenSpec.ofChange fnExactLeastRotationWrong)

/-- 'laws.FnExactIsCyclicNumber': WHATEVER THE INPUT: true; the input reads as it did. -/
def fnExactIsCyclicNumberSpec : ChangeSpec := { name := "fnExactIsCyclicNumber", fn := fun _ => fun
  | [d1, d2, d3] => { results := [.lit (.bool true)], args := [d1, d2, d3] }
  | _ => none }
def fnExactIsCyclicNumberRow : OpenClaim := { program := "ytfpndcjbiibgfaa", sum := "7e9f1a45ee765bc3446aac95e602fb4b5c4205dd271b7db7e1ffdc0c162f65fe", func := "loop.example/g03203/laws.FnExactIsCyclicNumber", spec := "fnExactIsCyclicNumber", recurses := true, apart := false }
def FnExactIsCyclicNumberSaid : Prop := fnExactIsCyclicNumberRow.holds Try.pinned (OpenSpec.ofChange fnExactIsCyclicNumberSpec)

/-- ITS FALSE NEIGHBOUR: 'it returns false'. Refute it at one input. -/
def fnExactIsCyclicNumberWrong : ChangeSpec := { name := "fnExactIsCyclicNumber", fn := fun _ => fun
  | [d1, d2, d3] => { results := [.lit (.bool false)], args := [d1, d2, d3] }
  | _ => none }
def FnExactIsCyclicNumberWrongFalsely : Prop := fnExactIsCyclicNumberRow.holds Try.pinned (OpenSpec.ofChange fnExactIsCyclicNumberWrong)

/-- 'laws.FnExactSortStep': WHATEVER THE INPUT: true; the input reads as it did. -/
def fnExactSortStepSpec : ChangeSpec := { name := "fnExactSortStep", fn := fun _ => fun
  | [d1, d2, d3] => { results := [.lit (.bool true)], args := [d1, d2, d3] }
  | _ => none }
def fnExactSortStepRow : OpenClaim := { program := "ytfpndcjbiibgfaa", sum := "7e9f1a45ee765bc3446aac95e602fb4b5c4205dd271b7db7e1ffdc0c162f65fe", func := "loop.example/g03203/laws.FnExactSortStep", spec := "fnExactSortStep", recurses := true, apart := false }
def FnExactSortStepSaid : Prop := fnExactSortStepRow.holds Try.pinned (OpenSpec.ofChange fnExactSortStepSpec)

/-- ITS FALSE NEIGHBOUR: 'it returns false'. Refute it at one input. -/
def fnExactSortStepWrong : ChangeSpec := { name := "fnExactSortStep", fn := fun _ => fun
  | [d1, d2, d3] => { results := [.lit (.bool false)], args := [d1, d2, d3] }
  | _ => none }
def FnExactSortStepWrongFalsely : Prop := fnExactSortStepRow.holds Try.pinned (OpenSpec.ofChange fnExactSortStepWrong)

/-- 'laws.FnExactFixedSorts': WHATEVER THE INPUT: true; the input reads as it did. -/
def fnExactFixedSortsSpec : ChangeSpec := { name := "fnExactFixedSorts", fn := fun _ => fun
  | [d1, d2] => { results := [.lit (.bool true)], args := [d1, d2] }
  | _ => none }
def fnExactFixedSortsRow : OpenClaim := { program := "ytfpndcjbiibgfaa", sum := "7e9f1a45ee765bc3446aac95e602fb4b5c4205dd271b7db7e1ffdc0c162f65fe", func := "loop.example/g03203/laws.FnExactFixedSorts", spec := "fnExactFixedSorts", recurses := true, apart := false }
def FnExactFixedSortsSaid : Prop := fnExactFixedSortsRow.holds Try.pinned (OpenSpec.ofChange fnExactFixedSortsSpec)

/-- ITS FALSE NEIGHBOUR: 'it returns false'. Refute it at one input. -/
def fnExactFixedSortsWrong : ChangeSpec := { name := "fnExactFixedSorts", fn := fun _ => fun
  | [d1, d2] => { results := [.lit (.bool false)], args := [d1, d2] }
  | _ => none }
def FnExactFixedSortsWrongFalsely : Prop := fnExactFixedSortsRow.holds Try.pinned (OpenSpec.ofChange fnExactFixedSortsWrong)

/- THE SECOND FORM. 'bulk': how many values and letters a reading holds, each counted each time it is reached (what is shared counts as often as it is met; a slice's spare places count too). A statement '..UptoSaid' is the law's where the arguments, and the package variables that the reading takes, are together of bulk at most 1048576: NARROWER than '..Said'. Prove '..Said' where nothing that the law and all that it calls make is longer than what came in: it says more and counts as full. Else prove '..UptoSaid'. A law counts once. -/
mutual
def uptoBulk {H : Type} : DataW H → Nat
  | .lit (.string bytes) => bytes.length + 1
  | .lit _ => 1
  | .nil => 1
  | .ptr d => uptoBulk d + 1
  | .slice elems spare => uptoBulkAll elems + uptoBulkAll spare + 1
  | .agg parts => uptoBulkAll parts + 1
  | .iface _ d => uptoBulk d + 1
  | .map entries => uptoBulkEntries entries + 1
  | .held _ => 1
def uptoBulkAll {H : Type} : List (DataW H) → Nat
  | [] => 0
  | d :: r => uptoBulk d + uptoBulkAll r
def uptoBulkEntries {H : Type} : List (Lit × DataW H) → Nat
  | [] => 0
  | x :: r => uptoBulkEntry x + uptoBulkEntries r
def uptoBulkEntry {H : Type} : Lit × DataW H → Nat
  | (.string bytes, d) => bytes.length + uptoBulk d + 1
  | (_, d) => uptoBulk d + 1
 end
def uptoSmall : (H : Type) → List (DataW H) → Bool := fun _ ds => decide (uptoBulkAll ds ≤ 1048576)
def OpenSpec.upto (s : _root_.Go.ChangeSpec) : _root_.Go.OpenSpec := { _root_.Go.OpenSpec.ofChange s with cond := some uptoSmall }

/-- 'laws.FnKummer', WHERE WHAT IT READS IS OF BULK AT MOST 1048576: true; the input reads as it did. -/
def fnKummerUptoRow : OpenClaim := { program := "ytfpndcjbiibgfaa", sum := "7e9f1a45ee765bc3446aac95e602fb4b5c4205dd271b7db7e1ffdc0c162f65fe", func := "loop.example/g03203/laws.FnKummer", spec := "fnKummer", apart := false, narrowed := true }
def FnKummerUptoSaid : Prop := fnKummerUptoRow.holds Try.pinned (OpenSpec.upto fnKummerSpec)

/-- 'laws.FnRules', WHERE WHAT IT READS IS OF BULK AT MOST 1048576: true; the input reads as it did. -/
def fnRulesUptoRow : OpenClaim := { program := "ytfpndcjbiibgfaa", sum := "7e9f1a45ee765bc3446aac95e602fb4b5c4205dd271b7db7e1ffdc0c162f65fe", func := "loop.example/g03203/laws.FnRules", spec := "fnRules", unfollowed := true, recurses := true, apart := false, narrowed := true }
def FnRulesUptoSaid : Prop := fnRulesUptoRow.holds Try.pinned (OpenSpec.upto fnRulesSpec)

/-- 'laws.FnRepunits', WHERE WHAT IT READS IS OF BULK AT MOST 1048576: true; the input reads as it did. -/
def fnRepunitsUptoRow : OpenClaim := { program := "ytfpndcjbiibgfaa", sum := "7e9f1a45ee765bc3446aac95e602fb4b5c4205dd271b7db7e1ffdc0c162f65fe", func := "loop.example/g03203/laws.FnRepunits", spec := "fnRepunits", recurses := true, apart := false, narrowed := true }
def FnRepunitsUptoSaid : Prop := fnRepunitsUptoRow.holds Try.pinned (OpenSpec.upto fnRepunitsSpec)

/-- 'laws.FnExactRotationsOf', WHERE WHAT IT READS IS OF BULK AT MOST 1048576: true; the input reads as it did. -/
def fnExactRotationsOfUptoRow : OpenClaim := { program := "ytfpndcjbiibgfaa", sum := "7e9f1a45ee765bc3446aac95e602fb4b5c4205dd271b7db7e1ffdc0c162f65fe", func := "loop.example/g03203/laws.FnExactRotationsOf", spec := "fnExactRotationsOf", recurses := true, apart := false, narrowed := true }
def FnExactRotationsOfUptoSaid : Prop := fnExactRotationsOfUptoRow.holds Try.pinned (OpenSpec.upto fnExactRotationsOfSpec)

/-- 'laws.FnExactLeastRotation', WHERE WHAT IT READS IS OF BULK AT MOST 1048576: true; the input reads as it did. -/
def fnExactLeastRotationUptoRow : OpenClaim := { program := "ytfpndcjbiibgfaa", sum := "7e9f1a45ee765bc3446aac95e602fb4b5c4205dd271b7db7e1ffdc0c162f65fe", func := "loop.example/g03203/laws.FnExactLeastRotation", spec := "fnExactLeastRotation", recurses := true, apart := false, narrowed := true }
def FnExactLeastRotationUptoSaid : Prop := fnExactLeastRotationUptoRow.holds Try.pinned (OpenSpec.upto fnExactLeastRotationSpec)

/-- 'laws.FnExactIsCyclicNumber', WHERE WHAT IT READS IS OF BULK AT MOST 1048576: true; the input reads as it did. -/
def fnExactIsCyclicNumberUptoRow : OpenClaim := { program := "ytfpndcjbiibgfaa", sum := "7e9f1a45ee765bc3446aac95e602fb4b5c4205dd271b7db7e1ffdc0c162f65fe", func := "loop.example/g03203/laws.FnExactIsCyclicNumber", spec := "fnExactIsCyclicNumber", recurses := true, apart := false, narrowed := true }
def FnExactIsCyclicNumberUptoSaid : Prop := fnExactIsCyclicNumberUptoRow.holds Try.pinned (OpenSpec.upto fnExactIsCyclicNumberSpec)

/-- 'laws.FnExactSortStep', WHERE WHAT IT READS IS OF BULK AT MOST 1048576: true; the input reads as it did. -/
def fnExactSortStepUptoRow : OpenClaim := { program := "ytfpndcjbiibgfaa", sum := "7e9f1a45ee765bc3446aac95e602fb4b5c4205dd271b7db7e1ffdc0c162f65fe", func := "loop.example/g03203/laws.FnExactSortStep", spec := "fnExactSortStep", recurses := true, apart := false, narrowed := true }
def FnExactSortStepUptoSaid : Prop := fnExactSortStepUptoRow.holds Try.pinned (OpenSpec.upto fnExactSortStepSpec)

/-- 'laws.FnExactFixedSorts', WHERE WHAT IT READS IS OF BULK AT MOST 1048576: true; the input reads as it did. -/
def fnExactFixedSortsUptoRow : OpenClaim := { program := "ytfpndcjbiibgfaa", sum := "7e9f1a45ee765bc3446aac95e602fb4b5c4205dd271b7db7e1ffdc0c162f65fe", func := "loop.example/g03203/laws.FnExactFixedSorts", spec := "fnExactFixedSorts", recurses := true, apart := false, narrowed := true }
def FnExactFixedSortsUptoSaid : Prop := fnExactFixedSortsUptoRow.holds Try.pinned (OpenSpec.upto fnExactFixedSortsSpec)

end Rows
end Go.Proofs.Ytfpndcjbiibgfaa
