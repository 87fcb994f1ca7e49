/-
  No cell of these rows narrows 'for every input' (looked for: loops, veiled, ifaces, maps, wideKeys, modest, calm, conditions, laid).
  DERIVED. THE GIVEN ROWS OF THIS SEAT. 12 by the template 'for every input the law returns true; each argument reads behind the call as it read before'; 0 by the template 'total and deterministic' (their statements: YteoghaognbmjlaaTotals.lean).
  GIVEN WITH THE SEED: the statements are not yours to turn. If you find one false, say at which input.
  Laid BY PROGRAM, IN A SANDBOX (cutbox-rows.mjs): the forced cells as the released guide's own fill.sh prints them over the translation 9000fed83873a01a… (all of the seat's roots in one cut). By AI agents, Wed Nov 11 2026. No macro, syntax, notation, axiom, sorry.
-/
import Derived.Test.YteoghaognbmjlaaChecked
import GoSem.Claim
import GoSem.ClaimJoined
import GoSem.ClaimMapViews
import Derived.JoinedTies
import Derived.KernelRfl
namespace Go.Proofs.Yteoghaognbmjlaa
/- THE CELL 'sum', in the pinned program and in every row, IS THE sha256 OF THE DUMP (.gsa) THAT YteoghaognbmjlaaProg.lean LOADS. Nothing in Lean hashes anything: it is a label: what it is worth is what the hold of that sum in a sandbox is worth. -/
noncomputable def Try.pinned : Pinned := { name := "yteoghaognbmjlaa", sum := "9000fed83873a01a33b6c1f15db17f3c2b6ab344c5ea164ef3f7f8fe17832aa6", checked := Try.checked }
namespace Rows
def none {H : Type} : Left H := { results := [], args := [] }

/-- 'laws.FnExactCountRest': WHATEVER THE INPUT: true; the input reads as it did. -/
def fnExactCountRestSpec : ChangeSpec := { name := "fnExactCountRest", fn := fun _ => fun
  | [d1, d2] => { results := [.lit (.bool true)], args := [d1, d2] }
  | _ => none }
def fnExactCountRestRow : OpenClaim := { program := "yteoghaognbmjlaa", sum := "9000fed83873a01a33b6c1f15db17f3c2b6ab344c5ea164ef3f7f8fe17832aa6", func := "loop.example/g03203/laws.FnExactCountRest", spec := "fnExactCountRest", apart := false }
def FnExactCountRestSaid : Prop := fnExactCountRestRow.holds Try.pinned (OpenSpec.ofChange fnExactCountRestSpec)

/-- ITS FALSE NEIGHBOUR: 'it returns false'. Refute it at one input. -/
def fnExactCountRestWrong : ChangeSpec := { name := "fnExactCountRest", fn := fun _ => fun
  | [d1, d2] => { results := [.lit (.bool false)], args := [d1, d2] }
  | _ => none }
def FnExactCountRestWrongFalsely : Prop := fnExactCountRestRow.holds Try.pinned (OpenSpec.ofChange fnExactCountRestWrong)

/-- 'laws.FnExactDigitRoot': WHATEVER THE INPUT: true; the input reads as it did. -/
def fnExactDigitRootSpec : ChangeSpec := { name := "fnExactDigitRoot", fn := fun _ => fun
  | [d1, d2] => { results := [.lit (.bool true)], args := [d1, d2] }
  | _ => none }
def fnExactDigitRootRow : OpenClaim := { program := "yteoghaognbmjlaa", sum := "9000fed83873a01a33b6c1f15db17f3c2b6ab344c5ea164ef3f7f8fe17832aa6", func := "loop.example/g03203/laws.FnExactDigitRoot", spec := "fnExactDigitRoot", apart := false }
def FnExactDigitRootSaid : Prop := fnExactDigitRootRow.holds Try.pinned (OpenSpec.ofChange fnExactDigitRootSpec)

/-- ITS FALSE NEIGHBOUR: 'it returns false'. Refute it at one input. -/
def fnExactDigitRootWrong : ChangeSpec := { name := "fnExactDigitRoot", fn := fun _ => fun
  | [d1, d2] => { results := [.lit (.bool false)], args := [d1, d2] }
  | _ => none }
def FnExactDigitRootWrongFalsely : Prop := fnExactDigitRootRow.holds Try.pinned (OpenSpec.ofChange fnExactDigitRootWrong)

/-- 'laws.FnExactFactorialPower': WHATEVER THE INPUT: true; the input reads as it did. -/
def fnExactFactorialPowerSpec : ChangeSpec := { name := "fnExactFactorialPower", fn := fun _ => fun
  | [d1, d2] => { results := [.lit (.bool true)], args := [d1, d2] }
  | _ => none }
def fnExactFactorialPowerRow : OpenClaim := { program := "yteoghaognbmjlaa", sum := "9000fed83873a01a33b6c1f15db17f3c2b6ab344c5ea164ef3f7f8fe17832aa6", func := "loop.example/g03203/laws.FnExactFactorialPower", spec := "fnExactFactorialPower", apart := false }
def FnExactFactorialPowerSaid : Prop := fnExactFactorialPowerRow.holds Try.pinned (OpenSpec.ofChange fnExactFactorialPowerSpec)

/-- ITS FALSE NEIGHBOUR: 'it returns false'. Refute it at one input. -/
def fnExactFactorialPowerWrong : ChangeSpec := { name := "fnExactFactorialPower", fn := fun _ => fun
  | [d1, d2] => { results := [.lit (.bool false)], args := [d1, d2] }
  | _ => none }
def FnExactFactorialPowerWrongFalsely : Prop := fnExactFactorialPowerRow.holds Try.pinned (OpenSpec.ofChange fnExactFactorialPowerWrong)

/-- 'laws.FnExactPowerSum': WHATEVER THE INPUT: true; the input reads as it did. -/
def fnExactPowerSumSpec : ChangeSpec := { name := "fnExactPowerSum", fn := fun _ => fun
  | [d1, d2, d3] => { results := [.lit (.bool true)], args := [d1, d2, d3] }
  | _ => none }
def fnExactPowerSumRow : OpenClaim := { program := "yteoghaognbmjlaa", sum := "9000fed83873a01a33b6c1f15db17f3c2b6ab344c5ea164ef3f7f8fe17832aa6", func := "loop.example/g03203/laws.FnExactPowerSum", spec := "fnExactPowerSum", apart := false }
def FnExactPowerSumSaid : Prop := fnExactPowerSumRow.holds Try.pinned (OpenSpec.ofChange fnExactPowerSumSpec)

/-- ITS FALSE NEIGHBOUR: 'it returns false'. Refute it at one input. -/
def fnExactPowerSumWrong : ChangeSpec := { name := "fnExactPowerSum", fn := fun _ => fun
  | [d1, d2, d3] => { results := [.lit (.bool false)], args := [d1, d2, d3] }
  | _ => none }
def FnExactPowerSumWrongFalsely : Prop := fnExactPowerSumRow.holds Try.pinned (OpenSpec.ofChange fnExactPowerSumWrong)

/-- 'laws.FnExactBlockSum': WHATEVER THE INPUT: true; the input reads as it did. -/
def fnExactBlockSumSpec : ChangeSpec := { name := "fnExactBlockSum", fn := fun _ => fun
  | [d1, d2, d3, d4] => { results := [.lit (.bool true)], args := [d1, d2, d3, d4] }
  | _ => none }
def fnExactBlockSumRow : OpenClaim := { program := "yteoghaognbmjlaa", sum := "9000fed83873a01a33b6c1f15db17f3c2b6ab344c5ea164ef3f7f8fe17832aa6", func := "loop.example/g03203/laws.FnExactBlockSum", spec := "fnExactBlockSum", apart := false }
def FnExactBlockSumSaid : Prop := fnExactBlockSumRow.holds Try.pinned (OpenSpec.ofChange fnExactBlockSumSpec)

/-- ITS FALSE NEIGHBOUR: 'it returns false'. Refute it at one input. -/
def fnExactBlockSumWrong : ChangeSpec := { name := "fnExactBlockSum", fn := fun _ => fun
  | [d1, d2, d3, d4] => { results := [.lit (.bool false)], args := [d1, d2, d3, d4] }
  | _ => none }
def FnExactBlockSumWrongFalsely : Prop := fnExactBlockSumRow.holds Try.pinned (OpenSpec.ofChange fnExactBlockSumWrong)

/-- 'laws.FnExactJoinHalves': WHATEVER THE INPUT: true; the input reads as it did. -/
def fnExactJoinHalvesSpec : ChangeSpec := { name := "fnExactJoinHalves", fn := fun _ => fun
  | [d1, d2] => { results := [.lit (.bool true)], args := [d1, d2] }
  | _ => none }
def fnExactJoinHalvesRow : OpenClaim := { program := "yteoghaognbmjlaa", sum := "9000fed83873a01a33b6c1f15db17f3c2b6ab344c5ea164ef3f7f8fe17832aa6", func := "loop.example/g03203/laws.FnExactJoinHalves", spec := "fnExactJoinHalves", apart := false }
def FnExactJoinHalvesSaid : Prop := fnExactJoinHalvesRow.holds Try.pinned (OpenSpec.ofChange fnExactJoinHalvesSpec)

/-- ITS FALSE NEIGHBOUR: 'it returns false'. Refute it at one input. -/
def fnExactJoinHalvesWrong : ChangeSpec := { name := "fnExactJoinHalves", fn := fun _ => fun
  | [d1, d2] => { results := [.lit (.bool false)], args := [d1, d2] }
  | _ => none }
def FnExactJoinHalvesWrongFalsely : Prop := fnExactJoinHalvesRow.holds Try.pinned (OpenSpec.ofChange fnExactJoinHalvesWrong)

/-- 'laws.FnExactIsNarcissistic': WHATEVER THE INPUT: true; the input reads as it did. -/
def fnExactIsNarcissisticSpec : ChangeSpec := { name := "fnExactIsNarcissistic", fn := fun _ => fun
  | [d1, d2] => { results := [.lit (.bool true)], args := [d1, d2] }
  | _ => none }
def fnExactIsNarcissisticRow : OpenClaim := { program := "yteoghaognbmjlaa", sum := "9000fed83873a01a33b6c1f15db17f3c2b6ab344c5ea164ef3f7f8fe17832aa6", func := "loop.example/g03203/laws.FnExactIsNarcissistic", spec := "fnExactIsNarcissistic", apart := false }
def FnExactIsNarcissisticSaid : Prop := fnExactIsNarcissisticRow.holds Try.pinned (OpenSpec.ofChange fnExactIsNarcissisticSpec)

/-- ITS FALSE NEIGHBOUR: 'it returns false'. Refute it at one input. -/
def fnExactIsNarcissisticWrong : ChangeSpec := { name := "fnExactIsNarcissistic", fn := fun _ => fun
  | [d1, d2] => { results := [.lit (.bool false)], args := [d1, d2] }
  | _ => none }
def FnExactIsNarcissisticWrongFalsely : Prop := fnExactIsNarcissisticRow.holds Try.pinned (OpenSpec.ofChange fnExactIsNarcissisticWrong)

/-- 'laws.FnExactIsPalindrome': WHATEVER THE INPUT: true; the input reads as it did. -/
def fnExactIsPalindromeSpec : ChangeSpec := { name := "fnExactIsPalindrome", fn := fun _ => fun
  | [d1, d2] => { results := [.lit (.bool true)], args := [d1, d2] }
  | _ => none }
def fnExactIsPalindromeRow : OpenClaim := { program := "yteoghaognbmjlaa", sum := "9000fed83873a01a33b6c1f15db17f3c2b6ab344c5ea164ef3f7f8fe17832aa6", func := "loop.example/g03203/laws.FnExactIsPalindrome", spec := "fnExactIsPalindrome", apart := false }
def FnExactIsPalindromeSaid : Prop := fnExactIsPalindromeRow.holds Try.pinned (OpenSpec.ofChange fnExactIsPalindromeSpec)

/-- ITS FALSE NEIGHBOUR: 'it returns false'. Refute it at one input. -/
def fnExactIsPalindromeWrong : ChangeSpec := { name := "fnExactIsPalindrome", fn := fun _ => fun
  | [d1, d2] => { results := [.lit (.bool false)], args := [d1, d2] }
  | _ => none }
def FnExactIsPalindromeWrongFalsely : Prop := fnExactIsPalindromeRow.holds Try.pinned (OpenSpec.ofChange fnExactIsPalindromeWrong)

/-- 'laws.FnExactIsDoublePalindrome': WHATEVER THE INPUT: true; the input reads as it did. -/
def fnExactIsDoublePalindromeSpec : ChangeSpec := { name := "fnExactIsDoublePalindrome", fn := fun _ => fun
  | [d1, d2, d3] => { results := [.lit (.bool true)], args := [d1, d2, d3] }
  | _ => none }
def fnExactIsDoublePalindromeRow : OpenClaim := { program := "yteoghaognbmjlaa", sum := "9000fed83873a01a33b6c1f15db17f3c2b6ab344c5ea164ef3f7f8fe17832aa6", func := "loop.example/g03203/laws.FnExactIsDoublePalindrome", spec := "fnExactIsDoublePalindrome", apart := false }
def FnExactIsDoublePalindromeSaid : Prop := fnExactIsDoublePalindromeRow.holds Try.pinned (OpenSpec.ofChange fnExactIsDoublePalindromeSpec)

/-- ITS FALSE NEIGHBOUR: 'it returns false'. Refute it at one input. -/
def fnExactIsDoublePalindromeWrong : ChangeSpec := { name := "fnExactIsDoublePalindrome", fn := fun _ => fun
  | [d1, d2, d3] => { results := [.lit (.bool false)], args := [d1, d2, d3] }
  | _ => none }
def FnExactIsDoublePalindromeWrongFalsely : Prop := fnExactIsDoublePalindromeRow.holds Try.pinned (OpenSpec.ofChange fnExactIsDoublePalindromeWrong)

/-- 'laws.FnExactRuleWeights': WHATEVER THE INPUT: true; the input reads as it did. -/
def fnExactRuleWeightsSpec : ChangeSpec := { name := "fnExactRuleWeights", fn := fun _ => fun
  | [d1, d2, d3] => { results := [.lit (.bool true)], args := [d1, d2, d3] }
  | _ => none }
def fnExactRuleWeightsRow : OpenClaim := { program := "yteoghaognbmjlaa", sum := "9000fed83873a01a33b6c1f15db17f3c2b6ab344c5ea164ef3f7f8fe17832aa6", func := "loop.example/g03203/laws.FnExactRuleWeights", spec := "fnExactRuleWeights", apart := false }
def FnExactRuleWeightsSaid : Prop := fnExactRuleWeightsRow.holds Try.pinned (OpenSpec.ofChange fnExactRuleWeightsSpec)

/-- ITS FALSE NEIGHBOUR: 'it returns false'. Refute it at one input. -/
def fnExactRuleWeightsWrong : ChangeSpec := { name := "fnExactRuleWeights", fn := fun _ => fun
  | [d1, d2, d3] => { results := [.lit (.bool false)], args := [d1, d2, d3] }
  | _ => none }
def FnExactRuleWeightsWrongFalsely : Prop := fnExactRuleWeightsRow.holds Try.pinned (OpenSpec.ofChange fnExactRuleWeightsWrong)

/-- 'laws.FnExactSmallWeights': WHATEVER THE INPUT: true; the input reads as it did. -/
def fnExactSmallWeightsSpec : ChangeSpec := { name := "fnExactSmallWeights", fn := fun _ => fun
  | [d1, d2, d3] => { results := [.lit (.bool true)], args := [d1, d2, d3] }
  | _ => none }
def fnExactSmallWeightsRow : OpenClaim := { program := "yteoghaognbmjlaa", sum := "9000fed83873a01a33b6c1f15db17f3c2b6ab344c5ea164ef3f7f8fe17832aa6", func := "loop.example/g03203/laws.FnExactSmallWeights", spec := "fnExactSmallWeights", apart := false }
def FnExactSmallWeightsSaid : Prop := fnExactSmallWeightsRow.holds Try.pinned (OpenSpec.ofChange fnExactSmallWeightsSpec)

/-- ITS FALSE NEIGHBOUR: 'it returns false'. Refute it at one input. -/
def fnExactSmallWeightsWrong : ChangeSpec := { name := "fnExactSmallWeights", fn := fun _ => fun
  | [d1, d2, d3] => { results := [.lit (.bool false)], args := [d1, d2, d3] }
  | _ => none }
def FnExactSmallWeightsWrongFalsely : Prop := fnExactSmallWeightsRow.holds Try.pinned (OpenSpec.ofChange fnExactSmallWeightsWrong)

/-- 'laws.FnExactApplyRule': WHATEVER THE INPUT: true; the input reads as it did. -/
def fnExactApplyRuleSpec : ChangeSpec := { name := "fnExactApplyRule", fn := fun _ => fun
  | [d1, d2, d3] => { results := [.lit (.bool true)], args := [d1, d2, d3] }
  | _ => none }
def fnExactApplyRuleRow : OpenClaim := { program := "yteoghaognbmjlaa", sum := "9000fed83873a01a33b6c1f15db17f3c2b6ab344c5ea164ef3f7f8fe17832aa6", func := "loop.example/g03203/laws.FnExactApplyRule", spec := "fnExactApplyRule", unfollowed := true, recurses := true, apart := false }
def FnExactApplyRuleSaid : Prop := fnExactApplyRuleRow.holds Try.pinned (OpenSpec.ofChange fnExactApplyRuleSpec)

/-- ITS FALSE NEIGHBOUR: 'it returns false'. Refute it at one input. -/
def fnExactApplyRuleWrong : ChangeSpec := { name := "fnExactApplyRule", fn := fun _ => fun
  | [d1, d2, d3] => { results := [.lit (.bool false)], args := [d1, d2, d3] }
  | _ => none }
def FnExactApplyRuleWrongFalsely : Prop := fnExactApplyRuleRow.holds Try.pinned (OpenSpec.ofChange fnExactApplyRuleWrong)

/- THE SECOND FORM. 'bulk': how many values and letters a reading holds, each counted each time it is reached (what is shared counts as often as it is met; a slice's spare places count too). A statement '..UptoSaid' is the law's where the arguments, and the package variables that the reading takes, are together of bulk at most 1048576: NARROWER than '..Said'. Prove '..Said' where nothing that the law and all that it calls make is longer than what came in: it says more and counts as full. Else prove '..UptoSaid'. A law counts once. -/
mutual
def uptoBulk {H : Type} : DataW H → Nat
  | .lit (.string bytes) => bytes.length + 1
  | .lit _ => 1
  | .nil => 1
  | .ptr d => uptoBulk d + 1
  | .slice elems spare => uptoBulkAll elems + uptoBulkAll spare + 1
  | .agg parts => uptoBulkAll parts + 1
  | .iface _ d => uptoBulk d + 1
  | .map entries => uptoBulkEntries entries + 1
  | .held _ => 1
def uptoBulkAll {H : Type} : List (DataW H) → Nat
  | [] => 0
  | d :: r => uptoBulk d + uptoBulkAll r
def uptoBulkEntries {H : Type} : List (Lit × DataW H) → Nat
  | [] => 0
  | x :: r => uptoBulkEntry x + uptoBulkEntries r
def uptoBulkEntry {H : Type} : Lit × DataW H → Nat
  | (.string bytes, d) => bytes.length + uptoBulk d + 1
  | (_, d) => uptoBulk d + 1
 end
def uptoSmall : (H : Type) → List (DataW H) → Bool := fun _ ds => decide (uptoBulkAll ds ≤ 1048576)
def OpenSpec.upto (s : _root_.Go.ChangeSpec) : _root_.Go.OpenSpec := { _root_.Go.OpenSpec.ofChange s with cond := some uptoSmall }

/-- 'laws.FnExactCountRest', WHERE WHAT IT READS IS OF BULK AT MOST 1048576: true; the input reads as it did. -/
def fnExactCountRestUptoRow : OpenClaim := { program := "yteoghaognbmjlaa", sum := "9000fed83873a01a33b6c1f15db17f3c2b6ab344c5ea164ef3f7f8fe17832aa6", func := "loop.example/g03203/laws.FnExactCountRest", spec := "fnExactCountRest", apart := false, narrowed := true }
def FnExactCountRestUptoSaid : Prop := fnExactCountRestUptoRow.holds Try.pinned (OpenSpec.upto fnExactCountRestSpec)

/-- 'laws.FnExactDigitRoot', WHERE WHAT IT READS IS OF BULK AT MOST 1048576: true; the input reads as it did. -/
def fnExactDigitRootUptoRow : OpenClaim := { program := "yteoghaognbmjlaa", sum := "9000fed83873a01a33b6c1f15db17f3c2b6ab344c5ea164ef3f7f8fe17832aa6", func := "loop.example/g03203/laws.FnExactDigitRoot", spec := "fnExactDigitRoot", apart := false, narrowed := true }
def FnExactDigitRootUptoSaid : Prop := fnExactDigitRootUptoRow.holds Try.pinned (OpenSpec.upto fnExactDigitRootSpec)

/-- 'laws.FnExactFactorialPower', WHERE WHAT IT READS IS OF BULK AT MOST 1048576: true; the input reads as it did. -/
def fnExactFactorialPowerUptoRow : OpenClaim := { program := "yteoghaognbmjlaa", sum := "9000fed83873a01a33b6c1f15db17f3c2b6ab344c5ea164ef3f7f8fe17832aa6", func := "loop.example/g03203/laws.FnExactFactorialPower", spec := "fnExactFactorialPower", apart := false, narrowed := true }
def FnExactFactorialPowerUptoSaid : Prop := fnExactFactorialPowerUptoRow.holds Try.pinned (OpenSpec.upto fnExactFactorialPowerSpec)

/-- 'laws.FnExactPowerSum', WHERE WHAT IT READS IS OF BULK AT MOST 1048576: true; the input reads as it did. -/
def fnExactPowerSumUptoRow : OpenClaim := { program := "yteoghaognbmjlaa", sum := "9000fed83873a01a33b6c1f15db17f3c2b6ab344c5ea164ef3f7f8fe17832aa6", func := "loop.example/g03203/laws.FnExactPowerSum", spec := "fnExactPowerSum", apart := false, narrowed := true }
def FnExactPowerSumUptoSaid : Prop := fnExactPowerSumUptoRow.holds Try.pinned (OpenSpec.upto fnExactPowerSumSpec)

/-- 'laws.FnExactBlockSum', WHERE WHAT IT READS IS OF BULK AT MOST 1048576: true; the input reads as it did. -/
def fnExactBlockSumUptoRow : OpenClaim := { program := "yteoghaognbmjlaa", sum := "9000fed83873a01a33b6c1f15db17f3c2b6ab344c5ea164ef3f7f8fe17832aa6", func := "loop.example/g03203/laws.FnExactBlockSum", spec := "fnExactBlockSum", apart := false, narrowed := true }
def FnExactBlockSumUptoSaid : Prop := fnExactBlockSumUptoRow.holds Try.pinned (OpenSpec.upto fnExactBlockSumSpec)

/-- 'laws.FnExactJoinHalves', WHERE WHAT IT READS IS OF BULK AT MOST 1048576: true; the input reads as it did. -/
def fnExactJoinHalvesUptoRow : OpenClaim := { program := "yteoghaognbmjlaa", sum := "9000fed83873a01a33b6c1f15db17f3c2b6ab344c5ea164ef3f7f8fe17832aa6", func := "loop.example/g03203/laws.FnExactJoinHalves", spec := "fnExactJoinHalves", apart := false, narrowed := true }
def FnExactJoinHalvesUptoSaid : Prop := fnExactJoinHalvesUptoRow.holds Try.pinned (OpenSpec.upto fnExactJoinHalvesSpec)

/-- 'laws.FnExactIsNarcissistic', WHERE WHAT IT READS IS OF BULK AT MOST 1048576: true; the input reads as it did. -/
def fnExactIsNarcissisticUptoRow : OpenClaim := { program := "yteoghaognbmjlaa", sum := "9000fed83873a01a33b6c1f15db17f3c2b6ab344c5ea164ef3f7f8fe17832aa6", func := "loop.example/g03203/laws.FnExactIsNarcissistic", spec := "fnExactIsNarcissistic", apart := false, narrowed := true }
def FnExactIsNarcissisticUptoSaid : Prop := fnExactIsNarcissisticUptoRow.holds Try.pinned (OpenSpec.upto fnExactIsNarcissisticSpec)

/-- 'laws.FnExactIsPalindrome', WHERE WHAT IT READS IS OF BULK AT MOST 1048576: true; the input reads as it did. -/
def fnExactIsPalindromeUptoRow : OpenClaim := { program := "yteoghaognbmjlaa", sum := "9000fed83873a01a33b6c1f15db17f3c2b6ab344c5ea164ef3f7f8fe17832aa6", func := "loop.example/g03203/laws.FnExactIsPalindrome", spec := "fnExactIsPalindrome", apart := false, narrowed := true }
def FnExactIsPalindromeUptoSaid : Prop := fnExactIsPalindromeUptoRow.holds Try.pinned (OpenSpec.upto fnExactIsPalindromeSpec)

/-- 'laws.FnExactIsDoublePalindrome', WHERE WHAT IT READS IS OF BULK AT MOST 1048576: true; the input reads as it did. -/
def fnExactIsDoublePalindromeUptoRow : OpenClaim := { program := "yteoghaognbmjlaa", sum := "9000fed83873a01a33b6c1f15db17f3c2b6ab344c5ea164ef3f7f8fe17832aa6", func := "loop.example/g03203/laws.FnExactIsDoublePalindrome", spec := "fnExactIsDoublePalindrome", apart := false, narrowed := true }
def FnExactIsDoublePalindromeUptoSaid : Prop := fnExactIsDoublePalindromeUptoRow.holds Try.pinned (OpenSpec.upto fnExactIsDoublePalindromeSpec)

/-- 'laws.FnExactRuleWeights', WHERE WHAT IT READS IS OF BULK AT MOST 1048576: true; the input reads as it did. -/
def fnExactRuleWeightsUptoRow : OpenClaim := { program := "yteoghaognbmjlaa", sum := "9000fed83873a01a33b6c1f15db17f3c2b6ab344c5ea164ef3f7f8fe17832aa6", func := "loop.example/g03203/laws.FnExactRuleWeights", spec := "fnExactRuleWeights", apart := false, narrowed := true }
def FnExactRuleWeightsUptoSaid : Prop := fnExactRuleWeightsUptoRow.holds Try.pinned (OpenSpec.upto fnExactRuleWeightsSpec)

/-- 'laws.FnExactSmallWeights', WHERE WHAT IT READS IS OF BULK AT MOST 1048576: true; the input reads as it did. -/
def fnExactSmallWeightsUptoRow : OpenClaim := { program := "yteoghaognbmjlaa", sum := "9000fed83873a01a33b6c1f15db17f3c2b6ab344c5ea164ef3f7f8fe17832aa6", func := "loop.example/g03203/laws.FnExactSmallWeights", spec := "fnExactSmallWeights", apart := false, narrowed := true }
def FnExactSmallWeightsUptoSaid : Prop := fnExactSmallWeightsUptoRow.holds Try.pinned (OpenSpec.upto fnExactSmallWeightsSpec)

/-- 'laws.FnExactApplyRule', WHERE WHAT IT READS IS OF BULK AT MOST 1048576: true; the input reads as it did. -/
def fnExactApplyRuleUptoRow : OpenClaim := { program := "yteoghaognbmjlaa", sum := "9000fed83873a01a33b6c1f15db17f3c2b6ab344c5ea164ef3f7f8fe17832aa6", func := "loop.example/g03203/laws.FnExactApplyRule", spec := "fnExactApplyRule", unfollowed := true, recurses := true, apart := false, narrowed := true }
def FnExactApplyRuleUptoSaid : Prop := fnExactApplyRuleUptoRow.holds Try.pinned (OpenSpec.upto fnExactApplyRuleSpec)

end Rows
end Go.Proofs.Yteoghaognbmjlaa
