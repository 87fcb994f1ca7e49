/-
  No cell of these rows narrows 'for every input' (looked for: loops, veiled, ifaces, maps, wideKeys, modest, calm, conditions, laid).
  DERIVED. THE GIVEN ROWS OF THIS SEAT. 12 by the template 'for every input the law returns true; each argument reads behind the call as it read before'; 0 by the template 'total and deterministic' (their statements: YtioclijkglhigaaTotals.lean).
  GIVEN WITH THE SEED: the statements are not yours to turn. If you find one false, say at which input.
  Laid BY PROGRAM, IN A SANDBOX (cutbox-rows.mjs): the forced cells as the released guide's own fill.sh prints them over the translation 16b6a72fb1f54bc5… (all of the seat's roots in one cut). By AI agents, Wed Nov 11 2026. No macro, syntax, notation, axiom, sorry.
-/
import Derived.Test.YtioclijkglhigaaChecked
import GoSem.Claim
import GoSem.ClaimJoined
import GoSem.ClaimMapViews
import Derived.JoinedTies
import Derived.KernelRfl
namespace Go.Proofs.Ytioclijkglhigaa
/- THE CELL 'sum', in the pinned program and in every row, IS THE sha256 OF THE DUMP (.gsa) THAT YtioclijkglhigaaProg.lean LOADS. Nothing in Lean hashes anything: it is a label: what it is worth is what the hold of that sum in a sandbox is worth. -/
noncomputable def Try.pinned : Pinned := { name := "ytioclijkglhigaa", sum := "16b6a72fb1f54bc5705bd16d60db256c8bb38ac9014c41a0579caa1f4d989958", checked := Try.checked }
namespace Rows
def none {H : Type} : Left H := { results := [], args := [] }

/-- 'laws.FnExactIsRule': WHATEVER THE INPUT: true; the input reads as it did. -/
def fnExactIsRuleSpec : ChangeSpec := { name := "fnExactIsRule", fn := fun _ => fun
  | [d1, d2, d3] => { results := [.lit (.bool true)], args := [d1, d2, d3] }
  | _ => none }
def fnExactIsRuleRow : OpenClaim := { program := "ytioclijkglhigaa", sum := "16b6a72fb1f54bc5705bd16d60db256c8bb38ac9014c41a0579caa1f4d989958", func := "loop.example/g03203/laws.FnExactIsRule", spec := "fnExactIsRule", unfollowed := true, recurses := true, apart := false }
def FnExactIsRuleSaid : Prop := fnExactIsRuleRow.holds Try.pinned (OpenSpec.ofChange fnExactIsRuleSpec)

/-- ITS FALSE NEIGHBOUR: 'it returns false'. Refute it at one input. -/
def fnExactIsRuleWrong : ChangeSpec := { name := "fnExactIsRule", fn := fun _ => fun
  | [d1, d2, d3] => { results := [.lit (.bool false)], args := [d1, d2, d3] }
  | _ => none }
def FnExactIsRuleWrongFalsely : Prop := fnExactIsRuleRow.holds Try.pinned (OpenSpec.ofChange fnExactIsRuleWrong)

/-- 'laws.FnExactTrimChain': WHATEVER THE INPUT: true; the input reads as it did. -/
def fnExactTrimChainSpec : ChangeSpec := { name := "fnExactTrimChain", fn := fun _ => fun
  | [d1, d2, d3] => { results := [.lit (.bool true)], args := [d1, d2, d3] }
  | _ => none }
def fnExactTrimChainRow : OpenClaim := { program := "ytioclijkglhigaa", sum := "16b6a72fb1f54bc5705bd16d60db256c8bb38ac9014c41a0579caa1f4d989958", func := "loop.example/g03203/laws.FnExactTrimChain", spec := "fnExactTrimChain", apart := false }
def FnExactTrimChainSaid : Prop := fnExactTrimChainRow.holds Try.pinned (OpenSpec.ofChange fnExactTrimChainSpec)

/-- ITS FALSE NEIGHBOUR: 'it returns false'. Refute it at one input. -/
def fnExactTrimChainWrong : ChangeSpec := { name := "fnExactTrimChain", fn := fun _ => fun
  | [d1, d2, d3] => { results := [.lit (.bool false)], args := [d1, d2, d3] }
  | _ => none }
def FnExactTrimChainWrongFalsely : Prop := fnExactTrimChainRow.holds Try.pinned (OpenSpec.ofChange fnExactTrimChainWrong)

/-- 'laws.FnExactReverseAdd': WHATEVER THE INPUT: true; the input reads as it did. -/
def fnExactReverseAddSpec : ChangeSpec := { name := "fnExactReverseAdd", fn := fun _ => fun
  | [d1, d2] => { results := [.lit (.bool true)], args := [d1, d2] }
  | _ => none }
def fnExactReverseAddRow : OpenClaim := { program := "ytioclijkglhigaa", sum := "16b6a72fb1f54bc5705bd16d60db256c8bb38ac9014c41a0579caa1f4d989958", func := "loop.example/g03203/laws.FnExactReverseAdd", spec := "fnExactReverseAdd", unfollowed := true, recurses := true, apart := false }
def FnExactReverseAddSaid : Prop := fnExactReverseAddRow.holds Try.pinned (OpenSpec.ofChange fnExactReverseAddSpec)

/-- ITS FALSE NEIGHBOUR: 'it returns false'. Refute it at one input. -/
def fnExactReverseAddWrong : ChangeSpec := { name := "fnExactReverseAdd", fn := fun _ => fun
  | [d1, d2] => { results := [.lit (.bool false)], args := [d1, d2] }
  | _ => none }
def FnExactReverseAddWrongFalsely : Prop := fnExactReverseAddRow.holds Try.pinned (OpenSpec.ofChange fnExactReverseAddWrong)

/-- 'laws.FnExactCyclicOf': WHATEVER THE INPUT: true; the input reads as it did. -/
def fnExactCyclicOfSpec : ChangeSpec := { name := "fnExactCyclicOf", fn := fun _ => fun
  | [d1, d2] => { results := [.lit (.bool true)], args := [d1, d2] }
  | _ => none }
def fnExactCyclicOfRow : OpenClaim := { program := "ytioclijkglhigaa", sum := "16b6a72fb1f54bc5705bd16d60db256c8bb38ac9014c41a0579caa1f4d989958", func := "loop.example/g03203/laws.FnExactCyclicOf", spec := "fnExactCyclicOf", apart := false }
def FnExactCyclicOfSaid : Prop := fnExactCyclicOfRow.holds Try.pinned (OpenSpec.ofChange fnExactCyclicOfSpec)

/-- ITS FALSE NEIGHBOUR: 'it returns false'. Refute it at one input. -/
def fnExactCyclicOfWrong : ChangeSpec := { name := "fnExactCyclicOf", fn := fun _ => fun
  | [d1, d2] => { results := [.lit (.bool false)], args := [d1, d2] }
  | _ => none }
def FnExactCyclicOfWrongFalsely : Prop := fnExactCyclicOfRow.holds Try.pinned (OpenSpec.ofChange fnExactCyclicOfWrong)

/-- 'laws.FnExactParasiteOf': WHATEVER THE INPUT: true; the input reads as it did. -/
def fnExactParasiteOfSpec : ChangeSpec := { name := "fnExactParasiteOf", fn := fun _ => fun
  | [d1, d2, d3] => { results := [.lit (.bool true)], args := [d1, d2, d3] }
  | _ => none }
def fnExactParasiteOfRow : OpenClaim := { program := "ytioclijkglhigaa", sum := "16b6a72fb1f54bc5705bd16d60db256c8bb38ac9014c41a0579caa1f4d989958", func := "loop.example/g03203/laws.FnExactParasiteOf", spec := "fnExactParasiteOf", apart := false }
def FnExactParasiteOfSaid : Prop := fnExactParasiteOfRow.holds Try.pinned (OpenSpec.ofChange fnExactParasiteOfSpec)

/-- ITS FALSE NEIGHBOUR: 'it returns false'. Refute it at one input. -/
def fnExactParasiteOfWrong : ChangeSpec := { name := "fnExactParasiteOf", fn := fun _ => fun
  | [d1, d2, d3] => { results := [.lit (.bool false)], args := [d1, d2, d3] }
  | _ => none }
def FnExactParasiteOfWrongFalsely : Prop := fnExactParasiteOfRow.holds Try.pinned (OpenSpec.ofChange fnExactParasiteOfWrong)

/-- 'laws.FnExactBinomialRest': WHATEVER THE INPUT: true; the input reads as it did. -/
def fnExactBinomialRestSpec : ChangeSpec := { name := "fnExactBinomialRest", fn := fun _ => fun
  | [d1, d2, d3] => { results := [.lit (.bool true)], args := [d1, d2, d3] }
  | _ => none }
def fnExactBinomialRestRow : OpenClaim := { program := "ytioclijkglhigaa", sum := "16b6a72fb1f54bc5705bd16d60db256c8bb38ac9014c41a0579caa1f4d989958", func := "loop.example/g03203/laws.FnExactBinomialRest", spec := "fnExactBinomialRest", apart := false }
def FnExactBinomialRestSaid : Prop := fnExactBinomialRestRow.holds Try.pinned (OpenSpec.ofChange fnExactBinomialRestSpec)

/-- ITS FALSE NEIGHBOUR: 'it returns false'. Refute it at one input. -/
def fnExactBinomialRestWrong : ChangeSpec := { name := "fnExactBinomialRest", fn := fun _ => fun
  | [d1, d2, d3] => { results := [.lit (.bool false)], args := [d1, d2, d3] }
  | _ => none }
def FnExactBinomialRestWrongFalsely : Prop := fnExactBinomialRestRow.holds Try.pinned (OpenSpec.ofChange fnExactBinomialRestWrong)

/-- 'laws.FnExactPalindromeAt': WHATEVER THE INPUT: true; the input reads as it did. -/
def fnExactPalindromeAtSpec : ChangeSpec := { name := "fnExactPalindromeAt", fn := fun _ => fun
  | [d1, d2, d3] => { results := [.lit (.bool true)], args := [d1, d2, d3] }
  | _ => none }
def fnExactPalindromeAtRow : OpenClaim := { program := "ytioclijkglhigaa", sum := "16b6a72fb1f54bc5705bd16d60db256c8bb38ac9014c41a0579caa1f4d989958", func := "loop.example/g03203/laws.FnExactPalindromeAt", spec := "fnExactPalindromeAt", apart := false }
def FnExactPalindromeAtSaid : Prop := fnExactPalindromeAtRow.holds Try.pinned (OpenSpec.ofChange fnExactPalindromeAtSpec)

/-- ITS FALSE NEIGHBOUR: 'it returns false'. Refute it at one input. -/
def fnExactPalindromeAtWrong : ChangeSpec := { name := "fnExactPalindromeAt", fn := fun _ => fun
  | [d1, d2, d3] => { results := [.lit (.bool false)], args := [d1, d2, d3] }
  | _ => none }
def FnExactPalindromeAtWrongFalsely : Prop := fnExactPalindromeAtRow.holds Try.pinned (OpenSpec.ofChange fnExactPalindromeAtWrong)

/-- 'laws.FnExactPalindromeRank': WHATEVER THE INPUT: true; the input reads as it did. -/
def fnExactPalindromeRankSpec : ChangeSpec := { name := "fnExactPalindromeRank", fn := fun _ => fun
  | [d1, d2] => { results := [.lit (.bool true)], args := [d1, d2] }
  | _ => none }
def fnExactPalindromeRankRow : OpenClaim := { program := "ytioclijkglhigaa", sum := "16b6a72fb1f54bc5705bd16d60db256c8bb38ac9014c41a0579caa1f4d989958", func := "loop.example/g03203/laws.FnExactPalindromeRank", spec := "fnExactPalindromeRank", apart := false }
def FnExactPalindromeRankSaid : Prop := fnExactPalindromeRankRow.holds Try.pinned (OpenSpec.ofChange fnExactPalindromeRankSpec)

/-- ITS FALSE NEIGHBOUR: 'it returns false'. Refute it at one input. -/
def fnExactPalindromeRankWrong : ChangeSpec := { name := "fnExactPalindromeRank", fn := fun _ => fun
  | [d1, d2] => { results := [.lit (.bool false)], args := [d1, d2] }
  | _ => none }
def FnExactPalindromeRankWrongFalsely : Prop := fnExactPalindromeRankRow.holds Try.pinned (OpenSpec.ofChange fnExactPalindromeRankWrong)

/-- 'laws.FnExactNextPalindrome': WHATEVER THE INPUT: true; the input reads as it did. -/
def fnExactNextPalindromeSpec : ChangeSpec := { name := "fnExactNextPalindrome", fn := fun _ => fun
  | [d1, d2] => { results := [.lit (.bool true)], args := [d1, d2] }
  | _ => none }
def fnExactNextPalindromeRow : OpenClaim := { program := "ytioclijkglhigaa", sum := "16b6a72fb1f54bc5705bd16d60db256c8bb38ac9014c41a0579caa1f4d989958", func := "loop.example/g03203/laws.FnExactNextPalindrome", spec := "fnExactNextPalindrome", apart := false }
def FnExactNextPalindromeSaid : Prop := fnExactNextPalindromeRow.holds Try.pinned (OpenSpec.ofChange fnExactNextPalindromeSpec)

/-- ITS FALSE NEIGHBOUR: 'it returns false'. Refute it at one input. -/
def fnExactNextPalindromeWrong : ChangeSpec := { name := "fnExactNextPalindrome", fn := fun _ => fun
  | [d1, d2] => { results := [.lit (.bool false)], args := [d1, d2] }
  | _ => none }
def FnExactNextPalindromeWrongFalsely : Prop := fnExactNextPalindromeRow.holds Try.pinned (OpenSpec.ofChange fnExactNextPalindromeWrong)

/-- 'laws.FnExactStepsToPalindrome': WHATEVER THE INPUT: true; the input reads as it did. -/
def fnExactStepsToPalindromeSpec : ChangeSpec := { name := "fnExactStepsToPalindrome", fn := fun _ => fun
  | [d1, d2, d3] => { results := [.lit (.bool true)], args := [d1, d2, d3] }
  | _ => none }
def fnExactStepsToPalindromeRow : OpenClaim := { program := "ytioclijkglhigaa", sum := "16b6a72fb1f54bc5705bd16d60db256c8bb38ac9014c41a0579caa1f4d989958", func := "loop.example/g03203/laws.FnExactStepsToPalindrome", spec := "fnExactStepsToPalindrome", unfollowed := true, recurses := true, apart := false }
def FnExactStepsToPalindromeSaid : Prop := fnExactStepsToPalindromeRow.holds Try.pinned (OpenSpec.ofChange fnExactStepsToPalindromeSpec)

/-- ITS FALSE NEIGHBOUR: 'it returns false'. Refute it at one input. -/
def fnExactStepsToPalindromeWrong : ChangeSpec := { name := "fnExactStepsToPalindrome", fn := fun _ => fun
  | [d1, d2, d3] => { results := [.lit (.bool false)], args := [d1, d2, d3] }
  | _ => none }
def FnExactStepsToPalindromeWrongFalsely : Prop := fnExactStepsToPalindromeRow.holds Try.pinned (OpenSpec.ofChange fnExactStepsToPalindromeWrong)

/-- 'laws.FnPalindromes': WHATEVER THE INPUT: true; the input reads as it did. -/
def fnPalindromesSpec : ChangeSpec := { name := "fnPalindromes", fn := fun _ => fun
  | [d] => { results := [.lit (.bool true)], args := [d] }
  | _ => none }
def fnPalindromesRow : OpenClaim := { program := "ytioclijkglhigaa", sum := "16b6a72fb1f54bc5705bd16d60db256c8bb38ac9014c41a0579caa1f4d989958", func := "loop.example/g03203/laws.FnPalindromes", spec := "fnPalindromes", unfollowed := true, recurses := true, apart := false }
def FnPalindromesSaid : Prop := fnPalindromesRow.holds Try.pinned (OpenSpec.ofChange fnPalindromesSpec)

/-- ITS FALSE NEIGHBOUR: 'it returns false'. Refute it at one input. -/
def fnPalindromesWrong : ChangeSpec := { name := "fnPalindromes", fn := fun _ => fun
  | [d] => { results := [.lit (.bool false)], args := [d] }
  | _ => none }
def FnPalindromesWrongFalsely : Prop := fnPalindromesRow.holds Try.pinned (OpenSpec.ofChange fnPalindromesWrong)

/-- 'laws.FnSums': WHATEVER THE INPUT: true; the input reads as it did. -/
def fnSumsSpec : ChangeSpec := { name := "fnSums", fn := fun _ => fun
  | [d] => { results := [.lit (.bool true)], args := [d] }
  | _ => none }
def fnSumsRow : OpenClaim := { program := "ytioclijkglhigaa", sum := "16b6a72fb1f54bc5705bd16d60db256c8bb38ac9014c41a0579caa1f4d989958", func := "loop.example/g03203/laws.FnSums", spec := "fnSums", apart := false }
def FnSumsSaid : Prop := fnSumsRow.holds Try.pinned (OpenSpec.ofChange fnSumsSpec)

/-- ITS FALSE NEIGHBOUR: 'it returns false'. Refute it at one input. -/
def fnSumsWrong : ChangeSpec := { name := "fnSums", fn := fun _ => fun
  | [d] => { results := [.lit (.bool false)], args := [d] }
  | _ => none }
def FnSumsWrongFalsely : Prop := fnSumsRow.holds Try.pinned (OpenSpec.ofChange fnSumsWrong)

/- THE SECOND FORM. 'bulk': how many values and letters a reading holds, each counted each time it is reached (what is shared counts as often as it is met; a slice's spare places count too). A statement '..UptoSaid' is the law's where the arguments, and the package variables that the reading takes, are together of bulk at most 1048576: NARROWER than '..Said'. Prove '..Said' where nothing that the law and all that it calls make is longer than what came in: it says more and counts as full. Else prove '..UptoSaid'. A law counts once. -/
mutual
def uptoBulk {H : Type} : DataW H → Nat
  | .lit (.string bytes) => bytes.length + 1
  | .lit _ => 1
  | .nil => 1
  | .ptr d => uptoBulk d + 1
  | .slice elems spare => uptoBulkAll elems + uptoBulkAll spare + 1
  | .agg parts => uptoBulkAll parts + 1
  | .iface _ d => uptoBulk d + 1
  | .map entries => uptoBulkEntries entries + 1
  | .held _ => 1
def uptoBulkAll {H : Type} : List (DataW H) → Nat
  | [] => 0
  | d :: r => uptoBulk d + uptoBulkAll r
def uptoBulkEntries {H : Type} : List (Lit × DataW H) → Nat
  | [] => 0
  | x :: r => uptoBulkEntry x + uptoBulkEntries r
def uptoBulkEntry {H : Type} : Lit × DataW H → Nat
  | (.string bytes, d) => bytes.length + uptoBulk d + 1
  | (_, d) => uptoBulk d + 1
 end
def uptoSmall : (H : Type) → List (DataW H) → Bool := fun _ ds => decide (uptoBulkAll ds ≤ 1048576)
def OpenSpec.upto (s : _root_.Go.ChangeSpec) : _root_.Go.OpenSpec := { _root_.Go.OpenSpec.ofChange s with cond := some uptoSmall }

/-- 'laws.FnExactIsRule', WHERE WHAT IT READS IS OF BULK AT MOST 1048576: true; the input reads as it did. -/
def fnExactIsRuleUptoRow : OpenClaim := { program := "ytioclijkglhigaa", sum := "16b6a72fb1f54bc5705bd16d60db256c8bb38ac9014c41a0579caa1f4d989958", func := "loop.example/g03203/laws.FnExactIsRule", spec := "fnExactIsRule", unfollowed := true, recurses := true, apart := false, narrowed := true }
def FnExactIsRuleUptoSaid : Prop := fnExactIsRuleUptoRow.holds Try.pinned (OpenSpec.upto fnExactIsRuleSpec)

/-- 'laws.FnExactTrimChain', WHERE WHAT IT READS IS OF BULK AT MOST 1048576: true; the input reads as it did. -/
def fnExactTrimChainUptoRow : OpenClaim := { program := "ytioclijkglhigaa", sum := "16b6a72fb1f54bc5705bd16d60db256c8bb38ac9014c41a0579caa1f4d989958", func := "loop.example/g03203/laws.FnExactTrimChain", spec := "fnExactTrimChain", apart := false, narrowed := true }
def FnExactTrimChainUptoSaid : Prop := fnExactTrimChainUptoRow.holds Try.pinned (OpenSpec.upto fnExactTrimChainSpec)

/-- 'laws.FnExactReverseAdd', WHERE WHAT IT READS IS OF BULK AT MOST 1048576: true; the input reads as it did. -/
def fnExactReverseAddUptoRow : OpenClaim := { program := "ytioclijkglhigaa", sum := "16b6a72fb1f54bc5705bd16d60db256c8bb38ac9014c41a0579caa1f4d989958", func := "loop.example/g03203/laws.FnExactReverseAdd", spec := "fnExactReverseAdd", unfollowed := true, recurses := true, apart := false, narrowed := true }
def FnExactReverseAddUptoSaid : Prop := fnExactReverseAddUptoRow.holds Try.pinned (OpenSpec.upto fnExactReverseAddSpec)

/-- 'laws.FnExactCyclicOf', WHERE WHAT IT READS IS OF BULK AT MOST 1048576: true; the input reads as it did. -/
def fnExactCyclicOfUptoRow : OpenClaim := { program := "ytioclijkglhigaa", sum := "16b6a72fb1f54bc5705bd16d60db256c8bb38ac9014c41a0579caa1f4d989958", func := "loop.example/g03203/laws.FnExactCyclicOf", spec := "fnExactCyclicOf", apart := false, narrowed := true }
def FnExactCyclicOfUptoSaid : Prop := fnExactCyclicOfUptoRow.holds Try.pinned (OpenSpec.upto fnExactCyclicOfSpec)

/-- 'laws.FnExactParasiteOf', WHERE WHAT IT READS IS OF BULK AT MOST 1048576: true; the input reads as it did. -/
def fnExactParasiteOfUptoRow : OpenClaim := { program := "ytioclijkglhigaa", sum := "16b6a72fb1f54bc5705bd16d60db256c8bb38ac9014c41a0579caa1f4d989958", func := "loop.example/g03203/laws.FnExactParasiteOf", spec := "fnExactParasiteOf", apart := false, narrowed := true }
def FnExactParasiteOfUptoSaid : Prop := fnExactParasiteOfUptoRow.holds Try.pinned (OpenSpec.upto fnExactParasiteOfSpec)

/-- 'laws.FnExactBinomialRest', WHERE WHAT IT READS IS OF BULK AT MOST 1048576: true; the input reads as it did. -/
def fnExactBinomialRestUptoRow : OpenClaim := { program := "ytioclijkglhigaa", sum := "16b6a72fb1f54bc5705bd16d60db256c8bb38ac9014c41a0579caa1f4d989958", func := "loop.example/g03203/laws.FnExactBinomialRest", spec := "fnExactBinomialRest", apart := false, narrowed := true }
def FnExactBinomialRestUptoSaid : Prop := fnExactBinomialRestUptoRow.holds Try.pinned (OpenSpec.upto fnExactBinomialRestSpec)

/-- 'laws.FnExactPalindromeAt', WHERE WHAT IT READS IS OF BULK AT MOST 1048576: true; the input reads as it did. -/
def fnExactPalindromeAtUptoRow : OpenClaim := { program := "ytioclijkglhigaa", sum := "16b6a72fb1f54bc5705bd16d60db256c8bb38ac9014c41a0579caa1f4d989958", func := "loop.example/g03203/laws.FnExactPalindromeAt", spec := "fnExactPalindromeAt", apart := false, narrowed := true }
def FnExactPalindromeAtUptoSaid : Prop := fnExactPalindromeAtUptoRow.holds Try.pinned (OpenSpec.upto fnExactPalindromeAtSpec)

/-- 'laws.FnExactPalindromeRank', WHERE WHAT IT READS IS OF BULK AT MOST 1048576: true; the input reads as it did. -/
def fnExactPalindromeRankUptoRow : OpenClaim := { program := "ytioclijkglhigaa", sum := "16b6a72fb1f54bc5705bd16d60db256c8bb38ac9014c41a0579caa1f4d989958", func := "loop.example/g03203/laws.FnExactPalindromeRank", spec := "fnExactPalindromeRank", apart := false, narrowed := true }
def FnExactPalindromeRankUptoSaid : Prop := fnExactPalindromeRankUptoRow.holds Try.pinned (OpenSpec.upto fnExactPalindromeRankSpec)

/-- 'laws.FnExactNextPalindrome', WHERE WHAT IT READS IS OF BULK AT MOST 1048576: true; the input reads as it did. -/
def fnExactNextPalindromeUptoRow : OpenClaim := { program := "ytioclijkglhigaa", sum := "16b6a72fb1f54bc5705bd16d60db256c8bb38ac9014c41a0579caa1f4d989958", func := "loop.example/g03203/laws.FnExactNextPalindrome", spec := "fnExactNextPalindrome", apart := false, narrowed := true }
def FnExactNextPalindromeUptoSaid : Prop := fnExactNextPalindromeUptoRow.holds Try.pinned (OpenSpec.upto fnExactNextPalindromeSpec)

/-- 'laws.FnExactStepsToPalindrome', WHERE WHAT IT READS IS OF BULK AT MOST 1048576: true; the input reads as it did. -/
def fnExactStepsToPalindromeUptoRow : OpenClaim := { program := "ytioclijkglhigaa", sum := "16b6a72fb1f54bc5705bd16d60db256c8bb38ac9014c41a0579caa1f4d989958", func := "loop.example/g03203/laws.FnExactStepsToPalindrome", spec := "fnExactStepsToPalindrome", unfollowed := true, recurses := true, apart := false, narrowed := true }
def FnExactStepsToPalindromeUptoSaid : Prop := fnExactStepsToPalindromeUptoRow.holds Try.pinned (OpenSpec.upto fnExactStepsToPalindromeSpec)

/-- 'laws.FnPalindromes', WHERE WHAT IT READS IS OF BULK AT MOST 1048576: true; the input reads as it did. -/
def fnPalindromesUptoRow : OpenClaim := { program := "ytioclijkglhigaa", sum := "16b6a72fb1f54bc5705bd16d60db256c8bb38ac9014c41a0579caa1f4d989958", func := "loop.example/g03203/laws.FnPalindromes", spec := "fnPalindromes", unfollowed := true, recurses := true, apart := false, narrowed := true }
def FnPalindromesUptoSaid : Prop := fnPalindromesUptoRow.holds Try.pinned (OpenSpec.upto fnPalindromesSpec)

/-- 'laws.FnSums', WHERE WHAT IT READS IS OF BULK AT MOST 1048576: true; the input reads as it did. -/
def fnSumsUptoRow : OpenClaim := { program := "ytioclijkglhigaa", sum := "16b6a72fb1f54bc5705bd16d60db256c8bb38ac9014c41a0579caa1f4d989958", func := "loop.example/g03203/laws.FnSums", spec := "fnSums", apart := false, narrowed := true }
def FnSumsUptoSaid : Prop := fnSumsUptoRow.holds Try.pinned (OpenSpec.upto fnSumsSpec)

end Rows
end Go.Proofs.Ytioclijkglhigaa
