/-
  No cell of these rows narrows 'for every input' (looked for: loops, veiled, ifaces, maps, wideKeys, modest, calm, conditions, laid).
  DERIVED. THE GIVEN ROWS OF THIS SEAT. 12 by the template 'for every input the law returns true; each argument reads behind the call as it read before'; 0 by the template 'total and deterministic' (their statements: YtbkgjallabgedaaTotals.lean).
  GIVEN WITH THE SEED: the statements are not yours to turn. If you find one false, say at which input.
  Laid BY PROGRAM, IN A SANDBOX (cutbox-rows.mjs): the forced cells as the released guide's own fill.sh prints them over the translation 7b7c35d025f11741… (all of the seat's roots in one cut). By AI agents, Wed Nov 11 2026. No macro, syntax, notation, axiom, sorry.
-/
import Derived.Test.YtbkgjallabgedaaChecked
import GoSem.Claim
import GoSem.ClaimJoined
import GoSem.ClaimMapViews
import Derived.JoinedTies
import Derived.KernelRfl
namespace Go.Proofs.Ytbkgjallabgedaa
/- THE CELL 'sum', in the pinned program and in every row, IS THE sha256 OF THE DUMP (.gsa) THAT YtbkgjallabgedaaProg.lean LOADS. Nothing in Lean hashes anything: it is a label: what it is worth is what the hold of that sum in a sandbox is worth. -/
noncomputable def Try.pinned : Pinned := { name := "ytbkgjallabgedaa", sum := "7b7c35d025f1174124887de96f036a15b20273d6407b1f2e58c14b2f13ae5a49", checked := Try.checked }
namespace Rows
def none {H : Type} : Left H := { results := [], args := [] }

/-- 'laws.FnExactCastOut': WHATEVER THE INPUT: true; the input reads as it did. -/
def fnExactCastOutSpec : ChangeSpec := { name := "fnExactCastOut", fn := fun _ => fun
  | [d1, d2] => { results := [.lit (.bool true)], args := [d1, d2] }
  | _ => none }
def fnExactCastOutRow : OpenClaim := { program := "ytbkgjallabgedaa", sum := "7b7c35d025f1174124887de96f036a15b20273d6407b1f2e58c14b2f13ae5a49", func := "loop.example/g03203/laws.FnExactCastOut", spec := "fnExactCastOut", apart := false }
def FnExactCastOutSaid : Prop := fnExactCastOutRow.holds Try.pinned (OpenSpec.ofChange fnExactCastOutSpec)

/-- ITS FALSE NEIGHBOUR: 'it returns false'. Refute it at one input. -/
def fnExactCastOutWrong : ChangeSpec := { name := "fnExactCastOut", fn := fun _ => fun
  | [d1, d2] => { results := [.lit (.bool false)], args := [d1, d2] }
  | _ => none }
def FnExactCastOutWrongFalsely : Prop := fnExactCastOutRow.holds Try.pinned (OpenSpec.ofChange fnExactCastOutWrong)

/-- 'laws.FnExactTrimNumber': WHATEVER THE INPUT: true; the input reads as it did. -/
def fnExactTrimNumberSpec : ChangeSpec := { name := "fnExactTrimNumber", fn := fun _ => fun
  | [d1, d2, d3] => { results := [.lit (.bool true)], args := [d1, d2, d3] }
  | _ => none }
def fnExactTrimNumberRow : OpenClaim := { program := "ytbkgjallabgedaa", sum := "7b7c35d025f1174124887de96f036a15b20273d6407b1f2e58c14b2f13ae5a49", func := "loop.example/g03203/laws.FnExactTrimNumber", spec := "fnExactTrimNumber", apart := false }
def FnExactTrimNumberSaid : Prop := fnExactTrimNumberRow.holds Try.pinned (OpenSpec.ofChange fnExactTrimNumberSpec)

/-- ITS FALSE NEIGHBOUR: 'it returns false'. Refute it at one input. -/
def fnExactTrimNumberWrong : ChangeSpec := { name := "fnExactTrimNumber", fn := fun _ => fun
  | [d1, d2, d3] => { results := [.lit (.bool false)], args := [d1, d2, d3] }
  | _ => none }
def FnExactTrimNumberWrongFalsely : Prop := fnExactTrimNumberRow.holds Try.pinned (OpenSpec.ofChange fnExactTrimNumberWrong)

/-- 'laws.FnExactRepunit': WHATEVER THE INPUT: true; the input reads as it did. -/
def fnExactRepunitSpec : ChangeSpec := { name := "fnExactRepunit", fn := fun _ => fun
  | [d1, d2] => { results := [.lit (.bool true)], args := [d1, d2] }
  | _ => none }
def fnExactRepunitRow : OpenClaim := { program := "ytbkgjallabgedaa", sum := "7b7c35d025f1174124887de96f036a15b20273d6407b1f2e58c14b2f13ae5a49", func := "loop.example/g03203/laws.FnExactRepunit", spec := "fnExactRepunit", apart := false }
def FnExactRepunitSaid : Prop := fnExactRepunitRow.holds Try.pinned (OpenSpec.ofChange fnExactRepunitSpec)

/-- ITS FALSE NEIGHBOUR: 'it returns false'. Refute it at one input. -/
def fnExactRepunitWrong : ChangeSpec := { name := "fnExactRepunit", fn := fun _ => fun
  | [d1, d2] => { results := [.lit (.bool false)], args := [d1, d2] }
  | _ => none }
def FnExactRepunitWrongFalsely : Prop := fnExactRepunitRow.holds Try.pinned (OpenSpec.ofChange fnExactRepunitWrong)

/-- 'laws.FnExactSumUpTo': WHATEVER THE INPUT: true; the input reads as it did. -/
def fnExactSumUpToSpec : ChangeSpec := { name := "fnExactSumUpTo", fn := fun _ => fun
  | [d1, d2] => { results := [.lit (.bool true)], args := [d1, d2] }
  | _ => none }
def fnExactSumUpToRow : OpenClaim := { program := "ytbkgjallabgedaa", sum := "7b7c35d025f1174124887de96f036a15b20273d6407b1f2e58c14b2f13ae5a49", func := "loop.example/g03203/laws.FnExactSumUpTo", spec := "fnExactSumUpTo", apart := false }
def FnExactSumUpToSaid : Prop := fnExactSumUpToRow.holds Try.pinned (OpenSpec.ofChange fnExactSumUpToSpec)

/-- ITS FALSE NEIGHBOUR: 'it returns false'. Refute it at one input. -/
def fnExactSumUpToWrong : ChangeSpec := { name := "fnExactSumUpTo", fn := fun _ => fun
  | [d1, d2] => { results := [.lit (.bool false)], args := [d1, d2] }
  | _ => none }
def FnExactSumUpToWrongFalsely : Prop := fnExactSumUpToRow.holds Try.pinned (OpenSpec.ofChange fnExactSumUpToWrong)

/-- 'laws.FnExactBlockRule': WHATEVER THE INPUT: true; the input reads as it did. -/
def fnExactBlockRuleSpec : ChangeSpec := { name := "fnExactBlockRule", fn := fun _ => fun
  | [d1, d2] => { results := [.lit (.bool true)], args := [d1, d2] }
  | _ => none }
def fnExactBlockRuleRow : OpenClaim := { program := "ytbkgjallabgedaa", sum := "7b7c35d025f1174124887de96f036a15b20273d6407b1f2e58c14b2f13ae5a49", func := "loop.example/g03203/laws.FnExactBlockRule", spec := "fnExactBlockRule", apart := false }
def FnExactBlockRuleSaid : Prop := fnExactBlockRuleRow.holds Try.pinned (OpenSpec.ofChange fnExactBlockRuleSpec)

/-- ITS FALSE NEIGHBOUR: 'it returns false'. Refute it at one input. -/
def fnExactBlockRuleWrong : ChangeSpec := { name := "fnExactBlockRule", fn := fun _ => fun
  | [d1, d2] => { results := [.lit (.bool false)], args := [d1, d2] }
  | _ => none }
def FnExactBlockRuleWrongFalsely : Prop := fnExactBlockRuleRow.holds Try.pinned (OpenSpec.ofChange fnExactBlockRuleWrong)

/-- 'laws.FnExactLeastRepunit': WHATEVER THE INPUT: true; the input reads as it did. -/
def fnExactLeastRepunitSpec : ChangeSpec := { name := "fnExactLeastRepunit", fn := fun _ => fun
  | [d1, d2] => { results := [.lit (.bool true)], args := [d1, d2] }
  | _ => none }
def fnExactLeastRepunitRow : OpenClaim := { program := "ytbkgjallabgedaa", sum := "7b7c35d025f1174124887de96f036a15b20273d6407b1f2e58c14b2f13ae5a49", func := "loop.example/g03203/laws.FnExactLeastRepunit", spec := "fnExactLeastRepunit", apart := false }
def FnExactLeastRepunitSaid : Prop := fnExactLeastRepunitRow.holds Try.pinned (OpenSpec.ofChange fnExactLeastRepunitSpec)

/-- ITS FALSE NEIGHBOUR: 'it returns false'. Refute it at one input. -/
def fnExactLeastRepunitWrong : ChangeSpec := { name := "fnExactLeastRepunit", fn := fun _ => fun
  | [d1, d2] => { results := [.lit (.bool false)], args := [d1, d2] }
  | _ => none }
def FnExactLeastRepunitWrongFalsely : Prop := fnExactLeastRepunitRow.holds Try.pinned (OpenSpec.ofChange fnExactLeastRepunitWrong)

/-- 'laws.FnExactCountCarries': WHATEVER THE INPUT: true; the input reads as it did. -/
def fnExactCountCarriesSpec : ChangeSpec := { name := "fnExactCountCarries", fn := fun _ => fun
  | [d1, d2, d3] => { results := [.lit (.bool true)], args := [d1, d2, d3] }
  | _ => none }
def fnExactCountCarriesRow : OpenClaim := { program := "ytbkgjallabgedaa", sum := "7b7c35d025f1174124887de96f036a15b20273d6407b1f2e58c14b2f13ae5a49", func := "loop.example/g03203/laws.FnExactCountCarries", spec := "fnExactCountCarries", apart := false }
def FnExactCountCarriesSaid : Prop := fnExactCountCarriesRow.holds Try.pinned (OpenSpec.ofChange fnExactCountCarriesSpec)

/-- ITS FALSE NEIGHBOUR: 'it returns false'. Refute it at one input. -/
def fnExactCountCarriesWrong : ChangeSpec := { name := "fnExactCountCarries", fn := fun _ => fun
  | [d1, d2, d3] => { results := [.lit (.bool false)], args := [d1, d2, d3] }
  | _ => none }
def FnExactCountCarriesWrongFalsely : Prop := fnExactCountCarriesRow.holds Try.pinned (OpenSpec.ofChange fnExactCountCarriesWrong)

/-- 'laws.FnExactCountPalindromes': WHATEVER THE INPUT: true; the input reads as it did. -/
def fnExactCountPalindromesSpec : ChangeSpec := { name := "fnExactCountPalindromes", fn := fun _ => fun
  | [d1, d2] => { results := [.lit (.bool true)], args := [d1, d2] }
  | _ => none }
def fnExactCountPalindromesRow : OpenClaim := { program := "ytbkgjallabgedaa", sum := "7b7c35d025f1174124887de96f036a15b20273d6407b1f2e58c14b2f13ae5a49", func := "loop.example/g03203/laws.FnExactCountPalindromes", spec := "fnExactCountPalindromes", apart := false }
def FnExactCountPalindromesSaid : Prop := fnExactCountPalindromesRow.holds Try.pinned (OpenSpec.ofChange fnExactCountPalindromesSpec)

/-- ITS FALSE NEIGHBOUR: 'it returns false'. Refute it at one input. -/
def fnExactCountPalindromesWrong : ChangeSpec := { name := "fnExactCountPalindromes", fn := fun _ => fun
  | [d1, d2] => { results := [.lit (.bool false)], args := [d1, d2] }
  | _ => none }
def FnExactCountPalindromesWrongFalsely : Prop := fnExactCountPalindromesRow.holds Try.pinned (OpenSpec.ofChange fnExactCountPalindromesWrong)

/-- 'laws.FnExactAlternateSum': WHATEVER THE INPUT: true; the input reads as it did. -/
def fnExactAlternateSumSpec : ChangeSpec := { name := "fnExactAlternateSum", fn := fun _ => fun
  | [d1, d2] => { results := [.lit (.bool true)], args := [d1, d2] }
  | _ => none }
def fnExactAlternateSumRow : OpenClaim := { program := "ytbkgjallabgedaa", sum := "7b7c35d025f1174124887de96f036a15b20273d6407b1f2e58c14b2f13ae5a49", func := "loop.example/g03203/laws.FnExactAlternateSum", spec := "fnExactAlternateSum", apart := false }
def FnExactAlternateSumSaid : Prop := fnExactAlternateSumRow.holds Try.pinned (OpenSpec.ofChange fnExactAlternateSumSpec)

/-- ITS FALSE NEIGHBOUR: 'it returns false'. Refute it at one input. -/
def fnExactAlternateSumWrong : ChangeSpec := { name := "fnExactAlternateSum", fn := fun _ => fun
  | [d1, d2] => { results := [.lit (.bool false)], args := [d1, d2] }
  | _ => none }
def FnExactAlternateSumWrongFalsely : Prop := fnExactAlternateSumRow.holds Try.pinned (OpenSpec.ofChange fnExactAlternateSumWrong)

/-- 'laws.FnExactTrimFactor': WHATEVER THE INPUT: true; the input reads as it did. -/
def fnExactTrimFactorSpec : ChangeSpec := { name := "fnExactTrimFactor", fn := fun _ => fun
  | [d1, d2] => { results := [.lit (.bool true)], args := [d1, d2] }
  | _ => none }
def fnExactTrimFactorRow : OpenClaim := { program := "ytbkgjallabgedaa", sum := "7b7c35d025f1174124887de96f036a15b20273d6407b1f2e58c14b2f13ae5a49", func := "loop.example/g03203/laws.FnExactTrimFactor", spec := "fnExactTrimFactor", apart := false }
def FnExactTrimFactorSaid : Prop := fnExactTrimFactorRow.holds Try.pinned (OpenSpec.ofChange fnExactTrimFactorSpec)

/-- ITS FALSE NEIGHBOUR: 'it returns false'. Refute it at one input. -/
def fnExactTrimFactorWrong : ChangeSpec := { name := "fnExactTrimFactor", fn := fun _ => fun
  | [d1, d2] => { results := [.lit (.bool false)], args := [d1, d2] }
  | _ => none }
def FnExactTrimFactorWrongFalsely : Prop := fnExactTrimFactorRow.holds Try.pinned (OpenSpec.ofChange fnExactTrimFactorWrong)

/-- 'laws.FnExactRotateNumber': WHATEVER THE INPUT: true; the input reads as it did. -/
def fnExactRotateNumberSpec : ChangeSpec := { name := "fnExactRotateNumber", fn := fun _ => fun
  | [d1, d2, d3] => { results := [.lit (.bool true)], args := [d1, d2, d3] }
  | _ => none }
def fnExactRotateNumberRow : OpenClaim := { program := "ytbkgjallabgedaa", sum := "7b7c35d025f1174124887de96f036a15b20273d6407b1f2e58c14b2f13ae5a49", func := "loop.example/g03203/laws.FnExactRotateNumber", spec := "fnExactRotateNumber", apart := false }
def FnExactRotateNumberSaid : Prop := fnExactRotateNumberRow.holds Try.pinned (OpenSpec.ofChange fnExactRotateNumberSpec)

/-- ITS FALSE NEIGHBOUR: 'it returns false'. Refute it at one input. -/
def fnExactRotateNumberWrong : ChangeSpec := { name := "fnExactRotateNumber", fn := fun _ => fun
  | [d1, d2, d3] => { results := [.lit (.bool false)], args := [d1, d2, d3] }
  | _ => none }
def FnExactRotateNumberWrongFalsely : Prop := fnExactRotateNumberRow.holds Try.pinned (OpenSpec.ofChange fnExactRotateNumberWrong)

/-- 'laws.FnExactBinomialPower': WHATEVER THE INPUT: true; the input reads as it did. -/
def fnExactBinomialPowerSpec : ChangeSpec := { name := "fnExactBinomialPower", fn := fun _ => fun
  | [d1, d2, d3] => { results := [.lit (.bool true)], args := [d1, d2, d3] }
  | _ => none }
def fnExactBinomialPowerRow : OpenClaim := { program := "ytbkgjallabgedaa", sum := "7b7c35d025f1174124887de96f036a15b20273d6407b1f2e58c14b2f13ae5a49", func := "loop.example/g03203/laws.FnExactBinomialPower", spec := "fnExactBinomialPower", apart := false }
def FnExactBinomialPowerSaid : Prop := fnExactBinomialPowerRow.holds Try.pinned (OpenSpec.ofChange fnExactBinomialPowerSpec)

/-- ITS FALSE NEIGHBOUR: 'it returns false'. Refute it at one input. -/
def fnExactBinomialPowerWrong : ChangeSpec := { name := "fnExactBinomialPower", fn := fun _ => fun
  | [d1, d2, d3] => { results := [.lit (.bool false)], args := [d1, d2, d3] }
  | _ => none }
def FnExactBinomialPowerWrongFalsely : Prop := fnExactBinomialPowerRow.holds Try.pinned (OpenSpec.ofChange fnExactBinomialPowerWrong)

/- THE SECOND FORM. 'bulk': how many values and letters a reading holds, each counted each time it is reached (what is shared counts as often as it is met; a slice's spare places count too). A statement '..UptoSaid' is the law's where the arguments, and the package variables that the reading takes, are together of bulk at most 1048576: NARROWER than '..Said'. Prove '..Said' where nothing that the law and all that it calls make is longer than what came in: it says more and counts as full. Else prove '..UptoSaid'. A law counts once. -/
mutual
def uptoBulk {H : Type} : DataW H → Nat
  | .lit (.string bytes) => bytes.length + 1
  | .lit _ => 1
  | .nil => 1
  | .ptr d => uptoBulk d + 1
  | .slice elems spare => uptoBulkAll elems + uptoBulkAll spare + 1
  | .agg parts => uptoBulkAll parts + 1
  | .iface _ d => uptoBulk d + 1
  | .map entries => uptoBulkEntries entries + 1
  | .held _ => 1
def uptoBulkAll {H : Type} : List (DataW H) → Nat
  | [] => 0
  | d :: r => uptoBulk d + uptoBulkAll r
def uptoBulkEntries {H : Type} : List (Lit × DataW H) → Nat
  | [] => 0
  | x :: r => uptoBulkEntry x + uptoBulkEntries r
def uptoBulkEntry {H : Type} : Lit × DataW H → Nat
  | (.string bytes, d) => bytes.length + uptoBulk d + 1
  | (_, d) => uptoBulk d + 1
 end
def uptoSmall : (H : Type) → List (DataW H) → Bool := fun _ ds => decide (uptoBulkAll ds ≤ 1048576)
def OpenSpec.upto (s : _root_.Go.ChangeSpec) : _root_.Go.OpenSpec := { _root_.Go.OpenSpec.ofChange s with cond := some uptoSmall }

/-- 'laws.FnExactCastOut', WHERE WHAT IT READS IS OF BULK AT MOST 1048576: true; the input reads as it did. -/
def fnExactCastOutUptoRow : OpenClaim := { program := "ytbkgjallabgedaa", sum := "7b7c35d025f1174124887de96f036a15b20273d6407b1f2e58c14b2f13ae5a49", func := "loop.example/g03203/laws.FnExactCastOut", spec := "fnExactCastOut", apart := false, narrowed := true }
def FnExactCastOutUptoSaid : Prop := fnExactCastOutUptoRow.holds Try.pinned (OpenSpec.upto fnExactCastOutSpec)

/-- 'laws.FnExactTrimNumber', WHERE WHAT IT READS IS OF BULK AT MOST 1048576: true; the input reads as it did. -/
def fnExactTrimNumberUptoRow : OpenClaim := { program := "ytbkgjallabgedaa", sum := "7b7c35d025f1174124887de96f036a15b20273d6407b1f2e58c14b2f13ae5a49", func := "loop.example/g03203/laws.FnExactTrimNumber", spec := "fnExactTrimNumber", apart := false, narrowed := true }
def FnExactTrimNumberUptoSaid : Prop := fnExactTrimNumberUptoRow.holds Try.pinned (OpenSpec.upto fnExactTrimNumberSpec)

/-- 'laws.FnExactRepunit', WHERE WHAT IT READS IS OF BULK AT MOST 1048576: true; the input reads as it did. -/
def fnExactRepunitUptoRow : OpenClaim := { program := "ytbkgjallabgedaa", sum := "7b7c35d025f1174124887de96f036a15b20273d6407b1f2e58c14b2f13ae5a49", func := "loop.example/g03203/laws.FnExactRepunit", spec := "fnExactRepunit", apart := false, narrowed := true }
def FnExactRepunitUptoSaid : Prop := fnExactRepunitUptoRow.holds Try.pinned (OpenSpec.upto fnExactRepunitSpec)

/-- 'laws.FnExactSumUpTo', WHERE WHAT IT READS IS OF BULK AT MOST 1048576: true; the input reads as it did. -/
def fnExactSumUpToUptoRow : OpenClaim := { program := "ytbkgjallabgedaa", sum := "7b7c35d025f1174124887de96f036a15b20273d6407b1f2e58c14b2f13ae5a49", func := "loop.example/g03203/laws.FnExactSumUpTo", spec := "fnExactSumUpTo", apart := false, narrowed := true }
def FnExactSumUpToUptoSaid : Prop := fnExactSumUpToUptoRow.holds Try.pinned (OpenSpec.upto fnExactSumUpToSpec)

/-- 'laws.FnExactBlockRule', WHERE WHAT IT READS IS OF BULK AT MOST 1048576: true; the input reads as it did. -/
def fnExactBlockRuleUptoRow : OpenClaim := { program := "ytbkgjallabgedaa", sum := "7b7c35d025f1174124887de96f036a15b20273d6407b1f2e58c14b2f13ae5a49", func := "loop.example/g03203/laws.FnExactBlockRule", spec := "fnExactBlockRule", apart := false, narrowed := true }
def FnExactBlockRuleUptoSaid : Prop := fnExactBlockRuleUptoRow.holds Try.pinned (OpenSpec.upto fnExactBlockRuleSpec)

/-- 'laws.FnExactLeastRepunit', WHERE WHAT IT READS IS OF BULK AT MOST 1048576: true; the input reads as it did. -/
def fnExactLeastRepunitUptoRow : OpenClaim := { program := "ytbkgjallabgedaa", sum := "7b7c35d025f1174124887de96f036a15b20273d6407b1f2e58c14b2f13ae5a49", func := "loop.example/g03203/laws.FnExactLeastRepunit", spec := "fnExactLeastRepunit", apart := false, narrowed := true }
def FnExactLeastRepunitUptoSaid : Prop := fnExactLeastRepunitUptoRow.holds Try.pinned (OpenSpec.upto fnExactLeastRepunitSpec)

/-- 'laws.FnExactCountCarries', WHERE WHAT IT READS IS OF BULK AT MOST 1048576: true; the input reads as it did. -/
def fnExactCountCarriesUptoRow : OpenClaim := { program := "ytbkgjallabgedaa", sum := "7b7c35d025f1174124887de96f036a15b20273d6407b1f2e58c14b2f13ae5a49", func := "loop.example/g03203/laws.FnExactCountCarries", spec := "fnExactCountCarries", apart := false, narrowed := true }
def FnExactCountCarriesUptoSaid : Prop := fnExactCountCarriesUptoRow.holds Try.pinned (OpenSpec.upto fnExactCountCarriesSpec)

/-- 'laws.FnExactCountPalindromes', WHERE WHAT IT READS IS OF BULK AT MOST 1048576: true; the input reads as it did. -/
def fnExactCountPalindromesUptoRow : OpenClaim := { program := "ytbkgjallabgedaa", sum := "7b7c35d025f1174124887de96f036a15b20273d6407b1f2e58c14b2f13ae5a49", func := "loop.example/g03203/laws.FnExactCountPalindromes", spec := "fnExactCountPalindromes", apart := false, narrowed := true }
def FnExactCountPalindromesUptoSaid : Prop := fnExactCountPalindromesUptoRow.holds Try.pinned (OpenSpec.upto fnExactCountPalindromesSpec)

/-- 'laws.FnExactAlternateSum', WHERE WHAT IT READS IS OF BULK AT MOST 1048576: true; the input reads as it did. -/
def fnExactAlternateSumUptoRow : OpenClaim := { program := "ytbkgjallabgedaa", sum := "7b7c35d025f1174124887de96f036a15b20273d6407b1f2e58c14b2f13ae5a49", func := "loop.example/g03203/laws.FnExactAlternateSum", spec := "fnExactAlternateSum", apart := false, narrowed := true }
def FnExactAlternateSumUptoSaid : Prop := fnExactAlternateSumUptoRow.holds Try.pinned (OpenSpec.upto fnExactAlternateSumSpec)

/-- 'laws.FnExactTrimFactor', WHERE WHAT IT READS IS OF BULK AT MOST 1048576: true; the input reads as it did. -/
def fnExactTrimFactorUptoRow : OpenClaim := { program := "ytbkgjallabgedaa", sum := "7b7c35d025f1174124887de96f036a15b20273d6407b1f2e58c14b2f13ae5a49", func := "loop.example/g03203/laws.FnExactTrimFactor", spec := "fnExactTrimFactor", apart := false, narrowed := true }
def FnExactTrimFactorUptoSaid : Prop := fnExactTrimFactorUptoRow.holds Try.pinned (OpenSpec.upto fnExactTrimFactorSpec)

/-- 'laws.FnExactRotateNumber', WHERE WHAT IT READS IS OF BULK AT MOST 1048576: true; the input reads as it did. -/
def fnExactRotateNumberUptoRow : OpenClaim := { program := "ytbkgjallabgedaa", sum := "7b7c35d025f1174124887de96f036a15b20273d6407b1f2e58c14b2f13ae5a49", func := "loop.example/g03203/laws.FnExactRotateNumber", spec := "fnExactRotateNumber", apart := false, narrowed := true }
def FnExactRotateNumberUptoSaid : Prop := fnExactRotateNumberUptoRow.holds Try.pinned (OpenSpec.upto fnExactRotateNumberSpec)

/-- 'laws.FnExactBinomialPower', WHERE WHAT IT READS IS OF BULK AT MOST 1048576: true; the input reads as it did. -/
def fnExactBinomialPowerUptoRow : OpenClaim := { program := "ytbkgjallabgedaa", sum := "7b7c35d025f1174124887de96f036a15b20273d6407b1f2e58c14b2f13ae5a49", func := "loop.example/g03203/laws.FnExactBinomialPower", spec := "fnExactBinomialPower", apart := false, narrowed := true }
def FnExactBinomialPowerUptoSaid : Prop := fnExactBinomialPowerUptoRow.holds Try.pinned (OpenSpec.upto fnExactBinomialPowerSpec)

end Rows
end Go.Proofs.Ytbkgjallabgedaa
