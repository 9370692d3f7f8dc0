/-
  No cell of these rows narrows 'for every input' (looked for: loops, veiled, ifaces, maps, wideKeys, modest, calm, conditions, laid).
  DERIVED. THE GIVEN ROWS OF THIS SEAT. 12 by the template 'for every input the law returns true; each argument reads behind the call as it read before'; 0 by the template 'total and deterministic' (their statements: YtoefgmmmcpikfaaTotals.lean).
  GIVEN WITH THE SEED: the statements are not yours to turn. If you find one false, say at which input.
  Laid BY PROGRAM, IN A SANDBOX (cutbox-rows.mjs): the forced cells as the released guide's own fill.sh prints them over the translation 81332ef719127e31… (all of the seat's roots in one cut). By AI agents, Wed Nov 11 2026. No macro, syntax, notation, axiom, sorry.
-/
import Derived.Test.YtoefgmmmcpikfaaChecked
import GoSem.Claim
import GoSem.ClaimJoined
import GoSem.ClaimMapViews
import Derived.JoinedTies
import Derived.KernelRfl
namespace Go.Proofs.Ytoefgmmmcpikfaa
/- THE CELL 'sum', in the pinned program and in every row, IS THE sha256 OF THE DUMP (.gsa) THAT YtoefgmmmcpikfaaProg.lean LOADS. Nothing in Lean hashes anything: it is a label: what it is worth is what the hold of that sum in a sandbox is worth. -/
noncomputable def Try.pinned : Pinned := { name := "ytoefgmmmcpikfaa", sum := "81332ef719127e31b5bd42b69ccdf22d74e28d02471407b51d6c1999fdd20d45", checked := Try.checked }
namespace Rows
def none {H : Type} : Left H := { results := [], args := [] }

/-- 'laws.FnExactExcessOf': WHATEVER THE INPUT: true; the input reads as it did. -/
def fnExactExcessOfSpec : ChangeSpec := { name := "fnExactExcessOf", fn := fun _ => fun
  | [d1, d2, d3] => { results := [.lit (.bool true)], args := [d1, d2, d3] }
  | _ => none }
def fnExactExcessOfRow : OpenClaim := { program := "ytoefgmmmcpikfaa", sum := "81332ef719127e31b5bd42b69ccdf22d74e28d02471407b51d6c1999fdd20d45", func := "loop.example/g00520/laws.FnExactExcessOf", spec := "fnExactExcessOf", unfollowed := true, recurses := true, apart := false }
def FnExactExcessOfSaid : Prop := fnExactExcessOfRow.holds Try.pinned (OpenSpec.ofChange fnExactExcessOfSpec)

/-- ITS FALSE NEIGHBOUR: 'it returns false'. Refute it at one input. -/
def fnExactExcessOfWrong : ChangeSpec := { name := "fnExactExcessOf", fn := fun _ => fun
  | [d1, d2, d3] => { results := [.lit (.bool false)], args := [d1, d2, d3] }
  | _ => none }
def FnExactExcessOfWrongFalsely : Prop := fnExactExcessOfRow.holds Try.pinned (OpenSpec.ofChange fnExactExcessOfWrong)

/-- 'laws.FnExactIsPayoff': WHATEVER THE INPUT: true; the input reads as it did. -/
def fnExactIsPayoffSpec : ChangeSpec := { name := "fnExactIsPayoff", fn := fun _ => fun
  | [d1, d2] => { results := [.lit (.bool true)], args := [d1, d2] }
  | _ => none }
def fnExactIsPayoffRow : OpenClaim := { program := "ytoefgmmmcpikfaa", sum := "81332ef719127e31b5bd42b69ccdf22d74e28d02471407b51d6c1999fdd20d45", func := "loop.example/g00520/laws.FnExactIsPayoff", spec := "fnExactIsPayoff", unfollowed := true, recurses := true, apart := false }
def FnExactIsPayoffSaid : Prop := fnExactIsPayoffRow.holds Try.pinned (OpenSpec.ofChange fnExactIsPayoffSpec)

/-- ITS FALSE NEIGHBOUR: 'it returns false'. Refute it at one input. -/
def fnExactIsPayoffWrong : ChangeSpec := { name := "fnExactIsPayoff", fn := fun _ => fun
  | [d1, d2] => { results := [.lit (.bool false)], args := [d1, d2] }
  | _ => none }
def FnExactIsPayoffWrongFalsely : Prop := fnExactIsPayoffRow.holds Try.pinned (OpenSpec.ofChange fnExactIsPayoffWrong)

/-- 'laws.FnExactPotentialOf': WHATEVER THE INPUT: true; the input reads as it did. -/
def fnExactPotentialOfSpec : ChangeSpec := { name := "fnExactPotentialOf", fn := fun _ => fun
  | [d] => { results := [.lit (.bool true)], args := [d] }
  | _ => none }
def fnExactPotentialOfRow : OpenClaim := { program := "ytoefgmmmcpikfaa", sum := "81332ef719127e31b5bd42b69ccdf22d74e28d02471407b51d6c1999fdd20d45", func := "loop.example/g00520/laws.FnExactPotentialOf", spec := "fnExactPotentialOf", unfollowed := true, recurses := true, apart := false }
def FnExactPotentialOfSaid : Prop := fnExactPotentialOfRow.holds Try.pinned (OpenSpec.ofChange fnExactPotentialOfSpec)

/-- ITS FALSE NEIGHBOUR: 'it returns false'. Refute it at one input. -/
def fnExactPotentialOfWrong : ChangeSpec := { name := "fnExactPotentialOf", fn := fun _ => fun
  | [d] => { results := [.lit (.bool false)], args := [d] }
  | _ => none }
def FnExactPotentialOfWrongFalsely : Prop := fnExactPotentialOfRow.holds Try.pinned (OpenSpec.ofChange fnExactPotentialOfWrong)

/-- 'laws.FnExactShapleyValue': WHATEVER THE INPUT: true; the input reads as it did. -/
def fnExactShapleyValueSpec : ChangeSpec := { name := "fnExactShapleyValue", fn := fun _ => fun
  | [d] => { results := [.lit (.bool true)], args := [d] }
  | _ => none }
def fnExactShapleyValueRow : OpenClaim := { program := "ytoefgmmmcpikfaa", sum := "81332ef719127e31b5bd42b69ccdf22d74e28d02471407b51d6c1999fdd20d45", func := "loop.example/g00520/laws.FnExactShapleyValue", spec := "fnExactShapleyValue", unfollowed := true, recurses := true, apart := false }
def FnExactShapleyValueSaid : Prop := fnExactShapleyValueRow.holds Try.pinned (OpenSpec.ofChange fnExactShapleyValueSpec)

/-- ITS FALSE NEIGHBOUR: 'it returns false'. Refute it at one input. -/
def fnExactShapleyValueWrong : ChangeSpec := { name := "fnExactShapleyValue", fn := fun _ => fun
  | [d] => { results := [.lit (.bool false)], args := [d] }
  | _ => none }
def FnExactShapleyValueWrongFalsely : Prop := fnExactShapleyValueRow.holds Try.pinned (OpenSpec.ofChange fnExactShapleyValueWrong)

/-- 'laws.FnExactLeavingRow': WHATEVER THE INPUT: true; the input reads as it did. -/
def fnExactLeavingRowSpec : ChangeSpec := { name := "fnExactLeavingRow", fn := fun _ => fun
  | [d1, d2] => { results := [.lit (.bool true)], args := [d1, d2] }
  | _ => none }
def fnExactLeavingRowRow : OpenClaim := { program := "ytoefgmmmcpikfaa", sum := "81332ef719127e31b5bd42b69ccdf22d74e28d02471407b51d6c1999fdd20d45", func := "loop.example/g00520/laws.FnExactLeavingRow", spec := "fnExactLeavingRow", unfollowed := true, recurses := true, apart := false }
def FnExactLeavingRowSaid : Prop := fnExactLeavingRowRow.holds Try.pinned (OpenSpec.ofChange fnExactLeavingRowSpec)

/-- ITS FALSE NEIGHBOUR: 'it returns false'. Refute it at one input. -/
def fnExactLeavingRowWrong : ChangeSpec := { name := "fnExactLeavingRow", fn := fun _ => fun
  | [d1, d2] => { results := [.lit (.bool false)], args := [d1, d2] }
  | _ => none }
def FnExactLeavingRowWrongFalsely : Prop := fnExactLeavingRowRow.holds Try.pinned (OpenSpec.ofChange fnExactLeavingRowWrong)

/-- 'laws.FnExactLeastLP': WHATEVER THE INPUT: true; the input reads as it did. -/
def fnExactLeastLPSpec : ChangeSpec := { name := "fnExactLeastLP", fn := fun _ => fun
  | [d] => { results := [.lit (.bool true)], args := [d] }
  | _ => none }
def fnExactLeastLPRow : OpenClaim := { program := "ytoefgmmmcpikfaa", sum := "81332ef719127e31b5bd42b69ccdf22d74e28d02471407b51d6c1999fdd20d45", func := "loop.example/g00520/laws.FnExactLeastLP", spec := "fnExactLeastLP", unfollowed := true, recurses := true, apart := false }
def FnExactLeastLPSaid : Prop := fnExactLeastLPRow.holds Try.pinned (OpenSpec.ofChange fnExactLeastLPSpec)

/-- ITS FALSE NEIGHBOUR: 'it returns false'. Refute it at one input. -/
def fnExactLeastLPWrong : ChangeSpec := { name := "fnExactLeastLP", fn := fun _ => fun
  | [d] => { results := [.lit (.bool false)], args := [d] }
  | _ => none }
def FnExactLeastLPWrongFalsely : Prop := fnExactLeastLPRow.holds Try.pinned (OpenSpec.ofChange fnExactLeastLPWrong)

/-- 'laws.FnExactIsImputation': WHATEVER THE INPUT: true; the input reads as it did. -/
def fnExactIsImputationSpec : ChangeSpec := { name := "fnExactIsImputation", fn := fun _ => fun
  | [d1, d2] => { results := [.lit (.bool true)], args := [d1, d2] }
  | _ => none }
def fnExactIsImputationRow : OpenClaim := { program := "ytoefgmmmcpikfaa", sum := "81332ef719127e31b5bd42b69ccdf22d74e28d02471407b51d6c1999fdd20d45", func := "loop.example/g00520/laws.FnExactIsImputation", spec := "fnExactIsImputation", unfollowed := true, recurses := true, apart := false }
def FnExactIsImputationSaid : Prop := fnExactIsImputationRow.holds Try.pinned (OpenSpec.ofChange fnExactIsImputationSpec)

/-- ITS FALSE NEIGHBOUR: 'it returns false'. Refute it at one input. -/
def fnExactIsImputationWrong : ChangeSpec := { name := "fnExactIsImputation", fn := fun _ => fun
  | [d1, d2] => { results := [.lit (.bool false)], args := [d1, d2] }
  | _ => none }
def FnExactIsImputationWrongFalsely : Prop := fnExactIsImputationRow.holds Try.pinned (OpenSpec.ofChange fnExactIsImputationWrong)

/-- 'laws.FnExactInCore': WHATEVER THE INPUT: true; the input reads as it did. -/
def fnExactInCoreSpec : ChangeSpec := { name := "fnExactInCore", fn := fun _ => fun
  | [d1, d2] => { results := [.lit (.bool true)], args := [d1, d2] }
  | _ => none }
def fnExactInCoreRow : OpenClaim := { program := "ytoefgmmmcpikfaa", sum := "81332ef719127e31b5bd42b69ccdf22d74e28d02471407b51d6c1999fdd20d45", func := "loop.example/g00520/laws.FnExactInCore", spec := "fnExactInCore", unfollowed := true, recurses := true, apart := false }
def FnExactInCoreSaid : Prop := fnExactInCoreRow.holds Try.pinned (OpenSpec.ofChange fnExactInCoreSpec)

/-- ITS FALSE NEIGHBOUR: 'it returns false'. Refute it at one input. -/
def fnExactInCoreWrong : ChangeSpec := { name := "fnExactInCore", fn := fun _ => fun
  | [d1, d2] => { results := [.lit (.bool false)], args := [d1, d2] }
  | _ => none }
def FnExactInCoreWrongFalsely : Prop := fnExactInCoreRow.holds Try.pinned (OpenSpec.ofChange fnExactInCoreWrong)

/-- 'laws.FnExactWorstExcess': WHATEVER THE INPUT: true; the input reads as it did. -/
def fnExactWorstExcessSpec : ChangeSpec := { name := "fnExactWorstExcess", fn := fun _ => fun
  | [d1, d2] => { results := [.lit (.bool true)], args := [d1, d2] }
  | _ => none }
def fnExactWorstExcessRow : OpenClaim := { program := "ytoefgmmmcpikfaa", sum := "81332ef719127e31b5bd42b69ccdf22d74e28d02471407b51d6c1999fdd20d45", func := "loop.example/g00520/laws.FnExactWorstExcess", spec := "fnExactWorstExcess", unfollowed := true, recurses := true, apart := false }
def FnExactWorstExcessSaid : Prop := fnExactWorstExcessRow.holds Try.pinned (OpenSpec.ofChange fnExactWorstExcessSpec)

/-- ITS FALSE NEIGHBOUR: 'it returns false'. Refute it at one input. -/
def fnExactWorstExcessWrong : ChangeSpec := { name := "fnExactWorstExcess", fn := fun _ => fun
  | [d1, d2] => { results := [.lit (.bool false)], args := [d1, d2] }
  | _ => none }
def FnExactWorstExcessWrongFalsely : Prop := fnExactWorstExcessRow.holds Try.pinned (OpenSpec.ofChange fnExactWorstExcessWrong)

/-- 'laws.FnExactCheckCore': WHATEVER THE INPUT: true; the input reads as it did. -/
def fnExactCheckCoreSpec : ChangeSpec := { name := "fnExactCheckCore", fn := fun _ => fun
  | [d1, d2] => { results := [.lit (.bool true)], args := [d1, d2] }
  | _ => none }
def fnExactCheckCoreRow : OpenClaim := { program := "ytoefgmmmcpikfaa", sum := "81332ef719127e31b5bd42b69ccdf22d74e28d02471407b51d6c1999fdd20d45", func := "loop.example/g00520/laws.FnExactCheckCore", spec := "fnExactCheckCore", unfollowed := true, recurses := true, apart := false }
def FnExactCheckCoreSaid : Prop := fnExactCheckCoreRow.holds Try.pinned (OpenSpec.ofChange fnExactCheckCoreSpec)

/-- ITS FALSE NEIGHBOUR: 'it returns false'. Refute it at one input. -/
def fnExactCheckCoreWrong : ChangeSpec := { name := "fnExactCheckCore", fn := fun _ => fun
  | [d1, d2] => { results := [.lit (.bool false)], args := [d1, d2] }
  | _ => none }
def FnExactCheckCoreWrongFalsely : Prop := fnExactCheckCoreRow.holds Try.pinned (OpenSpec.ofChange fnExactCheckCoreWrong)

/-- 'laws.FnExactCheckLeastCore': WHATEVER THE INPUT: true; the input reads as it did. -/
def fnExactCheckLeastCoreSpec : ChangeSpec := { name := "fnExactCheckLeastCore", fn := fun _ => fun
  | [d1, d2] => { results := [.lit (.bool true)], args := [d1, d2] }
  | _ => none }
def fnExactCheckLeastCoreRow : OpenClaim := { program := "ytoefgmmmcpikfaa", sum := "81332ef719127e31b5bd42b69ccdf22d74e28d02471407b51d6c1999fdd20d45", func := "loop.example/g00520/laws.FnExactCheckLeastCore", spec := "fnExactCheckLeastCore", unfollowed := true, recurses := true, apart := false }
def FnExactCheckLeastCoreSaid : Prop := fnExactCheckLeastCoreRow.holds Try.pinned (OpenSpec.ofChange fnExactCheckLeastCoreSpec)

/-- ITS FALSE NEIGHBOUR: 'it returns false'. Refute it at one input. -/
def fnExactCheckLeastCoreWrong : ChangeSpec := { name := "fnExactCheckLeastCore", fn := fun _ => fun
  | [d1, d2] => { results := [.lit (.bool false)], args := [d1, d2] }
  | _ => none }
def FnExactCheckLeastCoreWrongFalsely : Prop := fnExactCheckLeastCoreRow.holds Try.pinned (OpenSpec.ofChange fnExactCheckLeastCoreWrong)

/-- 'laws.FnExactExcessVector': WHATEVER THE INPUT: true; the input reads as it did. -/
def fnExactExcessVectorSpec : ChangeSpec := { name := "fnExactExcessVector", fn := fun _ => fun
  | [d1, d2] => { results := [.lit (.bool true)], args := [d1, d2] }
  | _ => none }
def fnExactExcessVectorRow : OpenClaim := { program := "ytoefgmmmcpikfaa", sum := "81332ef719127e31b5bd42b69ccdf22d74e28d02471407b51d6c1999fdd20d45", func := "loop.example/g00520/laws.FnExactExcessVector", spec := "fnExactExcessVector", unfollowed := true, recurses := true, apart := false }
def FnExactExcessVectorSaid : Prop := fnExactExcessVectorRow.holds Try.pinned (OpenSpec.ofChange fnExactExcessVectorSpec)

/-- ITS FALSE NEIGHBOUR: 'it returns false'. Refute it at one input. -/
def fnExactExcessVectorWrong : ChangeSpec := { name := "fnExactExcessVector", fn := fun _ => fun
  | [d1, d2] => { results := [.lit (.bool false)], args := [d1, d2] }
  | _ => none }
def FnExactExcessVectorWrongFalsely : Prop := fnExactExcessVectorRow.holds Try.pinned (OpenSpec.ofChange fnExactExcessVectorWrong)

/- THE SECOND FORM. 'bulk': how many values and letters a reading holds, each counted each time it is reached (what is shared counts as often as it is met; a slice's spare places count too). A statement '..UptoSaid' is the law's where the arguments, and the package variables that the reading takes, are together of bulk at most 1048576: NARROWER than '..Said'. Prove '..Said' where nothing that the law and all that it calls make is longer than what came in: it says more and counts as full. Else prove '..UptoSaid'. A law counts once. -/
mutual
def uptoBulk {H : Type} : DataW H → Nat
  | .lit (.string bytes) => bytes.length + 1
  | .lit _ => 1
  | .nil => 1
  | .ptr d => uptoBulk d + 1
  | .slice elems spare => uptoBulkAll elems + uptoBulkAll spare + 1
  | .agg parts => uptoBulkAll parts + 1
  | .iface _ d => uptoBulk d + 1
  | .map entries => uptoBulkEntries entries + 1
  | .held _ => 1
def uptoBulkAll {H : Type} : List (DataW H) → Nat
  | [] => 0
  | d :: r => uptoBulk d + uptoBulkAll r
def uptoBulkEntries {H : Type} : List (Lit × DataW H) → Nat
  | [] => 0
  | x :: r => uptoBulkEntry x + uptoBulkEntries r
def uptoBulkEntry {H : Type} : Lit × DataW H → Nat
  | (.string bytes, d) => bytes.length + uptoBulk d + 1
  | (_, d) => uptoBulk d + 1
 end
def uptoSmall : (H : Type) → List (DataW H) → Bool := fun _ ds => decide (uptoBulkAll ds ≤ 1048576)
def OpenSpec.upto (s : _root_.Go.ChangeSpec) : _root_.Go.OpenSpec := { _root_.Go.OpenSpec.ofChange s with cond := some uptoSmall }

/-- 'laws.FnExactExcessOf', WHERE WHAT IT READS IS OF BULK AT MOST 1048576: true; the input reads as it did. -/
def fnExactExcessOfUptoRow : OpenClaim := { program := "ytoefgmmmcpikfaa", sum := "81332ef719127e31b5bd42b69ccdf22d74e28d02471407b51d6c1999fdd20d45", func := "loop.example/g00520/laws.FnExactExcessOf", spec := "fnExactExcessOf", unfollowed := true, recurses := true, apart := false, narrowed := true }
def FnExactExcessOfUptoSaid : Prop := fnExactExcessOfUptoRow.holds Try.pinned (OpenSpec.upto fnExactExcessOfSpec)

/-- 'laws.FnExactIsPayoff', WHERE WHAT IT READS IS OF BULK AT MOST 1048576: true; the input reads as it did. -/
def fnExactIsPayoffUptoRow : OpenClaim := { program := "ytoefgmmmcpikfaa", sum := "81332ef719127e31b5bd42b69ccdf22d74e28d02471407b51d6c1999fdd20d45", func := "loop.example/g00520/laws.FnExactIsPayoff", spec := "fnExactIsPayoff", unfollowed := true, recurses := true, apart := false, narrowed := true }
def FnExactIsPayoffUptoSaid : Prop := fnExactIsPayoffUptoRow.holds Try.pinned (OpenSpec.upto fnExactIsPayoffSpec)

/-- 'laws.FnExactPotentialOf', WHERE WHAT IT READS IS OF BULK AT MOST 1048576: true; the input reads as it did. -/
def fnExactPotentialOfUptoRow : OpenClaim := { program := "ytoefgmmmcpikfaa", sum := "81332ef719127e31b5bd42b69ccdf22d74e28d02471407b51d6c1999fdd20d45", func := "loop.example/g00520/laws.FnExactPotentialOf", spec := "fnExactPotentialOf", unfollowed := true, recurses := true, apart := false, narrowed := true }
def FnExactPotentialOfUptoSaid : Prop := fnExactPotentialOfUptoRow.holds Try.pinned (OpenSpec.upto fnExactPotentialOfSpec)

/-- 'laws.FnExactShapleyValue', WHERE WHAT IT READS IS OF BULK AT MOST 1048576: true; the input reads as it did. -/
def fnExactShapleyValueUptoRow : OpenClaim := { program := "ytoefgmmmcpikfaa", sum := "81332ef719127e31b5bd42b69ccdf22d74e28d02471407b51d6c1999fdd20d45", func := "loop.example/g00520/laws.FnExactShapleyValue", spec := "fnExactShapleyValue", unfollowed := true, recurses := true, apart := false, narrowed := true }
def FnExactShapleyValueUptoSaid : Prop := fnExactShapleyValueUptoRow.holds Try.pinned (OpenSpec.upto fnExactShapleyValueSpec)

/-- 'laws.FnExactLeavingRow', WHERE WHAT IT READS IS OF BULK AT MOST 1048576: true; the input reads as it did. -/
def fnExactLeavingRowUptoRow : OpenClaim := { program := "ytoefgmmmcpikfaa", sum := "81332ef719127e31b5bd42b69ccdf22d74e28d02471407b51d6c1999fdd20d45", func := "loop.example/g00520/laws.FnExactLeavingRow", spec := "fnExactLeavingRow", unfollowed := true, recurses := true, apart := false, narrowed := true }
def FnExactLeavingRowUptoSaid : Prop := fnExactLeavingRowUptoRow.holds Try.pinned (OpenSpec.upto fnExactLeavingRowSpec)

/-- 'laws.FnExactLeastLP', WHERE WHAT IT READS IS OF BULK AT MOST 1048576: true; the input reads as it did. -/
def fnExactLeastLPUptoRow : OpenClaim := { program := "ytoefgmmmcpikfaa", sum := "81332ef719127e31b5bd42b69ccdf22d74e28d02471407b51d6c1999fdd20d45", func := "loop.example/g00520/laws.FnExactLeastLP", spec := "fnExactLeastLP", unfollowed := true, recurses := true, apart := false, narrowed := true }
def FnExactLeastLPUptoSaid : Prop := fnExactLeastLPUptoRow.holds Try.pinned (OpenSpec.upto fnExactLeastLPSpec)

/-- 'laws.FnExactIsImputation', WHERE WHAT IT READS IS OF BULK AT MOST 1048576: true; the input reads as it did. -/
def fnExactIsImputationUptoRow : OpenClaim := { program := "ytoefgmmmcpikfaa", sum := "81332ef719127e31b5bd42b69ccdf22d74e28d02471407b51d6c1999fdd20d45", func := "loop.example/g00520/laws.FnExactIsImputation", spec := "fnExactIsImputation", unfollowed := true, recurses := true, apart := false, narrowed := true }
def FnExactIsImputationUptoSaid : Prop := fnExactIsImputationUptoRow.holds Try.pinned (OpenSpec.upto fnExactIsImputationSpec)

/-- 'laws.FnExactInCore', WHERE WHAT IT READS IS OF BULK AT MOST 1048576: true; the input reads as it did. -/
def fnExactInCoreUptoRow : OpenClaim := { program := "ytoefgmmmcpikfaa", sum := "81332ef719127e31b5bd42b69ccdf22d74e28d02471407b51d6c1999fdd20d45", func := "loop.example/g00520/laws.FnExactInCore", spec := "fnExactInCore", unfollowed := true, recurses := true, apart := false, narrowed := true }
def FnExactInCoreUptoSaid : Prop := fnExactInCoreUptoRow.holds Try.pinned (OpenSpec.upto fnExactInCoreSpec)

/-- 'laws.FnExactWorstExcess', WHERE WHAT IT READS IS OF BULK AT MOST 1048576: true; the input reads as it did. -/
def fnExactWorstExcessUptoRow : OpenClaim := { program := "ytoefgmmmcpikfaa", sum := "81332ef719127e31b5bd42b69ccdf22d74e28d02471407b51d6c1999fdd20d45", func := "loop.example/g00520/laws.FnExactWorstExcess", spec := "fnExactWorstExcess", unfollowed := true, recurses := true, apart := false, narrowed := true }
def FnExactWorstExcessUptoSaid : Prop := fnExactWorstExcessUptoRow.holds Try.pinned (OpenSpec.upto fnExactWorstExcessSpec)

/-- 'laws.FnExactCheckCore', WHERE WHAT IT READS IS OF BULK AT MOST 1048576: true; the input reads as it did. -/
def fnExactCheckCoreUptoRow : OpenClaim := { program := "ytoefgmmmcpikfaa", sum := "81332ef719127e31b5bd42b69ccdf22d74e28d02471407b51d6c1999fdd20d45", func := "loop.example/g00520/laws.FnExactCheckCore", spec := "fnExactCheckCore", unfollowed := true, recurses := true, apart := false, narrowed := true }
def FnExactCheckCoreUptoSaid : Prop := fnExactCheckCoreUptoRow.holds Try.pinned (OpenSpec.upto fnExactCheckCoreSpec)

/-- 'laws.FnExactCheckLeastCore', WHERE WHAT IT READS IS OF BULK AT MOST 1048576: true; the input reads as it did. -/
def fnExactCheckLeastCoreUptoRow : OpenClaim := { program := "ytoefgmmmcpikfaa", sum := "81332ef719127e31b5bd42b69ccdf22d74e28d02471407b51d6c1999fdd20d45", func := "loop.example/g00520/laws.FnExactCheckLeastCore", spec := "fnExactCheckLeastCore", unfollowed := true, recurses := true, apart := false, narrowed := true }
def FnExactCheckLeastCoreUptoSaid : Prop := fnExactCheckLeastCoreUptoRow.holds Try.pinned (OpenSpec.upto fnExactCheckLeastCoreSpec)

/-- 'laws.FnExactExcessVector', WHERE WHAT IT READS IS OF BULK AT MOST 1048576: true; the input reads as it did. -/
def fnExactExcessVectorUptoRow : OpenClaim := { program := "ytoefgmmmcpikfaa", sum := "81332ef719127e31b5bd42b69ccdf22d74e28d02471407b51d6c1999fdd20d45", func := "loop.example/g00520/laws.FnExactExcessVector", spec := "fnExactExcessVector", unfollowed := true, recurses := true, apart := false, narrowed := true }
def FnExactExcessVectorUptoSaid : Prop := fnExactExcessVectorUptoRow.holds Try.pinned (OpenSpec.upto fnExactExcessVectorSpec)

end Rows
end Go.Proofs.Ytoefgmmmcpikfaa
