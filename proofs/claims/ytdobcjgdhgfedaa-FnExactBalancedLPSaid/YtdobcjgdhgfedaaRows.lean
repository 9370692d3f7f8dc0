/-
  No cell of these rows narrows 'for every input' (looked for: loops, veiled, ifaces, maps, wideKeys, modest, calm, conditions, laid).
  DERIVED. THE GIVEN ROWS OF THIS SEAT. 12 by the template 'for every input the law returns true; each argument reads behind the call as it read before'; 0 by the template 'total and deterministic' (their statements: YtdobcjgdhgfedaaTotals.lean).
  GIVEN WITH THE SEED: the statements are not yours to turn. If you find one false, say at which input.
  Laid BY PROGRAM, IN A SANDBOX (cutbox-rows.mjs): the forced cells as the released guide's own fill.sh prints them over the translation 7e75194ede01382b… (all of the seat's roots in one cut). By AI agents, Wed Nov 11 2026. No macro, syntax, notation, axiom, sorry.
-/
import Derived.Test.YtdobcjgdhgfedaaChecked
import GoSem.Claim
import GoSem.ClaimJoined
import GoSem.ClaimMapViews
import Derived.JoinedTies
import Derived.KernelRfl
namespace Go.Proofs.Ytdobcjgdhgfedaa
/- THE CELL 'sum', in the pinned program and in every row, IS THE sha256 OF THE DUMP (.gsa) THAT YtdobcjgdhgfedaaProg.lean LOADS. Nothing in Lean hashes anything: it is a label: what it is worth is what the hold of that sum in a sandbox is worth. -/
noncomputable def Try.pinned : Pinned := { name := "ytdobcjgdhgfedaa", sum := "7e75194ede01382b604b0eca40cf25bdf0cb42c744030a3ab0d8dd6f5c7db9d6", checked := Try.checked }
namespace Rows
def none {H : Type} : Left H := { results := [], args := [] }

/-- 'laws.FnExactConvexFault': WHATEVER THE INPUT: true; the input reads as it did. -/
def fnExactConvexFaultSpec : ChangeSpec := { name := "fnExactConvexFault", fn := fun _ => fun
  | [d] => { results := [.lit (.bool true)], args := [d] }
  | _ => none }
def fnExactConvexFaultRow : OpenClaim := { program := "ytdobcjgdhgfedaa", sum := "7e75194ede01382b604b0eca40cf25bdf0cb42c744030a3ab0d8dd6f5c7db9d6", func := "loop.example/g00520/laws.FnExactConvexFault", spec := "fnExactConvexFault", unfollowed := true, recurses := true, apart := false }
def FnExactConvexFaultSaid : Prop := fnExactConvexFaultRow.holds Try.pinned (OpenSpec.ofChange fnExactConvexFaultSpec)

/-- ITS FALSE NEIGHBOUR: 'it returns false'. Refute it at one input. -/
def fnExactConvexFaultWrong : ChangeSpec := { name := "fnExactConvexFault", fn := fun _ => fun
  | [d] => { results := [.lit (.bool false)], args := [d] }
  | _ => none }
def FnExactConvexFaultWrongFalsely : Prop := fnExactConvexFaultRow.holds Try.pinned (OpenSpec.ofChange fnExactConvexFaultWrong)

/-- 'laws.FnExactMonotoneFault': WHATEVER THE INPUT: true; the input reads as it did. -/
def fnExactMonotoneFaultSpec : ChangeSpec := { name := "fnExactMonotoneFault", fn := fun _ => fun
  | [d] => { results := [.lit (.bool true)], args := [d] }
  | _ => none }
def fnExactMonotoneFaultRow : OpenClaim := { program := "ytdobcjgdhgfedaa", sum := "7e75194ede01382b604b0eca40cf25bdf0cb42c744030a3ab0d8dd6f5c7db9d6", func := "loop.example/g00520/laws.FnExactMonotoneFault", spec := "fnExactMonotoneFault", unfollowed := true, recurses := true, apart := false }
def FnExactMonotoneFaultSaid : Prop := fnExactMonotoneFaultRow.holds Try.pinned (OpenSpec.ofChange fnExactMonotoneFaultSpec)

/-- ITS FALSE NEIGHBOUR: 'it returns false'. Refute it at one input. -/
def fnExactMonotoneFaultWrong : ChangeSpec := { name := "fnExactMonotoneFault", fn := fun _ => fun
  | [d] => { results := [.lit (.bool false)], args := [d] }
  | _ => none }
def FnExactMonotoneFaultWrongFalsely : Prop := fnExactMonotoneFaultRow.holds Try.pinned (OpenSpec.ofChange fnExactMonotoneFaultWrong)

/-- 'laws.FnExactSuperadditiveFault': WHATEVER THE INPUT: true; the input reads as it did. -/
def fnExactSuperadditiveFaultSpec : ChangeSpec := { name := "fnExactSuperadditiveFault", fn := fun _ => fun
  | [d] => { results := [.lit (.bool true)], args := [d] }
  | _ => none }
def fnExactSuperadditiveFaultRow : OpenClaim := { program := "ytdobcjgdhgfedaa", sum := "7e75194ede01382b604b0eca40cf25bdf0cb42c744030a3ab0d8dd6f5c7db9d6", func := "loop.example/g00520/laws.FnExactSuperadditiveFault", spec := "fnExactSuperadditiveFault", unfollowed := true, recurses := true, apart := false }
def FnExactSuperadditiveFaultSaid : Prop := fnExactSuperadditiveFaultRow.holds Try.pinned (OpenSpec.ofChange fnExactSuperadditiveFaultSpec)

/-- ITS FALSE NEIGHBOUR: 'it returns false'. Refute it at one input. -/
def fnExactSuperadditiveFaultWrong : ChangeSpec := { name := "fnExactSuperadditiveFault", fn := fun _ => fun
  | [d] => { results := [.lit (.bool false)], args := [d] }
  | _ => none }
def FnExactSuperadditiveFaultWrongFalsely : Prop := fnExactSuperadditiveFaultRow.holds Try.pinned (OpenSpec.ofChange fnExactSuperadditiveFaultWrong)

/-- 'laws.FnExactIsConvex': WHATEVER THE INPUT: true; the input reads as it did. -/
def fnExactIsConvexSpec : ChangeSpec := { name := "fnExactIsConvex", fn := fun _ => fun
  | [d] => { results := [.lit (.bool true)], args := [d] }
  | _ => none }
def fnExactIsConvexRow : OpenClaim := { program := "ytdobcjgdhgfedaa", sum := "7e75194ede01382b604b0eca40cf25bdf0cb42c744030a3ab0d8dd6f5c7db9d6", func := "loop.example/g00520/laws.FnExactIsConvex", spec := "fnExactIsConvex", unfollowed := true, recurses := true, apart := false }
def FnExactIsConvexSaid : Prop := fnExactIsConvexRow.holds Try.pinned (OpenSpec.ofChange fnExactIsConvexSpec)

/-- ITS FALSE NEIGHBOUR: 'it returns false'. Refute it at one input. -/
def fnExactIsConvexWrong : ChangeSpec := { name := "fnExactIsConvex", fn := fun _ => fun
  | [d] => { results := [.lit (.bool false)], args := [d] }
  | _ => none }
def FnExactIsConvexWrongFalsely : Prop := fnExactIsConvexRow.holds Try.pinned (OpenSpec.ofChange fnExactIsConvexWrong)

/-- 'laws.FnExactIsMonotone': WHATEVER THE INPUT: true; the input reads as it did. -/
def fnExactIsMonotoneSpec : ChangeSpec := { name := "fnExactIsMonotone", fn := fun _ => fun
  | [d] => { results := [.lit (.bool true)], args := [d] }
  | _ => none }
def fnExactIsMonotoneRow : OpenClaim := { program := "ytdobcjgdhgfedaa", sum := "7e75194ede01382b604b0eca40cf25bdf0cb42c744030a3ab0d8dd6f5c7db9d6", func := "loop.example/g00520/laws.FnExactIsMonotone", spec := "fnExactIsMonotone", unfollowed := true, recurses := true, apart := false }
def FnExactIsMonotoneSaid : Prop := fnExactIsMonotoneRow.holds Try.pinned (OpenSpec.ofChange fnExactIsMonotoneSpec)

/-- ITS FALSE NEIGHBOUR: 'it returns false'. Refute it at one input. -/
def fnExactIsMonotoneWrong : ChangeSpec := { name := "fnExactIsMonotone", fn := fun _ => fun
  | [d] => { results := [.lit (.bool false)], args := [d] }
  | _ => none }
def FnExactIsMonotoneWrongFalsely : Prop := fnExactIsMonotoneRow.holds Try.pinned (OpenSpec.ofChange fnExactIsMonotoneWrong)

/-- 'laws.FnExactIsSuperadditive': WHATEVER THE INPUT: true; the input reads as it did. -/
def fnExactIsSuperadditiveSpec : ChangeSpec := { name := "fnExactIsSuperadditive", fn := fun _ => fun
  | [d] => { results := [.lit (.bool true)], args := [d] }
  | _ => none }
def fnExactIsSuperadditiveRow : OpenClaim := { program := "ytdobcjgdhgfedaa", sum := "7e75194ede01382b604b0eca40cf25bdf0cb42c744030a3ab0d8dd6f5c7db9d6", func := "loop.example/g00520/laws.FnExactIsSuperadditive", spec := "fnExactIsSuperadditive", unfollowed := true, recurses := true, apart := false }
def FnExactIsSuperadditiveSaid : Prop := fnExactIsSuperadditiveRow.holds Try.pinned (OpenSpec.ofChange fnExactIsSuperadditiveSpec)

/-- ITS FALSE NEIGHBOUR: 'it returns false'. Refute it at one input. -/
def fnExactIsSuperadditiveWrong : ChangeSpec := { name := "fnExactIsSuperadditive", fn := fun _ => fun
  | [d] => { results := [.lit (.bool false)], args := [d] }
  | _ => none }
def FnExactIsSuperadditiveWrongFalsely : Prop := fnExactIsSuperadditiveRow.holds Try.pinned (OpenSpec.ofChange fnExactIsSuperadditiveWrong)

/-- 'laws.FnExactGameOfDividends': WHATEVER THE INPUT: true; the input reads as it did. -/
def fnExactGameOfDividendsSpec : ChangeSpec := { name := "fnExactGameOfDividends", fn := fun _ => fun
  | [d1, d2] => { results := [.lit (.bool true)], args := [d1, d2] }
  | _ => none }
def fnExactGameOfDividendsRow : OpenClaim := { program := "ytdobcjgdhgfedaa", sum := "7e75194ede01382b604b0eca40cf25bdf0cb42c744030a3ab0d8dd6f5c7db9d6", func := "loop.example/g00520/laws.FnExactGameOfDividends", spec := "fnExactGameOfDividends", unfollowed := true, recurses := true, apart := false }
def FnExactGameOfDividendsSaid : Prop := fnExactGameOfDividendsRow.holds Try.pinned (OpenSpec.ofChange fnExactGameOfDividendsSpec)

/-- ITS FALSE NEIGHBOUR: 'it returns false'. Refute it at one input. -/
def fnExactGameOfDividendsWrong : ChangeSpec := { name := "fnExactGameOfDividends", fn := fun _ => fun
  | [d1, d2] => { results := [.lit (.bool false)], args := [d1, d2] }
  | _ => none }
def FnExactGameOfDividendsWrongFalsely : Prop := fnExactGameOfDividendsRow.holds Try.pinned (OpenSpec.ofChange fnExactGameOfDividendsWrong)

/-- 'laws.FnExactScaleGame': WHATEVER THE INPUT: true; the input reads as it did. -/
def fnExactScaleGameSpec : ChangeSpec := { name := "fnExactScaleGame", fn := fun _ => fun
  | [d1, d2, d3] => { results := [.lit (.bool true)], args := [d1, d2, d3] }
  | _ => none }
def fnExactScaleGameRow : OpenClaim := { program := "ytdobcjgdhgfedaa", sum := "7e75194ede01382b604b0eca40cf25bdf0cb42c744030a3ab0d8dd6f5c7db9d6", func := "loop.example/g00520/laws.FnExactScaleGame", spec := "fnExactScaleGame", unfollowed := true, recurses := true, apart := false }
def FnExactScaleGameSaid : Prop := fnExactScaleGameRow.holds Try.pinned (OpenSpec.ofChange fnExactScaleGameSpec)

/-- ITS FALSE NEIGHBOUR: 'it returns false'. Refute it at one input. -/
def fnExactScaleGameWrong : ChangeSpec := { name := "fnExactScaleGame", fn := fun _ => fun
  | [d1, d2, d3] => { results := [.lit (.bool false)], args := [d1, d2, d3] }
  | _ => none }
def FnExactScaleGameWrongFalsely : Prop := fnExactScaleGameRow.holds Try.pinned (OpenSpec.ofChange fnExactScaleGameWrong)

/-- 'laws.FnExactShareOf': WHATEVER THE INPUT: true; the input reads as it did. -/
def fnExactShareOfSpec : ChangeSpec := { name := "fnExactShareOf", fn := fun _ => fun
  | [d1, d2] => { results := [.lit (.bool true)], args := [d1, d2] }
  | _ => none }
def fnExactShareOfRow : OpenClaim := { program := "ytdobcjgdhgfedaa", sum := "7e75194ede01382b604b0eca40cf25bdf0cb42c744030a3ab0d8dd6f5c7db9d6", func := "loop.example/g00520/laws.FnExactShareOf", spec := "fnExactShareOf", apart := false }
def FnExactShareOfSaid : Prop := fnExactShareOfRow.holds Try.pinned (OpenSpec.ofChange fnExactShareOfSpec)

/-- ITS FALSE NEIGHBOUR: 'it returns false'. Refute it at one input. -/
def fnExactShareOfWrong : ChangeSpec := { name := "fnExactShareOf", fn := fun _ => fun
  | [d1, d2] => { results := [.lit (.bool false)], args := [d1, d2] }
  | _ => none }
def FnExactShareOfWrongFalsely : Prop := fnExactShareOfRow.holds Try.pinned (OpenSpec.ofChange fnExactShareOfWrong)

/-- 'laws.FnExactRestrict': WHATEVER THE INPUT: true; the input reads as it did. -/
def fnExactRestrictSpec : ChangeSpec := { name := "fnExactRestrict", fn := fun _ => fun
  | [d1, d2] => { results := [.lit (.bool true)], args := [d1, d2] }
  | _ => none }
def fnExactRestrictRow : OpenClaim := { program := "ytdobcjgdhgfedaa", sum := "7e75194ede01382b604b0eca40cf25bdf0cb42c744030a3ab0d8dd6f5c7db9d6", func := "loop.example/g00520/laws.FnExactRestrict", spec := "fnExactRestrict", unfollowed := true, recurses := true, apart := false }
def FnExactRestrictSaid : Prop := fnExactRestrictRow.holds Try.pinned (OpenSpec.ofChange fnExactRestrictSpec)

/-- ITS FALSE NEIGHBOUR: 'it returns false'. Refute it at one input. -/
def fnExactRestrictWrong : ChangeSpec := { name := "fnExactRestrict", fn := fun _ => fun
  | [d1, d2] => { results := [.lit (.bool false)], args := [d1, d2] }
  | _ => none }
def FnExactRestrictWrongFalsely : Prop := fnExactRestrictRow.holds Try.pinned (OpenSpec.ofChange fnExactRestrictWrong)

/-- 'laws.FnExactBalancedLP': WHATEVER THE INPUT: true; the input reads as it did. -/
def fnExactBalancedLPSpec : ChangeSpec := { name := "fnExactBalancedLP", fn := fun _ => fun
  | [d] => { results := [.lit (.bool true)], args := [d] }
  | _ => none }
def fnExactBalancedLPRow : OpenClaim := { program := "ytdobcjgdhgfedaa", sum := "7e75194ede01382b604b0eca40cf25bdf0cb42c744030a3ab0d8dd6f5c7db9d6", func := "loop.example/g00520/laws.FnExactBalancedLP", spec := "fnExactBalancedLP", unfollowed := true, recurses := true, apart := false }
def FnExactBalancedLPSaid : Prop := fnExactBalancedLPRow.holds Try.pinned (OpenSpec.ofChange fnExactBalancedLPSpec)

/-- ITS FALSE NEIGHBOUR: 'it returns false'. Refute it at one input. -/
def fnExactBalancedLPWrong : ChangeSpec := { name := "fnExactBalancedLP", fn := fun _ => fun
  | [d] => { results := [.lit (.bool false)], args := [d] }
  | _ => none }
def FnExactBalancedLPWrongFalsely : Prop := fnExactBalancedLPRow.holds Try.pinned (OpenSpec.ofChange fnExactBalancedLPWrong)

/-- 'laws.FnExactIsBalancedCollection': WHATEVER THE INPUT: true; the input reads as it did. -/
def fnExactIsBalancedCollectionSpec : ChangeSpec := { name := "fnExactIsBalancedCollection", fn := fun _ => fun
  | [d1, d2] => { results := [.lit (.bool true)], args := [d1, d2] }
  | _ => none }
def fnExactIsBalancedCollectionRow : OpenClaim := { program := "ytdobcjgdhgfedaa", sum := "7e75194ede01382b604b0eca40cf25bdf0cb42c744030a3ab0d8dd6f5c7db9d6", func := "loop.example/g00520/laws.FnExactIsBalancedCollection", spec := "fnExactIsBalancedCollection", unfollowed := true, recurses := true, apart := false }
def FnExactIsBalancedCollectionSaid : Prop := fnExactIsBalancedCollectionRow.holds Try.pinned (OpenSpec.ofChange fnExactIsBalancedCollectionSpec)

/-- ITS FALSE NEIGHBOUR: 'it returns false'. Refute it at one input. -/
def fnExactIsBalancedCollectionWrong : ChangeSpec := { name := "fnExactIsBalancedCollection", fn := fun _ => fun
  | [d1, d2] => { results := [.lit (.bool false)], args := [d1, d2] }
  | _ => none }
def FnExactIsBalancedCollectionWrongFalsely : Prop := fnExactIsBalancedCollectionRow.holds Try.pinned (OpenSpec.ofChange fnExactIsBalancedCollectionWrong)

/- THE SECOND FORM. 'bulk': how many values and letters a reading holds, each counted each time it is reached (what is shared counts as often as it is met; a slice's spare places count too). A statement '..UptoSaid' is the law's where the arguments, and the package variables that the reading takes, are together of bulk at most 1048576: NARROWER than '..Said'. Prove '..Said' where nothing that the law and all that it calls make is longer than what came in: it says more and counts as full. Else prove '..UptoSaid'. A law counts once. -/
mutual
def uptoBulk {H : Type} : DataW H → Nat
  | .lit (.string bytes) => bytes.length + 1
  | .lit _ => 1
  | .nil => 1
  | .ptr d => uptoBulk d + 1
  | .slice elems spare => uptoBulkAll elems + uptoBulkAll spare + 1
  | .agg parts => uptoBulkAll parts + 1
  | .iface _ d => uptoBulk d + 1
  | .map entries => uptoBulkEntries entries + 1
  | .held _ => 1
def uptoBulkAll {H : Type} : List (DataW H) → Nat
  | [] => 0
  | d :: r => uptoBulk d + uptoBulkAll r
def uptoBulkEntries {H : Type} : List (Lit × DataW H) → Nat
  | [] => 0
  | x :: r => uptoBulkEntry x + uptoBulkEntries r
def uptoBulkEntry {H : Type} : Lit × DataW H → Nat
  | (.string bytes, d) => bytes.length + uptoBulk d + 1
  | (_, d) => uptoBulk d + 1
 end
def uptoSmall : (H : Type) → List (DataW H) → Bool := fun _ ds => decide (uptoBulkAll ds ≤ 1048576)
def OpenSpec.upto (s : _root_.Go.ChangeSpec) : _root_.Go.OpenSpec := { _root_.Go.OpenSpec.ofChange s with cond := some uptoSmall }

/-- 'laws.FnExactConvexFault', WHERE WHAT IT READS IS OF BULK AT MOST 1048576: true; the input reads as it did. -/
def fnExactConvexFaultUptoRow : OpenClaim := { program := "ytdobcjgdhgfedaa", sum := "7e75194ede01382b604b0eca40cf25bdf0cb42c744030a3ab0d8dd6f5c7db9d6", func := "loop.example/g00520/laws.FnExactConvexFault", spec := "fnExactConvexFault", unfollowed := true, recurses := true, apart := false, narrowed := true }
def FnExactConvexFaultUptoSaid : Prop := fnExactConvexFaultUptoRow.holds Try.pinned (OpenSpec.upto fnExactConvexFaultSpec)

/-- 'laws.FnExactMonotoneFault', WHERE WHAT IT READS IS OF BULK AT MOST 1048576: true; the input reads as it did. -/
def fnExactMonotoneFaultUptoRow : OpenClaim := { program := "ytdobcjgdhgfedaa", sum := "7e75194ede01382b604b0eca40cf25bdf0cb42c744030a3ab0d8dd6f5c7db9d6", func := "loop.example/g00520/laws.FnExactMonotoneFault", spec := "fnExactMonotoneFault", unfollowed := true, recurses := true, apart := false, narrowed := true }
def FnExactMonotoneFaultUptoSaid : Prop := fnExactMonotoneFaultUptoRow.holds Try.pinned (OpenSpec.upto fnExactMonotoneFaultSpec)

/-- 'laws.FnExactSuperadditiveFault', WHERE WHAT IT READS IS OF BULK AT MOST 1048576: true; the input reads as it did. -/
def fnExactSuperadditiveFaultUptoRow : OpenClaim := { program := "ytdobcjgdhgfedaa", sum := "7e75194ede01382b604b0eca40cf25bdf0cb42c744030a3ab0d8dd6f5c7db9d6", func := "loop.example/g00520/laws.FnExactSuperadditiveFault", spec := "fnExactSuperadditiveFault", unfollowed := true, recurses := true, apart := false, narrowed := true }
def FnExactSuperadditiveFaultUptoSaid : Prop := fnExactSuperadditiveFaultUptoRow.holds Try.pinned (OpenSpec.upto fnExactSuperadditiveFaultSpec)

/-- 'laws.FnExactIsConvex', WHERE WHAT IT READS IS OF BULK AT MOST 1048576: true; the input reads as it did. -/
def fnExactIsConvexUptoRow : OpenClaim := { program := "ytdobcjgdhgfedaa", sum := "7e75194ede01382b604b0eca40cf25bdf0cb42c744030a3ab0d8dd6f5c7db9d6", func := "loop.example/g00520/laws.FnExactIsConvex", spec := "fnExactIsConvex", unfollowed := true, recurses := true, apart := false, narrowed := true }
def FnExactIsConvexUptoSaid : Prop := fnExactIsConvexUptoRow.holds Try.pinned (OpenSpec.upto fnExactIsConvexSpec)

/-- 'laws.FnExactIsMonotone', WHERE WHAT IT READS IS OF BULK AT MOST 1048576: true; the input reads as it did. -/
def fnExactIsMonotoneUptoRow : OpenClaim := { program := "ytdobcjgdhgfedaa", sum := "7e75194ede01382b604b0eca40cf25bdf0cb42c744030a3ab0d8dd6f5c7db9d6", func := "loop.example/g00520/laws.FnExactIsMonotone", spec := "fnExactIsMonotone", unfollowed := true, recurses := true, apart := false, narrowed := true }
def FnExactIsMonotoneUptoSaid : Prop := fnExactIsMonotoneUptoRow.holds Try.pinned (OpenSpec.upto fnExactIsMonotoneSpec)

/-- 'laws.FnExactIsSuperadditive', WHERE WHAT IT READS IS OF BULK AT MOST 1048576: true; the input reads as it did. -/
def fnExactIsSuperadditiveUptoRow : OpenClaim := { program := "ytdobcjgdhgfedaa", sum := "7e75194ede01382b604b0eca40cf25bdf0cb42c744030a3ab0d8dd6f5c7db9d6", func := "loop.example/g00520/laws.FnExactIsSuperadditive", spec := "fnExactIsSuperadditive", unfollowed := true, recurses := true, apart := false, narrowed := true }
def FnExactIsSuperadditiveUptoSaid : Prop := fnExactIsSuperadditiveUptoRow.holds Try.pinned (OpenSpec.upto fnExactIsSuperadditiveSpec)

/-- 'laws.FnExactGameOfDividends', WHERE WHAT IT READS IS OF BULK AT MOST 1048576: true; the input reads as it did. -/
def fnExactGameOfDividendsUptoRow : OpenClaim := { program := "ytdobcjgdhgfedaa", sum := "7e75194ede01382b604b0eca40cf25bdf0cb42c744030a3ab0d8dd6f5c7db9d6", func := "loop.example/g00520/laws.FnExactGameOfDividends", spec := "fnExactGameOfDividends", unfollowed := true, recurses := true, apart := false, narrowed := true }
def FnExactGameOfDividendsUptoSaid : Prop := fnExactGameOfDividendsUptoRow.holds Try.pinned (OpenSpec.upto fnExactGameOfDividendsSpec)

/-- 'laws.FnExactScaleGame', WHERE WHAT IT READS IS OF BULK AT MOST 1048576: true; the input reads as it did. -/
def fnExactScaleGameUptoRow : OpenClaim := { program := "ytdobcjgdhgfedaa", sum := "7e75194ede01382b604b0eca40cf25bdf0cb42c744030a3ab0d8dd6f5c7db9d6", func := "loop.example/g00520/laws.FnExactScaleGame", spec := "fnExactScaleGame", unfollowed := true, recurses := true, apart := false, narrowed := true }
def FnExactScaleGameUptoSaid : Prop := fnExactScaleGameUptoRow.holds Try.pinned (OpenSpec.upto fnExactScaleGameSpec)

/-- 'laws.FnExactShareOf', WHERE WHAT IT READS IS OF BULK AT MOST 1048576: true; the input reads as it did. -/
def fnExactShareOfUptoRow : OpenClaim := { program := "ytdobcjgdhgfedaa", sum := "7e75194ede01382b604b0eca40cf25bdf0cb42c744030a3ab0d8dd6f5c7db9d6", func := "loop.example/g00520/laws.FnExactShareOf", spec := "fnExactShareOf", apart := false, narrowed := true }
def FnExactShareOfUptoSaid : Prop := fnExactShareOfUptoRow.holds Try.pinned (OpenSpec.upto fnExactShareOfSpec)

/-- 'laws.FnExactRestrict', WHERE WHAT IT READS IS OF BULK AT MOST 1048576: true; the input reads as it did. -/
def fnExactRestrictUptoRow : OpenClaim := { program := "ytdobcjgdhgfedaa", sum := "7e75194ede01382b604b0eca40cf25bdf0cb42c744030a3ab0d8dd6f5c7db9d6", func := "loop.example/g00520/laws.FnExactRestrict", spec := "fnExactRestrict", unfollowed := true, recurses := true, apart := false, narrowed := true }
def FnExactRestrictUptoSaid : Prop := fnExactRestrictUptoRow.holds Try.pinned (OpenSpec.upto fnExactRestrictSpec)

/-- 'laws.FnExactBalancedLP', WHERE WHAT IT READS IS OF BULK AT MOST 1048576: true; the input reads as it did. -/
def fnExactBalancedLPUptoRow : OpenClaim := { program := "ytdobcjgdhgfedaa", sum := "7e75194ede01382b604b0eca40cf25bdf0cb42c744030a3ab0d8dd6f5c7db9d6", func := "loop.example/g00520/laws.FnExactBalancedLP", spec := "fnExactBalancedLP", unfollowed := true, recurses := true, apart := false, narrowed := true }
def FnExactBalancedLPUptoSaid : Prop := fnExactBalancedLPUptoRow.holds Try.pinned (OpenSpec.upto fnExactBalancedLPSpec)

/-- 'laws.FnExactIsBalancedCollection', WHERE WHAT IT READS IS OF BULK AT MOST 1048576: true; the input reads as it did. -/
def fnExactIsBalancedCollectionUptoRow : OpenClaim := { program := "ytdobcjgdhgfedaa", sum := "7e75194ede01382b604b0eca40cf25bdf0cb42c744030a3ab0d8dd6f5c7db9d6", func := "loop.example/g00520/laws.FnExactIsBalancedCollection", spec := "fnExactIsBalancedCollection", unfollowed := true, recurses := true, apart := false, narrowed := true }
def FnExactIsBalancedCollectionUptoSaid : Prop := fnExactIsBalancedCollectionUptoRow.holds Try.pinned (OpenSpec.upto fnExactIsBalancedCollectionSpec)

end Rows
end Go.Proofs.Ytdobcjgdhgfedaa
