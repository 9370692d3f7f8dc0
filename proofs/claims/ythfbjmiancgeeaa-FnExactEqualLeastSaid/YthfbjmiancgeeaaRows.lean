/-
  No cell of these rows narrows 'for every input' (looked for: loops, veiled, ifaces, maps, wideKeys, modest, calm, conditions, laid).
  DERIVED. THE GIVEN ROWS OF THIS SEAT. 6 by the template 'for every input the law returns true; each argument reads behind the call as it read before'; 0 by the template 'total and deterministic' (their statements: YthfbjmiancgeeaaTotals.lean).
  GIVEN WITH THE SEED: the statements are not yours to turn. If you find one false, say at which input.
  Laid BY PROGRAM, IN A SANDBOX (cutbox-rows.mjs): the forced cells as the released guide's own fill.sh prints them over the translation a1efe558af540dd4… (all of the seat's roots in one cut). By AI agents, Wed Nov 11 2026. No macro, syntax, notation, axiom, sorry.
-/
import Derived.Test.YthfbjmiancgeeaaChecked
import GoSem.Claim
import GoSem.ClaimJoined
import GoSem.ClaimMapViews
import Derived.JoinedTies
import Derived.KernelRfl
namespace Go.Proofs.Ythfbjmiancgeeaa
/- THE CELL 'sum', in the pinned program and in every row, IS THE sha256 OF THE DUMP (.gsa) THAT YthfbjmiancgeeaaProg.lean LOADS. Nothing in Lean hashes anything: it is a label: what it is worth is what the hold of that sum in a sandbox is worth. -/
noncomputable def Try.pinned : Pinned := { name := "ythfbjmiancgeeaa", sum := "a1efe558af540dd43294b54126b68f239646d19be6fce2dd8053786feadc29c5", checked := Try.checked }
namespace Rows
def none {H : Type} : Left H := { results := [], args := [] }

/-- 'laws.FnExactCoreName': WHATEVER THE INPUT: true; the input reads as it did. -/
def fnExactCoreNameSpec : ChangeSpec := { name := "fnExactCoreName", fn := fun _ => fun
  | [d] => { results := [.lit (.bool true)], args := [d] }
  | _ => none }
def fnExactCoreNameRow : OpenClaim := { program := "ythfbjmiancgeeaa", sum := "a1efe558af540dd43294b54126b68f239646d19be6fce2dd8053786feadc29c5", func := "loop.example/g00520/laws.FnExactCoreName", spec := "fnExactCoreName", apart := false }
def FnExactCoreNameSaid : Prop := fnExactCoreNameRow.holds Try.pinned (OpenSpec.ofChange fnExactCoreNameSpec)

/-- ITS FALSE NEIGHBOUR: 'it returns false'. Refute it at one input. -/
def fnExactCoreNameWrong : ChangeSpec := { name := "fnExactCoreName", fn := fun _ => fun
  | [d] => { results := [.lit (.bool false)], args := [d] }
  | _ => none }
def FnExactCoreNameWrongFalsely : Prop := fnExactCoreNameRow.holds Try.pinned (OpenSpec.ofChange fnExactCoreNameWrong)

/-- 'laws.FnExactValueOf': WHATEVER THE INPUT: true; the input reads as it did. -/
def fnExactValueOfSpec : ChangeSpec := { name := "fnExactValueOf", fn := fun _ => fun
  | [d1, d2] => { results := [.lit (.bool true)], args := [d1, d2] }
  | _ => none }
def fnExactValueOfRow : OpenClaim := { program := "ythfbjmiancgeeaa", sum := "a1efe558af540dd43294b54126b68f239646d19be6fce2dd8053786feadc29c5", func := "loop.example/g00520/laws.FnExactValueOf", spec := "fnExactValueOf", apart := false }
def FnExactValueOfSaid : Prop := fnExactValueOfRow.holds Try.pinned (OpenSpec.ofChange fnExactValueOfSpec)

/-- ITS FALSE NEIGHBOUR: 'it returns false'. Refute it at one input. -/
def fnExactValueOfWrong : ChangeSpec := { name := "fnExactValueOf", fn := fun _ => fun
  | [d1, d2] => { results := [.lit (.bool false)], args := [d1, d2] }
  | _ => none }
def FnExactValueOfWrongFalsely : Prop := fnExactValueOfRow.holds Try.pinned (OpenSpec.ofChange fnExactValueOfWrong)

/-- 'laws.FnExactEqualGame': WHATEVER THE INPUT: true; the input reads as it did. -/
def fnExactEqualGameSpec : ChangeSpec := { name := "fnExactEqualGame", fn := fun _ => fun
  | [d1, d2] => { results := [.lit (.bool true)], args := [d1, d2] }
  | _ => none }
def fnExactEqualGameRow : OpenClaim := { program := "ythfbjmiancgeeaa", sum := "a1efe558af540dd43294b54126b68f239646d19be6fce2dd8053786feadc29c5", func := "loop.example/g00520/laws.FnExactEqualGame", spec := "fnExactEqualGame", apart := false }
def FnExactEqualGameSaid : Prop := fnExactEqualGameRow.holds Try.pinned (OpenSpec.ofChange fnExactEqualGameSpec)

/-- ITS FALSE NEIGHBOUR: 'it returns false'. Refute it at one input. -/
def fnExactEqualGameWrong : ChangeSpec := { name := "fnExactEqualGame", fn := fun _ => fun
  | [d1, d2] => { results := [.lit (.bool false)], args := [d1, d2] }
  | _ => none }
def FnExactEqualGameWrongFalsely : Prop := fnExactEqualGameRow.holds Try.pinned (OpenSpec.ofChange fnExactEqualGameWrong)

/-- 'laws.FnExactIsValidGame': WHATEVER THE INPUT: true; the input reads as it did. -/
def fnExactIsValidGameSpec : ChangeSpec := { name := "fnExactIsValidGame", fn := fun _ => fun
  | [d] => { results := [.lit (.bool true)], args := [d] }
  | _ => none }
def fnExactIsValidGameRow : OpenClaim := { program := "ythfbjmiancgeeaa", sum := "a1efe558af540dd43294b54126b68f239646d19be6fce2dd8053786feadc29c5", func := "loop.example/g00520/laws.FnExactIsValidGame", spec := "fnExactIsValidGame", unfollowed := true, recurses := true, apart := false }
def FnExactIsValidGameSaid : Prop := fnExactIsValidGameRow.holds Try.pinned (OpenSpec.ofChange fnExactIsValidGameSpec)

/-- ITS FALSE NEIGHBOUR: 'it returns false'. Refute it at one input. -/
def fnExactIsValidGameWrong : ChangeSpec := { name := "fnExactIsValidGame", fn := fun _ => fun
  | [d] => { results := [.lit (.bool false)], args := [d] }
  | _ => none }
def FnExactIsValidGameWrongFalsely : Prop := fnExactIsValidGameRow.holds Try.pinned (OpenSpec.ofChange fnExactIsValidGameWrong)

/-- 'laws.FnExactGrandValue': WHATEVER THE INPUT: true; the input reads as it did. -/
def fnExactGrandValueSpec : ChangeSpec := { name := "fnExactGrandValue", fn := fun _ => fun
  | [d] => { results := [.lit (.bool true)], args := [d] }
  | _ => none }
def fnExactGrandValueRow : OpenClaim := { program := "ythfbjmiancgeeaa", sum := "a1efe558af540dd43294b54126b68f239646d19be6fce2dd8053786feadc29c5", func := "loop.example/g00520/laws.FnExactGrandValue", spec := "fnExactGrandValue", unfollowed := true, recurses := true, apart := false }
def FnExactGrandValueSaid : Prop := fnExactGrandValueRow.holds Try.pinned (OpenSpec.ofChange fnExactGrandValueSpec)

/-- ITS FALSE NEIGHBOUR: 'it returns false'. Refute it at one input. -/
def fnExactGrandValueWrong : ChangeSpec := { name := "fnExactGrandValue", fn := fun _ => fun
  | [d] => { results := [.lit (.bool false)], args := [d] }
  | _ => none }
def FnExactGrandValueWrongFalsely : Prop := fnExactGrandValueRow.holds Try.pinned (OpenSpec.ofChange fnExactGrandValueWrong)

/-- 'laws.FnExactEqualLeast': WHATEVER THE INPUT: true; the input reads as it did. -/
def fnExactEqualLeastSpec : ChangeSpec := { name := "fnExactEqualLeast", fn := fun _ => fun
  | [d1, d2] => { results := [.lit (.bool true)], args := [d1, d2] }
  | _ => none }
def fnExactEqualLeastRow : OpenClaim := { program := "ythfbjmiancgeeaa", sum := "a1efe558af540dd43294b54126b68f239646d19be6fce2dd8053786feadc29c5", func := "loop.example/g00520/laws.FnExactEqualLeast", spec := "fnExactEqualLeast", apart := false }
def FnExactEqualLeastSaid : Prop := fnExactEqualLeastRow.holds Try.pinned (OpenSpec.ofChange fnExactEqualLeastSpec)

/-- ITS FALSE NEIGHBOUR: 'it returns false'. Refute it at one input. -/
def fnExactEqualLeastWrong : ChangeSpec := { name := "fnExactEqualLeast", fn := fun _ => fun
  | [d1, d2] => { results := [.lit (.bool false)], args := [d1, d2] }
  | _ => none }
def FnExactEqualLeastWrongFalsely : Prop := fnExactEqualLeastRow.holds Try.pinned (OpenSpec.ofChange fnExactEqualLeastWrong)

/- THE SECOND FORM. 'bulk': how many values and letters a reading holds, each counted each time it is reached (what is shared counts as often as it is met; a slice's spare places count too). A statement '..UptoSaid' is the law's where the arguments, and the package variables that the reading takes, are together of bulk at most 1048576: NARROWER than '..Said'. Prove '..Said' where nothing that the law and all that it calls make is longer than what came in: it says more and counts as full. Else prove '..UptoSaid'. A law counts once. -/
mutual
def uptoBulk {H : Type} : DataW H → Nat
  | .lit (.string bytes) => bytes.length + 1
  | .lit _ => 1
  | .nil => 1
  | .ptr d => uptoBulk d + 1
  | .slice elems spare => uptoBulkAll elems + uptoBulkAll spare + 1
  | .agg parts => uptoBulkAll parts + 1
  | .iface _ d => uptoBulk d + 1
  | .map entries => uptoBulkEntries entries + 1
  | .held _ => 1
def uptoBulkAll {H : Type} : List (DataW H) → Nat
  | [] => 0
  | d :: r => uptoBulk d + uptoBulkAll r
def uptoBulkEntries {H : Type} : List (Lit × DataW H) → Nat
  | [] => 0
  | x :: r => uptoBulkEntry x + uptoBulkEntries r
def uptoBulkEntry {H : Type} : Lit × DataW H → Nat
  | (.string bytes, d) => bytes.length + uptoBulk d + 1
  | (_, d) => uptoBulk d + 1
 end
def uptoSmall : (H : Type) → List (DataW H) → Bool := fun _ ds => decide (uptoBulkAll ds ≤ 1048576)
def OpenSpec.upto (s : _root_.Go.ChangeSpec) : _root_.Go.OpenSpec := { _root_.Go.OpenSpec.ofChange s with cond := some uptoSmall }

/-- 'laws.FnExactCoreName', WHERE WHAT IT READS IS OF BULK AT MOST 1048576: true; the input reads as it did. -/
def fnExactCoreNameUptoRow : OpenClaim := { program := "ythfbjmiancgeeaa", sum := "a1efe558af540dd43294b54126b68f239646d19be6fce2dd8053786feadc29c5", func := "loop.example/g00520/laws.FnExactCoreName", spec := "fnExactCoreName", apart := false, narrowed := true }
def FnExactCoreNameUptoSaid : Prop := fnExactCoreNameUptoRow.holds Try.pinned (OpenSpec.upto fnExactCoreNameSpec)

/-- 'laws.FnExactValueOf', WHERE WHAT IT READS IS OF BULK AT MOST 1048576: true; the input reads as it did. -/
def fnExactValueOfUptoRow : OpenClaim := { program := "ythfbjmiancgeeaa", sum := "a1efe558af540dd43294b54126b68f239646d19be6fce2dd8053786feadc29c5", func := "loop.example/g00520/laws.FnExactValueOf", spec := "fnExactValueOf", apart := false, narrowed := true }
def FnExactValueOfUptoSaid : Prop := fnExactValueOfUptoRow.holds Try.pinned (OpenSpec.upto fnExactValueOfSpec)

/-- 'laws.FnExactEqualGame', WHERE WHAT IT READS IS OF BULK AT MOST 1048576: true; the input reads as it did. -/
def fnExactEqualGameUptoRow : OpenClaim := { program := "ythfbjmiancgeeaa", sum := "a1efe558af540dd43294b54126b68f239646d19be6fce2dd8053786feadc29c5", func := "loop.example/g00520/laws.FnExactEqualGame", spec := "fnExactEqualGame", apart := false, narrowed := true }
def FnExactEqualGameUptoSaid : Prop := fnExactEqualGameUptoRow.holds Try.pinned (OpenSpec.upto fnExactEqualGameSpec)

/-- 'laws.FnExactIsValidGame', WHERE WHAT IT READS IS OF BULK AT MOST 1048576: true; the input reads as it did. -/
def fnExactIsValidGameUptoRow : OpenClaim := { program := "ythfbjmiancgeeaa", sum := "a1efe558af540dd43294b54126b68f239646d19be6fce2dd8053786feadc29c5", func := "loop.example/g00520/laws.FnExactIsValidGame", spec := "fnExactIsValidGame", unfollowed := true, recurses := true, apart := false, narrowed := true }
def FnExactIsValidGameUptoSaid : Prop := fnExactIsValidGameUptoRow.holds Try.pinned (OpenSpec.upto fnExactIsValidGameSpec)

/-- 'laws.FnExactGrandValue', WHERE WHAT IT READS IS OF BULK AT MOST 1048576: true; the input reads as it did. -/
def fnExactGrandValueUptoRow : OpenClaim := { program := "ythfbjmiancgeeaa", sum := "a1efe558af540dd43294b54126b68f239646d19be6fce2dd8053786feadc29c5", func := "loop.example/g00520/laws.FnExactGrandValue", spec := "fnExactGrandValue", unfollowed := true, recurses := true, apart := false, narrowed := true }
def FnExactGrandValueUptoSaid : Prop := fnExactGrandValueUptoRow.holds Try.pinned (OpenSpec.upto fnExactGrandValueSpec)

/-- 'laws.FnExactEqualLeast', WHERE WHAT IT READS IS OF BULK AT MOST 1048576: true; the input reads as it did. -/
def fnExactEqualLeastUptoRow : OpenClaim := { program := "ythfbjmiancgeeaa", sum := "a1efe558af540dd43294b54126b68f239646d19be6fce2dd8053786feadc29c5", func := "loop.example/g00520/laws.FnExactEqualLeast", spec := "fnExactEqualLeast", apart := false, narrowed := true }
def FnExactEqualLeastUptoSaid : Prop := fnExactEqualLeastUptoRow.holds Try.pinned (OpenSpec.upto fnExactEqualLeastSpec)

end Rows
end Go.Proofs.Ythfbjmiancgeeaa
