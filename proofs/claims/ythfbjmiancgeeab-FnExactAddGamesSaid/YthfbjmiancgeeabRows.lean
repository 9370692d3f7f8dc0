/-
  No cell of these rows narrows 'for every input' (looked for: loops, veiled, ifaces, maps, wideKeys, modest, calm, conditions, laid).
  DERIVED. THE GIVEN ROWS OF THIS SEAT. 5 by the template 'for every input the law returns true; each argument reads behind the call as it read before'; 0 by the template 'total and deterministic' (their statements: YthfbjmiancgeeabTotals.lean).
  GIVEN WITH THE SEED: the statements are not yours to turn. If you find one false, say at which input.
  Laid BY PROGRAM, IN A SANDBOX (cutbox-rows.mjs): the forced cells as the released guide's own fill.sh prints them over the translation 68dfc6086d16e56f… (all of the seat's roots in one cut). By AI agents, Wed Nov 11 2026. No macro, syntax, notation, axiom, sorry.
-/
import Derived.Test.YthfbjmiancgeeabChecked
import GoSem.Claim
import GoSem.ClaimJoined
import GoSem.ClaimMapViews
import Derived.JoinedTies
import Derived.KernelRfl
namespace Go.Proofs.Ythfbjmiancgeeab
/- THE CELL 'sum', in the pinned program and in every row, IS THE sha256 OF THE DUMP (.gsa) THAT YthfbjmiancgeeabProg.lean LOADS. Nothing in Lean hashes anything: it is a label: what it is worth is what the hold of that sum in a sandbox is worth. -/
noncomputable def Try.pinned : Pinned := { name := "ythfbjmiancgeeab", sum := "68dfc6086d16e56f79fcf6b3c675ba0d9d2224e2aa71639ce6e219b3b3157f43", checked := Try.checked }
namespace Rows
def none {H : Type} : Left H := { results := [], args := [] }

/-- 'laws.FnExactAreSymmetric': WHATEVER THE INPUT: true; the input reads as it did. -/
def fnExactAreSymmetricSpec : ChangeSpec := { name := "fnExactAreSymmetric", fn := fun _ => fun
  | [d1, d2, d3] => { results := [.lit (.bool true)], args := [d1, d2, d3] }
  | _ => none }
def fnExactAreSymmetricRow : OpenClaim := { program := "ythfbjmiancgeeab", sum := "68dfc6086d16e56f79fcf6b3c675ba0d9d2224e2aa71639ce6e219b3b3157f43", func := "loop.example/g00520/laws.FnExactAreSymmetric", spec := "fnExactAreSymmetric", unfollowed := true, recurses := true, apart := false }
def FnExactAreSymmetricSaid : Prop := fnExactAreSymmetricRow.holds Try.pinned (OpenSpec.ofChange fnExactAreSymmetricSpec)

/-- ITS FALSE NEIGHBOUR: 'it returns false'. Refute it at one input. -/
def fnExactAreSymmetricWrong : ChangeSpec := { name := "fnExactAreSymmetric", fn := fun _ => fun
  | [d1, d2, d3] => { results := [.lit (.bool false)], args := [d1, d2, d3] }
  | _ => none }
def FnExactAreSymmetricWrongFalsely : Prop := fnExactAreSymmetricRow.holds Try.pinned (OpenSpec.ofChange fnExactAreSymmetricWrong)

/-- 'laws.FnExactCompareExcesses': WHATEVER THE INPUT: true; the input reads as it did. -/
def fnExactCompareExcessesSpec : ChangeSpec := { name := "fnExactCompareExcesses", fn := fun _ => fun
  | [d1, d2] => { results := [.lit (.bool true)], args := [d1, d2] }
  | _ => none }
def fnExactCompareExcessesRow : OpenClaim := { program := "ythfbjmiancgeeab", sum := "68dfc6086d16e56f79fcf6b3c675ba0d9d2224e2aa71639ce6e219b3b3157f43", func := "loop.example/g00520/laws.FnExactCompareExcesses", spec := "fnExactCompareExcesses", apart := false }
def FnExactCompareExcessesSaid : Prop := fnExactCompareExcessesRow.holds Try.pinned (OpenSpec.ofChange fnExactCompareExcessesSpec)

/-- ITS FALSE NEIGHBOUR: 'it returns false'. Refute it at one input. -/
def fnExactCompareExcessesWrong : ChangeSpec := { name := "fnExactCompareExcesses", fn := fun _ => fun
  | [d1, d2] => { results := [.lit (.bool false)], args := [d1, d2] }
  | _ => none }
def FnExactCompareExcessesWrongFalsely : Prop := fnExactCompareExcessesRow.holds Try.pinned (OpenSpec.ofChange fnExactCompareExcessesWrong)

/-- 'laws.FnExactNullPlayers': WHATEVER THE INPUT: true; the input reads as it did. -/
def fnExactNullPlayersSpec : ChangeSpec := { name := "fnExactNullPlayers", fn := fun _ => fun
  | [d] => { results := [.lit (.bool true)], args := [d] }
  | _ => none }
def fnExactNullPlayersRow : OpenClaim := { program := "ythfbjmiancgeeab", sum := "68dfc6086d16e56f79fcf6b3c675ba0d9d2224e2aa71639ce6e219b3b3157f43", func := "loop.example/g00520/laws.FnExactNullPlayers", spec := "fnExactNullPlayers", unfollowed := true, recurses := true, apart := false }
def FnExactNullPlayersSaid : Prop := fnExactNullPlayersRow.holds Try.pinned (OpenSpec.ofChange fnExactNullPlayersSpec)

/-- ITS FALSE NEIGHBOUR: 'it returns false'. Refute it at one input. -/
def fnExactNullPlayersWrong : ChangeSpec := { name := "fnExactNullPlayers", fn := fun _ => fun
  | [d] => { results := [.lit (.bool false)], args := [d] }
  | _ => none }
def FnExactNullPlayersWrongFalsely : Prop := fnExactNullPlayersRow.holds Try.pinned (OpenSpec.ofChange fnExactNullPlayersWrong)

/-- 'laws.FnExactDividendsOf': WHATEVER THE INPUT: true; the input reads as it did. -/
def fnExactDividendsOfSpec : ChangeSpec := { name := "fnExactDividendsOf", fn := fun _ => fun
  | [d] => { results := [.lit (.bool true)], args := [d] }
  | _ => none }
def fnExactDividendsOfRow : OpenClaim := { program := "ythfbjmiancgeeab", sum := "68dfc6086d16e56f79fcf6b3c675ba0d9d2224e2aa71639ce6e219b3b3157f43", func := "loop.example/g00520/laws.FnExactDividendsOf", spec := "fnExactDividendsOf", unfollowed := true, recurses := true, apart := false }
def FnExactDividendsOfSaid : Prop := fnExactDividendsOfRow.holds Try.pinned (OpenSpec.ofChange fnExactDividendsOfSpec)

/-- ITS FALSE NEIGHBOUR: 'it returns false'. Refute it at one input. -/
def fnExactDividendsOfWrong : ChangeSpec := { name := "fnExactDividendsOf", fn := fun _ => fun
  | [d] => { results := [.lit (.bool false)], args := [d] }
  | _ => none }
def FnExactDividendsOfWrongFalsely : Prop := fnExactDividendsOfRow.holds Try.pinned (OpenSpec.ofChange fnExactDividendsOfWrong)

/-- 'laws.FnExactAddGames': WHATEVER THE INPUT: true; the input reads as it did. -/
def fnExactAddGamesSpec : ChangeSpec := { name := "fnExactAddGames", fn := fun _ => fun
  | [d1, d2] => { results := [.lit (.bool true)], args := [d1, d2] }
  | _ => none }
def fnExactAddGamesRow : OpenClaim := { program := "ythfbjmiancgeeab", sum := "68dfc6086d16e56f79fcf6b3c675ba0d9d2224e2aa71639ce6e219b3b3157f43", func := "loop.example/g00520/laws.FnExactAddGames", spec := "fnExactAddGames", unfollowed := true, recurses := true, apart := false }
def FnExactAddGamesSaid : Prop := fnExactAddGamesRow.holds Try.pinned (OpenSpec.ofChange fnExactAddGamesSpec)

/-- ITS FALSE NEIGHBOUR: 'it returns false'. Refute it at one input. -/
def fnExactAddGamesWrong : ChangeSpec := { name := "fnExactAddGames", fn := fun _ => fun
  | [d1, d2] => { results := [.lit (.bool false)], args := [d1, d2] }
  | _ => none }
def FnExactAddGamesWrongFalsely : Prop := fnExactAddGamesRow.holds Try.pinned (OpenSpec.ofChange fnExactAddGamesWrong)

/- THE SECOND FORM. 'bulk': how many values and letters a reading holds, each counted each time it is reached (what is shared counts as often as it is met; a slice's spare places count too). A statement '..UptoSaid' is the law's where the arguments, and the package variables that the reading takes, are together of bulk at most 1048576: NARROWER than '..Said'. Prove '..Said' where nothing that the law and all that it calls make is longer than what came in: it says more and counts as full. Else prove '..UptoSaid'. A law counts once. -/
mutual
def uptoBulk {H : Type} : DataW H → Nat
  | .lit (.string bytes) => bytes.length + 1
  | .lit _ => 1
  | .nil => 1
  | .ptr d => uptoBulk d + 1
  | .slice elems spare => uptoBulkAll elems + uptoBulkAll spare + 1
  | .agg parts => uptoBulkAll parts + 1
  | .iface _ d => uptoBulk d + 1
  | .map entries => uptoBulkEntries entries + 1
  | .held _ => 1
def uptoBulkAll {H : Type} : List (DataW H) → Nat
  | [] => 0
  | d :: r => uptoBulk d + uptoBulkAll r
def uptoBulkEntries {H : Type} : List (Lit × DataW H) → Nat
  | [] => 0
  | x :: r => uptoBulkEntry x + uptoBulkEntries r
def uptoBulkEntry {H : Type} : Lit × DataW H → Nat
  | (.string bytes, d) => bytes.length + uptoBulk d + 1
  | (_, d) => uptoBulk d + 1
 end
def uptoSmall : (H : Type) → List (DataW H) → Bool := fun _ ds => decide (uptoBulkAll ds ≤ 1048576)
def OpenSpec.upto (s : _root_.Go.ChangeSpec) : _root_.Go.OpenSpec := { _root_.Go.OpenSpec.ofChange s with cond := some uptoSmall }

/-- 'laws.FnExactAreSymmetric', WHERE WHAT IT READS IS OF BULK AT MOST 1048576: true; the input reads as it did. -/
def fnExactAreSymmetricUptoRow : OpenClaim := { program := "ythfbjmiancgeeab", sum := "68dfc6086d16e56f79fcf6b3c675ba0d9d2224e2aa71639ce6e219b3b3157f43", func := "loop.example/g00520/laws.FnExactAreSymmetric", spec := "fnExactAreSymmetric", unfollowed := true, recurses := true, apart := false, narrowed := true }
def FnExactAreSymmetricUptoSaid : Prop := fnExactAreSymmetricUptoRow.holds Try.pinned (OpenSpec.upto fnExactAreSymmetricSpec)

/-- 'laws.FnExactCompareExcesses', WHERE WHAT IT READS IS OF BULK AT MOST 1048576: true; the input reads as it did. -/
def fnExactCompareExcessesUptoRow : OpenClaim := { program := "ythfbjmiancgeeab", sum := "68dfc6086d16e56f79fcf6b3c675ba0d9d2224e2aa71639ce6e219b3b3157f43", func := "loop.example/g00520/laws.FnExactCompareExcesses", spec := "fnExactCompareExcesses", apart := false, narrowed := true }
def FnExactCompareExcessesUptoSaid : Prop := fnExactCompareExcessesUptoRow.holds Try.pinned (OpenSpec.upto fnExactCompareExcessesSpec)

/-- 'laws.FnExactNullPlayers', WHERE WHAT IT READS IS OF BULK AT MOST 1048576: true; the input reads as it did. -/
def fnExactNullPlayersUptoRow : OpenClaim := { program := "ythfbjmiancgeeab", sum := "68dfc6086d16e56f79fcf6b3c675ba0d9d2224e2aa71639ce6e219b3b3157f43", func := "loop.example/g00520/laws.FnExactNullPlayers", spec := "fnExactNullPlayers", unfollowed := true, recurses := true, apart := false, narrowed := true }
def FnExactNullPlayersUptoSaid : Prop := fnExactNullPlayersUptoRow.holds Try.pinned (OpenSpec.upto fnExactNullPlayersSpec)

/-- 'laws.FnExactDividendsOf', WHERE WHAT IT READS IS OF BULK AT MOST 1048576: true; the input reads as it did. -/
def fnExactDividendsOfUptoRow : OpenClaim := { program := "ythfbjmiancgeeab", sum := "68dfc6086d16e56f79fcf6b3c675ba0d9d2224e2aa71639ce6e219b3b3157f43", func := "loop.example/g00520/laws.FnExactDividendsOf", spec := "fnExactDividendsOf", unfollowed := true, recurses := true, apart := false, narrowed := true }
def FnExactDividendsOfUptoSaid : Prop := fnExactDividendsOfUptoRow.holds Try.pinned (OpenSpec.upto fnExactDividendsOfSpec)

/-- 'laws.FnExactAddGames', WHERE WHAT IT READS IS OF BULK AT MOST 1048576: true; the input reads as it did. -/
def fnExactAddGamesUptoRow : OpenClaim := { program := "ythfbjmiancgeeab", sum := "68dfc6086d16e56f79fcf6b3c675ba0d9d2224e2aa71639ce6e219b3b3157f43", func := "loop.example/g00520/laws.FnExactAddGames", spec := "fnExactAddGames", unfollowed := true, recurses := true, apart := false, narrowed := true }
def FnExactAddGamesUptoSaid : Prop := fnExactAddGamesUptoRow.holds Try.pinned (OpenSpec.upto fnExactAddGamesSpec)

end Rows
end Go.Proofs.Ythfbjmiancgeeab
