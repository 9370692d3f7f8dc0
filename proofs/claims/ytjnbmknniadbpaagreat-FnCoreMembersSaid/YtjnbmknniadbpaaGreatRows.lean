/-
  No cell of these rows narrows 'for every input' (looked for: loops, veiled, ifaces, maps, wideKeys, modest, calm, conditions, laid).
  DERIVED. THE GIVEN ROWS OF THIS SEAT. 6 by the template 'for every input the law returns true; each argument reads behind the call as it read before'; 0 by the template 'total and deterministic' (their statements: YtjnbmknniadbpaaGreatTotals.lean).
  GIVEN WITH THE SEED: the statements are not yours to turn. If you find one false, say at which input.
  Laid BY PROGRAM, IN A SANDBOX (cutbox-rows.mjs): the forced cells as the released guide's own fill.sh prints them over the translation bef5056e5c4ce9b4… (all of the seat's roots in one cut). By AI agents, Wed Nov 11 2026. No macro, syntax, notation, axiom, sorry.
-/
import Derived.Test.YtjnbmknniadbpaaGreatChecked
import GoSem.Claim
import GoSem.ClaimJoined
import GoSem.ClaimMapViews
import Derived.JoinedTies
import Derived.KernelRfl
namespace Go.Proofs.YtjnbmknniadbpaaGreat
/- THE CELL 'sum', in the pinned program and in every row, IS THE sha256 OF THE DUMP (.gsa) THAT YtjnbmknniadbpaaGreatProg.lean LOADS. Nothing in Lean hashes anything: it is a label: what it is worth is what the hold of that sum in a sandbox is worth. -/
noncomputable def Tryz.pinned : Pinned := { name := "ytjnbmknniadbpaagreat", sum := "bef5056e5c4ce9b403913afff4554043abe62033686f03edef8304b2d1921631", checked := Tryz.checked }
namespace Rows
def none {H : Type} : Left H := { results := [], args := [] }

/-- 'laws.FnSimplex': WHATEVER THE INPUT: true; the input reads as it did. -/
def fnSimplexSpec : ChangeSpec := { name := "fnSimplex", fn := fun _ => fun
  | [d] => { results := [.lit (.bool true)], args := [d] }
  | _ => none }
def fnSimplexRow : OpenClaim := { program := "ytjnbmknniadbpaagreat", sum := "bef5056e5c4ce9b403913afff4554043abe62033686f03edef8304b2d1921631", func := "loop.example/g00520/laws.FnSimplex", spec := "fnSimplex", unfollowed := true, recurses := true, apart := false }
def FnSimplexSaid : Prop := fnSimplexRow.holds Tryz.pinned (OpenSpec.ofChange fnSimplexSpec)

/-- ITS FALSE NEIGHBOUR: 'it returns false'. Refute it at one input. -/
def fnSimplexWrong : ChangeSpec := { name := "fnSimplex", fn := fun _ => fun
  | [d] => { results := [.lit (.bool false)], args := [d] }
  | _ => none }
def FnSimplexWrongFalsely : Prop := fnSimplexRow.holds Tryz.pinned (OpenSpec.ofChange fnSimplexWrong)

/-- 'laws.FnCore': WHATEVER THE INPUT: true; the input reads as it did. -/
def fnCoreSpec : ChangeSpec := { name := "fnCore", fn := fun _ => fun
  | [d] => { results := [.lit (.bool true)], args := [d] }
  | _ => none }
def fnCoreRow : OpenClaim := { program := "ytjnbmknniadbpaagreat", sum := "bef5056e5c4ce9b403913afff4554043abe62033686f03edef8304b2d1921631", func := "loop.example/g00520/laws.FnCore", spec := "fnCore", unfollowed := true, recurses := true, apart := false }
def FnCoreSaid : Prop := fnCoreRow.holds Tryz.pinned (OpenSpec.ofChange fnCoreSpec)

/-- ITS FALSE NEIGHBOUR: 'it returns false'. Refute it at one input. -/
def fnCoreWrong : ChangeSpec := { name := "fnCore", fn := fun _ => fun
  | [d] => { results := [.lit (.bool false)], args := [d] }
  | _ => none }
def FnCoreWrongFalsely : Prop := fnCoreRow.holds Tryz.pinned (OpenSpec.ofChange fnCoreWrong)

/-- 'laws.FnLeastCore': WHATEVER THE INPUT: true; the input reads as it did. -/
def fnLeastCoreSpec : ChangeSpec := { name := "fnLeastCore", fn := fun _ => fun
  | [d] => { results := [.lit (.bool true)], args := [d] }
  | _ => none }
def fnLeastCoreRow : OpenClaim := { program := "ytjnbmknniadbpaagreat", sum := "bef5056e5c4ce9b403913afff4554043abe62033686f03edef8304b2d1921631", func := "loop.example/g00520/laws.FnLeastCore", spec := "fnLeastCore", unfollowed := true, recurses := true, apart := false }
def FnLeastCoreSaid : Prop := fnLeastCoreRow.holds Tryz.pinned (OpenSpec.ofChange fnLeastCoreSpec)

/-- ITS FALSE NEIGHBOUR: 'it returns false'. Refute it at one input. -/
def fnLeastCoreWrong : ChangeSpec := { name := "fnLeastCore", fn := fun _ => fun
  | [d] => { results := [.lit (.bool false)], args := [d] }
  | _ => none }
def FnLeastCoreWrongFalsely : Prop := fnLeastCoreRow.holds Tryz.pinned (OpenSpec.ofChange fnLeastCoreWrong)

/-- 'laws.FnExactFindLeastCore': WHATEVER THE INPUT: true; the input reads as it did. -/
def fnExactFindLeastCoreSpec : ChangeSpec := { name := "fnExactFindLeastCore", fn := fun _ => fun
  | [d] => { results := [.lit (.bool true)], args := [d] }
  | _ => none }
def fnExactFindLeastCoreRow : OpenClaim := { program := "ytjnbmknniadbpaagreat", sum := "bef5056e5c4ce9b403913afff4554043abe62033686f03edef8304b2d1921631", func := "loop.example/g00520/laws.FnExactFindLeastCore", spec := "fnExactFindLeastCore", unfollowed := true, recurses := true, apart := false }
def FnExactFindLeastCoreSaid : Prop := fnExactFindLeastCoreRow.holds Tryz.pinned (OpenSpec.ofChange fnExactFindLeastCoreSpec)

/-- ITS FALSE NEIGHBOUR: 'it returns false'. Refute it at one input. -/
def fnExactFindLeastCoreWrong : ChangeSpec := { name := "fnExactFindLeastCore", fn := fun _ => fun
  | [d] => { results := [.lit (.bool false)], args := [d] }
  | _ => none }
def FnExactFindLeastCoreWrongFalsely : Prop := fnExactFindLeastCoreRow.holds Tryz.pinned (OpenSpec.ofChange fnExactFindLeastCoreWrong)

/-- 'laws.FnExactFindCore': WHATEVER THE INPUT: true; the input reads as it did. -/
def fnExactFindCoreSpec : ChangeSpec := { name := "fnExactFindCore", fn := fun _ => fun
  | [d] => { results := [.lit (.bool true)], args := [d] }
  | _ => none }
def fnExactFindCoreRow : OpenClaim := { program := "ytjnbmknniadbpaagreat", sum := "bef5056e5c4ce9b403913afff4554043abe62033686f03edef8304b2d1921631", func := "loop.example/g00520/laws.FnExactFindCore", spec := "fnExactFindCore", unfollowed := true, recurses := true, apart := false }
def FnExactFindCoreSaid : Prop := fnExactFindCoreRow.holds Tryz.pinned (OpenSpec.ofChange fnExactFindCoreSpec)

/-- ITS FALSE NEIGHBOUR: 'it returns false'. Refute it at one input. -/
def fnExactFindCoreWrong : ChangeSpec := { name := "fnExactFindCore", fn := fun _ => fun
  | [d] => { results := [.lit (.bool false)], args := [d] }
  | _ => none }
def FnExactFindCoreWrongFalsely : Prop := fnExactFindCoreRow.holds Tryz.pinned (OpenSpec.ofChange fnExactFindCoreWrong)

/-- 'laws.FnCoreMembers': WHATEVER THE INPUT: true; the input reads as it did. -/
def fnCoreMembersSpec : ChangeSpec := { name := "fnCoreMembers", fn := fun _ => fun
  | [d] => { results := [.lit (.bool true)], args := [d] }
  | _ => none }
def fnCoreMembersRow : OpenClaim := { program := "ytjnbmknniadbpaagreat", sum := "bef5056e5c4ce9b403913afff4554043abe62033686f03edef8304b2d1921631", func := "loop.example/g00520/laws.FnCoreMembers", spec := "fnCoreMembers", unfollowed := true, recurses := true, apart := false }
def FnCoreMembersSaid : Prop := fnCoreMembersRow.holds Tryz.pinned (OpenSpec.ofChange fnCoreMembersSpec)

/-- ITS FALSE NEIGHBOUR: 'it returns false'. Refute it at one input. -/
def fnCoreMembersWrong : ChangeSpec := { name := "fnCoreMembers", fn := fun _ => fun
  | [d] => { results := [.lit (.bool false)], args := [d] }
  | _ => none }
def FnCoreMembersWrongFalsely : Prop := fnCoreMembersRow.holds Tryz.pinned (OpenSpec.ofChange fnCoreMembersWrong)

/- THE SECOND FORM. 'bulk': how many values and letters a reading holds, each counted each time it is reached (what is shared counts as often as it is met; a slice's spare places count too). A statement '..UptoSaid' is the law's where the arguments, and the package variables that the reading takes, are together of bulk at most 1048576: NARROWER than '..Said'. Prove '..Said' where nothing that the law and all that it calls make is longer than what came in: it says more and counts as full. Else prove '..UptoSaid'. A law counts once. -/
mutual
def uptoBulk {H : Type} : DataW H → Nat
  | .lit (.string bytes) => bytes.length + 1
  | .lit _ => 1
  | .nil => 1
  | .ptr d => uptoBulk d + 1
  | .slice elems spare => uptoBulkAll elems + uptoBulkAll spare + 1
  | .agg parts => uptoBulkAll parts + 1
  | .iface _ d => uptoBulk d + 1
  | .map entries => uptoBulkEntries entries + 1
  | .held _ => 1
def uptoBulkAll {H : Type} : List (DataW H) → Nat
  | [] => 0
  | d :: r => uptoBulk d + uptoBulkAll r
def uptoBulkEntries {H : Type} : List (Lit × DataW H) → Nat
  | [] => 0
  | x :: r => uptoBulkEntry x + uptoBulkEntries r
def uptoBulkEntry {H : Type} : Lit × DataW H → Nat
  | (.string bytes, d) => bytes.length + uptoBulk d + 1
  | (_, d) => uptoBulk d + 1
 end
def uptoSmall : (H : Type) → List (DataW H) → Bool := fun _ ds => decide (uptoBulkAll ds ≤ 1048576)
def OpenSpec.upto (s : _root_.Go.ChangeSpec) : _root_.Go.OpenSpec := { _root_.Go.OpenSpec.ofChange s with cond := some uptoSmall }

/-- 'laws.FnSimplex', WHERE WHAT IT READS IS OF BULK AT MOST 1048576: true; the input reads as it did. -/
def fnSimplexUptoRow : OpenClaim := { program := "ytjnbmknniadbpaagreat", sum := "bef5056e5c4ce9b403913afff4554043abe62033686f03edef8304b2d1921631", func := "loop.example/g00520/laws.FnSimplex", spec := "fnSimplex", unfollowed := true, recurses := true, apart := false, narrowed := true }
def FnSimplexUptoSaid : Prop := fnSimplexUptoRow.holds Tryz.pinned (OpenSpec.upto fnSimplexSpec)

/-- 'laws.FnCore', WHERE WHAT IT READS IS OF BULK AT MOST 1048576: true; the input reads as it did. -/
def fnCoreUptoRow : OpenClaim := { program := "ytjnbmknniadbpaagreat", sum := "bef5056e5c4ce9b403913afff4554043abe62033686f03edef8304b2d1921631", func := "loop.example/g00520/laws.FnCore", spec := "fnCore", unfollowed := true, recurses := true, apart := false, narrowed := true }
def FnCoreUptoSaid : Prop := fnCoreUptoRow.holds Tryz.pinned (OpenSpec.upto fnCoreSpec)

/-- 'laws.FnLeastCore', WHERE WHAT IT READS IS OF BULK AT MOST 1048576: true; the input reads as it did. -/
def fnLeastCoreUptoRow : OpenClaim := { program := "ytjnbmknniadbpaagreat", sum := "bef5056e5c4ce9b403913afff4554043abe62033686f03edef8304b2d1921631", func := "loop.example/g00520/laws.FnLeastCore", spec := "fnLeastCore", unfollowed := true, recurses := true, apart := false, narrowed := true }
def FnLeastCoreUptoSaid : Prop := fnLeastCoreUptoRow.holds Tryz.pinned (OpenSpec.upto fnLeastCoreSpec)

/-- 'laws.FnExactFindLeastCore', WHERE WHAT IT READS IS OF BULK AT MOST 1048576: true; the input reads as it did. -/
def fnExactFindLeastCoreUptoRow : OpenClaim := { program := "ytjnbmknniadbpaagreat", sum := "bef5056e5c4ce9b403913afff4554043abe62033686f03edef8304b2d1921631", func := "loop.example/g00520/laws.FnExactFindLeastCore", spec := "fnExactFindLeastCore", unfollowed := true, recurses := true, apart := false, narrowed := true }
def FnExactFindLeastCoreUptoSaid : Prop := fnExactFindLeastCoreUptoRow.holds Tryz.pinned (OpenSpec.upto fnExactFindLeastCoreSpec)

/-- 'laws.FnExactFindCore', WHERE WHAT IT READS IS OF BULK AT MOST 1048576: true; the input reads as it did. -/
def fnExactFindCoreUptoRow : OpenClaim := { program := "ytjnbmknniadbpaagreat", sum := "bef5056e5c4ce9b403913afff4554043abe62033686f03edef8304b2d1921631", func := "loop.example/g00520/laws.FnExactFindCore", spec := "fnExactFindCore", unfollowed := true, recurses := true, apart := false, narrowed := true }
def FnExactFindCoreUptoSaid : Prop := fnExactFindCoreUptoRow.holds Tryz.pinned (OpenSpec.upto fnExactFindCoreSpec)

/-- 'laws.FnCoreMembers', WHERE WHAT IT READS IS OF BULK AT MOST 1048576: true; the input reads as it did. -/
def fnCoreMembersUptoRow : OpenClaim := { program := "ytjnbmknniadbpaagreat", sum := "bef5056e5c4ce9b403913afff4554043abe62033686f03edef8304b2d1921631", func := "loop.example/g00520/laws.FnCoreMembers", spec := "fnCoreMembers", unfollowed := true, recurses := true, apart := false, narrowed := true }
def FnCoreMembersUptoSaid : Prop := fnCoreMembersUptoRow.holds Tryz.pinned (OpenSpec.upto fnCoreMembersSpec)

end Rows
end Go.Proofs.YtjnbmknniadbpaaGreat
