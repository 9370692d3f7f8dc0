/-
  DERIVED. GIVEN WITH THE SEED: THE CARDS: each row of YtdaoggmpohnjhaaDoorRows.lean that lists a variable, with what it lists TIED to the program's text (the seventh form; the later family's looks); each row that meets fmt, with fmt's text TOLD by the authors' own Lean function (tested against real Go, not proved from fmt's source: count such statements apart). THE CARD IS WHAT COUNTS. Prove the row's statement (the work); the ties are given (YtdaoggmpohnjhaaDoorTie.lean); close each card by the builder's one call (the guide's Derived/Test/ToyasCard.lean, 'card_holds'). Laid BY PROGRAM, IN A SANDBOX (cutbox-door.mjs). By AI agents, Wed Nov 11 2026. No macro, syntax, notation, axiom, sorry.
-/
import Derived.Test.YtdaoggmpohnjhaaDoorRows
import GoSem.ClaimSeven
namespace Go.Proofs.YtdaoggmpohnjhaaDoor
namespace Rows

/-- THE TIED CARD OF 'laws.FnExactFormatGame'. -/
def fnExactFormatGameCard : Claim7 := { stood := { row := fnExactFormatGameRow, standIns := [], harness := (true, "56dd30b1d33425410c812176402dfc5e00bcbc14d73df7a6295526e38459c8b8"), looks := false }, kinds := [], alts := [], laidByText := true, laidKinds := [.data, .data, .data], laidTests := true, laidLooks := .later }
def FnExactFormatGameCardSaid : Prop := Claim7.holds Tryd.pinned (.plain (OpenSpec.ofChange fnExactFormatGameSpec)) fnExactFormatGameCard

/-- THE TIED CARD OF 'laws.FnExactParseGame'. -/
def fnExactParseGameCard : Claim7 := { stood := { row := fnExactParseGameRow, standIns := [], harness := (true, "56dd30b1d33425410c812176402dfc5e00bcbc14d73df7a6295526e38459c8b8"), looks := false }, kinds := [], alts := [], laidByText := true, laidKinds := [.data, .data, .data], laidTests := true, laidLooks := .later }
def FnExactParseGameCardSaid : Prop := Claim7.holds Tryd.pinned (.plain (OpenSpec.ofChange fnExactParseGameSpec)) fnExactParseGameCard

/-- THE TIED CARD OF 'laws.FnGameText'. -/
def fnGameTextCard : Claim7 := { stood := { row := fnGameTextRow, standIns := [], harness := (true, "56dd30b1d33425410c812176402dfc5e00bcbc14d73df7a6295526e38459c8b8"), looks := false }, kinds := [], alts := [], laidByText := true, laidKinds := [.data, .data, .data], laidTests := true, laidLooks := .later }
def FnGameTextCardSaid : Prop := Claim7.holds Tryd.pinned (.plain (OpenSpec.ofChange fnGameTextSpec)) fnGameTextCard

/-- THE SECOND FORM's CARD OF 'laws.FnExactFormatGame'. -/
def fnExactFormatGameUptoCard : Claim7 := { stood := { row := fnExactFormatGameUptoRow, standIns := [], harness := (true, "56dd30b1d33425410c812176402dfc5e00bcbc14d73df7a6295526e38459c8b8"), looks := false }, kinds := [], alts := [], laidByText := true, laidKinds := [.data, .data, .data], laidTests := true, laidLooks := .later }
def FnExactFormatGameUptoCardSaid : Prop := Claim7.holds Tryd.pinned (.plain (OpenSpec.upto fnExactFormatGameSpec)) fnExactFormatGameUptoCard

/-- THE SECOND FORM's CARD OF 'laws.FnExactParseGame'. -/
def fnExactParseGameUptoCard : Claim7 := { stood := { row := fnExactParseGameUptoRow, standIns := [], harness := (true, "56dd30b1d33425410c812176402dfc5e00bcbc14d73df7a6295526e38459c8b8"), looks := false }, kinds := [], alts := [], laidByText := true, laidKinds := [.data, .data, .data], laidTests := true, laidLooks := .later }
def FnExactParseGameUptoCardSaid : Prop := Claim7.holds Tryd.pinned (.plain (OpenSpec.upto fnExactParseGameSpec)) fnExactParseGameUptoCard

/-- THE SECOND FORM's CARD OF 'laws.FnGameText'. -/
def fnGameTextUptoCard : Claim7 := { stood := { row := fnGameTextUptoRow, standIns := [], harness := (true, "56dd30b1d33425410c812176402dfc5e00bcbc14d73df7a6295526e38459c8b8"), looks := false }, kinds := [], alts := [], laidByText := true, laidKinds := [.data, .data, .data], laidTests := true, laidLooks := .later }
def FnGameTextUptoCardSaid : Prop := Claim7.holds Tryd.pinned (.plain (OpenSpec.upto fnGameTextSpec)) fnGameTextUptoCard
end Rows
end Go.Proofs.YtdaoggmpohnjhaaDoor
