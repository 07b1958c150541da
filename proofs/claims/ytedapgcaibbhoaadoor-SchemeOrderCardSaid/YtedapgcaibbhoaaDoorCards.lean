/-
  DERIVED. GIVEN WITH THE SEED: THE CARDS: each row of YtedapgcaibbhoaaDoorRows.lean that lists a variable, with what it lists TIED to the program's text (the seventh form; the later family's looks); each row that meets fmt, with fmt's text TOLD by the authors' own Lean function (tested against real Go, not proved from fmt's source: count such statements apart). THE CARD IS WHAT COUNTS. Prove the row's statement (the work); the ties are given (YtedapgcaibbhoaaDoorTie.lean); close each card by the builder's one call (the guide's Derived/Test/ToyasCard.lean, 'card_holds'). Laid BY PROGRAM, IN A SANDBOX (cutbox-door.mjs). By AI agents, Wed Nov 11 2026. No macro, syntax, notation, axiom, sorry.
-/
import Derived.Test.YtedapgcaibbhoaaDoorRows
import GoSem.ClaimSeven
namespace Go.Proofs.YtedapgcaibbhoaaDoor
namespace Rows

/-- THE TIED CARD OF 'touchstonelaw14.SchemeOrder'. -/
def schemeOrderCard : Claim7 := { stood := { row := schemeOrderRow, standIns := [], harness := (true, "82d478f9a55e9938cca9cb263603b55a79f1fa6fe91b3b1abc033c0d6290fae3"), looks := false }, kinds := [], alts := [], laidByText := true, laidKinds := [.data, .data, .data], laidTests := true, laidLooks := .later }
def SchemeOrderCardSaid : Prop := Claim7.holds Tryd.pinned (.plain (OpenSpec.ofChange schemeOrderSpec)) schemeOrderCard

/-- THE TIED CARD OF 'touchstonelaw14.SchemeParts'. -/
def schemePartsCard : Claim7 := { stood := { row := schemePartsRow, standIns := [], harness := (true, "82d478f9a55e9938cca9cb263603b55a79f1fa6fe91b3b1abc033c0d6290fae3"), looks := false }, kinds := [], alts := [], laidByText := true, laidKinds := [.data, .data, .data], laidTests := true, laidLooks := .later }
def SchemePartsCardSaid : Prop := Claim7.holds Tryd.pinned (.plain (OpenSpec.ofChange schemePartsSpec)) schemePartsCard

/-- THE TIED CARD OF 'touchstonelaw14.SchemeMatches'. -/
def schemeMatchesCard : Claim7 := { stood := { row := schemeMatchesRow, standIns := [], harness := (true, "82d478f9a55e9938cca9cb263603b55a79f1fa6fe91b3b1abc033c0d6290fae3"), looks := false }, kinds := [], alts := [], laidByText := true, laidKinds := [.data, .data, .data], laidTests := true, laidLooks := .later }
def SchemeMatchesCardSaid : Prop := Claim7.holds Tryd.pinned (.plain (OpenSpec.ofChange schemeMatchesSpec)) schemeMatchesCard

/-- THE TIED CARD OF 'touchstonelaw14.SchemeMeets'. -/
def schemeMeetsCard : Claim7 := { stood := { row := schemeMeetsRow, standIns := [], harness := (true, "82d478f9a55e9938cca9cb263603b55a79f1fa6fe91b3b1abc033c0d6290fae3"), looks := false }, kinds := [], alts := [], laidByText := true, laidKinds := [.data, .data, .data], laidTests := true, laidLooks := .later }
def SchemeMeetsCardSaid : Prop := Claim7.holds Tryd.pinned (.plain (OpenSpec.ofChange schemeMeetsSpec)) schemeMeetsCard

/-- THE SECOND FORM's CARD OF 'touchstonelaw14.SchemeOrder'. -/
def schemeOrderUptoCard : Claim7 := { stood := { row := schemeOrderUptoRow, standIns := [], harness := (true, "82d478f9a55e9938cca9cb263603b55a79f1fa6fe91b3b1abc033c0d6290fae3"), looks := false }, kinds := [], alts := [], laidByText := true, laidKinds := [.data, .data, .data], laidTests := true, laidLooks := .later }
def SchemeOrderUptoCardSaid : Prop := Claim7.holds Tryd.pinned (.plain (OpenSpec.upto schemeOrderSpec)) schemeOrderUptoCard

/-- THE SECOND FORM's CARD OF 'touchstonelaw14.SchemeParts'. -/
def schemePartsUptoCard : Claim7 := { stood := { row := schemePartsUptoRow, standIns := [], harness := (true, "82d478f9a55e9938cca9cb263603b55a79f1fa6fe91b3b1abc033c0d6290fae3"), looks := false }, kinds := [], alts := [], laidByText := true, laidKinds := [.data, .data, .data], laidTests := true, laidLooks := .later }
def SchemePartsUptoCardSaid : Prop := Claim7.holds Tryd.pinned (.plain (OpenSpec.upto schemePartsSpec)) schemePartsUptoCard

/-- THE SECOND FORM's CARD OF 'touchstonelaw14.SchemeMatches'. -/
def schemeMatchesUptoCard : Claim7 := { stood := { row := schemeMatchesUptoRow, standIns := [], harness := (true, "82d478f9a55e9938cca9cb263603b55a79f1fa6fe91b3b1abc033c0d6290fae3"), looks := false }, kinds := [], alts := [], laidByText := true, laidKinds := [.data, .data, .data], laidTests := true, laidLooks := .later }
def SchemeMatchesUptoCardSaid : Prop := Claim7.holds Tryd.pinned (.plain (OpenSpec.upto schemeMatchesSpec)) schemeMatchesUptoCard

/-- THE SECOND FORM's CARD OF 'touchstonelaw14.SchemeMeets'. -/
def schemeMeetsUptoCard : Claim7 := { stood := { row := schemeMeetsUptoRow, standIns := [], harness := (true, "82d478f9a55e9938cca9cb263603b55a79f1fa6fe91b3b1abc033c0d6290fae3"), looks := false }, kinds := [], alts := [], laidByText := true, laidKinds := [.data, .data, .data], laidTests := true, laidLooks := .later }
def SchemeMeetsUptoCardSaid : Prop := Claim7.holds Tryd.pinned (.plain (OpenSpec.upto schemeMeetsSpec)) schemeMeetsUptoCard
end Rows
end Go.Proofs.YtedapgcaibbhoaaDoor
