/-
  DERIVED. GIVEN WITH THE SEED: THE CARDS: each row of YtncjbccjpneoiaaDoorRows.lean that lists a variable, with what it lists TIED to the program's text (the seventh form; the later family's looks); each row that meets fmt, with fmt's text TOLD by the authors' own Lean function (tested against real Go, not proved from fmt's source: count such statements apart). THE CARD IS WHAT COUNTS. Prove the row's statement (the work); the ties are given (YtncjbccjpneoiaaDoorTie.lean); close each card by the builder's one call (the guide's Derived/Test/ToyasCard.lean, 'card_holds'). Laid BY PROGRAM, IN A SANDBOX (cutbox-door.mjs). By AI agents, Wed Nov 11 2026. No macro, syntax, notation, axiom, sorry.
-/
import Derived.Test.YtncjbccjpneoiaaDoorRows
import GoSem.ClaimSeven
namespace Go.Proofs.YtncjbccjpneoiaaDoor
namespace Rows

/-- THE TIED CARD OF 'touchstonelaw13.UnifySolves'. -/
def unifySolvesCard : Claim7 := { stood := { row := unifySolvesRow, standIns := [], harness := (true, "cef0c284b07b0215155c3b82212b51984efeb2ec84ccaa1b4a76b53e5c7662c9"), looks := false }, kinds := [], alts := [], laidByText := true, laidKinds := [.data, .data, .data], laidTests := true, laidLooks := .later }
def UnifySolvesCardSaid : Prop := Claim7.holds Tryd.pinned (.plain (OpenSpec.ofChange unifySolvesSpec)) unifySolvesCard

/-- THE TIED CARD OF 'touchstonelaw13.UnifyHolds'. -/
def unifyHoldsCard : Claim7 := { stood := { row := unifyHoldsRow, standIns := [], harness := (true, "cef0c284b07b0215155c3b82212b51984efeb2ec84ccaa1b4a76b53e5c7662c9"), looks := false }, kinds := [], alts := [], laidByText := true, laidKinds := [.data, .data, .data], laidTests := true, laidLooks := .later }
def UnifyHoldsCardSaid : Prop := Claim7.holds Tryd.pinned (.plain (OpenSpec.ofChange unifyHoldsSpec)) unifyHoldsCard

/-- THE TIED CARD OF 'touchstonelaw13.UnifyTurned'. -/
def unifyTurnedCard : Claim7 := { stood := { row := unifyTurnedRow, standIns := [], harness := (true, "cef0c284b07b0215155c3b82212b51984efeb2ec84ccaa1b4a76b53e5c7662c9"), looks := false }, kinds := [], alts := [], laidByText := true, laidKinds := [.data, .data, .data], laidTests := true, laidLooks := .later }
def UnifyTurnedCardSaid : Prop := Claim7.holds Tryd.pinned (.plain (OpenSpec.ofChange unifyTurnedSpec)) unifyTurnedCard

/-- THE TIED CARD OF 'touchstonelaw13.UnifyMeets'. -/
def unifyMeetsCard : Claim7 := { stood := { row := unifyMeetsRow, standIns := [], harness := (true, "cef0c284b07b0215155c3b82212b51984efeb2ec84ccaa1b4a76b53e5c7662c9"), looks := false }, kinds := [], alts := [], laidByText := true, laidKinds := [.data, .data, .data], laidTests := true, laidLooks := .later }
def UnifyMeetsCardSaid : Prop := Claim7.holds Tryd.pinned (.plain (OpenSpec.ofChange unifyMeetsSpec)) unifyMeetsCard

/-- THE TIED CARD OF 'touchstonelaw13.UnifyDoubles'. -/
def unifyDoublesCard : Claim7 := { stood := { row := unifyDoublesRow, standIns := [], harness := (true, "cef0c284b07b0215155c3b82212b51984efeb2ec84ccaa1b4a76b53e5c7662c9"), looks := false }, kinds := [], alts := [], laidByText := true, laidKinds := [.data, .data, .data], laidTests := true, laidLooks := .later }
def UnifyDoublesCardSaid : Prop := Claim7.holds Tryd.pinned (.plain (OpenSpec.ofChange unifyDoublesSpec)) unifyDoublesCard

/-- THE TIED CARD OF 'touchstonelaw13.UnifyRigid'. -/
def unifyRigidCard : Claim7 := { stood := { row := unifyRigidRow, standIns := [], harness := (true, "cef0c284b07b0215155c3b82212b51984efeb2ec84ccaa1b4a76b53e5c7662c9"), looks := false }, kinds := [], alts := [], laidByText := true, laidKinds := [.data, .data, .data], laidTests := true, laidLooks := .later }
def UnifyRigidCardSaid : Prop := Claim7.holds Tryd.pinned (.plain (OpenSpec.ofChange unifyRigidSpec)) unifyRigidCard

/-- THE SECOND FORM's CARD OF 'touchstonelaw13.UnifySolves'. -/
def unifySolvesUptoCard : Claim7 := { stood := { row := unifySolvesUptoRow, standIns := [], harness := (true, "cef0c284b07b0215155c3b82212b51984efeb2ec84ccaa1b4a76b53e5c7662c9"), looks := false }, kinds := [], alts := [], laidByText := true, laidKinds := [.data, .data, .data], laidTests := true, laidLooks := .later }
def UnifySolvesUptoCardSaid : Prop := Claim7.holds Tryd.pinned (.plain (OpenSpec.upto unifySolvesSpec)) unifySolvesUptoCard

/-- THE SECOND FORM's CARD OF 'touchstonelaw13.UnifyHolds'. -/
def unifyHoldsUptoCard : Claim7 := { stood := { row := unifyHoldsUptoRow, standIns := [], harness := (true, "cef0c284b07b0215155c3b82212b51984efeb2ec84ccaa1b4a76b53e5c7662c9"), looks := false }, kinds := [], alts := [], laidByText := true, laidKinds := [.data, .data, .data], laidTests := true, laidLooks := .later }
def UnifyHoldsUptoCardSaid : Prop := Claim7.holds Tryd.pinned (.plain (OpenSpec.upto unifyHoldsSpec)) unifyHoldsUptoCard

/-- THE SECOND FORM's CARD OF 'touchstonelaw13.UnifyTurned'. -/
def unifyTurnedUptoCard : Claim7 := { stood := { row := unifyTurnedUptoRow, standIns := [], harness := (true, "cef0c284b07b0215155c3b82212b51984efeb2ec84ccaa1b4a76b53e5c7662c9"), looks := false }, kinds := [], alts := [], laidByText := true, laidKinds := [.data, .data, .data], laidTests := true, laidLooks := .later }
def UnifyTurnedUptoCardSaid : Prop := Claim7.holds Tryd.pinned (.plain (OpenSpec.upto unifyTurnedSpec)) unifyTurnedUptoCard

/-- THE SECOND FORM's CARD OF 'touchstonelaw13.UnifyMeets'. -/
def unifyMeetsUptoCard : Claim7 := { stood := { row := unifyMeetsUptoRow, standIns := [], harness := (true, "cef0c284b07b0215155c3b82212b51984efeb2ec84ccaa1b4a76b53e5c7662c9"), looks := false }, kinds := [], alts := [], laidByText := true, laidKinds := [.data, .data, .data], laidTests := true, laidLooks := .later }
def UnifyMeetsUptoCardSaid : Prop := Claim7.holds Tryd.pinned (.plain (OpenSpec.upto unifyMeetsSpec)) unifyMeetsUptoCard

/-- THE SECOND FORM's CARD OF 'touchstonelaw13.UnifyDoubles'. -/
def unifyDoublesUptoCard : Claim7 := { stood := { row := unifyDoublesUptoRow, standIns := [], harness := (true, "cef0c284b07b0215155c3b82212b51984efeb2ec84ccaa1b4a76b53e5c7662c9"), looks := false }, kinds := [], alts := [], laidByText := true, laidKinds := [.data, .data, .data], laidTests := true, laidLooks := .later }
def UnifyDoublesUptoCardSaid : Prop := Claim7.holds Tryd.pinned (.plain (OpenSpec.upto unifyDoublesSpec)) unifyDoublesUptoCard

/-- THE SECOND FORM's CARD OF 'touchstonelaw13.UnifyRigid'. -/
def unifyRigidUptoCard : Claim7 := { stood := { row := unifyRigidUptoRow, standIns := [], harness := (true, "cef0c284b07b0215155c3b82212b51984efeb2ec84ccaa1b4a76b53e5c7662c9"), looks := false }, kinds := [], alts := [], laidByText := true, laidKinds := [.data, .data, .data], laidTests := true, laidLooks := .later }
def UnifyRigidUptoCardSaid : Prop := Claim7.holds Tryd.pinned (.plain (OpenSpec.upto unifyRigidSpec)) unifyRigidUptoCard
end Rows
end Go.Proofs.YtncjbccjpneoiaaDoor
