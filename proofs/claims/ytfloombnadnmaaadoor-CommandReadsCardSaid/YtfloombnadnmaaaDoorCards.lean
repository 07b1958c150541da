/-
  DERIVED. GIVEN WITH THE SEED: THE CARDS: each row of YtfloombnadnmaaaDoorRows.lean that lists a variable, with what it lists TIED to the program's text (the seventh form; the later family's looks); each row that meets fmt, with fmt's text TOLD by the authors' own Lean function (tested against real Go, not proved from fmt's source: count such statements apart). THE CARD IS WHAT COUNTS. Prove the row's statement (the work); the ties are given (YtfloombnadnmaaaDoorTie.lean); close each card by the builder's one call (the guide's Derived/Test/ToyasCard.lean, 'card_holds'). Laid BY PROGRAM, IN A SANDBOX (cutbox-door.mjs). By AI agents, Wed Nov 11 2026. No macro, syntax, notation, axiom, sorry.
-/
import Derived.Test.YtfloombnadnmaaaDoorRows
import GoSem.ClaimSeven
namespace Go.Proofs.YtfloombnadnmaaaDoor
namespace Rows

/-- THE TIED CARD OF 'touchstonelaw23.CommandEncodes'. -/
def commandEncodesCard : Claim7 := { stood := { row := commandEncodesRow, standIns := [], harness := (true, "147f23fe9b51053a72966b910547da6d8a83cf551466a3077f46e9ae7295a37c"), looks := false }, kinds := [], alts := [], laidByText := true, laidKinds := [.data, .pinned], laidTests := true, laidLooks := .later }
def CommandEncodesCardSaid : Prop := Claim7.holds Tryd.pinned (.plain (OpenSpec.ofChange commandEncodesSpec)) commandEncodesCard

/-- THE TIED CARD OF 'touchstonelaw23.CommandDecodes'. -/
def commandDecodesCard : Claim7 := { stood := { row := commandDecodesRow, standIns := [], harness := (true, "147f23fe9b51053a72966b910547da6d8a83cf551466a3077f46e9ae7295a37c"), looks := false }, kinds := [], alts := [], laidByText := true, laidKinds := [.data, .pinned], laidTests := true, laidLooks := .later }
def CommandDecodesCardSaid : Prop := Claim7.holds Tryd.pinned (.plain (OpenSpec.ofChange commandDecodesSpec)) commandDecodesCard

/-- THE TIED CARD OF 'touchstonelaw23.CommandAnswers'. -/
def commandAnswersCard : Claim7 := { stood := { row := commandAnswersRow, standIns := [], harness := (true, "147f23fe9b51053a72966b910547da6d8a83cf551466a3077f46e9ae7295a37c"), looks := false }, kinds := [], alts := [], laidByText := true, laidKinds := [.data, .pinned], laidTests := true, laidLooks := .later }
def CommandAnswersCardSaid : Prop := Claim7.holds Tryd.pinned (.plain (OpenSpec.ofChange commandAnswersSpec)) commandAnswersCard

/-- THE TIED CARD OF 'touchstonelaw23.CommandReads'. -/
def commandReadsCard : Claim7 := { stood := { row := commandReadsRow, standIns := [], harness := (true, "147f23fe9b51053a72966b910547da6d8a83cf551466a3077f46e9ae7295a37c"), looks := false }, kinds := [], alts := [], laidByText := true, laidKinds := [.data, .pinned], laidTests := true, laidLooks := .later }
def CommandReadsCardSaid : Prop := Claim7.holds Tryd.pinned (.plain (OpenSpec.ofChange commandReadsSpec)) commandReadsCard

/-- THE SECOND FORM's CARD OF 'touchstonelaw23.CommandEncodes'. -/
def commandEncodesUptoCard : Claim7 := { stood := { row := commandEncodesUptoRow, standIns := [], harness := (true, "147f23fe9b51053a72966b910547da6d8a83cf551466a3077f46e9ae7295a37c"), looks := false }, kinds := [], alts := [], laidByText := true, laidKinds := [.data, .pinned], laidTests := true, laidLooks := .later }
def CommandEncodesUptoCardSaid : Prop := Claim7.holds Tryd.pinned (.plain (OpenSpec.upto commandEncodesSpec)) commandEncodesUptoCard

/-- THE SECOND FORM's CARD OF 'touchstonelaw23.CommandDecodes'. -/
def commandDecodesUptoCard : Claim7 := { stood := { row := commandDecodesUptoRow, standIns := [], harness := (true, "147f23fe9b51053a72966b910547da6d8a83cf551466a3077f46e9ae7295a37c"), looks := false }, kinds := [], alts := [], laidByText := true, laidKinds := [.data, .pinned], laidTests := true, laidLooks := .later }
def CommandDecodesUptoCardSaid : Prop := Claim7.holds Tryd.pinned (.plain (OpenSpec.upto commandDecodesSpec)) commandDecodesUptoCard

/-- THE SECOND FORM's CARD OF 'touchstonelaw23.CommandAnswers'. -/
def commandAnswersUptoCard : Claim7 := { stood := { row := commandAnswersUptoRow, standIns := [], harness := (true, "147f23fe9b51053a72966b910547da6d8a83cf551466a3077f46e9ae7295a37c"), looks := false }, kinds := [], alts := [], laidByText := true, laidKinds := [.data, .pinned], laidTests := true, laidLooks := .later }
def CommandAnswersUptoCardSaid : Prop := Claim7.holds Tryd.pinned (.plain (OpenSpec.upto commandAnswersSpec)) commandAnswersUptoCard

/-- THE SECOND FORM's CARD OF 'touchstonelaw23.CommandReads'. -/
def commandReadsUptoCard : Claim7 := { stood := { row := commandReadsUptoRow, standIns := [], harness := (true, "147f23fe9b51053a72966b910547da6d8a83cf551466a3077f46e9ae7295a37c"), looks := false }, kinds := [], alts := [], laidByText := true, laidKinds := [.data, .pinned], laidTests := true, laidLooks := .later }
def CommandReadsUptoCardSaid : Prop := Claim7.holds Tryd.pinned (.plain (OpenSpec.upto commandReadsSpec)) commandReadsUptoCard
end Rows
end Go.Proofs.YtfloombnadnmaaaDoor
