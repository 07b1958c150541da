/-
  NARROWER THAN 'FOR EVERY INPUT', by the rows' own cells (each row's printed sentence says how): ExpandOrders: loops · ExpandTurned: loops · ExpandPuts: loops.
  DERIVED. THE GIVEN ROWS OF THIS SEAT. 4 by the template 'for every input the law returns true; each argument reads behind the call as it read before'; 0 by the template 'total and deterministic' (their statements: YtgijlgdhogbgbaaTotals.lean).
  GIVEN WITH THE SEED: the statements are not yours to turn. If you find one false, say at which input.
  Laid BY PROGRAM, IN A SANDBOX (cutbox-rows.mjs): the forced cells as the released guide's own fill.sh prints them over the translation 28b531d70716d53f… (all of the seat's roots in one cut). By AI agents, Wed Nov 11 2026. No macro, syntax, notation, axiom, sorry.
-/
import Derived.Test.YtgijlgdhogbgbaaChecked
import GoSem.Claim
import GoSem.ClaimJoined
import GoSem.ClaimMapViews
import Derived.JoinedTies
import Derived.KernelRfl
namespace Go.Proofs.Ytgijlgdhogbgbaa
/- THE CELL 'sum', in the pinned program and in every row, IS THE sha256 OF THE DUMP (.gsa) THAT YtgijlgdhogbgbaaProg.lean LOADS. Nothing in Lean hashes anything: it is a label: what it is worth is what the hold of that sum in a sandbox is worth. -/
noncomputable def Try.pinned : Pinned := { name := "ytgijlgdhogbgbaa", sum := "28b531d70716d53fd557f3dc16fe782dc490318f8f7499f5b6ee629c030f3b83", checked := Try.checked }
namespace Rows
def none {H : Type} : Left H := { results := [], args := [] }

/-- 'touchstonelaw11.ExpandOrders': WHATEVER THE INPUT: true; the input reads as it did. -/
def expandOrdersSpec : ChangeSpec := { name := "expandOrders", fn := fun _ => fun
  | [d] => { results := [.lit (.bool true)], args := [d] }
  | _ => none }
def expandOrdersRow : OpenClaim := { program := "ytgijlgdhogbgbaa", sum := "28b531d70716d53fd557f3dc16fe782dc490318f8f7499f5b6ee629c030f3b83", func := "touchstone/touchstonelaw11.ExpandOrders", spec := "expandOrders", unfollowed := true, recurses := true, loops := true, apart := false }
def ExpandOrdersSaid : Prop := expandOrdersRow.holds Try.pinned (OpenSpec.ofChange expandOrdersSpec)

/-- ITS FALSE NEIGHBOUR: 'it returns false'. Refute it at one input. -/
def expandOrdersWrong : ChangeSpec := { name := "expandOrders", fn := fun _ => fun
  | [d] => { results := [.lit (.bool false)], args := [d] }
  | _ => none }
def ExpandOrdersWrongFalsely : Prop := expandOrdersRow.holds Try.pinned (OpenSpec.ofChange expandOrdersWrong)

/-- 'touchstonelaw11.ExpandTurned': WHATEVER THE INPUT: true; the input reads as it did. -/
def expandTurnedSpec : ChangeSpec := { name := "expandTurned", fn := fun _ => fun
  | [d1, d2, d3] => { results := [.lit (.bool true)], args := [d1, d2, d3] }
  | _ => none }
def expandTurnedRow : OpenClaim := { program := "ytgijlgdhogbgbaa", sum := "28b531d70716d53fd557f3dc16fe782dc490318f8f7499f5b6ee629c030f3b83", func := "touchstone/touchstonelaw11.ExpandTurned", spec := "expandTurned", unfollowed := true, recurses := true, loops := true, apart := false }
def ExpandTurnedSaid : Prop := expandTurnedRow.holds Try.pinned (OpenSpec.ofChange expandTurnedSpec)

/-- ITS FALSE NEIGHBOUR: 'it returns false'. Refute it at one input. -/
def expandTurnedWrong : ChangeSpec := { name := "expandTurned", fn := fun _ => fun
  | [d1, d2, d3] => { results := [.lit (.bool false)], args := [d1, d2, d3] }
  | _ => none }
def ExpandTurnedWrongFalsely : Prop := expandTurnedRow.holds Try.pinned (OpenSpec.ofChange expandTurnedWrong)

/-- 'touchstonelaw11.ExpandPuts': WHATEVER THE INPUT: true; the input reads as it did. -/
def expandPutsSpec : ChangeSpec := { name := "expandPuts", fn := fun _ => fun
  | [d1, d2, d3, d4] => { results := [.lit (.bool true)], args := [d1, d2, d3, d4] }
  | _ => none }
def expandPutsRow : OpenClaim := { program := "ytgijlgdhogbgbaa", sum := "28b531d70716d53fd557f3dc16fe782dc490318f8f7499f5b6ee629c030f3b83", func := "touchstone/touchstonelaw11.ExpandPuts", spec := "expandPuts", unfollowed := true, recurses := true, loops := true, apart := false }
def ExpandPutsSaid : Prop := expandPutsRow.holds Try.pinned (OpenSpec.ofChange expandPutsSpec)

/-- ITS FALSE NEIGHBOUR: 'it returns false'. Refute it at one input. -/
def expandPutsWrong : ChangeSpec := { name := "expandPuts", fn := fun _ => fun
  | [d1, d2, d3, d4] => { results := [.lit (.bool false)], args := [d1, d2, d3, d4] }
  | _ => none }
def ExpandPutsWrongFalsely : Prop := expandPutsRow.holds Try.pinned (OpenSpec.ofChange expandPutsWrong)

/-- 'touchstonelaw11.ExpandRings': WHATEVER THE INPUT: true; the input reads as it did. -/
def expandRingsSpec : ChangeSpec := { name := "expandRings", fn := fun _ => fun
  | [d1, d2, d3] => { results := [.lit (.bool true)], args := [d1, d2, d3] }
  | _ => none }
def expandRingsRow : OpenClaim := { program := "ytgijlgdhogbgbaa", sum := "28b531d70716d53fd557f3dc16fe782dc490318f8f7499f5b6ee629c030f3b83", func := "touchstone/touchstonelaw11.ExpandRings", spec := "expandRings", unfollowed := true, recurses := true, apart := false }
def ExpandRingsSaid : Prop := expandRingsRow.holds Try.pinned (OpenSpec.ofChange expandRingsSpec)

/-- ITS FALSE NEIGHBOUR: 'it returns false'. Refute it at one input. -/
def expandRingsWrong : ChangeSpec := { name := "expandRings", fn := fun _ => fun
  | [d1, d2, d3] => { results := [.lit (.bool false)], args := [d1, d2, d3] }
  | _ => none }
def ExpandRingsWrongFalsely : Prop := expandRingsRow.holds Try.pinned (OpenSpec.ofChange expandRingsWrong)

/- THE SECOND FORM. 'bulk': how many values and letters a reading holds, each counted each time it is reached (what is shared counts as often as it is met; a slice's spare places count too). A statement '..UptoSaid' is the law's where the arguments, and the package variables that the reading takes, are together of bulk at most 1048576: NARROWER than '..Said'. Prove '..Said' where nothing that the law and all that it calls make is longer than what came in: it says more and counts as full. Else prove '..UptoSaid'. A law counts once. -/
mutual
def uptoBulk {H : Type} : DataW H → Nat
  | .lit (.string bytes) => bytes.length + 1
  | .lit _ => 1
  | .nil => 1
  | .ptr d => uptoBulk d + 1
  | .slice elems spare => uptoBulkAll elems + uptoBulkAll spare + 1
  | .agg parts => uptoBulkAll parts + 1
  | .iface _ d => uptoBulk d + 1
  | .map entries => uptoBulkEntries entries + 1
  | .held _ => 1
def uptoBulkAll {H : Type} : List (DataW H) → Nat
  | [] => 0
  | d :: r => uptoBulk d + uptoBulkAll r
def uptoBulkEntries {H : Type} : List (Lit × DataW H) → Nat
  | [] => 0
  | x :: r => uptoBulkEntry x + uptoBulkEntries r
def uptoBulkEntry {H : Type} : Lit × DataW H → Nat
  | (.string bytes, d) => bytes.length + uptoBulk d + 1
  | (_, d) => uptoBulk d + 1
 end
def uptoSmall : (H : Type) → List (DataW H) → Bool := fun _ ds => decide (uptoBulkAll ds ≤ 1048576)
def OpenSpec.upto (s : _root_.Go.ChangeSpec) : _root_.Go.OpenSpec := { _root_.Go.OpenSpec.ofChange s with cond := some uptoSmall }

/-- 'touchstonelaw11.ExpandOrders', WHERE WHAT IT READS IS OF BULK AT MOST 1048576: true; the input reads as it did. -/
def expandOrdersUptoRow : OpenClaim := { program := "ytgijlgdhogbgbaa", sum := "28b531d70716d53fd557f3dc16fe782dc490318f8f7499f5b6ee629c030f3b83", func := "touchstone/touchstonelaw11.ExpandOrders", spec := "expandOrders", unfollowed := true, recurses := true, loops := true, apart := false, narrowed := true }
def ExpandOrdersUptoSaid : Prop := expandOrdersUptoRow.holds Try.pinned (OpenSpec.upto expandOrdersSpec)

/-- 'touchstonelaw11.ExpandTurned', WHERE WHAT IT READS IS OF BULK AT MOST 1048576: true; the input reads as it did. -/
def expandTurnedUptoRow : OpenClaim := { program := "ytgijlgdhogbgbaa", sum := "28b531d70716d53fd557f3dc16fe782dc490318f8f7499f5b6ee629c030f3b83", func := "touchstone/touchstonelaw11.ExpandTurned", spec := "expandTurned", unfollowed := true, recurses := true, loops := true, apart := false, narrowed := true }
def ExpandTurnedUptoSaid : Prop := expandTurnedUptoRow.holds Try.pinned (OpenSpec.upto expandTurnedSpec)

/-- 'touchstonelaw11.ExpandPuts', WHERE WHAT IT READS IS OF BULK AT MOST 1048576: true; the input reads as it did. -/
def expandPutsUptoRow : OpenClaim := { program := "ytgijlgdhogbgbaa", sum := "28b531d70716d53fd557f3dc16fe782dc490318f8f7499f5b6ee629c030f3b83", func := "touchstone/touchstonelaw11.ExpandPuts", spec := "expandPuts", unfollowed := true, recurses := true, loops := true, apart := false, narrowed := true }
def ExpandPutsUptoSaid : Prop := expandPutsUptoRow.holds Try.pinned (OpenSpec.upto expandPutsSpec)

/-- 'touchstonelaw11.ExpandRings', WHERE WHAT IT READS IS OF BULK AT MOST 1048576: true; the input reads as it did. -/
def expandRingsUptoRow : OpenClaim := { program := "ytgijlgdhogbgbaa", sum := "28b531d70716d53fd557f3dc16fe782dc490318f8f7499f5b6ee629c030f3b83", func := "touchstone/touchstonelaw11.ExpandRings", spec := "expandRings", unfollowed := true, recurses := true, apart := false, narrowed := true }
def ExpandRingsUptoSaid : Prop := expandRingsUptoRow.holds Try.pinned (OpenSpec.upto expandRingsSpec)

end Rows
end Go.Proofs.Ytgijlgdhogbgbaa
