/-
  NARROWER THAN 'FOR EVERY INPUT', by the rows' own cells (each row's printed sentence says how): UnifySolves: loops, laid · UnifyHolds: loops, laid · UnifyTurned: loops, laid · UnifyMeets: loops, laid · UnifyDoubles: laid · UnifyRigid: laid.
  DERIVED. THE GIVEN ROWS OF THIS SEAT. 6 by the template 'for every input the law returns true; each argument reads behind the call as it read before'; 0 by the template 'total and deterministic' (their statements: YtncjbccjpneoiaaDoorTotals.lean).
  GIVEN WITH THE SEED: the statements are not yours to turn. If you find one false, say at which input.
  Laid BY PROGRAM, IN A SANDBOX (cutbox-rows.mjs): the forced cells as the released guide's own fill.sh prints them over the translation 8acc752ff71ea485… (all of the seat's roots in one cut). By AI agents, Wed Nov 11 2026. No macro, syntax, notation, axiom, sorry.
-/
import Derived.Test.YtncjbccjpneoiaaDoorChecked
import GoSem.Claim
import GoSem.ClaimJoined
import GoSem.ClaimMapViews
import Derived.JoinedTies
import Derived.KernelRfl
namespace Go.Proofs.YtncjbccjpneoiaaDoor
/- THE CELL 'sum', in the pinned program and in every row, IS THE sha256 OF THE DUMP (.gsa) THAT YtncjbccjpneoiaaDoorProg.lean LOADS. Nothing in Lean hashes anything: it is a label: what it is worth is what the hold of that sum in a sandbox is worth. -/
noncomputable def Tryd.pinned : Pinned := { name := "ytncjbccjpneoiaadoor", sum := "8acc752ff71ea4853c84d297790718195d39c925408409c9d44807f93615beea", checked := Tryd.checked }
namespace Rows
def none {H : Type} : Left H := { results := [], args := [] }

/- WHAT THE LISTED PACKAGE-LEVEL VARIABLES READ AS WHEN THE CALL BEGINS. Each datum BY PROGRAM (the guide's laid-datum.mjs) off the statement by which the dump's own 'gosem.cut.vars' lays the variable. In a bare row this is a premise. The card (YtncjbccjpneoiaaDoorCards.lean) ties it to the program's text. -/
def laid_math_bits_deBruijn32tab {H : Type} : DataW H := .agg [.lit (.int .u8 0), .lit (.int .u8 1), .lit (.int .u8 28), .lit (.int .u8 2), .lit (.int .u8 29), .lit (.int .u8 14), .lit (.int .u8 24), .lit (.int .u8 3), .lit (.int .u8 30), .lit (.int .u8 22), .lit (.int .u8 20), .lit (.int .u8 15), .lit (.int .u8 25), .lit (.int .u8 17), .lit (.int .u8 4), .lit (.int .u8 8), .lit (.int .u8 31), .lit (.int .u8 27), .lit (.int .u8 13), .lit (.int .u8 23), .lit (.int .u8 21), .lit (.int .u8 19), .lit (.int .u8 16), .lit (.int .u8 7), .lit (.int .u8 26), .lit (.int .u8 12), .lit (.int .u8 18), .lit (.int .u8 6), .lit (.int .u8 11), .lit (.int .u8 5), .lit (.int .u8 10), .lit (.int .u8 9)]
def laid_math_bits_deBruijn64tab {H : Type} : DataW H := .agg [.lit (.int .u8 0), .lit (.int .u8 1), .lit (.int .u8 56), .lit (.int .u8 2), .lit (.int .u8 57), .lit (.int .u8 49), .lit (.int .u8 28), .lit (.int .u8 3), .lit (.int .u8 61), .lit (.int .u8 58), .lit (.int .u8 42), .lit (.int .u8 50), .lit (.int .u8 38), .lit (.int .u8 29), .lit (.int .u8 17), .lit (.int .u8 4), .lit (.int .u8 62), .lit (.int .u8 47), .lit (.int .u8 59), .lit (.int .u8 36), .lit (.int .u8 45), .lit (.int .u8 43), .lit (.int .u8 51), .lit (.int .u8 22), .lit (.int .u8 53), .lit (.int .u8 39), .lit (.int .u8 33), .lit (.int .u8 30), .lit (.int .u8 24), .lit (.int .u8 18), .lit (.int .u8 12), .lit (.int .u8 5), .lit (.int .u8 63), .lit (.int .u8 55), .lit (.int .u8 48), .lit (.int .u8 27), .lit (.int .u8 60), .lit (.int .u8 41), .lit (.int .u8 37), .lit (.int .u8 16), .lit (.int .u8 46), .lit (.int .u8 35), .lit (.int .u8 44), .lit (.int .u8 21), .lit (.int .u8 52), .lit (.int .u8 32), .lit (.int .u8 23), .lit (.int .u8 11), .lit (.int .u8 54), .lit (.int .u8 26), .lit (.int .u8 40), .lit (.int .u8 15), .lit (.int .u8 34), .lit (.int .u8 20), .lit (.int .u8 31), .lit (.int .u8 10), .lit (.int .u8 25), .lit (.int .u8 14), .lit (.int .u8 19), .lit (.int .u8 9), .lit (.int .u8 13), .lit (.int .u8 8), .lit (.int .u8 7), .lit (.int .u8 6)]
def laid_internal_strconv_uint64pow10 {H : Type} : DataW H := .agg [.lit (.int .u64 1), .lit (.int .u64 10), .lit (.int .u64 100), .lit (.int .u64 1000), .lit (.int .u64 10000), .lit (.int .u64 100000), .lit (.int .u64 1000000), .lit (.int .u64 10000000), .lit (.int .u64 100000000), .lit (.int .u64 1000000000), .lit (.int .u64 10000000000), .lit (.int .u64 100000000000), .lit (.int .u64 1000000000000), .lit (.int .u64 10000000000000), .lit (.int .u64 100000000000000), .lit (.int .u64 1000000000000000), .lit (.int .u64 10000000000000000), .lit (.int .u64 100000000000000000), .lit (.int .u64 1000000000000000000), .lit (.int .u64 10000000000000000000)]

/-- 'touchstonelaw13.UnifySolves': WHATEVER THE INPUT: true; the input reads as it did. -/
def unifySolvesSpec : ChangeSpec := { name := "unifySolves", fn := fun _ => fun
  | [d] => { results := [.lit (.bool true)], args := [d] }
  | _ => none }
def unifySolvesRow : OpenClaim := { program := "ytncjbccjpneoiaadoor", sum := "8acc752ff71ea4853c84d297790718195d39c925408409c9d44807f93615beea", func := "touchstone/touchstonelaw13.UnifySolves", spec := "unifySolves", unfollowed := true, recurses := true, named := ["internal/strconv.uint64pow10", "math/bits.deBruijn32tab", "math/bits.deBruijn64tab"], loops := true, apart := false, laid := [("math/bits.deBruijn32tab", laid_math_bits_deBruijn32tab), ("math/bits.deBruijn64tab", laid_math_bits_deBruijn64tab), ("internal/strconv.uint64pow10", laid_internal_strconv_uint64pow10)] }
def UnifySolvesSaid : Prop := unifySolvesRow.holds Tryd.pinned (OpenSpec.ofChange unifySolvesSpec)

/-- ITS FALSE NEIGHBOUR: 'it returns false'. Refute it at one input. -/
def unifySolvesWrong : ChangeSpec := { name := "unifySolves", fn := fun _ => fun
  | [d] => { results := [.lit (.bool false)], args := [d] }
  | _ => none }
def UnifySolvesWrongFalsely : Prop := unifySolvesRow.holds Tryd.pinned (OpenSpec.ofChange unifySolvesWrong)

/-- 'touchstonelaw13.UnifyHolds': WHATEVER THE INPUT: true; the input reads as it did. -/
def unifyHoldsSpec : ChangeSpec := { name := "unifyHolds", fn := fun _ => fun
  | [d] => { results := [.lit (.bool true)], args := [d] }
  | _ => none }
def unifyHoldsRow : OpenClaim := { program := "ytncjbccjpneoiaadoor", sum := "8acc752ff71ea4853c84d297790718195d39c925408409c9d44807f93615beea", func := "touchstone/touchstonelaw13.UnifyHolds", spec := "unifyHolds", unfollowed := true, recurses := true, named := ["internal/strconv.uint64pow10", "math/bits.deBruijn32tab", "math/bits.deBruijn64tab"], loops := true, apart := false, laid := [("math/bits.deBruijn32tab", laid_math_bits_deBruijn32tab), ("math/bits.deBruijn64tab", laid_math_bits_deBruijn64tab), ("internal/strconv.uint64pow10", laid_internal_strconv_uint64pow10)] }
def UnifyHoldsSaid : Prop := unifyHoldsRow.holds Tryd.pinned (OpenSpec.ofChange unifyHoldsSpec)

/-- ITS FALSE NEIGHBOUR: 'it returns false'. Refute it at one input. -/
def unifyHoldsWrong : ChangeSpec := { name := "unifyHolds", fn := fun _ => fun
  | [d] => { results := [.lit (.bool false)], args := [d] }
  | _ => none }
def UnifyHoldsWrongFalsely : Prop := unifyHoldsRow.holds Tryd.pinned (OpenSpec.ofChange unifyHoldsWrong)

/-- 'touchstonelaw13.UnifyTurned': WHATEVER THE INPUT: true; the input reads as it did. -/
def unifyTurnedSpec : ChangeSpec := { name := "unifyTurned", fn := fun _ => fun
  | [d1, d2, d3] => { results := [.lit (.bool true)], args := [d1, d2, d3] }
  | _ => none }
def unifyTurnedRow : OpenClaim := { program := "ytncjbccjpneoiaadoor", sum := "8acc752ff71ea4853c84d297790718195d39c925408409c9d44807f93615beea", func := "touchstone/touchstonelaw13.UnifyTurned", spec := "unifyTurned", unfollowed := true, recurses := true, named := ["internal/strconv.uint64pow10", "math/bits.deBruijn32tab", "math/bits.deBruijn64tab"], loops := true, apart := false, laid := [("math/bits.deBruijn32tab", laid_math_bits_deBruijn32tab), ("math/bits.deBruijn64tab", laid_math_bits_deBruijn64tab), ("internal/strconv.uint64pow10", laid_internal_strconv_uint64pow10)] }
def UnifyTurnedSaid : Prop := unifyTurnedRow.holds Tryd.pinned (OpenSpec.ofChange unifyTurnedSpec)

/-- ITS FALSE NEIGHBOUR: 'it returns false'. Refute it at one input. -/
def unifyTurnedWrong : ChangeSpec := { name := "unifyTurned", fn := fun _ => fun
  | [d1, d2, d3] => { results := [.lit (.bool false)], args := [d1, d2, d3] }
  | _ => none }
def UnifyTurnedWrongFalsely : Prop := unifyTurnedRow.holds Tryd.pinned (OpenSpec.ofChange unifyTurnedWrong)

/-- 'touchstonelaw13.UnifyMeets': WHATEVER THE INPUT: true; the input reads as it did. -/
def unifyMeetsSpec : ChangeSpec := { name := "unifyMeets", fn := fun _ => fun
  | [d1, d2] => { results := [.lit (.bool true)], args := [d1, d2] }
  | _ => none }
def unifyMeetsRow : OpenClaim := { program := "ytncjbccjpneoiaadoor", sum := "8acc752ff71ea4853c84d297790718195d39c925408409c9d44807f93615beea", func := "touchstone/touchstonelaw13.UnifyMeets", spec := "unifyMeets", unfollowed := true, recurses := true, named := ["internal/strconv.uint64pow10", "math/bits.deBruijn32tab", "math/bits.deBruijn64tab"], loops := true, apart := false, laid := [("math/bits.deBruijn32tab", laid_math_bits_deBruijn32tab), ("math/bits.deBruijn64tab", laid_math_bits_deBruijn64tab), ("internal/strconv.uint64pow10", laid_internal_strconv_uint64pow10)] }
def UnifyMeetsSaid : Prop := unifyMeetsRow.holds Tryd.pinned (OpenSpec.ofChange unifyMeetsSpec)

/-- ITS FALSE NEIGHBOUR: 'it returns false'. Refute it at one input. -/
def unifyMeetsWrong : ChangeSpec := { name := "unifyMeets", fn := fun _ => fun
  | [d1, d2] => { results := [.lit (.bool false)], args := [d1, d2] }
  | _ => none }
def UnifyMeetsWrongFalsely : Prop := unifyMeetsRow.holds Tryd.pinned (OpenSpec.ofChange unifyMeetsWrong)

/-- 'touchstonelaw13.UnifyDoubles': WHATEVER THE INPUT: true; the input reads as it did. -/
def unifyDoublesSpec : ChangeSpec := { name := "unifyDoubles", fn := fun _ => fun
  | [d1, d2] => { results := [.lit (.bool true)], args := [d1, d2] }
  | _ => none }
def unifyDoublesRow : OpenClaim := { program := "ytncjbccjpneoiaadoor", sum := "8acc752ff71ea4853c84d297790718195d39c925408409c9d44807f93615beea", func := "touchstone/touchstonelaw13.UnifyDoubles", spec := "unifyDoubles", unfollowed := true, recurses := true, named := ["internal/strconv.uint64pow10", "math/bits.deBruijn32tab", "math/bits.deBruijn64tab"], apart := false, laid := [("math/bits.deBruijn32tab", laid_math_bits_deBruijn32tab), ("math/bits.deBruijn64tab", laid_math_bits_deBruijn64tab), ("internal/strconv.uint64pow10", laid_internal_strconv_uint64pow10)] }
def UnifyDoublesSaid : Prop := unifyDoublesRow.holds Tryd.pinned (OpenSpec.ofChange unifyDoublesSpec)

/-- ITS FALSE NEIGHBOUR: 'it returns false'. Refute it at one input. -/
def unifyDoublesWrong : ChangeSpec := { name := "unifyDoubles", fn := fun _ => fun
  | [d1, d2] => { results := [.lit (.bool false)], args := [d1, d2] }
  | _ => none }
def UnifyDoublesWrongFalsely : Prop := unifyDoublesRow.holds Tryd.pinned (OpenSpec.ofChange unifyDoublesWrong)

/-- 'touchstonelaw13.UnifyRigid': WHATEVER THE INPUT: true; the input reads as it did. -/
def unifyRigidSpec : ChangeSpec := { name := "unifyRigid", fn := fun _ => fun
  | [d1, d2, d3] => { results := [.lit (.bool true)], args := [d1, d2, d3] }
  | _ => none }
def unifyRigidRow : OpenClaim := { program := "ytncjbccjpneoiaadoor", sum := "8acc752ff71ea4853c84d297790718195d39c925408409c9d44807f93615beea", func := "touchstone/touchstonelaw13.UnifyRigid", spec := "unifyRigid", unfollowed := true, recurses := true, named := ["internal/strconv.uint64pow10", "math/bits.deBruijn32tab", "math/bits.deBruijn64tab"], apart := false, laid := [("math/bits.deBruijn32tab", laid_math_bits_deBruijn32tab), ("math/bits.deBruijn64tab", laid_math_bits_deBruijn64tab), ("internal/strconv.uint64pow10", laid_internal_strconv_uint64pow10)] }
def UnifyRigidSaid : Prop := unifyRigidRow.holds Tryd.pinned (OpenSpec.ofChange unifyRigidSpec)

/-- ITS FALSE NEIGHBOUR: 'it returns false'. Refute it at one input. -/
def unifyRigidWrong : ChangeSpec := { name := "unifyRigid", fn := fun _ => fun
  | [d1, d2, d3] => { results := [.lit (.bool false)], args := [d1, d2, d3] }
  | _ => none }
def UnifyRigidWrongFalsely : Prop := unifyRigidRow.holds Tryd.pinned (OpenSpec.ofChange unifyRigidWrong)

/- THE SECOND FORM. 'bulk': how many values and letters a reading holds, each counted each time it is reached (what is shared counts as often as it is met; a slice's spare places count too). A statement '..UptoSaid' is the law's where the arguments, and the package variables that the reading takes, are together of bulk at most 1048576: NARROWER than '..Said'. Prove '..Said' where nothing that the law and all that it calls make is longer than what came in: it says more and counts as full. Else prove '..UptoSaid'. A law counts once. -/
mutual
def uptoBulk {H : Type} : DataW H → Nat
  | .lit (.string bytes) => bytes.length + 1
  | .lit _ => 1
  | .nil => 1
  | .ptr d => uptoBulk d + 1
  | .slice elems spare => uptoBulkAll elems + uptoBulkAll spare + 1
  | .agg parts => uptoBulkAll parts + 1
  | .iface _ d => uptoBulk d + 1
  | .map entries => uptoBulkEntries entries + 1
  | .held _ => 1
def uptoBulkAll {H : Type} : List (DataW H) → Nat
  | [] => 0
  | d :: r => uptoBulk d + uptoBulkAll r
def uptoBulkEntries {H : Type} : List (Lit × DataW H) → Nat
  | [] => 0
  | x :: r => uptoBulkEntry x + uptoBulkEntries r
def uptoBulkEntry {H : Type} : Lit × DataW H → Nat
  | (.string bytes, d) => bytes.length + uptoBulk d + 1
  | (_, d) => uptoBulk d + 1
 end
def uptoSmall : (H : Type) → List (DataW H) → Bool := fun _ ds => decide (uptoBulkAll ds ≤ 1048576)
def OpenSpec.upto (s : _root_.Go.ChangeSpec) : _root_.Go.OpenSpec := { _root_.Go.OpenSpec.ofChange s with cond := some uptoSmall }

/-- 'touchstonelaw13.UnifySolves', WHERE WHAT IT READS IS OF BULK AT MOST 1048576: true; the input reads as it did. -/
def unifySolvesUptoRow : OpenClaim := { program := "ytncjbccjpneoiaadoor", sum := "8acc752ff71ea4853c84d297790718195d39c925408409c9d44807f93615beea", func := "touchstone/touchstonelaw13.UnifySolves", spec := "unifySolves", unfollowed := true, recurses := true, named := ["internal/strconv.uint64pow10", "math/bits.deBruijn32tab", "math/bits.deBruijn64tab"], loops := true, apart := false, laid := [("math/bits.deBruijn32tab", laid_math_bits_deBruijn32tab), ("math/bits.deBruijn64tab", laid_math_bits_deBruijn64tab), ("internal/strconv.uint64pow10", laid_internal_strconv_uint64pow10)], narrowed := true }
def UnifySolvesUptoSaid : Prop := unifySolvesUptoRow.holds Tryd.pinned (OpenSpec.upto unifySolvesSpec)

/-- 'touchstonelaw13.UnifyHolds', WHERE WHAT IT READS IS OF BULK AT MOST 1048576: true; the input reads as it did. -/
def unifyHoldsUptoRow : OpenClaim := { program := "ytncjbccjpneoiaadoor", sum := "8acc752ff71ea4853c84d297790718195d39c925408409c9d44807f93615beea", func := "touchstone/touchstonelaw13.UnifyHolds", spec := "unifyHolds", unfollowed := true, recurses := true, named := ["internal/strconv.uint64pow10", "math/bits.deBruijn32tab", "math/bits.deBruijn64tab"], loops := true, apart := false, laid := [("math/bits.deBruijn32tab", laid_math_bits_deBruijn32tab), ("math/bits.deBruijn64tab", laid_math_bits_deBruijn64tab), ("internal/strconv.uint64pow10", laid_internal_strconv_uint64pow10)], narrowed := true }
def UnifyHoldsUptoSaid : Prop := unifyHoldsUptoRow.holds Tryd.pinned (OpenSpec.upto unifyHoldsSpec)

/-- 'touchstonelaw13.UnifyTurned', WHERE WHAT IT READS IS OF BULK AT MOST 1048576: true; the input reads as it did. -/
def unifyTurnedUptoRow : OpenClaim := { program := "ytncjbccjpneoiaadoor", sum := "8acc752ff71ea4853c84d297790718195d39c925408409c9d44807f93615beea", func := "touchstone/touchstonelaw13.UnifyTurned", spec := "unifyTurned", unfollowed := true, recurses := true, named := ["internal/strconv.uint64pow10", "math/bits.deBruijn32tab", "math/bits.deBruijn64tab"], loops := true, apart := false, laid := [("math/bits.deBruijn32tab", laid_math_bits_deBruijn32tab), ("math/bits.deBruijn64tab", laid_math_bits_deBruijn64tab), ("internal/strconv.uint64pow10", laid_internal_strconv_uint64pow10)], narrowed := true }
def UnifyTurnedUptoSaid : Prop := unifyTurnedUptoRow.holds Tryd.pinned (OpenSpec.upto unifyTurnedSpec)

/-- 'touchstonelaw13.UnifyMeets', WHERE WHAT IT READS IS OF BULK AT MOST 1048576: true; the input reads as it did. -/
def unifyMeetsUptoRow : OpenClaim := { program := "ytncjbccjpneoiaadoor", sum := "8acc752ff71ea4853c84d297790718195d39c925408409c9d44807f93615beea", func := "touchstone/touchstonelaw13.UnifyMeets", spec := "unifyMeets", unfollowed := true, recurses := true, named := ["internal/strconv.uint64pow10", "math/bits.deBruijn32tab", "math/bits.deBruijn64tab"], loops := true, apart := false, laid := [("math/bits.deBruijn32tab", laid_math_bits_deBruijn32tab), ("math/bits.deBruijn64tab", laid_math_bits_deBruijn64tab), ("internal/strconv.uint64pow10", laid_internal_strconv_uint64pow10)], narrowed := true }
def UnifyMeetsUptoSaid : Prop := unifyMeetsUptoRow.holds Tryd.pinned (OpenSpec.upto unifyMeetsSpec)

/-- 'touchstonelaw13.UnifyDoubles', WHERE WHAT IT READS IS OF BULK AT MOST 1048576: true; the input reads as it did. -/
def unifyDoublesUptoRow : OpenClaim := { program := "ytncjbccjpneoiaadoor", sum := "8acc752ff71ea4853c84d297790718195d39c925408409c9d44807f93615beea", func := "touchstone/touchstonelaw13.UnifyDoubles", spec := "unifyDoubles", unfollowed := true, recurses := true, named := ["internal/strconv.uint64pow10", "math/bits.deBruijn32tab", "math/bits.deBruijn64tab"], apart := false, laid := [("math/bits.deBruijn32tab", laid_math_bits_deBruijn32tab), ("math/bits.deBruijn64tab", laid_math_bits_deBruijn64tab), ("internal/strconv.uint64pow10", laid_internal_strconv_uint64pow10)], narrowed := true }
def UnifyDoublesUptoSaid : Prop := unifyDoublesUptoRow.holds Tryd.pinned (OpenSpec.upto unifyDoublesSpec)

/-- 'touchstonelaw13.UnifyRigid', WHERE WHAT IT READS IS OF BULK AT MOST 1048576: true; the input reads as it did. -/
def unifyRigidUptoRow : OpenClaim := { program := "ytncjbccjpneoiaadoor", sum := "8acc752ff71ea4853c84d297790718195d39c925408409c9d44807f93615beea", func := "touchstone/touchstonelaw13.UnifyRigid", spec := "unifyRigid", unfollowed := true, recurses := true, named := ["internal/strconv.uint64pow10", "math/bits.deBruijn32tab", "math/bits.deBruijn64tab"], apart := false, laid := [("math/bits.deBruijn32tab", laid_math_bits_deBruijn32tab), ("math/bits.deBruijn64tab", laid_math_bits_deBruijn64tab), ("internal/strconv.uint64pow10", laid_internal_strconv_uint64pow10)], narrowed := true }
def UnifyRigidUptoSaid : Prop := unifyRigidUptoRow.holds Tryd.pinned (OpenSpec.upto unifyRigidSpec)

end Rows
end Go.Proofs.YtncjbccjpneoiaaDoor
