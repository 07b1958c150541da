/- Parts of the proof, each with its own heading: What the engine must know of the functions of a seat: which slots outlive a region, bodies by the numbers of their regions, types. Printed by wip/tools. -/
import Derived.Test.YtncjbccjpneoiaaDoorPart8
import Derived.Test.YtncjbccjpneoiaaDoorChecked
set_option linter.unusedSimpArgs false
set_option linter.unusedVariables false
namespace Go.Proofs.YtncjbccjpneoiaaDoor
open Go Go.Ab Go.Proofs
open AV renaming unk → U
open Bool renaming false → J, true → O
set_option maxRecDepth 20000
def md : FuncId → Nat
  | 17 => 174
  | 25 => 1
  | 26 => 1
  | 27 => 1
  | 28 => 1
  | 29 => 1
  | 30 => 1
  | 31 => 1
  | 33 => 1
  | 34 => 1
  | 35 => 1
  | 36 => 3
  | 39 => 1
  | 40 => 1
  | 43 => 1
  | 44 => 1
  | 45 => 5
  | 46 => 1
  | 47 => 1
  | 48 => 1
  | 49 => 1
  | 50 => 3
  | 51 => 1
  | 53 => 137
  | 54 => 1
  | 55 => 1
  | 56 => 1
  | 57 => 1
  | 58 => 1
  | 62 => 1
  | 63 => 1
  | 64 => 1
  | 65 => 1
  | 66 => 1
  | 67 => 1
  | 69 => 1
  | 72 => 1
  | 74 => 1
  | _ => 0
theorem md10 : md 10 = 0 := rfl
theorem md14 : md 14 = 0 := rfl
theorem md15 : md 15 = 0 := rfl
theorem md22 : md 22 = 0 := rfl
theorem md23 : md 23 = 0 := rfl
theorem md24 : md 24 = 0 := rfl
theorem md27 : md 27 = 1 := rfl
theorem md28 : md 28 = 1 := rfl
theorem md29 : md 29 = 1 := rfl
theorem md30 : md 30 = 1 := rfl
theorem md34 : md 34 = 1 := rfl
theorem md39 : md 39 = 1 := rfl
theorem md43 : md 43 = 1 := rfl
theorem md46 : md 46 = 1 := rfl
theorem md47 : md 47 = 1 := rfl
theorem md48 : md 48 = 1 := rfl
theorem md49 : md 49 = 1 := rfl
theorem md50 : md 50 = 3 := rfl
theorem md53 : md 53 = 137 := rfl
theorem md54 : md 54 = 1 := rfl
theorem md55 : md 55 = 1 := rfl
theorem md56 : md 56 = 1 := rfl
theorem md62 : md 62 = 1 := rfl
theorem md63 : md 63 = 1 := rfl
theorem md64 : md 64 = 1 := rfl
theorem md65 : md 65 = 1 := rfl
theorem md66 : md 66 = 1 := rfl
theorem md67 : md 67 = 1 := rfl
theorem md70 : md 70 = 0 := rfl
theorem md74 : md 74 = 1 := rfl
theorem md76 : md 76 = 0 := rfl
def fg : FuncId → Nat → List Bool
  | 4, 0 => [O,J,O,O,O,O,O,O,O,O,O,J,J,O,J,J,J,J,J,J,J,J,O,J,J,J,J,J,J,J,O,O,O,J,J,J,J,J,J,J,J,J,J,J,J,J,J,J,J,J,J,J,J,J,J,J,J,J,J,J,O,J,J,O,O,O,J,J,J,J,J,J,J,J,J,J,J,J,J,J,J,J,J,J,O,J,J,O,O,O,J,J,J,J,J,J,J,J,J,J,J,J,J,O,J,J]
  | 4, 1 => [O,J,J,O,J,O,O,O,J,J,J,J,J,J,J,J,J,J,J,J,J,J,J,J,J,J,J,J,J,J,O,O,J,J,J,J,J,J,J,J,J,J,J,J,J,J,J,J,J,J,J,J,J,J,J,J,J,J,J,J,J,J,J,J,J,J,J,J,J,J,J,J,J,J,J,J,J,J,J,J,J,J,J,J,J,J,J,J,J,J,J,J,J,J,J,J,J,J,J,J,J,J,J,J,J,J]
  | 4, 3 => [O,J,O,J,J,O,O,J,J,J,J,J,J,J,J,J,J,J,J,J,J,J,J,J,J,J,J,J,J,J,J,J,J,J,J,J,J,J,J,J,J,J,J,J,J,J,J,J,J,J,J,J,J,J,J,J,J,J,J,J,J,J,J,O,O,J,J,J,J,J,J,J,J,J,J,J,J,J,J,J,J,J,J,J,J,J,J,J,J,J,J,J,J,J,J,J,J,J,J,J,J,J,J,J,J,J]
  | 4, 5 => [J,J,O,J,J,O,O,J,J,J,J,J,J,J,J,J,J,J,J,J,J,J,J,J,J,J,J,J,J,J,J,J,J,J,J,J,J,J,J,J,J,J,J,J,J,J,J,J,J,J,J,J,J,J,J,J,J,J,J,J,J,J,J,J,J,J,J,J,J,J,J,J,J,J,J,J,J,J,J,J,J,J,J,J,J,J,J,O,O,J,J,J,J,J,J,J,J,J,J,J,J,J,J,J,J,J]
  | 5, 0 => [O,O,O,J,J,J,O,O,O,O,J,O,J,O,J,J,J,J,J,J,J,O,J,J,J,J,J,J,J,J,J,J,J,J,J,J,J,J,J,J,J,J,J,O,O,O,J,O,J,J,J,J,J,J,J,J,J,J,J,J,J,J,J,J,J,J,J,J,J,J,J,J,J,J,J,J,J,J,J,J,J,J,J,J,J]
  | 5, 1 => [O,J,O,J,J,J,J,J,O,J,J,J,J,J,J,J,J,J,J,J,J,J,J,J,J,J,J,J,J,J,J,J,J,J,J,J,J,J,J,J,J,J,J,O,O,J,J,J,J,J,J,J,J,J,J,J,J,J,J,J,J,J,J,J,J,J,J,J,J,J,J,J,J,J,J,J,J,J,J,J,J,J,J,J,J]
  | 7, 0 => [O,O,J,J,O,O,O,O,O,O,O,O,J,J,J,J,J,J,O,J,J,J,J,J,J,J,J,J,J,J,J,J,J,J,J,J,J,J,J,J,J,J,J,J,O,J,J,J,J,J,J,J,J,J,J,J,J,J,J,J,J,J,J,J,J,O,J,J,J,J,J,J,J,J,O,J,J,J,J,J,J,O,J,J,J,J,J,J,J,J,J,J,J,J,J,J,J,J,J,J,J,J,J,J,J,J,J,J,J,J,J,J,J,J]
  | 7, 1 => [O,O,J,J,J,O,O,O,J,J,J,J,J,J,J,J,J,J,J,J,J,J,J,J,J,J,J,J,J,J,J,J,J,J,J,J,J,J,J,J,J,J,J,J,J,J,J,J,J,J,J,J,J,J,J,J,J,J,J,J,J,J,J,J,J,J,J,J,J,J,J,J,J,J,J,J,J,J,J,J,J,J,J,J,J,J,J,J,J,J,J,J,J,J,J,J,J,J,J,J,J,J,J,J,J,J,J,J,J,J,J,J,J,J]
  | 7, 3 => [O,J,J,J,J,J,J,J,O,O,O,O,J,J,J,J,J,J,J,J,J,J,J,J,J,J,J,J,J,J,J,J,J,J,J,J,J,J,J,J,J,J,J,J,J,J,J,J,J,J,J,J,J,J,J,J,J,J,J,J,J,J,J,J,J,J,J,J,J,J,J,J,J,J,J,J,J,J,J,J,J,J,J,J,J,J,J,J,J,J,J,J,J,J,J,J,J,J,J,J,J,J,J,J,J,J,J,J,J,J,J,J,J,J]
  | 8, 0 => [O,O,O,J,J,J,O,O,O,O,O,O,O,O,O,O,O,J,O,O,J,J,J,J,J,J,J,J,J,J,J,J,J,J,J,J,J,J,J,J,J,J,J,J,J,J,J,J,J,J,J,J,J,J,J,J,J,J,J,J,J,J,J,J,J,J,J,J,J,J,J,J,J,J,J,J,J,J,J,J,J,J,J,J,J,O,J,J,J,O,J,J,J,J,J,J,J,J,J,J,J,J,J,J,J,J,J,J,J,J,J,J,J,J,J,J,J,J,O,J,J,J,J,J,J,J,J,J,J,J,J,J,J,J,J,J,J,J,J,J,J,J,J,J,J,J,J,J]
  | 8, 1 => [J,J,O,J,J,J,O,J,J,J,J,J,J,J,O,O,J,J,J,J,J,J,J,J,J,J,J,J,J,J,J,J,J,J,J,J,J,J,J,J,J,J,J,J,J,J,J,J,J,J,J,J,J,J,J,J,J,J,J,J,J,J,J,J,J,J,J,J,J,J,J,J,J,J,J,J,J,J,J,J,J,J,J,J,J,J,J,J,J,J,J,J,J,J,J,J,J,J,J,J,J,J,J,J,J,J,J,J,J,J,J,J,J,J,J,J,J,J,J,J,J,J,J,J,J,J,J,J,J,J,J,J,J,J,J,J,J,J,J,J,J,J,J,J,J,J,J,J]
  | 9, 0 => [O,J,O,O,O,J,J,O,J,O,O,O,J,J,J,J,J,J,J,J,J,J,J,J,J,J,J,J,J]
  | 9, 1 => [O,J,J,O,J,J,J,J,J,O,O,J,J,J,J,J,J,J,J,J,J,J,J,J,J,J,J,J,J]
  | 11, 0 => [O,J,O,O,O,O,O,J,O,O,O,J,J,J,J,J,J,O,J,J,J,O,O,O,O,J,J,J,J,J,J,J,J,J,J,J,J,J,J,O,J,J,J,J,J,J,J,J]
  | 11, 1 => [J,J,O,O,O,J,O,J,J,J,J,J,J,J,J,J,J,J,J,J,J,O,O,O,J,J,J,J,J,J,J,J,J,J,J,J,J,J,J,J,J,J,J,J,J,J,J,J]
  | 12, 0 => [O,J,O,O,O,O,O,O,O,O,J,J,J,J,J,J,O,J,J,J,J,J,J,O,J,J,J,J,J,J,J,J,J,J,J,J,J,J,J,J,O,J,J,J,J,J,J,J,J,J,J,J,J,J]
  | 12, 1 => [J,J,O,O,O,J,O,O,J,J,J,J,J,J,J,J,J,J,J,J,J,J,J,J,J,J,J,J,J,J,J,J,J,J,J,J,J,J,J,J,J,J,J,J,J,J,J,J,J,J,J,J,J,J]
  | 13, 0 => [O,O,J,J,O,O,J,J,J,J,O,J,J,J,O,J,J,J,J,J,J,J,J,J,J,J,J,J,J,J,J,J,J,J,J,J,J,J,J,J,J]
  | 13, 1 => [O,O,J,J,O,O,J,J,J,J,J,J,J,J,J,J,J,J,J,J,J,J,J,J,J,J,J,J,J,J,J,J,J,J,J,J,J,J,J,J,J,J]
  | 15, 0 => [J,O,O,O,O,J,J,J,J,O,J,J,J,J,J,J,J,J,J,J,J]
  | 15, 1 => [J,O,J,O,O,J,J,J,J,J,J,J,J,J,J,J,J,J,J,J,J]
  | 16, 0 => [J,J,O,O,O,O,J,J,J,J,J,J,J,J,J,J,J,J,J,J,J,J,J,J,J,J,J,J,J,J,J,J,J,J,J,J,J,J,J,J,O,J,J,J,J,O,J,J,J,J,J,J,J,J,J,J,J,J,J]
  | 16, 1 => [J,J,O,O,O,O,J,J,J,J,J,J,J,J,J,J,J,J,J,J,J,J,J,J,J,J,J,J,J,J,J,J,J,J,J,J,J,J,J,J,J,J,J,J,J,J,J,J,J,J,J,J,J,J,J,J,J,J,J,J]
  | 17, 0 => [J,O,O,O,J,J,O,O,O,O,J,J,J,J,J,J,J,J,O,J,J,J,J,J,J,J,J,O,J,J,J,O,J,J,J,J,J,J,J,J,J,J,J,J,J,J,J,J,J,O,J,J,J,J,J,J,J,J,J,J,J,J,J,J,J,J]
  | 17, 1 => [J,O,O,O,J,J,O,O,J,J,J,J,J,J,J,J,J,J,J,J,J,J,J,J,J,J,J,J,J,J,J,J,J,J,J,J,J,J,J,J,J,J,J,J,J,J,J,J,J,J,J,J,J,J,J,J,J,J,J,J,J,J,J,J,J,J]
  | 17, 3 => [J,O,O,O,J,J,O,J,O,O,J,J,J,J,J,J,J,J,J,J,J,J,J,J,J,J,J,J,J,J,J,J,J,J,J,J,J,J,J,J,J,J,J,J,J,J,J,J,J,J,J,J,J,J,J,J,J,J,J,J,J,J,J,J,J,J]
  | 18, 0 => [O,J,O,O,O,J,O,O,O,J,J,J,J,J,J,J,J,J,J,J,J,J,J,O,J,J,J,J,J,J,J,J,J,J]
  | 18, 1 => [O,J,O,O,J,J,O,O,J,J,J,J,J,J,J,J,J,J,J,J,J,J,J,J,J,J,J,J,J,J,J,J,J,J]
  | 19, 0 => [J,J,O,O,O,O,O,O,J,O,J,O,O,O,J,J,J,J,J,J,J,J,J,O,J,J,J,J,O,O,O,O,J,J,J,J,J,J,J,J,J,J,J,J,J,J,O,J,J,J,J,J,J,J,J,J,J,J,J,J,J,J,J,J,J,J,O,J,J]
  | 19, 1 => [J,J,O,J,O,O,O,J,J,J,J,J,J,J,J,J,J,J,J,J,J,J,J,J,J,J,J,J,O,O,O,J,J,J,J,J,J,J,J,J,J,J,J,J,J,J,J,J,J,J,J,J,J,J,J,J,J,J,J,J,J,J,J,J,J,J,J,J,J]
  | 21, 0 => [J,O,O,O,O,O,J,J,J,J,J,O,J,J,J,J,J,J,J,J,J,J,J,J]
  | 21, 1 => [J,O,O,O,O,O,J,J,J,J,J,J,J,J,J,J,J,J,J,J,J,J,J,J]
  | 29, 0 => [O,O,O,J,J,J,O,O,O,O,O,O,O,O,J,J,J,J,J,O,J,J,J,J,J,J,J,O,J,J,J,J,J,J,J,J,J,J,J,J,J,J,J,J,J,J,J,J,J,J,J,J,J,J,J,J,J,J,J,J,J,O,J,J,J,J,J,J,J,J,J,J,J,J,J,J,J,J,J,J,J,J,J,J,J,J,O,J,J,J,O,J,J,J,J,J,J,J,J,J,J,J,J,J,O,O,J,J,J,J,J,J,J,J,J,J,J,J,J,O,O,J,J,J,J,J]
  | 29, 1 => [O,J,J,J,J,J,O,O,O,J,J,J,J,J,J,J,J,J,J,J,J,J,J,J,J,J,J,J,J,J,J,J,J,J,J,J,J,J,J,J,J,J,J,J,J,J,J,J,J,J,J,J,J,J,J,J,J,J,J,J,J,J,J,J,J,J,J,J,J,J,J,J,J,J,J,J,J,J,J,J,J,J,J,J,J,J,J,J,J,J,J,J,J,J,J,J,J,J,J,J,J,J,J,J,J,J,J,J,J,J,J,J,J,J,J,J,J,J,J,J,J,J,J,J,J,J]
  | 29, 4 => [O,J,J,J,J,J,J,O,O,J,O,O,O,O,J,J,J,J,J,J,J,J,J,J,J,J,J,J,J,J,J,J,J,J,J,J,J,J,J,J,J,J,J,J,J,J,J,J,J,J,J,J,J,J,J,J,J,J,J,J,J,J,J,J,J,J,J,J,J,J,J,J,J,J,J,J,J,J,J,J,J,J,J,J,J,J,J,J,J,J,J,J,J,J,J,J,J,J,J,J,J,J,J,J,J,J,J,J,J,J,J,J,J,J,J,J,J,J,J,J,J,J,J,J,J,J]
  | 33, 0 => [O,J,O,O,O,O,O,O,O,J,O,J,J,J,J,J,J,J,O,O,O,O,J,J,J,J,J,J,J,J,J,J,J,J,J,J,J,J,J,J,J,J,J,J,J,J,J,J,J,J,J,J,J,J,J,J,J,J,J,J,J,J,J,J,J,J,J,J,J,J,O,O,O,O,J,J,J,J,J,J,J,J,J,J,J,O,J,J,J]
  | 33, 1 => [J,J,J,J,O,O,J,J,J,J,J,J,J,J,J,J,J,J,O,O,O,J,J,J,J,J,J,J,J,J,J,J,J,J,J,J,J,J,J,J,J,J,J,J,J,J,J,J,J,J,J,J,J,J,J,J,J,J,J,J,J,J,J,J,J,J,J,J,J,J,J,J,J,J,J,J,J,J,J,J,J,J,J,J,J,J,J,J,J]
  | 33, 3 => [J,J,O,O,O,J,J,J,J,J,J,J,J,J,J,J,J,J,J,J,J,J,J,J,J,J,J,J,J,J,J,J,J,J,J,J,J,J,J,J,J,J,J,J,J,J,J,J,J,J,J,J,J,J,J,J,J,J,J,J,J,J,J,J,J,J,J,J,J,J,O,O,O,J,J,J,J,J,J,J,J,J,J,J,J,J,J,J,J]
  | 35, 0 => [O,J,O,O,O,O,O,J,J,J,J,J,O,J,J,J,J,J,J,J,J,J,J,J,J,J,J,J,J,J,J,J,J,J,J,J,J,J,J,J,J,J,J,J,J,J,O,J,J,J,J,J,J,J,J,J,J,J,J,J,J,O,J,J]
  | 35, 1 => [O,J,J,J,O,O,J,J,J,J,J,J,J,J,J,J,J,J,J,J,J,J,J,J,J,J,J,J,J,J,J,J,J,J,J,J,J,J,J,J,J,J,J,J,J,J,J,J,J,J,J,J,J,J,J,J,J,J,J,J,J,J,J,J]
  | 35, 3 => [O,J,O,O,O,J,O,J,J,J,J,J,J,J,J,J,J,J,J,J,J,J,J,J,J,J,J,J,J,J,J,J,J,J,J,J,J,J,J,J,J,J,J,J,J,J,J,J,J,J,J,J,J,J,J,J,J,J,J,J,J,J,J,J]
  | 36, 0 => [O,J,O,J,O,J,O,O,O,O,O,J,J,J,J,J,J,J,J,J,J,J,J,J,J,J,J,O,J,J,J,J,J,J,J,J,J,O,J,J,J,J,J,J,J,J,J,J,J,J,J,J,J,J,J,J,J,J,J,J]
  | 36, 1 => [O,J,O,J,O,J,O,J,O,O,J,J,J,J,J,J,J,J,J,J,J,J,J,J,J,J,J,J,J,J,J,J,J,J,J,J,J,J,J,J,J,J,J,J,J,J,J,J,J,J,J,J,J,J,J,J,J,J,J,J]
  | 38, 0 => [J,O,O,O,J,J,J,J,J,J,J,J,J,J,J,J,J,J,J,J,J,J,J,J,J,J,J,J,J,J,J,J,O,J,J,J,J,O,J,J,J,J,J,J,J,J]
  | 38, 1 => [J,O,O,O,J,J,J,J,J,J,J,J,J,J,J,J,J,J,J,J,J,J,J,J,J,J,J,J,J,J,J,J,J,J,J,J,J,J,J,J,J,J,J,J,J,J,J]
  | 39, 0 => [O,J,O,O,J,O,J,J,O,O,O,O,O,O,J,O,J,J,O,J,J,J,J,J,J,J,J,O,J,J,J,J,J,J,J,J,J,J,J,J,O,O,O,O,J,J,J,J,J,J,J,J,J,J,J,J,J,J,J,J,J,J,J,J,J]
  | 39, 1 => [O,J,O,O,J,O,J,J,J,J,J,O,J,J,J,J,J,J,J,J,J,J,J,J,J,J,J,J,J,J,J,J,J,J,J,J,J,J,J,J,O,O,O,J,J,J,J,J,J,J,J,J,J,J,J,J,J,J,J,J,J,J,J,J,J]
  | 41, 0 => [O,J,J,O,O,O,J,J,J,J,J,J,J,J,J,O,J,J,J,J,J,J,J,J,J,J,J,O,J,J,J,J,J,J,J,J,J,J]
  | 41, 1 => [O,J,J,O,J,O,J,J,J,J,J,J,J,J,J,J,J,J,J,J,J,J,J,J,J,J,J,J,J,J,J,J,J,J,J,J,J,J]
  | 46, 0 => [O,O,O,J,J,J,O,O,O,J,J,J,J,J,J,J,J,J,J,O,J,J,J,J]
  | 46, 1 => [O,O,O,J,J,J,O,J,J,J,J,J,J,J,J,J,J,J,J,J,J,J,J,J]
  | 49, 0 => [O,O,O,J,J,J,O,O,O,O,J,O,J,J,J,J,J,J,J,J,J,O,J,J,J,J,J,J,J,J,O,O,O,O,J,J,J,J,J,J,J,J,J,J,J,J,J,J]
  | 49, 1 => [O,O,O,J,J,J,J,J,J,O,J,J,J,J,J,J,J,J,J,J,J,J,J,J,J,J,J,J,J,J,O,O,O,J,J,J,J,J,J,J,J,J,J,J,J,J,J,J]
  | 50, 0 => [O,O,O,J,J,J,O,O,O,J,O,J,J,J,J,J,J,J,J,J,J,J,O,O,J,J,J,J,J,O,J,J,J,J,J,J,J,J,J,J,J,J,J,O,O,O,O,J,J,J,J,J,J,J,J,J,J,J,J,J]
  | 50, 2 => [O,J,O,J,J,J,O,J,O,J,J,J,J,J,J,J,J,J,J,J,J,J,J,J,J,J,J,J,J,J,J,J,J,J,J,J,J,J,J,J,J,J,J,O,O,O,J,J,J,J,J,J,J,J,J,J,J,J,J,J]
  | 53, 0 => [O,J,O,O,O,J,O,J,O,O,O,O,J,J,J,J,J,J,J]
  | 53, 1 => [J,J,J,O,O,J,J,J,O,O,O,J,J,J,J,J,J,J,J]
  | 54, 0 => [O,J,O,O,J,O,O,O,O,O,J,J,J,J,J,J,J,J,J]
  | 54, 1 => [J,J,J,O,J,J,O,O,O,J,J,J,J,J,J,J,J,J,J]
  | 56, 0 => [O,O,J,J,O,J,O,J,J,J,O,O,O,O,J,J,J,J,J,J,J,J,J,J,J,J,J,J,O,J,J]
  | 56, 1 => [O,O,J,J,O,J,J,J,J,J,O,O,O,J,J,J,J,J,J,J,J,J,J,J,J,J,J,J,J,J,J]
  | 57, 0 => [O,J,J,J,O,O,O,O,O,O,J,J,J,J,J,J,J,J,J,J,J,J,J,O,J,J,J,J,J,J,J,J,J,J,J,J,J,J,J,J,O,J,J,J,J,J,J,J,J,J,O,J,J,J,J,J,J,J,J,J,O,J,J,J,J,O,J,J,J,J,J,J,J,J,J,J,J,J,J,J,J,O,J,J,J,J,J,J,J,J,J,J,J,J,J,J,J,J,J,J,J,J,J,J,J,J,J,J,J,J,J,J,J,O,J,J,J,J,O,J,J,J,J,J,J,J,J,J,J,J,J,J,J]
  | 57, 1 => [O,J,J,J,O,O,O,J,J,O,J,J,J,J,J,J,J,J,J,J,J,J,J,J,J,J,J,J,J,J,J,J,J,J,J,J,J,J,J,J,J,J,J,J,J,J,J,J,J,J,J,J,J,J,J,J,J,J,J,J,J,J,J,J,J,J,J,J,J,J,J,J,J,J,J,J,J,J,J,J,J,J,J,J,J,J,J,J,J,J,J,J,J,J,J,J,J,J,J,J,J,J,J,J,J,J,J,J,J,J,J,J,J,J,J,J,J,J,J,J,J,J,J,J,J,J,J,J,J,J,J,J,J,J]
  | 58, 0 => [O,J,J,O,O,O,J,J,O,J,J,J,J,J,J,J,J,J,J,J,J,J,J,J,J,J,J,J,O,J,J,J,J,J,J,J,J,J]
  | 58, 1 => [O,J,J,O,O,J,J,J,J,J,J,J,J,J,J,J,J,J,J,J,J,J,J,J,J,J,J,J,J,J,J,J,J,J,J,J,J,J]
  | 59, 0 => [J,O,O,J,O,O,O,J,J,J,J,J,J,J,O,J,J,J,J,J,J,J,J,J,J,J,J,J,O,O,O,J,J,O,J,J,J,J,J,J,J,J,J,J,J,J,J]
  | 59, 1 => [J,O,O,J,J,O,J,J,J,J,J,J,J,J,J,J,J,J,J,J,J,J,J,J,J,J,J,J,O,O,J,J,J,J,J,J,J,J,J,J,J,J,J,J,J,J,J]
  | 61, 0 => [O,J,O,O,J,J,J,J,J,O,J,J,J,J,J,J,J,J,J,J,J]
  | 61, 1 => [O,J,J,O,J,J,J,J,J,J,J,J,J,J,J,J,J,J,J,J,J]
  | 64, 0 => [O,O,J,J,O,J,J,J,J,J,J,J,J,J,O,J,J,J,J,J,J,J,J,J,J,J,J,J,J,J,J,J,J,J,J,J,J,J,J,J,J,J,J,J,J,J]
  | 64, 1 => [O,O,J,J,J,J,J,J,J,J,J,J,J,J,J,J,J,J,J,J,J,J,J,J,J,J,J,J,J,J,J,J,J,J,J,J,J,J,J,J,J,J,J,J,J,J]
  | 65, 0 => [O,O,O,J,J,J,O,O,O,J,J,J,J,J,J,J,J,J,J,J,O,J,J,J,J,J,J,J,J,J,J,J,J,J,J,J,J,J,J,J,J,J,J,J,J,J,O,J,J,J,J,J,J,J,J,J,J,J,J,J,J,O,J,J,J,J,J,J,J,J,J,J]
  | 65, 1 => [O,J,O,J,J,J,O,O,J,J,J,J,J,J,J,J,J,J,J,J,J,J,J,J,J,J,J,J,J,J,J,J,J,J,J,J,J,J,J,J,J,J,J,J,J,J,J,J,J,J,J,J,J,J,J,J,J,J,J,J,J,J,J,J,J,J,J,J,J,J,J,J]
  | 69, 0 => [J,O,O,O,J,O,J,J,J,J,J,J,J,J,J,O,J,J,J,J,J,J,O,O,O,O,J,J,J,J,J,J]
  | 69, 1 => [J,J,O,J,J,J,J,J,J,J,J,J,J,J,J,J,J,J,J,J,J,J,O,O,O,J,J,J,J,J,J,J]
  | 71, 0 => [O,O,J,J,O,O,J,J,J,O,J,J,J,J,J,J,J,O,J]
  | 71, 1 => [O,O,J,J,O,O,J,J,J,J,J,J,J,J,J,J,J,J,J]
  | 72, 0 => [O,O,J,J,J,O,O,O,J,J,J,J,J,O,J,J,J,J,J,J,J,J,O,J,J,J,J,J,J,J,J,J]
  | 72, 1 => [O,O,J,J,J,O,O,O,J,J,J,J,J,J,J,J,J,J,J,J,J,J,J,J,J,J,J,J,J,J,J,J,J]
  | 73, 0 => [O,O,J,J,O,O,J,J,J,O,J,J,J,J,J,J,J]
  | 73, 1 => [O,O,J,J,O,O,J,J,J,J,J,J,J,J,J,J,J,J]
  | 74, 0 => [O,O,J,J,O,O,J,O,O,O,J,J,J,J,J,J,O,J,J]
  | 74, 1 => [O,O,J,J,O,J,J,O,O,J,J,J,J,J,J,J,J,J,J]
  | 76, 0 => [O,O,J,J,O,O,J,O,O,O,J,J,J,J,J,J,O,J,J]
  | 76, 1 => [O,O,J,J,O,J,J,O,O,J,J,J,J,J,J,J,J,J,J]
  | 80, 0 => [O,O,J,J,O,O,O,O,O,O,O,O,O,O,O,O,O,J,J,J,O,J,J,J,J,J,J,J,J,J,J,J,J,J,J,J,J,J,J,J,J,J,J,J,J,J,J,J,J,J,J,J,J,J,J,J,J,J,J,J,J,J,J,J,J,J,J,J,J,J,J,J,J,J,J,J,J,J,J,J,J,J,J,J,J,J,J,J,J,J,J,J,J,J,J,J,J,J,J,O,J,J,J,J,J,J,J,J,J,J,J,J,J,J,J,J,J,J,J,J,J,J,J,J,J,J,J,J,J,J,J,J,J,J,J,J,J,J,J,O,J,J,J,J,J,J,J,J,J,J,J,J,J,J,J,J,J,J,J,J,J,O,J,J,J,J,J]
  | 80, 1 => [O,O,J,J,O,J,J,J,J,J,J,J,J,J,J,J,J,J,J,J,J,J,J,J,J,J,J,J,J,J,J,J,J,J,J,J,J,J,J,J,J,J,J,J,J,J,J,J,J,J,J,J,J,J,J,J,J,J,J,J,J,J,J,J,J,J,J,J,J,J,J,J,J,J,J,J,J,J,J,J,J,J,J,J,J,J,J,J,J,J,J,J,J,J,J,J,J,J,J,J,J,J,J,J,J,J,J,J,J,J,J,J,J,J,J,J,J,J,J,J,J,J,J,J,J,J,J,J,J,J,J,J,J,J,J,J,J,J,J,J,J,J,J,J,J,J,J,J,J,J,J,J,J,J,J,J,J,J,J,J,J,J,J,J,J,J,J]
  | 81, 0 => [O,O,O,O,O,J,J,J,J,J,O,O,O,O,O,O,O,O,O,J,J,J,J,J,J,J,J,J,O,J,O,J,J,J,O,J,J,J,J,J,J,J,J,J,J,J,O,J,J,J,J,J,J,J,J,J,J,J,J,J,J,J,J,J,J,J,J,J,O,J,J,J,J,J,J,J,J,J,J,J,J,J,J,J,J,J,J,J,J,O,J,J,J,J,O,J,J,J,J,J,J,J]
  | 81, 1 => [O,O,J,O,O,J,J,J,J,J,O,O,O,O,O,O,O,J,J,J,J,J,J,J,J,J,J,J,J,J,J,J,J,J,J,J,J,J,J,J,J,J,J,J,J,J,J,J,J,J,J,J,J,J,J,J,J,J,J,J,J,J,J,J,J,J,J,J,J,J,J,J,J,J,J,J,J,J,J,J,J,J,J,J,J,J,J,J,J,J,J,J,J,J,J,J,J,J,J,J,J,J]
  | 81, 3 => [O,O,J,O,O,J,J,J,J,J,O,O,O,O,J,J,J,O,J,J,J,J,J,J,J,J,J,J,J,J,J,J,J,J,J,J,J,J,J,J,J,J,J,J,J,J,J,J,J,J,J,J,J,J,J,J,J,J,J,J,J,J,J,J,J,J,J,J,J,J,J,J,J,J,J,J,J,J,J,J,J,J,J,J,J,J,J,J,J,J,J,J,J,J,J,J,J,J,J,J,J,J]
  | 4, 100021 => [true]
  | 5, 100009 => [true]
  | 19, 100007 => [true]
  | 19, 100011 => [true]
  | 29, 100008 => [true]
  | 33, 100006 => [true]
  | 33, 100008 => [true]
  | 41, 100002 => [true]
  | 47, 100001 => [true]
  | 48, 100001 => [true]
  | 50, 100012 => [true]
  | 57, 100004 => [true]
  | 80, 100007 => [true]
  | 80, 100008 => [true]
  | 80, 100009 => [true]
  | 80, 100010 => [true]
  | 80, 100017 => [true]
  | 80, 100018 => [true]
  | 80, 100023 => [true]
  | 4, 200021 => [J,O,J,O,O,J,O,O,O,J,O,O,O,O,J,O,O,O,O,O,J,O,O,O,O,O,O,J,O,O,O,O,O,O,O,J,O,O,O,O,O,O,O,O,J,O,O,O,O,O,O,O,O,O,J,O,O,O,O,O,O,O,O,O,O,J,O,O,O,O,O,O,O,O,O,O,O,J,O,O,O,O,O,O,O,O,O,O,O,O,J,O,O,O,O,O,O,O,O,O,O,O,O,O,J,O,O,O,O,O,O,O,O,O,O,O,O,O,O,J,O,O,O,O,O,O,O,O,O,O,O,O,O,O,O,J,O,O,O,O,O,O,O,O,O,O,O,O,O,O,O,O,J,O,O,O,O,O,O,O,O,O,O,O,O,O,O,O,O,O,J]
  | 5, 200009 => [J,O,J,O,O,J,O,O,O,J,O,O,O,O,J,O,O,O,O,O,J,O,O,O,O,O,O,J,O,O,O,O,O,O,O,J,O,O,O,O,O,O,O,O,J,O,O,O,O,O,O,O,O,O,J,O,O,O,O,O,O,O,O,O,O,J,O,O,O,O,O,O,O,O,O,O,O,J,O,O,O,O,O,O,O,O,O,O,O,O,J,O,O,O,O,O,O,O,O,O,O,O,O,O,J,O,O,O,O,O,O,O,O,O,O,O,O,O,O,J,O,O,O,O,O,O,O,O,O,O,O,O,O,O,O,J,O,O,O,O,O,O,O,O,O,O,O,O,O,O,O,O,J,O,O,O,O,O,O,O,O,O,O,O,O,O,O,O,O,O,J,O,O,O,O,O,O,O,O,O,O,O,O,O,O,O,O,O,O,J,O,O,O,O,O,O,O,O,O,O,O,O,O,O,O,O,O,O,O,J]
  | 5, 1009999 => [true, false]
  | 19, 200007 => [O,O,O,O,O,O,O,O,O,O,O,J,J,O,J,O,O,J,O,O,O,J,O,O,O,O,J,O,O,O,O,O,J,O,O,O,O,O,O,J,O,O,O,O,O,O,O,J,O,O,O,O,O,O,O,O,J,O,O,O,O,O,O,O,O,O,J,O,O,O,O,O,O,O,O,O,O,J,O,O,O,O,O,O,O,O,O,O,O,O,J,O,O,O,O,O,O,O,O,O,O,O,O,O,J]
  | 19, 300007 => [true]
  | 19, 1007000 => [false]
  | 19, 1007001 => [false]
  | 19, 1007004 => [false]
  | 19, 1007006 => [false]
  | 19, 1007007 => [false]
  | 19, 1007999 => [true, false]
  | 19, 200011 => [O,O,O,O,O,O,O,O,O,O,O,O,O,O,O,O,J,J,O,J,O,O,J,O,O,O,J,O,O,O,O,J,O,O,O,O,O,J,O,O,O,O,O,O,J,O,O,O,O,O,O,O,J,O,O,O,O,O,O,O,O,J,O,O,O,O,O,O,O,O,O,J,O,O,O,O,O,O,O,O,O,O,J,O,O,O,O,O,O,O,O,O,O,O,J,O,O,O,O,O,O,O,O,O,O,O,O,J,O,O,O,O,O,O,O,O,O,O,O,O,O,J,O,O,O,O,O,O,O,O,O,O,O,O,O,O,J,O,O,O,O,O,O,O,O,O,O,O,O,O,O,O,J,O,O,O,O,O,O,O,O,O,O,O,O,O,O,O,O,O,J,O,O,O,O,O,O,O,O,O,O,O,O,O,O,O,O,O,O,J]
  | 19, 300011 => [true]
  | 19, 1011000 => [false]
  | 19, 1011001 => [false]
  | 19, 1011004 => [false]
  | 19, 1011005 => [false]
  | 19, 1011006 => [false]
  | 19, 1011009 => [false]
  | 19, 1011011 => [false]
  | 19, 1011012 => [false]
  | 19, 1011999 => [true, false]
  | 29, 200008 => [J,O,J,O,O,J,O,O,O,J,O,O,O,O,J,O,O,O,O,O,J,O,O,O,O,O,O,J,O,O,O,O,O,O,O,J,O,O,O,O,O,O,O,O,J,O,O,O,O,O,O,O,O,O,J,O,O,O,O,O,O,O,O,O,O,J,O,O,O,O,O,O,O,O,O,O,O,J]
  | 33, 200006 => [J,O,J,O,O,J,O,O,O,J,O,O,O,O,J,O,O,O,O,O,J,O,O,O,O,O,O,J,O,O,O,O,O,O,O,J,O,O,O,O,O,O,O,O,J,O,O,O,O,O,O,O,O,O,J,O,O,O,O,O,O,O,O,O,O,J,O,O,O,O,O,O,O,O,O,O,O,J,O,O,O,O,O,O,O,O,O,O,O,O,J,O,O,O,O,O,O,O,O,O,O,O,O,O,J,O,O,O,O,O,O,O,O,O,O,O,O,O,O,J,O,O,O,O,O,O,O,O,O,O,O,O,O,O,O,J]
  | 33, 1006999 => [true, false]
  | 33, 200008 => [J,O,J,O,O,J,O,O,O,J,O,O,O,O,J,O,O,O,O,O,J,O,O,O,O,O,O,J,O,O,O,O,O,O,O,J,O,O,O,O,O,O,O,O,J,O,O,O,O,O,O,O,O,O,J,O,O,O,O,O,O,O,O,O,O,J,O,O,O,O,O,O,O,O,O,O,O,J,O,O,O,O,O,O,O,O,O,O,O,O,J,O,O,O,O,O,O,O,O,O,O,O,O,O,J,O,O,O,O,O,O,O,O,O,O,O,O,O,O,J,O,O,O,O,O,O,O,O,O,O,O,O,O,O,O,J,O,O,O,O,O,O,O,O,O,O,O,O,O,O,O,O,J,O,O,O,O,O,O,O,O,O,O,O,O,O,O,O,O,O,J,O,O,O,O,O,O,O,O,O,O,O,O,O,O,O,O,O,O,J,O,O,O,O,O,O,O,O,O,O,O,O,O,O,O,O,O,O,O,J,O,O,O,O,O,O,O,O,O,O,O,O,O,O,O,O,O,O,O,O,J,O,O,O,O,O,O,O,O,O,O,O,O,O,O,O,O,O,O,O,O,O,J,O,O,O,O,O,O,O,O,O,O,O,O,O,O,O,O,O,O,O,O,O,O,J,O,O,O,O,O,O,O,O,O,O,O,O,O,O,O,O,O,O,O,O,O,O,O,J,O,O,O,O,O,O,O,O,O,O,O,O,O,O,O,O,O,O,O,O,O,O,O,O,J,O,O,O,O,O,O,O,O,O,O,O,O,O,O,O,O,O,O,O,O,O,O,O,O,O,J,O,O,O,O,O,O,O,O,O,O,O,O,O,O,O,O,O,O,O,O,O,O,O,O,O,O,J,O,O,O,O,O,O,O,O,O,O,O,O,O,O,O,O,O,O,O,O,O,O,O,O,O,O,O,J,O,O,O,O,O,O,O,O,O,O,O,O,O,O,O,O,O,O,O,O,O,O,O,O,O,O,O,O,J]
  | 33, 1008999 => [true, false]
  | 41, 200002 => [J,O,J,O,O,J,O,O,O,J,O,O,O,O,J,O,O,O,O,O,J,O,O,O,O,O,O,J,O,O,O,O,O,O,O,J]
  | 47, 200001 => [O,O,O,O,O,O,O,O,J,J,O,J,O,O,J,O,O,O,J,O,O,O,O,J,O,O,O,O,O,J,O,O,O,O,O,O,J,O,O,O,O,O,O,O,J,O,O,O,O,O,O,O,O,O,J]
  | 47, 300001 => [true]
  | 47, 1001000 => [false]
  | 47, 1001003 => [false]
  | 47, 1001004 => [false]
  | 47, 1001007 => [false]
  | 47, 1001999 => [true, false]
  | 48, 200001 => [J,O,J,O,O,J,O,O,O,J,O,O,O,O,J,O,O,O,O,O,J,O,O,O,O,O,O,J,O,O,O,O,O,O,O,J,O,O,O,O,O,O,O,O,J,O,O,O,O,O,O,O,O,O,J,O,O,O,O,O,O,O,O,O,O,J,O,O,O,O,O,O,O,O,O,O,O,J,O,O,O,O,O,O,O,O,O,O,O,O,J,O,O,O,O,O,O,O,O,O,O,O,O,O,J]
  | 50, 200012 => [J,O,J,O,O,J,O,O,O,J,O,O,O,O,J,O,O,O,O,O,J,O,O,O,O,O,O,J,O,O,O,O,O,O,O,J,O,O,O,O,O,O,O,O,J,O,O,O,O,O,O,O,O,O,J]
  | 50, 1012999 => [true, false]
  | 57, 200004 => [J,O,J,O,O,J,O,O,O,J,O,O,O,O,J,O,O,O,O,O,J,O,O,O,O,O,O,J,O,O,O,O,O,O,O,J,O,O,O,O,O,O,O,O,J,O,O,O,O,O,O,O,O,O,J,O,O,O,O,O,O,O,O,O,O,J,O,O,O,O,O,O,O,O,O,O,O,J,O,O,O,O,O,O,O,O,O,O,O,O,J,O,O,O,O,O,O,O,O,O,O,O,O,O,J,O,O,O,O,O,O,O,O,O,O,O,O,O,O,J,O,O,O,O,O,O,O,O,O,O,O,O,O,O,O,J]
  | 80, 200007 => [J,O,J,O,O,J,O,O,O,J,O,O,O,O,J,O,O,O,O,O,J,O,O,O,O,O,O,J,O,O,O,O,O,O,O,J,O,O,O,O,O,O,O,O,J,O,O,O,O,O,O,O,O,O,J,O,O,O,O,O,O,O,O,O,O,J,O,O,O,O,O,O,O,O,O,O,O,J,O,O,O,O,O,O,O,O,O,O,O,O,J,O,O,O,O,O,O,O,O,O,O,O,O,O,J,O,O,O,O,O,O,O,O,O,O,O,O,O,O,J]
  | 80, 1007999 => [true, false]
  | 80, 200008 => [J,O,J,O,O,J,O,O,O,J,O,O,O,O,J,O,O,O,O,O,J,O,O,O,O,O,O,J,O,O,O,O,O,O,O,J,O,O,O,O,O,O,O,O,J,O,O,O,O,O,O,O,O,O,J,O,O,O,O,O,O,O,O,O,O,J,O,O,O,O,O,O,O,O,O,O,O,J,O,O,O,O,O,O,O,O,O,O,O,O,J,O,O,O,O,O,O,O,O,O,O,O,O,O,J,O,O,O,O,O,O,O,O,O,O,O,O,O,O,J]
  | 80, 1008999 => [true, false]
  | 80, 200009 => [J,O,J,O,O,J,O,O,O,J,O,O,O,O,J,O,O,O,O,O,J,O,O,O,O,O,O,J,O,O,O,O,O,O,O,J,O,O,O,O,O,O,O,O,J,O,O,O,O,O,O,O,O,O,J,O,O,O,O,O,O,O,O,O,O,J,O,O,O,O,O,O,O,O,O,O,O,J,O,O,O,O,O,O,O,O,O,O,O,O,J,O,O,O,O,O,O,O,O,O,O,O,O,O,J,O,O,O,O,O,O,O,O,O,O,O,O,O,O,J]
  | 80, 1009999 => [true, false]
  | 80, 200010 => [J,O,J,O,O,J,O,O,O,J,O,O,O,O,J,O,O,O,O,O,J,O,O,O,O,O,O,J,O,O,O,O,O,O,O,J,O,O,O,O,O,O,O,O,J,O,O,O,O,O,O,O,O,O,J,O,O,O,O,O,O,O,O,O,O,J,O,O,O,O,O,O,O,O,O,O,O,J,O,O,O,O,O,O,O,O,O,O,O,O,J,O,O,O,O,O,O,O,O,O,O,O,O,O,J,O,O,O,O,O,O,O,O,O,O,O,O,O,O,J]
  | 80, 1010999 => [true, false]
  | 80, 200017 => [J,O,J,O,O,J,O,O,O,J,O,O,O,O,J,O,O,O,O,O,J,O,O,O,O,O,O,J,O,O,O,O,O,O,O,J,O,O,O,O,O,O,O,O,J,O,O,O,O,O,O,O,O,O,J,O,O,O,O,O,O,O,O,O,O,J,O,O,O,O,O,O,O,O,O,O,O,J,O,O,O,O,O,O,O,O,O,O,O,O,J,O,O,O,O,O,O,O,O,O,O,O,O,O,J,O,O,O,O,O,O,O,O,O,O,O,O,O,O,J]
  | 80, 1017999 => [true, false]
  | 80, 200018 => [J,O,J,O,O,J,O,O,O,J,O,O,O,O,J,O,O,O,O,O,J,O,O,O,O,O,O,J,O,O,O,O,O,O,O,J,O,O,O,O,O,O,O,O,J,O,O,O,O,O,O,O,O,O,J,O,O,O,O,O,O,O,O,O,O,J,O,O,O,O,O,O,O,O,O,O,O,J,O,O,O,O,O,O,O,O,O,O,O,O,J,O,O,O,O,O,O,O,O,O,O,O,O,O,J,O,O,O,O,O,O,O,O,O,O,O,O,O,O,J]
  | 80, 1018999 => [true, false]
  | 80, 200023 => [J,O,J,O,O,J,O,O,O,J,O,O,O,O,J,O,O,O,O,O,J,O,O,O,O,O,O,J,O,O,O,O,O,O,O,J,O,O,O,O,O,O,O,O,J,O,O,O,O,O,O,O,O,O,J,O,O,O,O,O,O,O,O,O,O,J,O,O,O,O,O,O,O,O,O,O,O,J,O,O,O,O,O,O,O,O,O,O,O,O,J,O,O,O,O,O,O,O,O,O,O,O,O,O,J,O,O,O,O,O,O,O,O,O,O,O,O,O,O,J]
  | 80, 1023999 => [true, false]
  | _, _ => []
theorem fg_3_0 (e : Env) : mask (fg 3 0) e = mask [] e := rfl
theorem fg_4_0 (e : Env) : mask (fg 4 0) e = mask [O,J,O,O,O,O,O,O,O,O,O,J,J,O,J,J,J,J,J,J,J,J,O,J,J,J,J,J,J,J,O,O,O,J,J,J,J,J,J,J,J,J,J,J,J,J,J,J,J,J,J,J,J,J,J,J,J,J,J,J,O,J,J,O,O,O,J,J,J,J,J,J,J,J,J,J,J,J,J,J,J,J,J,J,O,J,J,O,O,O,J,J,J,J,J,J,J,J,J,J,J,J,J,O,J,J] e := rfl
theorem fg_4_1 (e : Env) : mask (fg 4 1) e = mask [O,J,J,O,J,O,O,O,J,J,J,J,J,J,J,J,J,J,J,J,J,J,J,J,J,J,J,J,J,J,O,O,J,J,J,J,J,J,J,J,J,J,J,J,J,J,J,J,J,J,J,J,J,J,J,J,J,J,J,J,J,J,J,J,J,J,J,J,J,J,J,J,J,J,J,J,J,J,J,J,J,J,J,J,J,J,J,J,J,J,J,J,J,J,J,J,J,J,J,J,J,J,J,J,J,J] e := rfl
theorem fg_4_2 (e : Env) : mask (fg 4 2) e = mask [] e := rfl
theorem fg_4_3 (e : Env) : mask (fg 4 3) e = mask [O,J,O,J,J,O,O,J,J,J,J,J,J,J,J,J,J,J,J,J,J,J,J,J,J,J,J,J,J,J,J,J,J,J,J,J,J,J,J,J,J,J,J,J,J,J,J,J,J,J,J,J,J,J,J,J,J,J,J,J,J,J,J,O,O,J,J,J,J,J,J,J,J,J,J,J,J,J,J,J,J,J,J,J,J,J,J,J,J,J,J,J,J,J,J,J,J,J,J,J,J,J,J,J,J,J] e := rfl
theorem fg_4_4 (e : Env) : mask (fg 4 4) e = mask [] e := rfl
theorem fg_4_5 (e : Env) : mask (fg 4 5) e = mask [J,J,O,J,J,O,O,J,J,J,J,J,J,J,J,J,J,J,J,J,J,J,J,J,J,J,J,J,J,J,J,J,J,J,J,J,J,J,J,J,J,J,J,J,J,J,J,J,J,J,J,J,J,J,J,J,J,J,J,J,J,J,J,J,J,J,J,J,J,J,J,J,J,J,J,J,J,J,J,J,J,J,J,J,J,J,J,O,O,J,J,J,J,J,J,J,J,J,J,J,J,J,J,J,J,J] e := rfl
theorem fg_4_6 (e : Env) : mask (fg 4 6) e = mask [] e := rfl
theorem fg_5_0 (e : Env) : mask (fg 5 0) e = mask [O,O,O,J,J,J,O,O,O,O,J,O,J,O,J,J,J,J,J,J,J,O,J,J,J,J,J,J,J,J,J,J,J,J,J,J,J,J,J,J,J,J,J,O,O,O,J,O,J,J,J,J,J,J,J,J,J,J,J,J,J,J,J,J,J,J,J,J,J,J,J,J,J,J,J,J,J,J,J,J,J,J,J,J,J] e := rfl
theorem fg_5_1 (e : Env) : mask (fg 5 1) e = mask [O,J,O,J,J,J,J,J,O,J,J,J,J,J,J,J,J,J,J,J,J,J,J,J,J,J,J,J,J,J,J,J,J,J,J,J,J,J,J,J,J,J,J,O,O,J,J,J,J,J,J,J,J,J,J,J,J,J,J,J,J,J,J,J,J,J,J,J,J,J,J,J,J,J,J,J,J,J,J,J,J,J,J,J,J] e := rfl
theorem fg_5_2 (e : Env) : mask (fg 5 2) e = mask [] e := rfl
theorem fg_6_0 (e : Env) : mask (fg 6 0) e = mask [] e := rfl
theorem fg_7_0 (e : Env) : mask (fg 7 0) e = mask [O,O,J,J,O,O,O,O,O,O,O,O,J,J,J,J,J,J,O,J,J,J,J,J,J,J,J,J,J,J,J,J,J,J,J,J,J,J,J,J,J,J,J,J,O,J,J,J,J,J,J,J,J,J,J,J,J,J,J,J,J,J,J,J,J,O,J,J,J,J,J,J,J,J,O,J,J,J,J,J,J,O,J,J,J,J,J,J,J,J,J,J,J,J,J,J,J,J,J,J,J,J,J,J,J,J,J,J,J,J,J,J,J,J] e := rfl
theorem fg_7_1 (e : Env) : mask (fg 7 1) e = mask [O,O,J,J,J,O,O,O,J,J,J,J,J,J,J,J,J,J,J,J,J,J,J,J,J,J,J,J,J,J,J,J,J,J,J,J,J,J,J,J,J,J,J,J,J,J,J,J,J,J,J,J,J,J,J,J,J,J,J,J,J,J,J,J,J,J,J,J,J,J,J,J,J,J,J,J,J,J,J,J,J,J,J,J,J,J,J,J,J,J,J,J,J,J,J,J,J,J,J,J,J,J,J,J,J,J,J,J,J,J,J,J,J,J] e := rfl
theorem fg_7_2 (e : Env) : mask (fg 7 2) e = mask [] e := rfl
theorem fg_7_3 (e : Env) : mask (fg 7 3) e = mask [O,J,J,J,J,J,J,J,O,O,O,O,J,J,J,J,J,J,J,J,J,J,J,J,J,J,J,J,J,J,J,J,J,J,J,J,J,J,J,J,J,J,J,J,J,J,J,J,J,J,J,J,J,J,J,J,J,J,J,J,J,J,J,J,J,J,J,J,J,J,J,J,J,J,J,J,J,J,J,J,J,J,J,J,J,J,J,J,J,J,J,J,J,J,J,J,J,J,J,J,J,J,J,J,J,J,J,J,J,J,J,J,J,J] e := rfl
theorem fg_7_4 (e : Env) : mask (fg 7 4) e = mask [] e := rfl
theorem fg_8_0 (e : Env) : mask (fg 8 0) e = mask [O,O,O,J,J,J,O,O,O,O,O,O,O,O,O,O,O,J,O,O,J,J,J,J,J,J,J,J,J,J,J,J,J,J,J,J,J,J,J,J,J,J,J,J,J,J,J,J,J,J,J,J,J,J,J,J,J,J,J,J,J,J,J,J,J,J,J,J,J,J,J,J,J,J,J,J,J,J,J,J,J,J,J,J,J,O,J,J,J,O,J,J,J,J,J,J,J,J,J,J,J,J,J,J,J,J,J,J,J,J,J,J,J,J,J,J,J,J,O,J,J,J,J,J,J,J,J,J,J,J,J,J,J,J,J,J,J,J,J,J,J,J,J,J,J,J,J,J] e := rfl
theorem fg_8_1 (e : Env) : mask (fg 8 1) e = mask [J,J,O,J,J,J,O,J,J,J,J,J,J,J,O,O,J,J,J,J,J,J,J,J,J,J,J,J,J,J,J,J,J,J,J,J,J,J,J,J,J,J,J,J,J,J,J,J,J,J,J,J,J,J,J,J,J,J,J,J,J,J,J,J,J,J,J,J,J,J,J,J,J,J,J,J,J,J,J,J,J,J,J,J,J,J,J,J,J,J,J,J,J,J,J,J,J,J,J,J,J,J,J,J,J,J,J,J,J,J,J,J,J,J,J,J,J,J,J,J,J,J,J,J,J,J,J,J,J,J,J,J,J,J,J,J,J,J,J,J,J,J,J,J,J,J,J,J] e := rfl
theorem fg_8_2 (e : Env) : mask (fg 8 2) e = mask [] e := rfl
theorem fg_9_0 (e : Env) : mask (fg 9 0) e = mask [O,J,O,O,O,J,J,O,J,O,O,O,J,J,J,J,J,J,J,J,J,J,J,J,J,J,J,J,J] e := rfl
theorem fg_9_1 (e : Env) : mask (fg 9 1) e = mask [O,J,J,O,J,J,J,J,J,O,O,J,J,J,J,J,J,J,J,J,J,J,J,J,J,J,J,J,J] e := rfl
theorem fg_9_2 (e : Env) : mask (fg 9 2) e = mask [] e := rfl
theorem fg_10_0 (e : Env) : mask (fg 10 0) e = mask [] e := rfl
theorem fg_11_0 (e : Env) : mask (fg 11 0) e = mask [O,J,O,O,O,O,O,J,O,O,O,J,J,J,J,J,J,O,J,J,J,O,O,O,O,J,J,J,J,J,J,J,J,J,J,J,J,J,J,O,J,J,J,J,J,J,J,J] e := rfl
theorem fg_11_1 (e : Env) : mask (fg 11 1) e = mask [J,J,O,O,O,J,O,J,J,J,J,J,J,J,J,J,J,J,J,J,J,O,O,O,J,J,J,J,J,J,J,J,J,J,J,J,J,J,J,J,J,J,J,J,J,J,J,J] e := rfl
theorem fg_11_2 (e : Env) : mask (fg 11 2) e = mask [] e := rfl
theorem fg_12_0 (e : Env) : mask (fg 12 0) e = mask [O,J,O,O,O,O,O,O,O,O,J,J,J,J,J,J,O,J,J,J,J,J,J,O,J,J,J,J,J,J,J,J,J,J,J,J,J,J,J,J,O,J,J,J,J,J,J,J,J,J,J,J,J,J] e := rfl
theorem fg_12_1 (e : Env) : mask (fg 12 1) e = mask [J,J,O,O,O,J,O,O,J,J,J,J,J,J,J,J,J,J,J,J,J,J,J,J,J,J,J,J,J,J,J,J,J,J,J,J,J,J,J,J,J,J,J,J,J,J,J,J,J,J,J,J,J,J] e := rfl
theorem fg_12_2 (e : Env) : mask (fg 12 2) e = mask [] e := rfl
theorem fg_13_0 (e : Env) : mask (fg 13 0) e = mask [O,O,J,J,O,O,J,J,J,J,O,J,J,J,O,J,J,J,J,J,J,J,J,J,J,J,J,J,J,J,J,J,J,J,J,J,J,J,J,J,J] e := rfl
theorem fg_13_1 (e : Env) : mask (fg 13 1) e = mask [O,O,J,J,O,O,J,J,J,J,J,J,J,J,J,J,J,J,J,J,J,J,J,J,J,J,J,J,J,J,J,J,J,J,J,J,J,J,J,J,J,J] e := rfl
theorem fg_13_2 (e : Env) : mask (fg 13 2) e = mask [] e := rfl
theorem fg_14_0 (e : Env) : mask (fg 14 0) e = mask [] e := rfl
theorem fg_15_0 (e : Env) : mask (fg 15 0) e = mask [J,O,O,O,O,J,J,J,J,O,J,J,J,J,J,J,J,J,J,J,J] e := rfl
theorem fg_15_1 (e : Env) : mask (fg 15 1) e = mask [J,O,J,O,O,J,J,J,J,J,J,J,J,J,J,J,J,J,J,J,J] e := rfl
theorem fg_15_2 (e : Env) : mask (fg 15 2) e = mask [] e := rfl
theorem fg_16_0 (e : Env) : mask (fg 16 0) e = mask [J,J,O,O,O,O,J,J,J,J,J,J,J,J,J,J,J,J,J,J,J,J,J,J,J,J,J,J,J,J,J,J,J,J,J,J,J,J,J,J,O,J,J,J,J,O,J,J,J,J,J,J,J,J,J,J,J,J,J] e := rfl
theorem fg_16_1 (e : Env) : mask (fg 16 1) e = mask [J,J,O,O,O,O,J,J,J,J,J,J,J,J,J,J,J,J,J,J,J,J,J,J,J,J,J,J,J,J,J,J,J,J,J,J,J,J,J,J,J,J,J,J,J,J,J,J,J,J,J,J,J,J,J,J,J,J,J,J] e := rfl
theorem fg_16_2 (e : Env) : mask (fg 16 2) e = mask [] e := rfl
theorem fg_17_0 (e : Env) : mask (fg 17 0) e = mask [J,O,O,O,J,J,O,O,O,O,J,J,J,J,J,J,J,J,O,J,J,J,J,J,J,J,J,O,J,J,J,O,J,J,J,J,J,J,J,J,J,J,J,J,J,J,J,J,J,O,J,J,J,J,J,J,J,J,J,J,J,J,J,J,J,J] e := rfl
theorem fg_17_1 (e : Env) : mask (fg 17 1) e = mask [J,O,O,O,J,J,O,O,J,J,J,J,J,J,J,J,J,J,J,J,J,J,J,J,J,J,J,J,J,J,J,J,J,J,J,J,J,J,J,J,J,J,J,J,J,J,J,J,J,J,J,J,J,J,J,J,J,J,J,J,J,J,J,J,J,J] e := rfl
theorem fg_17_2 (e : Env) : mask (fg 17 2) e = mask [] e := rfl
theorem fg_17_3 (e : Env) : mask (fg 17 3) e = mask [J,O,O,O,J,J,O,J,O,O,J,J,J,J,J,J,J,J,J,J,J,J,J,J,J,J,J,J,J,J,J,J,J,J,J,J,J,J,J,J,J,J,J,J,J,J,J,J,J,J,J,J,J,J,J,J,J,J,J,J,J,J,J,J,J,J] e := rfl
theorem fg_17_4 (e : Env) : mask (fg 17 4) e = mask [] e := rfl
theorem fg_18_0 (e : Env) : mask (fg 18 0) e = mask [O,J,O,O,O,J,O,O,O,J,J,J,J,J,J,J,J,J,J,J,J,J,J,O,J,J,J,J,J,J,J,J,J,J] e := rfl
theorem fg_18_1 (e : Env) : mask (fg 18 1) e = mask [O,J,O,O,J,J,O,O,J,J,J,J,J,J,J,J,J,J,J,J,J,J,J,J,J,J,J,J,J,J,J,J,J,J] e := rfl
theorem fg_18_2 (e : Env) : mask (fg 18 2) e = mask [] e := rfl
theorem fg_19_0 (e : Env) : mask (fg 19 0) e = mask [J,J,O,O,O,O,O,O,J,O,J,O,O,O,J,J,J,J,J,J,J,J,J,O,J,J,J,J,O,O,O,O,J,J,J,J,J,J,J,J,J,J,J,J,J,J,O,J,J,J,J,J,J,J,J,J,J,J,J,J,J,J,J,J,J,J,O,J,J] e := rfl
theorem fg_19_1 (e : Env) : mask (fg 19 1) e = mask [J,J,O,J,O,O,O,J,J,J,J,J,J,J,J,J,J,J,J,J,J,J,J,J,J,J,J,J,O,O,O,J,J,J,J,J,J,J,J,J,J,J,J,J,J,J,J,J,J,J,J,J,J,J,J,J,J,J,J,J,J,J,J,J,J,J,J,J,J] e := rfl
theorem fg_19_2 (e : Env) : mask (fg 19 2) e = mask [] e := rfl
theorem fg_20_0 (e : Env) : mask (fg 20 0) e = mask [] e := rfl
theorem fg_21_0 (e : Env) : mask (fg 21 0) e = mask [J,O,O,O,O,O,J,J,J,J,J,O,J,J,J,J,J,J,J,J,J,J,J,J] e := rfl
theorem fg_21_1 (e : Env) : mask (fg 21 1) e = mask [J,O,O,O,O,O,J,J,J,J,J,J,J,J,J,J,J,J,J,J,J,J,J,J] e := rfl
theorem fg_21_2 (e : Env) : mask (fg 21 2) e = mask [] e := rfl
theorem fg_22_0 (e : Env) : mask (fg 22 0) e = mask [] e := rfl
theorem fg_23_0 (e : Env) : mask (fg 23 0) e = mask [] e := rfl
theorem fg_24_0 (e : Env) : mask (fg 24 0) e = mask [] e := rfl
theorem fg_25_0 (e : Env) : mask (fg 25 0) e = mask [] e := rfl
theorem fg_26_0 (e : Env) : mask (fg 26 0) e = mask [] e := rfl
theorem fg_27_0 (e : Env) : mask (fg 27 0) e = mask [] e := rfl
theorem fg_28_0 (e : Env) : mask (fg 28 0) e = mask [] e := rfl
theorem fg_29_0 (e : Env) : mask (fg 29 0) e = mask [O,O,O,J,J,J,O,O,O,O,O,O,O,O,J,J,J,J,J,O,J,J,J,J,J,J,J,O,J,J,J,J,J,J,J,J,J,J,J,J,J,J,J,J,J,J,J,J,J,J,J,J,J,J,J,J,J,J,J,J,J,O,J,J,J,J,J,J,J,J,J,J,J,J,J,J,J,J,J,J,J,J,J,J,J,J,O,J,J,J,O,J,J,J,J,J,J,J,J,J,J,J,J,J,O,O,J,J,J,J,J,J,J,J,J,J,J,J,J,O,O,J,J,J,J,J] e := rfl
theorem fg_29_1 (e : Env) : mask (fg 29 1) e = mask [O,J,J,J,J,J,O,O,O,J,J,J,J,J,J,J,J,J,J,J,J,J,J,J,J,J,J,J,J,J,J,J,J,J,J,J,J,J,J,J,J,J,J,J,J,J,J,J,J,J,J,J,J,J,J,J,J,J,J,J,J,J,J,J,J,J,J,J,J,J,J,J,J,J,J,J,J,J,J,J,J,J,J,J,J,J,J,J,J,J,J,J,J,J,J,J,J,J,J,J,J,J,J,J,J,J,J,J,J,J,J,J,J,J,J,J,J,J,J,J,J,J,J,J,J,J] e := rfl
theorem fg_29_2 (e : Env) : mask (fg 29 2) e = mask [] e := rfl
theorem fg_29_3 (e : Env) : mask (fg 29 3) e = mask [] e := rfl
theorem fg_29_4 (e : Env) : mask (fg 29 4) e = mask [O,J,J,J,J,J,J,O,O,J,O,O,O,O,J,J,J,J,J,J,J,J,J,J,J,J,J,J,J,J,J,J,J,J,J,J,J,J,J,J,J,J,J,J,J,J,J,J,J,J,J,J,J,J,J,J,J,J,J,J,J,J,J,J,J,J,J,J,J,J,J,J,J,J,J,J,J,J,J,J,J,J,J,J,J,J,J,J,J,J,J,J,J,J,J,J,J,J,J,J,J,J,J,J,J,J,J,J,J,J,J,J,J,J,J,J,J,J,J,J,J,J,J,J,J,J] e := rfl
theorem fg_29_5 (e : Env) : mask (fg 29 5) e = mask [] e := rfl
theorem fg_30_0 (e : Env) : mask (fg 30 0) e = mask [] e := rfl
theorem fg_31_0 (e : Env) : mask (fg 31 0) e = mask [] e := rfl
theorem fg_32_0 (e : Env) : mask (fg 32 0) e = mask [] e := rfl
theorem fg_33_0 (e : Env) : mask (fg 33 0) e = mask [O,J,O,O,O,O,O,O,O,J,O,J,J,J,J,J,J,J,O,O,O,O,J,J,J,J,J,J,J,J,J,J,J,J,J,J,J,J,J,J,J,J,J,J,J,J,J,J,J,J,J,J,J,J,J,J,J,J,J,J,J,J,J,J,J,J,J,J,J,J,O,O,O,O,J,J,J,J,J,J,J,J,J,J,J,O,J,J,J] e := rfl
theorem fg_33_1 (e : Env) : mask (fg 33 1) e = mask [J,J,J,J,O,O,J,J,J,J,J,J,J,J,J,J,J,J,O,O,O,J,J,J,J,J,J,J,J,J,J,J,J,J,J,J,J,J,J,J,J,J,J,J,J,J,J,J,J,J,J,J,J,J,J,J,J,J,J,J,J,J,J,J,J,J,J,J,J,J,J,J,J,J,J,J,J,J,J,J,J,J,J,J,J,J,J,J,J] e := rfl
theorem fg_33_2 (e : Env) : mask (fg 33 2) e = mask [] e := rfl
theorem fg_33_3 (e : Env) : mask (fg 33 3) e = mask [J,J,O,O,O,J,J,J,J,J,J,J,J,J,J,J,J,J,J,J,J,J,J,J,J,J,J,J,J,J,J,J,J,J,J,J,J,J,J,J,J,J,J,J,J,J,J,J,J,J,J,J,J,J,J,J,J,J,J,J,J,J,J,J,J,J,J,J,J,J,O,O,O,J,J,J,J,J,J,J,J,J,J,J,J,J,J,J,J] e := rfl
theorem fg_33_4 (e : Env) : mask (fg 33 4) e = mask [] e := rfl
theorem fg_34_0 (e : Env) : mask (fg 34 0) e = mask [] e := rfl
theorem fg_35_0 (e : Env) : mask (fg 35 0) e = mask [O,J,O,O,O,O,O,J,J,J,J,J,O,J,J,J,J,J,J,J,J,J,J,J,J,J,J,J,J,J,J,J,J,J,J,J,J,J,J,J,J,J,J,J,J,J,O,J,J,J,J,J,J,J,J,J,J,J,J,J,J,O,J,J] e := rfl
theorem fg_35_1 (e : Env) : mask (fg 35 1) e = mask [O,J,J,J,O,O,J,J,J,J,J,J,J,J,J,J,J,J,J,J,J,J,J,J,J,J,J,J,J,J,J,J,J,J,J,J,J,J,J,J,J,J,J,J,J,J,J,J,J,J,J,J,J,J,J,J,J,J,J,J,J,J,J,J] e := rfl
theorem fg_35_2 (e : Env) : mask (fg 35 2) e = mask [] e := rfl
theorem fg_35_3 (e : Env) : mask (fg 35 3) e = mask [O,J,O,O,O,J,O,J,J,J,J,J,J,J,J,J,J,J,J,J,J,J,J,J,J,J,J,J,J,J,J,J,J,J,J,J,J,J,J,J,J,J,J,J,J,J,J,J,J,J,J,J,J,J,J,J,J,J,J,J,J,J,J,J] e := rfl
theorem fg_35_4 (e : Env) : mask (fg 35 4) e = mask [] e := rfl
theorem fg_36_0 (e : Env) : mask (fg 36 0) e = mask [O,J,O,J,O,J,O,O,O,O,O,J,J,J,J,J,J,J,J,J,J,J,J,J,J,J,J,O,J,J,J,J,J,J,J,J,J,O,J,J,J,J,J,J,J,J,J,J,J,J,J,J,J,J,J,J,J,J,J,J] e := rfl
theorem fg_36_1 (e : Env) : mask (fg 36 1) e = mask [O,J,O,J,O,J,O,J,O,O,J,J,J,J,J,J,J,J,J,J,J,J,J,J,J,J,J,J,J,J,J,J,J,J,J,J,J,J,J,J,J,J,J,J,J,J,J,J,J,J,J,J,J,J,J,J,J,J,J,J] e := rfl
theorem fg_36_2 (e : Env) : mask (fg 36 2) e = mask [] e := rfl
theorem fg_37_0 (e : Env) : mask (fg 37 0) e = mask [] e := rfl
theorem fg_38_0 (e : Env) : mask (fg 38 0) e = mask [J,O,O,O,J,J,J,J,J,J,J,J,J,J,J,J,J,J,J,J,J,J,J,J,J,J,J,J,J,J,J,J,O,J,J,J,J,O,J,J,J,J,J,J,J,J] e := rfl
theorem fg_38_1 (e : Env) : mask (fg 38 1) e = mask [J,O,O,O,J,J,J,J,J,J,J,J,J,J,J,J,J,J,J,J,J,J,J,J,J,J,J,J,J,J,J,J,J,J,J,J,J,J,J,J,J,J,J,J,J,J,J] e := rfl
theorem fg_38_2 (e : Env) : mask (fg 38 2) e = mask [] e := rfl
theorem fg_39_0 (e : Env) : mask (fg 39 0) e = mask [O,J,O,O,J,O,J,J,O,O,O,O,O,O,J,O,J,J,O,J,J,J,J,J,J,J,J,O,J,J,J,J,J,J,J,J,J,J,J,J,O,O,O,O,J,J,J,J,J,J,J,J,J,J,J,J,J,J,J,J,J,J,J,J,J] e := rfl
theorem fg_39_1 (e : Env) : mask (fg 39 1) e = mask [O,J,O,O,J,O,J,J,J,J,J,O,J,J,J,J,J,J,J,J,J,J,J,J,J,J,J,J,J,J,J,J,J,J,J,J,J,J,J,J,O,O,O,J,J,J,J,J,J,J,J,J,J,J,J,J,J,J,J,J,J,J,J,J,J] e := rfl
theorem fg_39_2 (e : Env) : mask (fg 39 2) e = mask [] e := rfl
theorem fg_40_0 (e : Env) : mask (fg 40 0) e = mask [] e := rfl
theorem fg_41_0 (e : Env) : mask (fg 41 0) e = mask [O,J,J,O,O,O,J,J,J,J,J,J,J,J,J,O,J,J,J,J,J,J,J,J,J,J,J,O,J,J,J,J,J,J,J,J,J,J] e := rfl
theorem fg_41_1 (e : Env) : mask (fg 41 1) e = mask [O,J,J,O,J,O,J,J,J,J,J,J,J,J,J,J,J,J,J,J,J,J,J,J,J,J,J,J,J,J,J,J,J,J,J,J,J,J] e := rfl
theorem fg_41_2 (e : Env) : mask (fg 41 2) e = mask [] e := rfl
theorem fg_42_0 (e : Env) : mask (fg 42 0) e = mask [] e := rfl
theorem fg_43_0 (e : Env) : mask (fg 43 0) e = mask [] e := rfl
theorem fg_44_0 (e : Env) : mask (fg 44 0) e = mask [] e := rfl
theorem fg_45_0 (e : Env) : mask (fg 45 0) e = mask [] e := rfl
theorem fg_46_0 (e : Env) : mask (fg 46 0) e = mask [O,O,O,J,J,J,O,O,O,J,J,J,J,J,J,J,J,J,J,O,J,J,J,J] e := rfl
theorem fg_46_1 (e : Env) : mask (fg 46 1) e = mask [O,O,O,J,J,J,O,J,J,J,J,J,J,J,J,J,J,J,J,J,J,J,J,J] e := rfl
theorem fg_46_2 (e : Env) : mask (fg 46 2) e = mask [] e := rfl
theorem fg_47_0 (e : Env) : mask (fg 47 0) e = mask [] e := rfl
theorem fg_48_0 (e : Env) : mask (fg 48 0) e = mask [] e := rfl
theorem fg_49_0 (e : Env) : mask (fg 49 0) e = mask [O,O,O,J,J,J,O,O,O,O,J,O,J,J,J,J,J,J,J,J,J,O,J,J,J,J,J,J,J,J,O,O,O,O,J,J,J,J,J,J,J,J,J,J,J,J,J,J] e := rfl
theorem fg_49_1 (e : Env) : mask (fg 49 1) e = mask [O,O,O,J,J,J,J,J,J,O,J,J,J,J,J,J,J,J,J,J,J,J,J,J,J,J,J,J,J,J,O,O,O,J,J,J,J,J,J,J,J,J,J,J,J,J,J,J] e := rfl
theorem fg_49_2 (e : Env) : mask (fg 49 2) e = mask [] e := rfl
theorem fg_50_0 (e : Env) : mask (fg 50 0) e = mask [O,O,O,J,J,J,O,O,O,J,O,J,J,J,J,J,J,J,J,J,J,J,O,O,J,J,J,J,J,O,J,J,J,J,J,J,J,J,J,J,J,J,J,O,O,O,O,J,J,J,J,J,J,J,J,J,J,J,J,J] e := rfl
theorem fg_50_1 (e : Env) : mask (fg 50 1) e = mask [] e := rfl
theorem fg_50_2 (e : Env) : mask (fg 50 2) e = mask [O,J,O,J,J,J,O,J,O,J,J,J,J,J,J,J,J,J,J,J,J,J,J,J,J,J,J,J,J,J,J,J,J,J,J,J,J,J,J,J,J,J,J,O,O,O,J,J,J,J,J,J,J,J,J,J,J,J,J,J] e := rfl
theorem fg_50_3 (e : Env) : mask (fg 50 3) e = mask [] e := rfl
theorem fg_51_0 (e : Env) : mask (fg 51 0) e = mask [] e := rfl
theorem fg_52_0 (e : Env) : mask (fg 52 0) e = mask [] e := rfl
theorem fg_53_0 (e : Env) : mask (fg 53 0) e = mask [O,J,O,O,O,J,O,J,O,O,O,O,J,J,J,J,J,J,J] e := rfl
theorem fg_53_1 (e : Env) : mask (fg 53 1) e = mask [J,J,J,O,O,J,J,J,O,O,O,J,J,J,J,J,J,J,J] e := rfl
theorem fg_53_2 (e : Env) : mask (fg 53 2) e = mask [] e := rfl
theorem fg_54_0 (e : Env) : mask (fg 54 0) e = mask [O,J,O,O,J,O,O,O,O,O,J,J,J,J,J,J,J,J,J] e := rfl
theorem fg_54_1 (e : Env) : mask (fg 54 1) e = mask [J,J,J,O,J,J,O,O,O,J,J,J,J,J,J,J,J,J,J] e := rfl
theorem fg_54_2 (e : Env) : mask (fg 54 2) e = mask [] e := rfl
theorem fg_55_0 (e : Env) : mask (fg 55 0) e = mask [] e := rfl
theorem fg_56_0 (e : Env) : mask (fg 56 0) e = mask [O,O,J,J,O,J,O,J,J,J,O,O,O,O,J,J,J,J,J,J,J,J,J,J,J,J,J,J,O,J,J] e := rfl
theorem fg_56_1 (e : Env) : mask (fg 56 1) e = mask [O,O,J,J,O,J,J,J,J,J,O,O,O,J,J,J,J,J,J,J,J,J,J,J,J,J,J,J,J,J,J] e := rfl
theorem fg_56_2 (e : Env) : mask (fg 56 2) e = mask [] e := rfl
theorem fg_57_0 (e : Env) : mask (fg 57 0) e = mask [O,J,J,J,O,O,O,O,O,O,J,J,J,J,J,J,J,J,J,J,J,J,J,O,J,J,J,J,J,J,J,J,J,J,J,J,J,J,J,J,O,J,J,J,J,J,J,J,J,J,O,J,J,J,J,J,J,J,J,J,O,J,J,J,J,O,J,J,J,J,J,J,J,J,J,J,J,J,J,J,J,O,J,J,J,J,J,J,J,J,J,J,J,J,J,J,J,J,J,J,J,J,J,J,J,J,J,J,J,J,J,J,J,O,J,J,J,J,O,J,J,J,J,J,J,J,J,J,J,J,J,J,J] e := rfl
theorem fg_57_1 (e : Env) : mask (fg 57 1) e = mask [O,J,J,J,O,O,O,J,J,O,J,J,J,J,J,J,J,J,J,J,J,J,J,J,J,J,J,J,J,J,J,J,J,J,J,J,J,J,J,J,J,J,J,J,J,J,J,J,J,J,J,J,J,J,J,J,J,J,J,J,J,J,J,J,J,J,J,J,J,J,J,J,J,J,J,J,J,J,J,J,J,J,J,J,J,J,J,J,J,J,J,J,J,J,J,J,J,J,J,J,J,J,J,J,J,J,J,J,J,J,J,J,J,J,J,J,J,J,J,J,J,J,J,J,J,J,J,J,J,J,J,J,J,J] e := rfl
theorem fg_57_2 (e : Env) : mask (fg 57 2) e = mask [] e := rfl
theorem fg_58_0 (e : Env) : mask (fg 58 0) e = mask [O,J,J,O,O,O,J,J,O,J,J,J,J,J,J,J,J,J,J,J,J,J,J,J,J,J,J,J,O,J,J,J,J,J,J,J,J,J] e := rfl
theorem fg_58_1 (e : Env) : mask (fg 58 1) e = mask [O,J,J,O,O,J,J,J,J,J,J,J,J,J,J,J,J,J,J,J,J,J,J,J,J,J,J,J,J,J,J,J,J,J,J,J,J,J] e := rfl
theorem fg_58_2 (e : Env) : mask (fg 58 2) e = mask [] e := rfl
theorem fg_59_0 (e : Env) : mask (fg 59 0) e = mask [J,O,O,J,O,O,O,J,J,J,J,J,J,J,O,J,J,J,J,J,J,J,J,J,J,J,J,J,O,O,O,J,J,O,J,J,J,J,J,J,J,J,J,J,J,J,J] e := rfl
theorem fg_59_1 (e : Env) : mask (fg 59 1) e = mask [J,O,O,J,J,O,J,J,J,J,J,J,J,J,J,J,J,J,J,J,J,J,J,J,J,J,J,J,O,O,J,J,J,J,J,J,J,J,J,J,J,J,J,J,J,J,J] e := rfl
theorem fg_59_2 (e : Env) : mask (fg 59 2) e = mask [] e := rfl
theorem fg_60_0 (e : Env) : mask (fg 60 0) e = mask [] e := rfl
theorem fg_61_0 (e : Env) : mask (fg 61 0) e = mask [O,J,O,O,J,J,J,J,J,O,J,J,J,J,J,J,J,J,J,J,J] e := rfl
theorem fg_61_1 (e : Env) : mask (fg 61 1) e = mask [O,J,J,O,J,J,J,J,J,J,J,J,J,J,J,J,J,J,J,J,J] e := rfl
theorem fg_61_2 (e : Env) : mask (fg 61 2) e = mask [] e := rfl
theorem fg_62_0 (e : Env) : mask (fg 62 0) e = mask [] e := rfl
theorem fg_63_0 (e : Env) : mask (fg 63 0) e = mask [] e := rfl
theorem fg_64_0 (e : Env) : mask (fg 64 0) e = mask [O,O,J,J,O,J,J,J,J,J,J,J,J,J,O,J,J,J,J,J,J,J,J,J,J,J,J,J,J,J,J,J,J,J,J,J,J,J,J,J,J,J,J,J,J,J] e := rfl
theorem fg_64_1 (e : Env) : mask (fg 64 1) e = mask [O,O,J,J,J,J,J,J,J,J,J,J,J,J,J,J,J,J,J,J,J,J,J,J,J,J,J,J,J,J,J,J,J,J,J,J,J,J,J,J,J,J,J,J,J,J] e := rfl
theorem fg_64_2 (e : Env) : mask (fg 64 2) e = mask [] e := rfl
theorem fg_65_0 (e : Env) : mask (fg 65 0) e = mask [O,O,O,J,J,J,O,O,O,J,J,J,J,J,J,J,J,J,J,J,O,J,J,J,J,J,J,J,J,J,J,J,J,J,J,J,J,J,J,J,J,J,J,J,J,J,O,J,J,J,J,J,J,J,J,J,J,J,J,J,J,O,J,J,J,J,J,J,J,J,J,J] e := rfl
theorem fg_65_1 (e : Env) : mask (fg 65 1) e = mask [O,J,O,J,J,J,O,O,J,J,J,J,J,J,J,J,J,J,J,J,J,J,J,J,J,J,J,J,J,J,J,J,J,J,J,J,J,J,J,J,J,J,J,J,J,J,J,J,J,J,J,J,J,J,J,J,J,J,J,J,J,J,J,J,J,J,J,J,J,J,J,J] e := rfl
theorem fg_65_2 (e : Env) : mask (fg 65 2) e = mask [] e := rfl
theorem fg_66_0 (e : Env) : mask (fg 66 0) e = mask [] e := rfl
theorem fg_67_0 (e : Env) : mask (fg 67 0) e = mask [] e := rfl
theorem fg_68_0 (e : Env) : mask (fg 68 0) e = mask [] e := rfl
theorem fg_69_0 (e : Env) : mask (fg 69 0) e = mask [J,O,O,O,J,O,J,J,J,J,J,J,J,J,J,O,J,J,J,J,J,J,O,O,O,O,J,J,J,J,J,J] e := rfl
theorem fg_69_1 (e : Env) : mask (fg 69 1) e = mask [J,J,O,J,J,J,J,J,J,J,J,J,J,J,J,J,J,J,J,J,J,J,O,O,O,J,J,J,J,J,J,J] e := rfl
theorem fg_69_2 (e : Env) : mask (fg 69 2) e = mask [] e := rfl
theorem fg_70_0 (e : Env) : mask (fg 70 0) e = mask [] e := rfl
theorem fg_71_0 (e : Env) : mask (fg 71 0) e = mask [O,O,J,J,O,O,J,J,J,O,J,J,J,J,J,J,J,O,J] e := rfl
theorem fg_71_1 (e : Env) : mask (fg 71 1) e = mask [O,O,J,J,O,O,J,J,J,J,J,J,J,J,J,J,J,J,J] e := rfl
theorem fg_71_2 (e : Env) : mask (fg 71 2) e = mask [] e := rfl
theorem fg_72_0 (e : Env) : mask (fg 72 0) e = mask [O,O,J,J,J,O,O,O,J,J,J,J,J,O,J,J,J,J,J,J,J,J,O,J,J,J,J,J,J,J,J,J] e := rfl
theorem fg_72_1 (e : Env) : mask (fg 72 1) e = mask [O,O,J,J,J,O,O,O,J,J,J,J,J,J,J,J,J,J,J,J,J,J,J,J,J,J,J,J,J,J,J,J,J] e := rfl
theorem fg_72_2 (e : Env) : mask (fg 72 2) e = mask [] e := rfl
theorem fg_73_0 (e : Env) : mask (fg 73 0) e = mask [O,O,J,J,O,O,J,J,J,O,J,J,J,J,J,J,J] e := rfl
theorem fg_73_1 (e : Env) : mask (fg 73 1) e = mask [O,O,J,J,O,O,J,J,J,J,J,J,J,J,J,J,J,J] e := rfl
theorem fg_73_2 (e : Env) : mask (fg 73 2) e = mask [] e := rfl
theorem fg_74_0 (e : Env) : mask (fg 74 0) e = mask [O,O,J,J,O,O,J,O,O,O,J,J,J,J,J,J,O,J,J] e := rfl
theorem fg_74_1 (e : Env) : mask (fg 74 1) e = mask [O,O,J,J,O,J,J,O,O,J,J,J,J,J,J,J,J,J,J] e := rfl
theorem fg_74_2 (e : Env) : mask (fg 74 2) e = mask [] e := rfl
theorem fg_75_0 (e : Env) : mask (fg 75 0) e = mask [] e := rfl
theorem fg_76_0 (e : Env) : mask (fg 76 0) e = mask [O,O,J,J,O,O,J,O,O,O,J,J,J,J,J,J,O,J,J] e := rfl
theorem fg_76_1 (e : Env) : mask (fg 76 1) e = mask [O,O,J,J,O,J,J,O,O,J,J,J,J,J,J,J,J,J,J] e := rfl
theorem fg_76_2 (e : Env) : mask (fg 76 2) e = mask [] e := rfl
theorem fg_77_0 (e : Env) : mask (fg 77 0) e = mask [] e := rfl
theorem fg_78_0 (e : Env) : mask (fg 78 0) e = mask [] e := rfl
theorem fg_79_0 (e : Env) : mask (fg 79 0) e = mask [] e := rfl
theorem fg_80_0 (e : Env) : mask (fg 80 0) e = mask [O,O,J,J,O,O,O,O,O,O,O,O,O,O,O,O,O,J,J,J,O,J,J,J,J,J,J,J,J,J,J,J,J,J,J,J,J,J,J,J,J,J,J,J,J,J,J,J,J,J,J,J,J,J,J,J,J,J,J,J,J,J,J,J,J,J,J,J,J,J,J,J,J,J,J,J,J,J,J,J,J,J,J,J,J,J,J,J,J,J,J,J,J,J,J,J,J,J,J,O,J,J,J,J,J,J,J,J,J,J,J,J,J,J,J,J,J,J,J,J,J,J,J,J,J,J,J,J,J,J,J,J,J,J,J,J,J,J,J,O,J,J,J,J,J,J,J,J,J,J,J,J,J,J,J,J,J,J,J,J,J,O,J,J,J,J,J] e := rfl
theorem fg_80_1 (e : Env) : mask (fg 80 1) e = mask [O,O,J,J,O,J,J,J,J,J,J,J,J,J,J,J,J,J,J,J,J,J,J,J,J,J,J,J,J,J,J,J,J,J,J,J,J,J,J,J,J,J,J,J,J,J,J,J,J,J,J,J,J,J,J,J,J,J,J,J,J,J,J,J,J,J,J,J,J,J,J,J,J,J,J,J,J,J,J,J,J,J,J,J,J,J,J,J,J,J,J,J,J,J,J,J,J,J,J,J,J,J,J,J,J,J,J,J,J,J,J,J,J,J,J,J,J,J,J,J,J,J,J,J,J,J,J,J,J,J,J,J,J,J,J,J,J,J,J,J,J,J,J,J,J,J,J,J,J,J,J,J,J,J,J,J,J,J,J,J,J,J,J,J,J,J,J] e := rfl
theorem fg_80_2 (e : Env) : mask (fg 80 2) e = mask [] e := rfl
theorem fg_81_0 (e : Env) : mask (fg 81 0) e = mask [O,O,O,O,O,J,J,J,J,J,O,O,O,O,O,O,O,O,O,J,J,J,J,J,J,J,J,J,O,J,O,J,J,J,O,J,J,J,J,J,J,J,J,J,J,J,O,J,J,J,J,J,J,J,J,J,J,J,J,J,J,J,J,J,J,J,J,J,O,J,J,J,J,J,J,J,J,J,J,J,J,J,J,J,J,J,J,J,J,O,J,J,J,J,O,J,J,J,J,J,J,J] e := rfl
theorem fg_81_1 (e : Env) : mask (fg 81 1) e = mask [O,O,J,O,O,J,J,J,J,J,O,O,O,O,O,O,O,J,J,J,J,J,J,J,J,J,J,J,J,J,J,J,J,J,J,J,J,J,J,J,J,J,J,J,J,J,J,J,J,J,J,J,J,J,J,J,J,J,J,J,J,J,J,J,J,J,J,J,J,J,J,J,J,J,J,J,J,J,J,J,J,J,J,J,J,J,J,J,J,J,J,J,J,J,J,J,J,J,J,J,J,J] e := rfl
theorem fg_81_2 (e : Env) : mask (fg 81 2) e = mask [] e := rfl
theorem fg_81_3 (e : Env) : mask (fg 81 3) e = mask [O,O,J,O,O,J,J,J,J,J,O,O,O,O,J,J,J,O,J,J,J,J,J,J,J,J,J,J,J,J,J,J,J,J,J,J,J,J,J,J,J,J,J,J,J,J,J,J,J,J,J,J,J,J,J,J,J,J,J,J,J,J,J,J,J,J,J,J,J,J,J,J,J,J,J,J,J,J,J,J,J,J,J,J,J,J,J,J,J,J,J,J,J,J,J,J,J,J,J,J,J,J] e := rfl
theorem fg_81_4 (e : Env) : mask (fg 81 4) e = mask [] e := rfl
theorem fg_82_0 (e : Env) : mask (fg 82 0) e = mask [] e := rfl
theorem fg_83_0 (e : Env) : mask (fg 83 0) e = mask [] e := rfl
theorem fg_84_0 (e : Env) : mask (fg 84 0) e = mask [] e := rfl
theorem fg_85_0 (e : Env) : mask (fg 85 0) e = mask [] e := rfl
theorem fg_86_0 (e : Env) : mask (fg 86 0) e = mask [] e := rfl
theorem fg_87_0 (e : Env) : mask (fg 87 0) e = mask [] e := rfl
theorem fg_88_0 (e : Env) : mask (fg 88 0) e = mask [] e := rfl
theorem fg_111_0 (e : Env) : mask (fg 111 0) e = mask [] e := rfl
theorem la_4_21 : looseAt (fg 4) 21 = true := rfl
theorem sq_4_21 : seqAt (fg 4) 21 = [0, 1, 2, 3, 4, 5, 6, 7, 8, 9, 10, 11, 12, 13, 14, 15, 16, 17] := rfl
theorem am_4_21 : allocsAt (fg 4) 21 = 0 := rfl
theorem un_4_21_0 : unordAt (fg 4) 21 0 = [] := rfl
theorem un_4_21_1 : unordAt (fg 4) 21 1 = [] := rfl
theorem un_4_21_2 : unordAt (fg 4) 21 2 = [] := rfl
theorem un_4_21_3 : unordAt (fg 4) 21 3 = [] := rfl
theorem un_4_21_4 : unordAt (fg 4) 21 4 = [] := rfl
theorem un_4_21_5 : unordAt (fg 4) 21 5 = [] := rfl
theorem un_4_21_6 : unordAt (fg 4) 21 6 = [] := rfl
theorem un_4_21_7 : unordAt (fg 4) 21 7 = [] := rfl
theorem un_4_21_8 : unordAt (fg 4) 21 8 = [] := rfl
theorem un_4_21_9 : unordAt (fg 4) 21 9 = [] := rfl
theorem un_4_21_10 : unordAt (fg 4) 21 10 = [] := rfl
theorem un_4_21_11 : unordAt (fg 4) 21 11 = [] := rfl
theorem un_4_21_12 : unordAt (fg 4) 21 12 = [] := rfl
theorem un_4_21_13 : unordAt (fg 4) 21 13 = [] := rfl
theorem un_4_21_14 : unordAt (fg 4) 21 14 = [] := rfl
theorem un_4_21_15 : unordAt (fg 4) 21 15 = [] := rfl
theorem un_4_21_16 : unordAt (fg 4) 21 16 = [] := rfl
theorem un_4_21_17 : unordAt (fg 4) 21 17 = [] := rfl
theorem un_4_21_999 : unordAt (fg 4) 21 999 = [] := rfl
theorem la_4_27 : looseAt (fg 4) 27 = false := rfl
theorem la_5_4 : looseAt (fg 5) 4 = false := rfl
theorem la_5_9 : looseAt (fg 5) 9 = true := rfl
theorem sq_5_9 : seqAt (fg 5) 9 = [0, 1, 2, 3, 4, 5, 6, 7, 8, 9, 10, 11, 12, 13, 14, 15, 16, 17, 18, 19] := rfl
theorem am_5_9 : allocsAt (fg 5) 9 = 0 := rfl
theorem un_5_9_0 : unordAt (fg 5) 9 0 = [] := rfl
theorem un_5_9_1 : unordAt (fg 5) 9 1 = [] := rfl
theorem un_5_9_2 : unordAt (fg 5) 9 2 = [] := rfl
theorem un_5_9_3 : unordAt (fg 5) 9 3 = [] := rfl
theorem un_5_9_4 : unordAt (fg 5) 9 4 = [] := rfl
theorem un_5_9_5 : unordAt (fg 5) 9 5 = [] := rfl
theorem un_5_9_6 : unordAt (fg 5) 9 6 = [] := rfl
theorem un_5_9_7 : unordAt (fg 5) 9 7 = [] := rfl
theorem un_5_9_8 : unordAt (fg 5) 9 8 = [] := rfl
theorem un_5_9_9 : unordAt (fg 5) 9 9 = [] := rfl
theorem un_5_9_10 : unordAt (fg 5) 9 10 = [] := rfl
theorem un_5_9_11 : unordAt (fg 5) 9 11 = [] := rfl
theorem un_5_9_12 : unordAt (fg 5) 9 12 = [] := rfl
theorem un_5_9_13 : unordAt (fg 5) 9 13 = [] := rfl
theorem un_5_9_14 : unordAt (fg 5) 9 14 = [] := rfl
theorem un_5_9_15 : unordAt (fg 5) 9 15 = [] := rfl
theorem un_5_9_16 : unordAt (fg 5) 9 16 = [] := rfl
theorem un_5_9_17 : unordAt (fg 5) 9 17 = [] := rfl
theorem un_5_9_18 : unordAt (fg 5) 9 18 = [] := rfl
theorem un_5_9_19 : unordAt (fg 5) 9 19 = [] := rfl
theorem un_5_9_999 : unordAt (fg 5) 9 999 = [1] := rfl
theorem la_6_10 : looseAt (fg 6) 10 = false := rfl
theorem la_9_7 : looseAt (fg 9) 7 = false := rfl
theorem la_10_4 : looseAt (fg 10) 4 = false := rfl
theorem la_12_11 : looseAt (fg 12) 11 = false := rfl
theorem la_13_6 : looseAt (fg 13) 6 = false := rfl
theorem la_16_6 : looseAt (fg 16) 6 = false := rfl
theorem la_17_4 : looseAt (fg 17) 4 = false := rfl
theorem la_17_11 : looseAt (fg 17) 11 = false := rfl
theorem la_19_7 : looseAt (fg 19) 7 = true := rfl
theorem sq_19_7 : seqAt (fg 19) 7 = [11, 0, 1, 2, 3, 4, 5, 6, 7, 8, 9, 10, 12, 13] := rfl
theorem am_19_7 : allocsAt (fg 19) 7 = 1 := rfl
theorem un_19_7_0 : unordAt (fg 19) 7 0 = [0] := rfl
theorem un_19_7_1 : unordAt (fg 19) 7 1 = [0] := rfl
theorem un_19_7_2 : unordAt (fg 19) 7 2 = [] := rfl
theorem un_19_7_3 : unordAt (fg 19) 7 3 = [] := rfl
theorem un_19_7_4 : unordAt (fg 19) 7 4 = [0] := rfl
theorem un_19_7_5 : unordAt (fg 19) 7 5 = [] := rfl
theorem un_19_7_6 : unordAt (fg 19) 7 6 = [0] := rfl
theorem un_19_7_7 : unordAt (fg 19) 7 7 = [0] := rfl
theorem un_19_7_8 : unordAt (fg 19) 7 8 = [] := rfl
theorem un_19_7_9 : unordAt (fg 19) 7 9 = [] := rfl
theorem un_19_7_10 : unordAt (fg 19) 7 10 = [] := rfl
theorem un_19_7_12 : unordAt (fg 19) 7 12 = [] := rfl
theorem un_19_7_13 : unordAt (fg 19) 7 13 = [] := rfl
theorem un_19_7_999 : unordAt (fg 19) 7 999 = [1] := rfl
theorem la_19_11 : looseAt (fg 19) 11 = true := rfl
theorem sq_19_11 : seqAt (fg 19) 11 = [16, 0, 1, 2, 3, 4, 5, 6, 7, 8, 9, 10, 11, 12, 13, 14, 15, 17, 18] := rfl
theorem am_19_11 : allocsAt (fg 19) 11 = 1 := rfl
theorem un_19_11_0 : unordAt (fg 19) 11 0 = [0] := rfl
theorem un_19_11_1 : unordAt (fg 19) 11 1 = [0] := rfl
theorem un_19_11_2 : unordAt (fg 19) 11 2 = [] := rfl
theorem un_19_11_3 : unordAt (fg 19) 11 3 = [] := rfl
theorem un_19_11_4 : unordAt (fg 19) 11 4 = [0] := rfl
theorem un_19_11_5 : unordAt (fg 19) 11 5 = [0] := rfl
theorem un_19_11_6 : unordAt (fg 19) 11 6 = [0] := rfl
theorem un_19_11_7 : unordAt (fg 19) 11 7 = [] := rfl
theorem un_19_11_8 : unordAt (fg 19) 11 8 = [] := rfl
theorem un_19_11_9 : unordAt (fg 19) 11 9 = [0] := rfl
theorem un_19_11_10 : unordAt (fg 19) 11 10 = [] := rfl
theorem un_19_11_11 : unordAt (fg 19) 11 11 = [0] := rfl
theorem un_19_11_12 : unordAt (fg 19) 11 12 = [0] := rfl
theorem un_19_11_13 : unordAt (fg 19) 11 13 = [] := rfl
theorem un_19_11_14 : unordAt (fg 19) 11 14 = [] := rfl
theorem un_19_11_15 : unordAt (fg 19) 11 15 = [] := rfl
theorem un_19_11_17 : unordAt (fg 19) 11 17 = [] := rfl
theorem un_19_11_18 : unordAt (fg 19) 11 18 = [] := rfl
theorem un_19_11_999 : unordAt (fg 19) 11 999 = [1] := rfl
theorem la_29_8 : looseAt (fg 29) 8 = true := rfl
theorem sq_29_8 : seqAt (fg 29) 8 = [0, 1, 2, 3, 4, 5, 6, 7, 8, 9, 10, 11] := rfl
theorem am_29_8 : allocsAt (fg 29) 8 = 0 := rfl
theorem un_29_8_0 : unordAt (fg 29) 8 0 = [] := rfl
theorem un_29_8_1 : unordAt (fg 29) 8 1 = [] := rfl
theorem un_29_8_2 : unordAt (fg 29) 8 2 = [] := rfl
theorem un_29_8_3 : unordAt (fg 29) 8 3 = [] := rfl
theorem un_29_8_4 : unordAt (fg 29) 8 4 = [] := rfl
theorem un_29_8_5 : unordAt (fg 29) 8 5 = [] := rfl
theorem un_29_8_6 : unordAt (fg 29) 8 6 = [] := rfl
theorem un_29_8_7 : unordAt (fg 29) 8 7 = [] := rfl
theorem un_29_8_8 : unordAt (fg 29) 8 8 = [] := rfl
theorem un_29_8_9 : unordAt (fg 29) 8 9 = [] := rfl
theorem un_29_8_10 : unordAt (fg 29) 8 10 = [] := rfl
theorem un_29_8_11 : unordAt (fg 29) 8 11 = [] := rfl
theorem un_29_8_999 : unordAt (fg 29) 8 999 = [] := rfl
theorem la_29_13 : looseAt (fg 29) 13 = false := rfl
theorem la_33_6 : looseAt (fg 33) 6 = true := rfl
theorem sq_33_6 : seqAt (fg 33) 6 = [0, 1, 2, 3, 4, 5, 6, 7, 8, 9, 10, 11, 12, 13, 14, 15] := rfl
theorem am_33_6 : allocsAt (fg 33) 6 = 0 := rfl
theorem un_33_6_0 : unordAt (fg 33) 6 0 = [] := rfl
theorem un_33_6_1 : unordAt (fg 33) 6 1 = [] := rfl
theorem un_33_6_2 : unordAt (fg 33) 6 2 = [] := rfl
theorem un_33_6_3 : unordAt (fg 33) 6 3 = [] := rfl
theorem un_33_6_4 : unordAt (fg 33) 6 4 = [] := rfl
theorem un_33_6_5 : unordAt (fg 33) 6 5 = [] := rfl
theorem un_33_6_6 : unordAt (fg 33) 6 6 = [] := rfl
theorem un_33_6_7 : unordAt (fg 33) 6 7 = [] := rfl
theorem un_33_6_8 : unordAt (fg 33) 6 8 = [] := rfl
theorem un_33_6_9 : unordAt (fg 33) 6 9 = [] := rfl
theorem un_33_6_10 : unordAt (fg 33) 6 10 = [] := rfl
theorem un_33_6_11 : unordAt (fg 33) 6 11 = [] := rfl
theorem un_33_6_12 : unordAt (fg 33) 6 12 = [] := rfl
theorem un_33_6_13 : unordAt (fg 33) 6 13 = [] := rfl
theorem un_33_6_14 : unordAt (fg 33) 6 14 = [] := rfl
theorem un_33_6_15 : unordAt (fg 33) 6 15 = [] := rfl
theorem un_33_6_999 : unordAt (fg 33) 6 999 = [1] := rfl
theorem la_33_8 : looseAt (fg 33) 8 = true := rfl
theorem sq_33_8 : seqAt (fg 33) 8 = [0, 1, 2, 3, 4, 5, 6, 7, 8, 9, 10, 11, 12, 13, 14, 15, 16, 17, 18, 19, 20, 21, 22, 23, 24, 25, 26, 27, 28] := rfl
theorem am_33_8 : allocsAt (fg 33) 8 = 0 := rfl
theorem un_33_8_0 : unordAt (fg 33) 8 0 = [] := rfl
theorem un_33_8_1 : unordAt (fg 33) 8 1 = [] := rfl
theorem un_33_8_2 : unordAt (fg 33) 8 2 = [] := rfl
theorem un_33_8_3 : unordAt (fg 33) 8 3 = [] := rfl
theorem un_33_8_4 : unordAt (fg 33) 8 4 = [] := rfl
theorem un_33_8_5 : unordAt (fg 33) 8 5 = [] := rfl
theorem un_33_8_6 : unordAt (fg 33) 8 6 = [] := rfl
theorem un_33_8_7 : unordAt (fg 33) 8 7 = [] := rfl
theorem un_33_8_8 : unordAt (fg 33) 8 8 = [] := rfl
theorem un_33_8_9 : unordAt (fg 33) 8 9 = [] := rfl
theorem un_33_8_10 : unordAt (fg 33) 8 10 = [] := rfl
theorem un_33_8_11 : unordAt (fg 33) 8 11 = [] := rfl
theorem un_33_8_12 : unordAt (fg 33) 8 12 = [] := rfl
theorem un_33_8_13 : unordAt (fg 33) 8 13 = [] := rfl
theorem un_33_8_14 : unordAt (fg 33) 8 14 = [] := rfl
theorem un_33_8_15 : unordAt (fg 33) 8 15 = [] := rfl
theorem un_33_8_16 : unordAt (fg 33) 8 16 = [] := rfl
theorem un_33_8_17 : unordAt (fg 33) 8 17 = [] := rfl
theorem un_33_8_18 : unordAt (fg 33) 8 18 = [] := rfl
theorem un_33_8_19 : unordAt (fg 33) 8 19 = [] := rfl
theorem un_33_8_20 : unordAt (fg 33) 8 20 = [] := rfl
theorem un_33_8_21 : unordAt (fg 33) 8 21 = [] := rfl
theorem un_33_8_22 : unordAt (fg 33) 8 22 = [] := rfl
theorem un_33_8_23 : unordAt (fg 33) 8 23 = [] := rfl
theorem un_33_8_24 : unordAt (fg 33) 8 24 = [] := rfl
theorem un_33_8_25 : unordAt (fg 33) 8 25 = [] := rfl
theorem un_33_8_26 : unordAt (fg 33) 8 26 = [] := rfl
theorem un_33_8_27 : unordAt (fg 33) 8 27 = [] := rfl
theorem un_33_8_28 : unordAt (fg 33) 8 28 = [] := rfl
theorem un_33_8_999 : unordAt (fg 33) 8 999 = [1] := rfl
theorem la_33_13 : looseAt (fg 33) 13 = false := rfl
theorem la_35_5 : looseAt (fg 35) 5 = false := rfl
theorem la_35_10 : looseAt (fg 35) 10 = false := rfl
theorem la_41_2 : looseAt (fg 41) 2 = true := rfl
theorem sq_41_2 : seqAt (fg 41) 2 = [0, 1, 2, 3, 4, 5, 6, 7] := rfl
theorem am_41_2 : allocsAt (fg 41) 2 = 0 := rfl
theorem un_41_2_0 : unordAt (fg 41) 2 0 = [] := rfl
theorem un_41_2_1 : unordAt (fg 41) 2 1 = [] := rfl
theorem un_41_2_2 : unordAt (fg 41) 2 2 = [] := rfl
theorem un_41_2_3 : unordAt (fg 41) 2 3 = [] := rfl
theorem un_41_2_4 : unordAt (fg 41) 2 4 = [] := rfl
theorem un_41_2_5 : unordAt (fg 41) 2 5 = [] := rfl
theorem un_41_2_6 : unordAt (fg 41) 2 6 = [] := rfl
theorem un_41_2_7 : unordAt (fg 41) 2 7 = [] := rfl
theorem un_41_2_999 : unordAt (fg 41) 2 999 = [] := rfl
theorem la_43_3 : looseAt (fg 43) 3 = false := rfl
theorem la_43_7 : looseAt (fg 43) 7 = false := rfl
theorem la_47_1 : looseAt (fg 47) 1 = true := rfl
theorem sq_47_1 : seqAt (fg 47) 1 = [8, 0, 1, 2, 3, 4, 5, 6, 7, 9] := rfl
theorem am_47_1 : allocsAt (fg 47) 1 = 1 := rfl
theorem un_47_1_0 : unordAt (fg 47) 1 0 = [0] := rfl
theorem un_47_1_1 : unordAt (fg 47) 1 1 = [] := rfl
theorem un_47_1_2 : unordAt (fg 47) 1 2 = [] := rfl
theorem un_47_1_3 : unordAt (fg 47) 1 3 = [0] := rfl
theorem un_47_1_4 : unordAt (fg 47) 1 4 = [0] := rfl
theorem un_47_1_5 : unordAt (fg 47) 1 5 = [] := rfl
theorem un_47_1_6 : unordAt (fg 47) 1 6 = [] := rfl
theorem un_47_1_7 : unordAt (fg 47) 1 7 = [0] := rfl
theorem un_47_1_9 : unordAt (fg 47) 1 9 = [] := rfl
theorem un_47_1_999 : unordAt (fg 47) 1 999 = [1] := rfl
theorem la_47_6 : looseAt (fg 47) 6 = false := rfl
theorem la_48_1 : looseAt (fg 48) 1 = true := rfl
theorem sq_48_1 : seqAt (fg 48) 1 = [0, 1, 2, 3, 4, 5, 6, 7, 8, 9, 10, 11, 12, 13] := rfl
theorem am_48_1 : allocsAt (fg 48) 1 = 0 := rfl
theorem un_48_1_0 : unordAt (fg 48) 1 0 = [] := rfl
theorem un_48_1_1 : unordAt (fg 48) 1 1 = [] := rfl
theorem un_48_1_2 : unordAt (fg 48) 1 2 = [] := rfl
theorem un_48_1_3 : unordAt (fg 48) 1 3 = [] := rfl
theorem un_48_1_4 : unordAt (fg 48) 1 4 = [] := rfl
theorem un_48_1_5 : unordAt (fg 48) 1 5 = [] := rfl
theorem un_48_1_6 : unordAt (fg 48) 1 6 = [] := rfl
theorem un_48_1_7 : unordAt (fg 48) 1 7 = [] := rfl
theorem un_48_1_8 : unordAt (fg 48) 1 8 = [] := rfl
theorem un_48_1_9 : unordAt (fg 48) 1 9 = [] := rfl
theorem un_48_1_10 : unordAt (fg 48) 1 10 = [] := rfl
theorem un_48_1_11 : unordAt (fg 48) 1 11 = [] := rfl
theorem un_48_1_12 : unordAt (fg 48) 1 12 = [] := rfl
theorem un_48_1_13 : unordAt (fg 48) 1 13 = [] := rfl
theorem un_48_1_999 : unordAt (fg 48) 1 999 = [] := rfl
theorem la_48_2 : looseAt (fg 48) 2 = false := rfl
theorem la_50_12 : looseAt (fg 50) 12 = true := rfl
theorem sq_50_12 : seqAt (fg 50) 12 = [0, 1, 2, 3, 4, 5, 6, 7, 8, 9] := rfl
theorem am_50_12 : allocsAt (fg 50) 12 = 0 := rfl
theorem un_50_12_0 : unordAt (fg 50) 12 0 = [] := rfl
theorem un_50_12_1 : unordAt (fg 50) 12 1 = [] := rfl
theorem un_50_12_2 : unordAt (fg 50) 12 2 = [] := rfl
theorem un_50_12_3 : unordAt (fg 50) 12 3 = [] := rfl
theorem un_50_12_4 : unordAt (fg 50) 12 4 = [] := rfl
theorem un_50_12_5 : unordAt (fg 50) 12 5 = [] := rfl
theorem un_50_12_6 : unordAt (fg 50) 12 6 = [] := rfl
theorem un_50_12_7 : unordAt (fg 50) 12 7 = [] := rfl
theorem un_50_12_8 : unordAt (fg 50) 12 8 = [] := rfl
theorem un_50_12_9 : unordAt (fg 50) 12 9 = [] := rfl
theorem un_50_12_999 : unordAt (fg 50) 12 999 = [1] := rfl
theorem la_51_3 : looseAt (fg 51) 3 = false := rfl
theorem la_56_4 : looseAt (fg 56) 4 = false := rfl
theorem la_57_4 : looseAt (fg 57) 4 = true := rfl
theorem sq_57_4 : seqAt (fg 57) 4 = [0, 1, 2, 3, 4, 5, 6, 7, 8, 9, 10, 11, 12, 13, 14, 15] := rfl
theorem am_57_4 : allocsAt (fg 57) 4 = 0 := rfl
theorem un_57_4_0 : unordAt (fg 57) 4 0 = [] := rfl
theorem un_57_4_1 : unordAt (fg 57) 4 1 = [] := rfl
theorem un_57_4_2 : unordAt (fg 57) 4 2 = [] := rfl
theorem un_57_4_3 : unordAt (fg 57) 4 3 = [] := rfl
theorem un_57_4_4 : unordAt (fg 57) 4 4 = [] := rfl
theorem un_57_4_5 : unordAt (fg 57) 4 5 = [] := rfl
theorem un_57_4_6 : unordAt (fg 57) 4 6 = [] := rfl
theorem un_57_4_7 : unordAt (fg 57) 4 7 = [] := rfl
theorem un_57_4_8 : unordAt (fg 57) 4 8 = [] := rfl
theorem un_57_4_9 : unordAt (fg 57) 4 9 = [] := rfl
theorem un_57_4_10 : unordAt (fg 57) 4 10 = [] := rfl
theorem un_57_4_11 : unordAt (fg 57) 4 11 = [] := rfl
theorem un_57_4_12 : unordAt (fg 57) 4 12 = [] := rfl
theorem un_57_4_13 : unordAt (fg 57) 4 13 = [] := rfl
theorem un_57_4_14 : unordAt (fg 57) 4 14 = [] := rfl
theorem un_57_4_15 : unordAt (fg 57) 4 15 = [] := rfl
theorem un_57_4_999 : unordAt (fg 57) 4 999 = [] := rfl
theorem la_57_6 : looseAt (fg 57) 6 = false := rfl
theorem la_57_8 : looseAt (fg 57) 8 = false := rfl
theorem la_57_13 : looseAt (fg 57) 13 = false := rfl
theorem la_57_22 : looseAt (fg 57) 22 = false := rfl
theorem la_58_2 : looseAt (fg 58) 2 = false := rfl
theorem la_64_2 : looseAt (fg 64) 2 = false := rfl
theorem la_65_6 : looseAt (fg 65) 6 = false := rfl
theorem la_65_7 : looseAt (fg 65) 7 = false := rfl
theorem la_66_2 : looseAt (fg 66) 2 = false := rfl
theorem la_67_3 : looseAt (fg 67) 3 = false := rfl
theorem la_80_7 : looseAt (fg 80) 7 = true := rfl
theorem sq_80_7 : seqAt (fg 80) 7 = [0, 1, 2, 3, 4, 5, 6, 7, 8, 9, 10, 11, 12, 13, 14] := rfl
theorem am_80_7 : allocsAt (fg 80) 7 = 0 := rfl
theorem un_80_7_0 : unordAt (fg 80) 7 0 = [] := rfl
theorem un_80_7_1 : unordAt (fg 80) 7 1 = [] := rfl
theorem un_80_7_2 : unordAt (fg 80) 7 2 = [] := rfl
theorem un_80_7_3 : unordAt (fg 80) 7 3 = [] := rfl
theorem un_80_7_4 : unordAt (fg 80) 7 4 = [] := rfl
theorem un_80_7_5 : unordAt (fg 80) 7 5 = [] := rfl
theorem un_80_7_6 : unordAt (fg 80) 7 6 = [] := rfl
theorem un_80_7_7 : unordAt (fg 80) 7 7 = [] := rfl
theorem un_80_7_8 : unordAt (fg 80) 7 8 = [] := rfl
theorem un_80_7_9 : unordAt (fg 80) 7 9 = [] := rfl
theorem un_80_7_10 : unordAt (fg 80) 7 10 = [] := rfl
theorem un_80_7_11 : unordAt (fg 80) 7 11 = [] := rfl
theorem un_80_7_12 : unordAt (fg 80) 7 12 = [] := rfl
theorem un_80_7_13 : unordAt (fg 80) 7 13 = [] := rfl
theorem un_80_7_14 : unordAt (fg 80) 7 14 = [] := rfl
theorem un_80_7_999 : unordAt (fg 80) 7 999 = [1] := rfl
theorem la_80_8 : looseAt (fg 80) 8 = true := rfl
theorem sq_80_8 : seqAt (fg 80) 8 = [0, 1, 2, 3, 4, 5, 6, 7, 8, 9, 10, 11, 12, 13, 14] := rfl
theorem am_80_8 : allocsAt (fg 80) 8 = 0 := rfl
theorem un_80_8_0 : unordAt (fg 80) 8 0 = [] := rfl
theorem un_80_8_1 : unordAt (fg 80) 8 1 = [] := rfl
theorem un_80_8_2 : unordAt (fg 80) 8 2 = [] := rfl
theorem un_80_8_3 : unordAt (fg 80) 8 3 = [] := rfl
theorem un_80_8_4 : unordAt (fg 80) 8 4 = [] := rfl
theorem un_80_8_5 : unordAt (fg 80) 8 5 = [] := rfl
theorem un_80_8_6 : unordAt (fg 80) 8 6 = [] := rfl
theorem un_80_8_7 : unordAt (fg 80) 8 7 = [] := rfl
theorem un_80_8_8 : unordAt (fg 80) 8 8 = [] := rfl
theorem un_80_8_9 : unordAt (fg 80) 8 9 = [] := rfl
theorem un_80_8_10 : unordAt (fg 80) 8 10 = [] := rfl
theorem un_80_8_11 : unordAt (fg 80) 8 11 = [] := rfl
theorem un_80_8_12 : unordAt (fg 80) 8 12 = [] := rfl
theorem un_80_8_13 : unordAt (fg 80) 8 13 = [] := rfl
theorem un_80_8_14 : unordAt (fg 80) 8 14 = [] := rfl
theorem un_80_8_999 : unordAt (fg 80) 8 999 = [1] := rfl
theorem la_80_9 : looseAt (fg 80) 9 = true := rfl
theorem sq_80_9 : seqAt (fg 80) 9 = [0, 1, 2, 3, 4, 5, 6, 7, 8, 9, 10, 11, 12, 13, 14] := rfl
theorem am_80_9 : allocsAt (fg 80) 9 = 0 := rfl
theorem un_80_9_0 : unordAt (fg 80) 9 0 = [] := rfl
theorem un_80_9_1 : unordAt (fg 80) 9 1 = [] := rfl
theorem un_80_9_2 : unordAt (fg 80) 9 2 = [] := rfl
theorem un_80_9_3 : unordAt (fg 80) 9 3 = [] := rfl
theorem un_80_9_4 : unordAt (fg 80) 9 4 = [] := rfl
theorem un_80_9_5 : unordAt (fg 80) 9 5 = [] := rfl
theorem un_80_9_6 : unordAt (fg 80) 9 6 = [] := rfl
theorem un_80_9_7 : unordAt (fg 80) 9 7 = [] := rfl
theorem un_80_9_8 : unordAt (fg 80) 9 8 = [] := rfl
theorem un_80_9_9 : unordAt (fg 80) 9 9 = [] := rfl
theorem un_80_9_10 : unordAt (fg 80) 9 10 = [] := rfl
theorem un_80_9_11 : unordAt (fg 80) 9 11 = [] := rfl
theorem un_80_9_12 : unordAt (fg 80) 9 12 = [] := rfl
theorem un_80_9_13 : unordAt (fg 80) 9 13 = [] := rfl
theorem un_80_9_14 : unordAt (fg 80) 9 14 = [] := rfl
theorem un_80_9_999 : unordAt (fg 80) 9 999 = [1] := rfl
theorem la_80_10 : looseAt (fg 80) 10 = true := rfl
theorem sq_80_10 : seqAt (fg 80) 10 = [0, 1, 2, 3, 4, 5, 6, 7, 8, 9, 10, 11, 12, 13, 14] := rfl
theorem am_80_10 : allocsAt (fg 80) 10 = 0 := rfl
theorem un_80_10_0 : unordAt (fg 80) 10 0 = [] := rfl
theorem un_80_10_1 : unordAt (fg 80) 10 1 = [] := rfl
theorem un_80_10_2 : unordAt (fg 80) 10 2 = [] := rfl
theorem un_80_10_3 : unordAt (fg 80) 10 3 = [] := rfl
theorem un_80_10_4 : unordAt (fg 80) 10 4 = [] := rfl
theorem un_80_10_5 : unordAt (fg 80) 10 5 = [] := rfl
theorem un_80_10_6 : unordAt (fg 80) 10 6 = [] := rfl
theorem un_80_10_7 : unordAt (fg 80) 10 7 = [] := rfl
theorem un_80_10_8 : unordAt (fg 80) 10 8 = [] := rfl
theorem un_80_10_9 : unordAt (fg 80) 10 9 = [] := rfl
theorem un_80_10_10 : unordAt (fg 80) 10 10 = [] := rfl
theorem un_80_10_11 : unordAt (fg 80) 10 11 = [] := rfl
theorem un_80_10_12 : unordAt (fg 80) 10 12 = [] := rfl
theorem un_80_10_13 : unordAt (fg 80) 10 13 = [] := rfl
theorem un_80_10_14 : unordAt (fg 80) 10 14 = [] := rfl
theorem un_80_10_999 : unordAt (fg 80) 10 999 = [1] := rfl
theorem la_80_17 : looseAt (fg 80) 17 = true := rfl
theorem sq_80_17 : seqAt (fg 80) 17 = [0, 1, 2, 3, 4, 5, 6, 7, 8, 9, 10, 11, 12, 13, 14] := rfl
theorem am_80_17 : allocsAt (fg 80) 17 = 0 := rfl
theorem un_80_17_0 : unordAt (fg 80) 17 0 = [] := rfl
theorem un_80_17_1 : unordAt (fg 80) 17 1 = [] := rfl
theorem un_80_17_2 : unordAt (fg 80) 17 2 = [] := rfl
theorem un_80_17_3 : unordAt (fg 80) 17 3 = [] := rfl
theorem un_80_17_4 : unordAt (fg 80) 17 4 = [] := rfl
theorem un_80_17_5 : unordAt (fg 80) 17 5 = [] := rfl
theorem un_80_17_6 : unordAt (fg 80) 17 6 = [] := rfl
theorem un_80_17_7 : unordAt (fg 80) 17 7 = [] := rfl
theorem un_80_17_8 : unordAt (fg 80) 17 8 = [] := rfl
theorem un_80_17_9 : unordAt (fg 80) 17 9 = [] := rfl
theorem un_80_17_10 : unordAt (fg 80) 17 10 = [] := rfl
theorem un_80_17_11 : unordAt (fg 80) 17 11 = [] := rfl
theorem un_80_17_12 : unordAt (fg 80) 17 12 = [] := rfl
theorem un_80_17_13 : unordAt (fg 80) 17 13 = [] := rfl
theorem un_80_17_14 : unordAt (fg 80) 17 14 = [] := rfl
theorem un_80_17_999 : unordAt (fg 80) 17 999 = [1] := rfl
theorem la_80_18 : looseAt (fg 80) 18 = true := rfl
theorem sq_80_18 : seqAt (fg 80) 18 = [0, 1, 2, 3, 4, 5, 6, 7, 8, 9, 10, 11, 12, 13, 14] := rfl
theorem am_80_18 : allocsAt (fg 80) 18 = 0 := rfl
theorem un_80_18_0 : unordAt (fg 80) 18 0 = [] := rfl
theorem un_80_18_1 : unordAt (fg 80) 18 1 = [] := rfl
theorem un_80_18_2 : unordAt (fg 80) 18 2 = [] := rfl
theorem un_80_18_3 : unordAt (fg 80) 18 3 = [] := rfl
theorem un_80_18_4 : unordAt (fg 80) 18 4 = [] := rfl
theorem un_80_18_5 : unordAt (fg 80) 18 5 = [] := rfl
theorem un_80_18_6 : unordAt (fg 80) 18 6 = [] := rfl
theorem un_80_18_7 : unordAt (fg 80) 18 7 = [] := rfl
theorem un_80_18_8 : unordAt (fg 80) 18 8 = [] := rfl
theorem un_80_18_9 : unordAt (fg 80) 18 9 = [] := rfl
theorem un_80_18_10 : unordAt (fg 80) 18 10 = [] := rfl
theorem un_80_18_11 : unordAt (fg 80) 18 11 = [] := rfl
theorem un_80_18_12 : unordAt (fg 80) 18 12 = [] := rfl
theorem un_80_18_13 : unordAt (fg 80) 18 13 = [] := rfl
theorem un_80_18_14 : unordAt (fg 80) 18 14 = [] := rfl
theorem un_80_18_999 : unordAt (fg 80) 18 999 = [1] := rfl
theorem la_80_23 : looseAt (fg 80) 23 = true := rfl
theorem sq_80_23 : seqAt (fg 80) 23 = [0, 1, 2, 3, 4, 5, 6, 7, 8, 9, 10, 11, 12, 13, 14] := rfl
theorem am_80_23 : allocsAt (fg 80) 23 = 0 := rfl
theorem un_80_23_0 : unordAt (fg 80) 23 0 = [] := rfl
theorem un_80_23_1 : unordAt (fg 80) 23 1 = [] := rfl
theorem un_80_23_2 : unordAt (fg 80) 23 2 = [] := rfl
theorem un_80_23_3 : unordAt (fg 80) 23 3 = [] := rfl
theorem un_80_23_4 : unordAt (fg 80) 23 4 = [] := rfl
theorem un_80_23_5 : unordAt (fg 80) 23 5 = [] := rfl
theorem un_80_23_6 : unordAt (fg 80) 23 6 = [] := rfl
theorem un_80_23_7 : unordAt (fg 80) 23 7 = [] := rfl
theorem un_80_23_8 : unordAt (fg 80) 23 8 = [] := rfl
theorem un_80_23_9 : unordAt (fg 80) 23 9 = [] := rfl
theorem un_80_23_10 : unordAt (fg 80) 23 10 = [] := rfl
theorem un_80_23_11 : unordAt (fg 80) 23 11 = [] := rfl
theorem un_80_23_12 : unordAt (fg 80) 23 12 = [] := rfl
theorem un_80_23_13 : unordAt (fg 80) 23 13 = [] := rfl
theorem un_80_23_14 : unordAt (fg 80) 23 14 = [] := rfl
theorem un_80_23_999 : unordAt (fg 80) 23 999 = [1] := rfl
theorem tsize_3 : tsize Tryd.prog 3 = 1 := by kernel_rfl
theorem tsize_4 : tsize Tryd.prog 4 = 1 := by kernel_rfl
theorem tsize_5 : tsize Tryd.prog 5 = 1 := by kernel_rfl
theorem tsize_9 : tsize Tryd.prog 9 = 1 := by kernel_rfl
theorem tsize_33 : tsize Tryd.prog 33 = 1 := by kernel_rfl
theorem tsize_34 : tsize Tryd.prog 34 = 1 := by kernel_rfl
theorem tsize_36 : tsize Tryd.prog 36 = 5 := by kernel_rfl
theorem tsize_43 : tsize Tryd.prog 43 = 10 := by kernel_rfl
theorem tsize_56 : tsize Tryd.prog 56 = 1 := by kernel_rfl
theorem tsize_65 : tsize Tryd.prog 65 = 1 := by kernel_rfl
theorem tsize_68 : tsize Tryd.prog 68 = 1 := by kernel_rfl
theorem tsize_81 : tsize Tryd.prog 81 = 1 := by kernel_rfl
theorem tsize_85 : tsize Tryd.prog 85 = 1 := by kernel_rfl
theorem tsize_87 : tsize Tryd.prog 87 = 7 := by kernel_rfl
theorem tsize_91 : tsize Tryd.prog 91 = 2 := by kernel_rfl
theorem tsize_94 : tsize Tryd.prog 94 = 1 := by kernel_rfl
theorem tsize_106 : tsize Tryd.prog 106 = 1 := by kernel_rfl
theorem tsize_113 : tsize Tryd.prog 113 = 1 := by kernel_rfl
theorem tsize_119 : tsize Tryd.prog 119 = 20 := by kernel_rfl
theorem tsize_125 : tsize Tryd.prog 125 = 32 := by kernel_rfl
theorem tsize_126 : tsize Tryd.prog 126 = 64 := by kernel_rfl
theorem tagg_3 : tagg Tryd.prog 3 = some false := by kernel_rfl
theorem tagg_4 : tagg Tryd.prog 4 = some false := by kernel_rfl
theorem tagg_5 : tagg Tryd.prog 5 = some false := by kernel_rfl
theorem tagg_9 : tagg Tryd.prog 9 = some false := by kernel_rfl
theorem tagg_33 : tagg Tryd.prog 33 = some false := by kernel_rfl
theorem tagg_34 : tagg Tryd.prog 34 = some false := by kernel_rfl
theorem tagg_36 : tagg Tryd.prog 36 = some true := by kernel_rfl
theorem tagg_43 : tagg Tryd.prog 43 = some true := by kernel_rfl
theorem tagg_56 : tagg Tryd.prog 56 = some false := by kernel_rfl
theorem tagg_65 : tagg Tryd.prog 65 = some false := by kernel_rfl
theorem tagg_68 : tagg Tryd.prog 68 = some false := by kernel_rfl
theorem tagg_81 : tagg Tryd.prog 81 = some false := by kernel_rfl
theorem tagg_85 : tagg Tryd.prog 85 = some false := by kernel_rfl
theorem tagg_87 : tagg Tryd.prog 87 = some true := by kernel_rfl
theorem tagg_91 : tagg Tryd.prog 91 = some true := by kernel_rfl
theorem tagg_94 : tagg Tryd.prog 94 = some false := by kernel_rfl
theorem tagg_106 : tagg Tryd.prog 106 = some false := by kernel_rfl
theorem tagg_113 : tagg Tryd.prog 113 = some false := by kernel_rfl
theorem tagg_119 : tagg Tryd.prog 119 = some true := by kernel_rfl
theorem tagg_125 : tagg Tryd.prog 125 = some true := by kernel_rfl
theorem tagg_126 : tagg Tryd.prog 126 = some true := by kernel_rfl
theorem tslice_9 : tslice Tryd.prog 9 = none := by kernel_rfl
theorem tslice_22 : tslice Tryd.prog 22 = some (10, 144, .agg [.val (.int .i64 0), .val (.string ⟨#[]⟩), .val (.string ⟨#[]⟩), .val (.int .i64 0), .slc true [], .val (.int .i64 0), .val (.string ⟨#[]⟩), .val (.string ⟨#[]⟩), .val (.int .i64 0), .slc true []]) := by kernel_rfl
theorem tslice_25 : tslice Tryd.prog 25 = some (6, 88, .agg [.val (.string ⟨#[]⟩), .val (.int .i64 0), .val (.string ⟨#[]⟩), .val (.string ⟨#[]⟩), .val (.int .i64 0), .slc true []]) := by kernel_rfl
theorem tslice_33 : tslice Tryd.prog 33 = some (1, 16, .val (.string ⟨#[]⟩)) := by kernel_rfl
theorem tslice_34 : tslice Tryd.prog 34 = some (5, 72, .agg [.val (.int .i64 0), .val (.string ⟨#[]⟩), .val (.string ⟨#[]⟩), .val (.int .i64 0), .slc true []]) := by kernel_rfl
theorem tslice_51 : tslice Tryd.prog 51 = some (1, 1, .val (.int .u8 0)) := by kernel_rfl
theorem tslice_81 : tslice Tryd.prog 81 = some (7, 88, .agg [.val (.int .i64 0), .val (.string ⟨#[]⟩), .val (.string ⟨#[]⟩), .slc true [], .val (.int .i64 0), .val (.int .i64 0), .val (.int .i64 0)]) := by kernel_rfl
theorem tslice_85 : tslice Tryd.prog 85 = some (1, 8, .val (.int .i64 0)) := by kernel_rfl
theorem tslice_91 : tslice Tryd.prog 91 = none := by kernel_rfl
theorem tslice_92 : tslice Tryd.prog 92 = some (2, 16, .agg [.val (.int .i64 0), .val (.int .i64 0)]) := by kernel_rfl
theorem tslice_94 : tslice Tryd.prog 94 = none := by kernel_rfl
theorem tslice_112 : tslice Tryd.prog 112 = none := by kernel_rfl
theorem tslice_119 : tslice Tryd.prog 119 = none := by kernel_rfl
theorem tslice_121 : tslice Tryd.prog 121 = none := by kernel_rfl
theorem tslice_125 : tslice Tryd.prog 125 = none := by kernel_rfl
theorem tslice_126 : tslice Tryd.prog 126 = none := by kernel_rfl
theorem ownT_22 : ownT Tryd.prog 22 = false := by kernel_rfl
theorem ownT_25 : ownT Tryd.prog 25 = false := by kernel_rfl
theorem ownT_33 : ownT Tryd.prog 33 = false := by kernel_rfl
theorem ownT_34 : ownT Tryd.prog 34 = false := by kernel_rfl
theorem ownT_51 : ownT Tryd.prog 51 = false := by kernel_rfl
theorem ownT_81 : ownT Tryd.prog 81 = false := by kernel_rfl
theorem ownT_85 : ownT Tryd.prog 85 = true := by kernel_rfl
theorem ownT_92 : ownT Tryd.prog 92 = true := by kernel_rfl
theorem tarr_9 : tarr Tryd.prog 9 = none := by kernel_rfl
theorem tarr_22 : tarr Tryd.prog 22 = none := by kernel_rfl
theorem tarr_25 : tarr Tryd.prog 25 = none := by kernel_rfl
theorem tarr_33 : tarr Tryd.prog 33 = none := by kernel_rfl
theorem tarr_34 : tarr Tryd.prog 34 = none := by kernel_rfl
theorem tarr_36 : tarr Tryd.prog 36 = none := by kernel_rfl
theorem tarr_38 : tarr Tryd.prog 38 = none := by kernel_rfl
theorem tarr_43 : tarr Tryd.prog 43 = none := by kernel_rfl
theorem tarr_51 : tarr Tryd.prog 51 = none := by kernel_rfl
theorem tarr_70 : tarr Tryd.prog 70 = none := by kernel_rfl
theorem tarr_75 : tarr Tryd.prog 75 = none := by kernel_rfl
theorem tarr_81 : tarr Tryd.prog 81 = none := by kernel_rfl
theorem tarr_83 : tarr Tryd.prog 83 = none := by kernel_rfl
theorem tarr_85 : tarr Tryd.prog 85 = none := by kernel_rfl
theorem tarr_87 : tarr Tryd.prog 87 = none := by kernel_rfl
theorem tarr_91 : tarr Tryd.prog 91 = some (2, 3) := by kernel_rfl
theorem tarr_92 : tarr Tryd.prog 92 = none := by kernel_rfl
theorem tarr_94 : tarr Tryd.prog 94 = none := by kernel_rfl
theorem tarr_112 : tarr Tryd.prog 112 = some (24, 5) := by kernel_rfl
theorem tarr_119 : tarr Tryd.prog 119 = some (20, 113) := by kernel_rfl
theorem tarr_121 : tarr Tryd.prog 121 = some (65, 5) := by kernel_rfl
theorem tarr_125 : tarr Tryd.prog 125 = some (32, 5) := by kernel_rfl
theorem tarr_126 : tarr Tryd.prog 126 = some (64, 5) := by kernel_rfl
theorem tzero_3 : tzero Tryd.prog 3 = some (.val (.int .i64 0)) := by kernel_rfl
theorem tzero_33 : tzero Tryd.prog 33 = some (.slc true []) := by kernel_rfl
theorem tzero_36 : tzero Tryd.prog 36 = some (.agg [.val (.int .i64 0), .val (.string ⟨#[]⟩), .val (.string ⟨#[]⟩), .val (.int .i64 0), .slc true []]) := by kernel_rfl
theorem tzero_38 : tzero Tryd.prog 38 = some (.agg [.val (.string ⟨#[]⟩), .val (.int .i64 0), .val (.string ⟨#[]⟩), .val (.string ⟨#[]⟩), .val (.int .i64 0), .slc true []]) := by kernel_rfl
theorem tzero_43 : tzero Tryd.prog 43 = some (.agg [.val (.int .i64 0), .val (.string ⟨#[]⟩), .val (.string ⟨#[]⟩), .val (.int .i64 0), .slc true [], .val (.int .i64 0), .val (.string ⟨#[]⟩), .val (.string ⟨#[]⟩), .val (.int .i64 0), .slc true []]) := by kernel_rfl
theorem tzero_65 : tzero Tryd.prog 65 = some (.val (.pointer .none)) := by kernel_rfl
theorem tzero_70 : tzero Tryd.prog 70 = some (.agg [.val (.pointer .none), .val (.map .none), .slc true []]) := by kernel_rfl
theorem tzero_75 : tzero Tryd.prog 75 = some (.agg [.slc true [], .slc true []]) := by kernel_rfl
theorem tzero_83 : tzero Tryd.prog 83 = some (.agg [.slc true [], .val (.int .i64 0), .val (.bool .false), .val (.int .i64 0)]) := by kernel_rfl
theorem tzero_87 : tzero Tryd.prog 87 = some (.agg [.val (.int .i64 0), .val (.string ⟨#[]⟩), .val (.string ⟨#[]⟩), .slc true [], .val (.int .i64 0), .val (.int .i64 0), .val (.int .i64 0)]) := by kernel_rfl
theorem tzero_91 : tzero Tryd.prog 91 = some (.agg [.val (.int .i64 0), .val (.int .i64 0)]) := by kernel_rfl
theorem tzero_94 : tzero Tryd.prog 94 = some (.val (.map .none)) := by kernel_rfl
theorem tzero_106 : tzero Tryd.prog 106 = some (.val .nilFunc) := by kernel_rfl
theorem tzero_112 : tzero Tryd.prog 112 = some (.agg [.val (.int .u8 0), .val (.int .u8 0), .val (.int .u8 0), .val (.int .u8 0), .val (.int .u8 0), .val (.int .u8 0), .val (.int .u8 0), .val (.int .u8 0), .val (.int .u8 0), .val (.int .u8 0), .val (.int .u8 0), .val (.int .u8 0), .val (.int .u8 0), .val (.int .u8 0), .val (.int .u8 0), .val (.int .u8 0), .val (.int .u8 0), .val (.int .u8 0), .val (.int .u8 0), .val (.int .u8 0), .val (.int .u8 0), .val (.int .u8 0), .val (.int .u8 0), .val (.int .u8 0)]) := by kernel_rfl
theorem tzero_119 : tzero Tryd.prog 119 = some (.agg [.val (.int .u64 0), .val (.int .u64 0), .val (.int .u64 0), .val (.int .u64 0), .val (.int .u64 0), .val (.int .u64 0), .val (.int .u64 0), .val (.int .u64 0), .val (.int .u64 0), .val (.int .u64 0), .val (.int .u64 0), .val (.int .u64 0), .val (.int .u64 0), .val (.int .u64 0), .val (.int .u64 0), .val (.int .u64 0), .val (.int .u64 0), .val (.int .u64 0), .val (.int .u64 0), .val (.int .u64 0)]) := by kernel_rfl
theorem tzero_121 : tzero Tryd.prog 121 = some (.agg [.val (.int .u8 0), .val (.int .u8 0), .val (.int .u8 0), .val (.int .u8 0), .val (.int .u8 0), .val (.int .u8 0), .val (.int .u8 0), .val (.int .u8 0), .val (.int .u8 0), .val (.int .u8 0), .val (.int .u8 0), .val (.int .u8 0), .val (.int .u8 0), .val (.int .u8 0), .val (.int .u8 0), .val (.int .u8 0), .val (.int .u8 0), .val (.int .u8 0), .val (.int .u8 0), .val (.int .u8 0), .val (.int .u8 0), .val (.int .u8 0), .val (.int .u8 0), .val (.int .u8 0), .val (.int .u8 0), .val (.int .u8 0), .val (.int .u8 0), .val (.int .u8 0), .val (.int .u8 0), .val (.int .u8 0), .val (.int .u8 0), .val (.int .u8 0), .val (.int .u8 0), .val (.int .u8 0), .val (.int .u8 0), .val (.int .u8 0), .val (.int .u8 0), .val (.int .u8 0), .val (.int .u8 0), .val (.int .u8 0), .val (.int .u8 0), .val (.int .u8 0), .val (.int .u8 0), .val (.int .u8 0), .val (.int .u8 0), .val (.int .u8 0), .val (.int .u8 0), .val (.int .u8 0), .val (.int .u8 0), .val (.int .u8 0), .val (.int .u8 0), .val (.int .u8 0), .val (.int .u8 0), .val (.int .u8 0), .val (.int .u8 0), .val (.int .u8 0), .val (.int .u8 0), .val (.int .u8 0), .val (.int .u8 0), .val (.int .u8 0), .val (.int .u8 0), .val (.int .u8 0), .val (.int .u8 0), .val (.int .u8 0), .val (.int .u8 0)]) := by kernel_rfl
theorem tzero_125 : tzero Tryd.prog 125 = some (.agg [.val (.int .u8 0), .val (.int .u8 0), .val (.int .u8 0), .val (.int .u8 0), .val (.int .u8 0), .val (.int .u8 0), .val (.int .u8 0), .val (.int .u8 0), .val (.int .u8 0), .val (.int .u8 0), .val (.int .u8 0), .val (.int .u8 0), .val (.int .u8 0), .val (.int .u8 0), .val (.int .u8 0), .val (.int .u8 0), .val (.int .u8 0), .val (.int .u8 0), .val (.int .u8 0), .val (.int .u8 0), .val (.int .u8 0), .val (.int .u8 0), .val (.int .u8 0), .val (.int .u8 0), .val (.int .u8 0), .val (.int .u8 0), .val (.int .u8 0), .val (.int .u8 0), .val (.int .u8 0), .val (.int .u8 0), .val (.int .u8 0), .val (.int .u8 0)]) := by kernel_rfl
theorem tzero_126 : tzero Tryd.prog 126 = some (.agg [.val (.int .u8 0), .val (.int .u8 0), .val (.int .u8 0), .val (.int .u8 0), .val (.int .u8 0), .val (.int .u8 0), .val (.int .u8 0), .val (.int .u8 0), .val (.int .u8 0), .val (.int .u8 0), .val (.int .u8 0), .val (.int .u8 0), .val (.int .u8 0), .val (.int .u8 0), .val (.int .u8 0), .val (.int .u8 0), .val (.int .u8 0), .val (.int .u8 0), .val (.int .u8 0), .val (.int .u8 0), .val (.int .u8 0), .val (.int .u8 0), .val (.int .u8 0), .val (.int .u8 0), .val (.int .u8 0), .val (.int .u8 0), .val (.int .u8 0), .val (.int .u8 0), .val (.int .u8 0), .val (.int .u8 0), .val (.int .u8 0), .val (.int .u8 0), .val (.int .u8 0), .val (.int .u8 0), .val (.int .u8 0), .val (.int .u8 0), .val (.int .u8 0), .val (.int .u8 0), .val (.int .u8 0), .val (.int .u8 0), .val (.int .u8 0), .val (.int .u8 0), .val (.int .u8 0), .val (.int .u8 0), .val (.int .u8 0), .val (.int .u8 0), .val (.int .u8 0), .val (.int .u8 0), .val (.int .u8 0), .val (.int .u8 0), .val (.int .u8 0), .val (.int .u8 0), .val (.int .u8 0), .val (.int .u8 0), .val (.int .u8 0), .val (.int .u8 0), .val (.int .u8 0), .val (.int .u8 0), .val (.int .u8 0), .val (.int .u8 0), .val (.int .u8 0), .val (.int .u8 0), .val (.int .u8 0), .val (.int .u8 0)]) := by kernel_rfl
theorem isStrT_9 : isStrT Tryd.prog 9 = true := by kernel_rfl
theorem isStrT_22 : isStrT Tryd.prog 22 = false := by kernel_rfl
theorem isStrT_25 : isStrT Tryd.prog 25 = false := by kernel_rfl
theorem isStrT_33 : isStrT Tryd.prog 33 = false := by kernel_rfl
theorem isStrT_34 : isStrT Tryd.prog 34 = false := by kernel_rfl
theorem isStrT_51 : isStrT Tryd.prog 51 = false := by kernel_rfl
theorem isStrT_81 : isStrT Tryd.prog 81 = false := by kernel_rfl
theorem isStrT_85 : isStrT Tryd.prog 85 = false := by kernel_rfl
theorem isStrT_91 : isStrT Tryd.prog 91 = false := by kernel_rfl
theorem isStrT_92 : isStrT Tryd.prog 92 = false := by kernel_rfl
theorem isStrT_94 : isStrT Tryd.prog 94 = false := by kernel_rfl
theorem isStrT_112 : isStrT Tryd.prog 112 = false := by kernel_rfl
theorem isStrT_119 : isStrT Tryd.prog 119 = false := by kernel_rfl
theorem isStrT_121 : isStrT Tryd.prog 121 = false := by kernel_rfl
theorem isStrT_125 : isStrT Tryd.prog 125 = false := by kernel_rfl
theorem isStrT_126 : isStrT Tryd.prog 126 = false := by kernel_rfl
theorem isSeqT_22 : isSeqT Tryd.prog 22 = true := by kernel_rfl
theorem isSeqT_25 : isSeqT Tryd.prog 25 = true := by kernel_rfl
theorem isSeqT_33 : isSeqT Tryd.prog 33 = true := by kernel_rfl
theorem isSeqT_34 : isSeqT Tryd.prog 34 = true := by kernel_rfl
theorem isSeqT_51 : isSeqT Tryd.prog 51 = true := by kernel_rfl
theorem isSeqT_81 : isSeqT Tryd.prog 81 = true := by kernel_rfl
theorem isSeqT_85 : isSeqT Tryd.prog 85 = true := by kernel_rfl
theorem isSeqT_92 : isSeqT Tryd.prog 92 = true := by kernel_rfl
theorem isPtrT_56 : isPtrT Tryd.prog 56 = true := by kernel_rfl
theorem isBoolT_4 : isBoolT Tryd.prog 4 = true := by kernel_rfl
theorem tfield_36_0 : tfield Tryd.prog 36 0 = some (0, 1, false) := by kernel_rfl
theorem tfield_36_1 : tfield Tryd.prog 36 1 = some (1, 1, false) := by kernel_rfl
theorem tfield_36_2 : tfield Tryd.prog 36 2 = some (2, 1, false) := by kernel_rfl
theorem tfield_36_3 : tfield Tryd.prog 36 3 = some (3, 1, false) := by kernel_rfl
theorem tfield_36_4 : tfield Tryd.prog 36 4 = some (4, 1, false) := by kernel_rfl
theorem tfield_38_0 : tfield Tryd.prog 38 0 = some (0, 1, false) := by kernel_rfl
theorem tfield_38_1 : tfield Tryd.prog 38 1 = some (1, 5, true) := by kernel_rfl
theorem tfield_43_0 : tfield Tryd.prog 43 0 = some (0, 5, true) := by kernel_rfl
theorem tfield_43_1 : tfield Tryd.prog 43 1 = some (5, 5, true) := by kernel_rfl
theorem tfield_70_0 : tfield Tryd.prog 70 0 = some (0, 1, false) := by kernel_rfl
theorem tfield_70_1 : tfield Tryd.prog 70 1 = some (1, 1, false) := by kernel_rfl
theorem tfield_70_2 : tfield Tryd.prog 70 2 = some (2, 1, false) := by kernel_rfl
theorem tfield_75_0 : tfield Tryd.prog 75 0 = some (0, 1, false) := by kernel_rfl
theorem tfield_75_1 : tfield Tryd.prog 75 1 = some (1, 1, false) := by kernel_rfl
theorem tfield_83_0 : tfield Tryd.prog 83 0 = some (0, 1, false) := by kernel_rfl
theorem tfield_83_1 : tfield Tryd.prog 83 1 = some (1, 1, false) := by kernel_rfl
theorem tfield_83_2 : tfield Tryd.prog 83 2 = some (2, 1, false) := by kernel_rfl
theorem tfield_83_3 : tfield Tryd.prog 83 3 = some (3, 1, false) := by kernel_rfl
theorem tfield_87_0 : tfield Tryd.prog 87 0 = some (0, 1, false) := by kernel_rfl
theorem tfield_87_1 : tfield Tryd.prog 87 1 = some (1, 1, false) := by kernel_rfl
theorem tfield_87_2 : tfield Tryd.prog 87 2 = some (2, 1, false) := by kernel_rfl
theorem tfield_87_3 : tfield Tryd.prog 87 3 = some (3, 1, false) := by kernel_rfl
theorem tfield_87_4 : tfield Tryd.prog 87 4 = some (4, 1, false) := by kernel_rfl
theorem tfield_87_5 : tfield Tryd.prog 87 5 = some (5, 1, false) := by kernel_rfl
theorem tfield_87_6 : tfield Tryd.prog 87 6 = some (6, 1, false) := by kernel_rfl
theorem tplaces_36 : tplaces Tryd.prog 36 = some [(0, 1), (1, 1), (2, 1), (3, 1), (4, 1)] := by kernel_rfl
theorem abuild_36 (ps : List (Nat × AV)) : abuild Tryd.prog 36 ps = bT (tzero Tryd.prog 36) (some [(0, 1), (1, 1), (2, 1), (3, 1), (4, 1)]) ps := abuild_struct _ _ tplaces_36
theorem tplaces_38 : tplaces Tryd.prog 38 = some [(0, 1), (1, 5)] := by kernel_rfl
theorem abuild_38 (ps : List (Nat × AV)) : abuild Tryd.prog 38 ps = bT (tzero Tryd.prog 38) (some [(0, 1), (1, 5)]) ps := abuild_struct _ _ tplaces_38
theorem tplaces_43 : tplaces Tryd.prog 43 = some [(0, 5), (5, 5)] := by kernel_rfl
theorem abuild_43 (ps : List (Nat × AV)) : abuild Tryd.prog 43 ps = bT (tzero Tryd.prog 43) (some [(0, 5), (5, 5)]) ps := abuild_struct _ _ tplaces_43
theorem tplaces_70 : tplaces Tryd.prog 70 = some [(0, 1), (1, 1), (2, 1)] := by kernel_rfl
theorem abuild_70 (ps : List (Nat × AV)) : abuild Tryd.prog 70 ps = bT (tzero Tryd.prog 70) (some [(0, 1), (1, 1), (2, 1)]) ps := abuild_struct _ _ tplaces_70
theorem tplaces_75 : tplaces Tryd.prog 75 = some [(0, 1), (1, 1)] := by kernel_rfl
theorem abuild_75 (ps : List (Nat × AV)) : abuild Tryd.prog 75 ps = bT (tzero Tryd.prog 75) (some [(0, 1), (1, 1)]) ps := abuild_struct _ _ tplaces_75
theorem tplaces_83 : tplaces Tryd.prog 83 = some [(0, 1), (1, 1), (2, 1), (3, 1)] := by kernel_rfl
theorem abuild_83 (ps : List (Nat × AV)) : abuild Tryd.prog 83 ps = bT (tzero Tryd.prog 83) (some [(0, 1), (1, 1), (2, 1), (3, 1)]) ps := abuild_struct _ _ tplaces_83
theorem tplaces_87 : tplaces Tryd.prog 87 = some [(0, 1), (1, 1), (2, 1), (3, 1), (4, 1), (5, 1), (6, 1)] := by kernel_rfl
theorem abuild_87 (ps : List (Nat × AV)) : abuild Tryd.prog 87 ps = bT (tzero Tryd.prog 87) (some [(0, 1), (1, 1), (2, 1), (3, 1), (4, 1), (5, 1), (6, 1)]) ps := abuild_struct _ _ tplaces_87
theorem tplaces_91 : tplaces Tryd.prog 91 = none := by kernel_rfl
theorem tplaces_119 : tplaces Tryd.prog 119 = none := by kernel_rfl
theorem tplaces_125 : tplaces Tryd.prog 125 = none := by kernel_rfl
theorem tplaces_126 : tplaces Tryd.prog 126 = none := by kernel_rfl
theorem und_2 : Tryd.prog.underlying 2 = some (.int .i64) := by kernel_rfl
theorem und_3 : Tryd.prog.underlying 3 = some (.int .i64) := by kernel_rfl
theorem und_5 : Tryd.prog.underlying 5 = some (.int .u8) := by kernel_rfl
theorem und_9 : Tryd.prog.underlying 9 = some .string := by kernel_rfl
theorem und_51 : Tryd.prog.underlying 51 = some (.slice 5) := by kernel_rfl
theorem und_113 : Tryd.prog.underlying 113 = some (.int .u64) := by kernel_rfl
theorem und_120 : Tryd.prog.underlying 120 = some (.int .u32) := by kernel_rfl
theorem und_122 : Tryd.prog.underlying 122 = some (.int .u64) := by kernel_rfl
theorem cv_2_113 (h : AHeap) (k : IntKind) (n : Int) : aconvert Tryd.prog 2 113 h (.val (.int k n)) = some (.val (.int .u64 (IntKind.u64.wrap n)), h) := aconvert_int _ _ _ _ und_2 und_113
theorem cv_3_5 (h : AHeap) (k : IntKind) (n : Int) : aconvert Tryd.prog 3 5 h (.val (.int k n)) = some (.val (.int .u8 (IntKind.u8.wrap n)), h) := aconvert_int _ _ _ _ und_3 und_5
theorem cv_3_113 (h : AHeap) (k : IntKind) (n : Int) : aconvert Tryd.prog 3 113 h (.val (.int k n)) = some (.val (.int .u64 (IntKind.u64.wrap n)), h) := aconvert_int _ _ _ _ und_3 und_113
theorem cv_3_122 (h : AHeap) (k : IntKind) (n : Int) : aconvert Tryd.prog 3 122 h (.val (.int k n)) = some (.val (.int .u64 (IntKind.u64.wrap n)), h) := aconvert_int _ _ _ _ und_3 und_122
theorem cv_5_3 (h : AHeap) (k : IntKind) (n : Int) : aconvert Tryd.prog 5 3 h (.val (.int k n)) = some (.val (.int .i64 (IntKind.i64.wrap n)), h) := aconvert_int _ _ _ _ und_5 und_3
theorem cv_51_9 (h : AHeap) (x : AV) : aconvert Tryd.prog 51 9 h x = textK (sview h x) h := aconvert_textK und_51 und_9 und_5
theorem cv_113_5 (h : AHeap) (k : IntKind) (n : Int) : aconvert Tryd.prog 113 5 h (.val (.int k n)) = some (.val (.int .u8 (IntKind.u8.wrap n)), h) := aconvert_int _ _ _ _ und_113 und_5
theorem cv_113_120 (h : AHeap) (k : IntKind) (n : Int) : aconvert Tryd.prog 113 120 h (.val (.int k n)) = some (.val (.int .u32 (IntKind.u32.wrap n)), h) := aconvert_int _ _ _ _ und_113 und_120
theorem cv_120_5 (h : AHeap) (k : IntKind) (n : Int) : aconvert Tryd.prog 120 5 h (.val (.int k n)) = some (.val (.int .u8 (IntKind.u8.wrap n)), h) := aconvert_int _ _ _ _ und_120 und_5
theorem cv_122_120 (h : AHeap) (k : IntKind) (n : Int) : aconvert Tryd.prog 122 120 h (.val (.int k n)) = some (.val (.int .u32 (IntKind.u32.wrap n)), h) := aconvert_int _ _ _ _ und_122 und_120
theorem callable_9 : callable Tryd.prog 9 = true := by kernel_rfl
theorem callable_10 : callable Tryd.prog 10 = true := by kernel_rfl
theorem callable_11 : callable Tryd.prog 11 = true := by kernel_rfl
theorem callable_12 : callable Tryd.prog 12 = true := by kernel_rfl
theorem callable_13 : callable Tryd.prog 13 = true := by kernel_rfl
theorem callable_14 : callable Tryd.prog 14 = true := by kernel_rfl
theorem callable_15 : callable Tryd.prog 15 = true := by kernel_rfl
theorem callable_16 : callable Tryd.prog 16 = true := by kernel_rfl
theorem callable_17 : callable Tryd.prog 17 = true := by kernel_rfl
theorem callable_18 : callable Tryd.prog 18 = true := by kernel_rfl
theorem callable_19 : callable Tryd.prog 19 = true := by kernel_rfl
theorem callable_20 : callable Tryd.prog 20 = true := by kernel_rfl
theorem callable_21 : callable Tryd.prog 21 = true := by kernel_rfl
theorem callable_23 : callable Tryd.prog 23 = true := by kernel_rfl
theorem callable_24 : callable Tryd.prog 24 = true := by kernel_rfl
theorem callable_25 : callable Tryd.prog 25 = true := by kernel_rfl
theorem callable_26 : callable Tryd.prog 26 = true := by kernel_rfl
theorem callable_27 : callable Tryd.prog 27 = true := by kernel_rfl
theorem callable_28 : callable Tryd.prog 28 = true := by kernel_rfl
theorem callable_29 : callable Tryd.prog 29 = true := by kernel_rfl
theorem callable_30 : callable Tryd.prog 30 = true := by kernel_rfl
theorem callable_31 : callable Tryd.prog 31 = true := by kernel_rfl
theorem callable_32 : callable Tryd.prog 32 = true := by kernel_rfl
theorem callable_33 : callable Tryd.prog 33 = true := by kernel_rfl
theorem callable_34 : callable Tryd.prog 34 = true := by kernel_rfl
theorem callable_35 : callable Tryd.prog 35 = true := by kernel_rfl
theorem callable_36 : callable Tryd.prog 36 = true := by kernel_rfl
theorem callable_37 : callable Tryd.prog 37 = true := by kernel_rfl
theorem callable_38 : callable Tryd.prog 38 = true := by kernel_rfl
theorem callable_39 : callable Tryd.prog 39 = true := by kernel_rfl
theorem callable_41 : callable Tryd.prog 41 = true := by kernel_rfl
theorem callable_42 : callable Tryd.prog 42 = true := by kernel_rfl
theorem callable_43 : callable Tryd.prog 43 = true := by kernel_rfl
theorem callable_44 : callable Tryd.prog 44 = true := by kernel_rfl
theorem callable_45 : callable Tryd.prog 45 = true := by kernel_rfl
theorem callable_46 : callable Tryd.prog 46 = true := by kernel_rfl
theorem callable_47 : callable Tryd.prog 47 = true := by kernel_rfl
theorem callable_48 : callable Tryd.prog 48 = true := by kernel_rfl
theorem callable_49 : callable Tryd.prog 49 = true := by kernel_rfl
theorem callable_50 : callable Tryd.prog 50 = true := by kernel_rfl
theorem callable_52 : callable Tryd.prog 52 = true := by kernel_rfl
theorem callable_53 : callable Tryd.prog 53 = true := by kernel_rfl
theorem callable_54 : callable Tryd.prog 54 = true := by kernel_rfl
theorem callable_57 : callable Tryd.prog 57 = true := by kernel_rfl
theorem callable_58 : callable Tryd.prog 58 = true := by kernel_rfl
theorem callable_59 : callable Tryd.prog 59 = true := by kernel_rfl
theorem callable_60 : callable Tryd.prog 60 = true := by kernel_rfl
theorem callable_61 : callable Tryd.prog 61 = true := by kernel_rfl
theorem callable_62 : callable Tryd.prog 62 = true := by kernel_rfl
theorem callable_64 : callable Tryd.prog 64 = true := by kernel_rfl
theorem callable_65 : callable Tryd.prog 65 = true := by kernel_rfl
theorem callable_68 : callable Tryd.prog 68 = true := by kernel_rfl
theorem callable_70 : callable Tryd.prog 70 = true := by kernel_rfl
theorem callable_71 : callable Tryd.prog 71 = true := by kernel_rfl
theorem callable_72 : callable Tryd.prog 72 = true := by kernel_rfl
theorem callable_73 : callable Tryd.prog 73 = true := by kernel_rfl
theorem callable_74 : callable Tryd.prog 74 = true := by kernel_rfl
theorem callable_75 : callable Tryd.prog 75 = true := by kernel_rfl
theorem callable_76 : callable Tryd.prog 76 = true := by kernel_rfl
theorem callable_77 : callable Tryd.prog 77 = true := by kernel_rfl
theorem callable_78 : callable Tryd.prog 78 = true := by kernel_rfl
theorem callable_79 : callable Tryd.prog 79 = true := by kernel_rfl
theorem callable_80 : callable Tryd.prog 80 = true := by kernel_rfl
theorem callable_81 : callable Tryd.prog 81 = true := by kernel_rfl
theorem callable_82 : callable Tryd.prog 82 = true := by kernel_rfl
theorem callable_83 : callable Tryd.prog 83 = true := by kernel_rfl
theorem callable_84 : callable Tryd.prog 84 = true := by kernel_rfl
theorem callable_85 : callable Tryd.prog 85 = true := by kernel_rfl
theorem callable_86 : callable Tryd.prog 86 = true := by kernel_rfl
theorem callable_87 : callable Tryd.prog 87 = true := by kernel_rfl
theorem callable_88 : callable Tryd.prog 88 = true := by kernel_rfl
attribute [go_sem] tsize_3 tsize_4 tsize_5 tsize_9 tsize_33 tsize_34 tsize_36 tsize_43 tsize_56 tsize_65 tsize_68 tsize_81 tsize_85 tsize_87 tsize_91 tsize_94 tsize_106 tsize_113 tsize_119 tsize_125 tsize_126 tagg_3 tagg_4 tagg_5 tagg_9 tagg_33 tagg_34 tagg_36 tagg_43 tagg_56 tagg_65 tagg_68 tagg_81 tagg_85 tagg_87 tagg_91 tagg_94 tagg_106 tagg_113 tagg_119 tagg_125 tagg_126 tslice_9 tslice_22 tslice_25 tslice_33 tslice_34 tslice_51 tslice_81 tslice_85 tslice_91 tslice_92 tslice_94 tslice_112 tslice_119 tslice_121 tslice_125 tslice_126 ownT_22 ownT_25 ownT_33 ownT_34 ownT_51 ownT_81 ownT_85 ownT_92 tarr_9 tarr_22 tarr_25 tarr_33 tarr_34 tarr_36 tarr_38 tarr_43 tarr_51 tarr_70 tarr_75 tarr_81 tarr_83 tarr_85 tarr_87 tarr_91 tarr_92 tarr_94 tarr_112 tarr_119 tarr_121 tarr_125 tarr_126 tzero_3 tzero_33 tzero_36 tzero_38 tzero_43 tzero_65 tzero_70 tzero_75 tzero_83 tzero_87 tzero_91 tzero_94 tzero_106 tzero_112 tzero_119 tzero_121 tzero_125 tzero_126 isStrT_9 isStrT_22 isStrT_25 isStrT_33 isStrT_34 isStrT_51 isStrT_81 isStrT_85 isStrT_91 isStrT_92 isStrT_94 isStrT_112 isStrT_119 isStrT_121 isStrT_125 isStrT_126 isSeqT_22 isSeqT_25 isSeqT_33 isSeqT_34 isSeqT_51 isSeqT_81 isSeqT_85 isSeqT_92 isPtrT_56 isBoolT_4 tfield_36_0 tfield_36_1 tfield_36_2 tfield_36_3 tfield_36_4 tfield_38_0 tfield_38_1 tfield_43_0 tfield_43_1 tfield_70_0 tfield_70_1 tfield_70_2 tfield_75_0 tfield_75_1 tfield_83_0 tfield_83_1 tfield_83_2 tfield_83_3 tfield_87_0 tfield_87_1 tfield_87_2 tfield_87_3 tfield_87_4 tfield_87_5 tfield_87_6 tplaces_36 abuild_36 tplaces_38 abuild_38 tplaces_43 abuild_43 tplaces_70 abuild_70 tplaces_75 abuild_75 tplaces_83 abuild_83 tplaces_87 abuild_87 tplaces_91 tplaces_119 tplaces_125 tplaces_126 und_2 und_3 und_5 und_9 und_51 und_113 und_120 und_122 cv_2_113 cv_3_5 cv_3_113 cv_3_122 cv_5_3 cv_51_9 cv_113_5 cv_113_120 cv_120_5 cv_122_120 callable_9 callable_10 callable_11 callable_12 callable_13 callable_14 callable_15 callable_16 callable_17 callable_18 callable_19 callable_20 callable_21 callable_23 callable_24 callable_25 callable_26 callable_27 callable_28 callable_29 callable_30 callable_31 callable_32 callable_33 callable_34 callable_35 callable_36 callable_37 callable_38 callable_39 callable_41 callable_42 callable_43 callable_44 callable_45 callable_46 callable_47 callable_48 callable_49 callable_50 callable_52 callable_53 callable_54 callable_57 callable_58 callable_59 callable_60 callable_61 callable_62 callable_64 callable_65 callable_68 callable_70 callable_71 callable_72 callable_73 callable_74 callable_75 callable_76 callable_77 callable_78 callable_79 callable_80 callable_81 callable_82 callable_83 callable_84 callable_85 callable_86 callable_87 callable_88 fg_3_0 fg_4_0 fg_4_1 fg_4_2 fg_4_3 fg_4_4 fg_4_5 fg_4_6 fg_5_0 fg_5_1 fg_5_2 fg_6_0 fg_7_0 fg_7_1 fg_7_2 fg_7_3 fg_7_4 fg_8_0 fg_8_1 fg_8_2 fg_9_0 fg_9_1 fg_9_2 fg_10_0 fg_11_0 fg_11_1 fg_11_2 fg_12_0 fg_12_1 fg_12_2 fg_13_0 fg_13_1 fg_13_2 fg_14_0 fg_15_0 fg_15_1 fg_15_2 fg_16_0 fg_16_1 fg_16_2 fg_17_0 fg_17_1 fg_17_2 fg_17_3 fg_17_4 fg_18_0 fg_18_1 fg_18_2 fg_19_0 fg_19_1 fg_19_2 fg_20_0 fg_21_0 fg_21_1 fg_21_2 fg_22_0 fg_23_0 fg_24_0 fg_25_0 fg_26_0 fg_27_0 fg_28_0 fg_29_0 fg_29_1 fg_29_2 fg_29_3 fg_29_4 fg_29_5 fg_30_0 fg_31_0 fg_32_0 fg_33_0 fg_33_1 fg_33_2 fg_33_3 fg_33_4 fg_34_0 fg_35_0 fg_35_1 fg_35_2 fg_35_3 fg_35_4 fg_36_0 fg_36_1 fg_36_2 fg_37_0 fg_38_0 fg_38_1 fg_38_2 fg_39_0 fg_39_1 fg_39_2 fg_40_0 fg_41_0 fg_41_1 fg_41_2 fg_42_0 fg_43_0 fg_44_0 fg_45_0 fg_46_0 fg_46_1 fg_46_2 fg_47_0 fg_48_0 fg_49_0 fg_49_1 fg_49_2 fg_50_0 fg_50_1 fg_50_2 fg_50_3 fg_51_0 fg_52_0 fg_53_0 fg_53_1 fg_53_2 fg_54_0 fg_54_1 fg_54_2 fg_55_0 fg_56_0 fg_56_1 fg_56_2 fg_57_0 fg_57_1 fg_57_2 fg_58_0 fg_58_1 fg_58_2 fg_59_0 fg_59_1 fg_59_2 fg_60_0 fg_61_0 fg_61_1 fg_61_2 fg_62_0 fg_63_0 fg_64_0 fg_64_1 fg_64_2 fg_65_0 fg_65_1 fg_65_2 fg_66_0 fg_67_0 fg_68_0 fg_69_0 fg_69_1 fg_69_2 fg_70_0 fg_71_0 fg_71_1 fg_71_2 fg_72_0 fg_72_1 fg_72_2 fg_73_0 fg_73_1 fg_73_2 fg_74_0 fg_74_1 fg_74_2 fg_75_0 fg_76_0 fg_76_1 fg_76_2 fg_77_0 fg_78_0 fg_79_0 fg_80_0 fg_80_1 fg_80_2 fg_81_0 fg_81_1 fg_81_2 fg_81_3 fg_81_4 fg_82_0 fg_83_0 fg_84_0 fg_85_0 fg_86_0 fg_87_0 fg_88_0 fg_111_0 la_4_21 sq_4_21 am_4_21 un_4_21_0 un_4_21_1 un_4_21_2 un_4_21_3 un_4_21_4 un_4_21_5 un_4_21_6 un_4_21_7 un_4_21_8 un_4_21_9 un_4_21_10 un_4_21_11 un_4_21_12 un_4_21_13 un_4_21_14 un_4_21_15 un_4_21_16 un_4_21_17 un_4_21_999 la_4_27 la_5_4 la_5_9 sq_5_9 am_5_9 un_5_9_0 un_5_9_1 un_5_9_2 un_5_9_3 un_5_9_4 un_5_9_5 un_5_9_6 un_5_9_7 un_5_9_8 un_5_9_9 un_5_9_10 un_5_9_11 un_5_9_12 un_5_9_13 un_5_9_14 un_5_9_15 un_5_9_16 un_5_9_17 un_5_9_18 un_5_9_19 un_5_9_999 la_6_10 la_9_7 la_10_4 la_12_11 la_13_6 la_16_6 la_17_4 la_17_11 la_19_7 sq_19_7 am_19_7 un_19_7_0 un_19_7_1 un_19_7_2 un_19_7_3 un_19_7_4 un_19_7_5 un_19_7_6 un_19_7_7 un_19_7_8 un_19_7_9 un_19_7_10 un_19_7_12 un_19_7_13 un_19_7_999 la_19_11 sq_19_11 am_19_11 un_19_11_0 un_19_11_1 un_19_11_2 un_19_11_3 un_19_11_4 un_19_11_5 un_19_11_6 un_19_11_7 un_19_11_8 un_19_11_9 un_19_11_10 un_19_11_11 un_19_11_12 un_19_11_13 un_19_11_14 un_19_11_15 un_19_11_17 un_19_11_18 un_19_11_999 la_29_8 sq_29_8 am_29_8 un_29_8_0 un_29_8_1 un_29_8_2 un_29_8_3 un_29_8_4 un_29_8_5 un_29_8_6 un_29_8_7 un_29_8_8 un_29_8_9 un_29_8_10 un_29_8_11 un_29_8_999 la_29_13 la_33_6 sq_33_6 am_33_6 un_33_6_0 un_33_6_1 un_33_6_2 un_33_6_3 un_33_6_4 un_33_6_5 un_33_6_6 un_33_6_7 un_33_6_8 un_33_6_9 un_33_6_10 un_33_6_11 un_33_6_12 un_33_6_13 un_33_6_14 un_33_6_15 un_33_6_999 la_33_8 sq_33_8 am_33_8 un_33_8_0 un_33_8_1 un_33_8_2 un_33_8_3 un_33_8_4 un_33_8_5 un_33_8_6 un_33_8_7 un_33_8_8 un_33_8_9 un_33_8_10 un_33_8_11 un_33_8_12 un_33_8_13 un_33_8_14 un_33_8_15 un_33_8_16 un_33_8_17 un_33_8_18 un_33_8_19 un_33_8_20 un_33_8_21 un_33_8_22 un_33_8_23 un_33_8_24 un_33_8_25 un_33_8_26 un_33_8_27 un_33_8_28 un_33_8_999 la_33_13 la_35_5 la_35_10 la_41_2 sq_41_2 am_41_2 un_41_2_0 un_41_2_1 un_41_2_2 un_41_2_3 un_41_2_4 un_41_2_5 un_41_2_6 un_41_2_7 un_41_2_999 la_43_3 la_43_7 la_47_1 sq_47_1 am_47_1 un_47_1_0 un_47_1_1 un_47_1_2 un_47_1_3 un_47_1_4 un_47_1_5 un_47_1_6 un_47_1_7 un_47_1_9 un_47_1_999 la_47_6 la_48_1 sq_48_1 am_48_1 un_48_1_0 un_48_1_1 un_48_1_2 un_48_1_3 un_48_1_4 un_48_1_5 un_48_1_6 un_48_1_7 un_48_1_8 un_48_1_9 un_48_1_10 un_48_1_11 un_48_1_12 un_48_1_13 un_48_1_999 la_48_2 la_50_12 sq_50_12 am_50_12 un_50_12_0 un_50_12_1 un_50_12_2 un_50_12_3 un_50_12_4 un_50_12_5 un_50_12_6 un_50_12_7 un_50_12_8 un_50_12_9 un_50_12_999 la_51_3 la_56_4 la_57_4 sq_57_4 am_57_4 un_57_4_0 un_57_4_1 un_57_4_2 un_57_4_3 un_57_4_4 un_57_4_5 un_57_4_6 un_57_4_7 un_57_4_8 un_57_4_9 un_57_4_10 un_57_4_11 un_57_4_12 un_57_4_13 un_57_4_14 un_57_4_15 un_57_4_999 la_57_6 la_57_8 la_57_13 la_57_22 la_58_2 la_64_2 la_65_6 la_65_7 la_66_2 la_67_3 la_80_7 sq_80_7 am_80_7 un_80_7_0 un_80_7_1 un_80_7_2 un_80_7_3 un_80_7_4 un_80_7_5 un_80_7_6 un_80_7_7 un_80_7_8 un_80_7_9 un_80_7_10 un_80_7_11 un_80_7_12 un_80_7_13 un_80_7_14 un_80_7_999 la_80_8 sq_80_8 am_80_8 un_80_8_0 un_80_8_1 un_80_8_2 un_80_8_3 un_80_8_4 un_80_8_5 un_80_8_6 un_80_8_7 un_80_8_8 un_80_8_9 un_80_8_10 un_80_8_11 un_80_8_12 un_80_8_13 un_80_8_14 un_80_8_999 la_80_9 sq_80_9 am_80_9 un_80_9_0 un_80_9_1 un_80_9_2 un_80_9_3 un_80_9_4 un_80_9_5 un_80_9_6 un_80_9_7 un_80_9_8 un_80_9_9 un_80_9_10 un_80_9_11 un_80_9_12 un_80_9_13 un_80_9_14 un_80_9_999 la_80_10 sq_80_10 am_80_10 un_80_10_0 un_80_10_1 un_80_10_2 un_80_10_3 un_80_10_4 un_80_10_5 un_80_10_6 un_80_10_7 un_80_10_8 un_80_10_9 un_80_10_10 un_80_10_11 un_80_10_12 un_80_10_13 un_80_10_14 un_80_10_999 la_80_17 sq_80_17 am_80_17 un_80_17_0 un_80_17_1 un_80_17_2 un_80_17_3 un_80_17_4 un_80_17_5 un_80_17_6 un_80_17_7 un_80_17_8 un_80_17_9 un_80_17_10 un_80_17_11 un_80_17_12 un_80_17_13 un_80_17_14 un_80_17_999 la_80_18 sq_80_18 am_80_18 un_80_18_0 un_80_18_1 un_80_18_2 un_80_18_3 un_80_18_4 un_80_18_5 un_80_18_6 un_80_18_7 un_80_18_8 un_80_18_9 un_80_18_10 un_80_18_11 un_80_18_12 un_80_18_13 un_80_18_14 un_80_18_999 la_80_23 sq_80_23 am_80_23 un_80_23_0 un_80_23_1 un_80_23_2 un_80_23_3 un_80_23_4 un_80_23_5 un_80_23_6 un_80_23_7 un_80_23_8 un_80_23_9 un_80_23_10 un_80_23_11 un_80_23_12 un_80_23_13 un_80_23_14 un_80_23_999
theorem body7 : Tryd.f7.body = some (.seq (regOf Tryd.f7 0) (.seq (regOf Tryd.f7 1) (.seq (regOf Tryd.f7 2) (.seq (regOf Tryd.f7 3) (.seq (.seq (regOf Tryd.f7 4) (.block 0 (.loop (loopOf Tryd.f7 0)))) (.seq (.seq (regOf Tryd.f7 8) (.cond (.tmp 44) (regOf Tryd.f7 9) .skip)) (.seq (regOf Tryd.f7 10) (.seq (.seq (regOf Tryd.f7 11) (.cond (.tmp 65) (.seq (regOf Tryd.f7 12) .ret) .skip)) (.seq (regOf Tryd.f7 13) (.seq (.seq (regOf Tryd.f7 14) (.block 2 (.loop (loopOf Tryd.f7 2)))) (.seq (.seq (regOf Tryd.f7 18) (.cond (.tmp 81) (.seq (regOf Tryd.f7 19) .ret) .skip)) (.seq (regOf Tryd.f7 20) .ret)))))))))))) := by kernel_rfl
theorem loop7_0 : loopOf Tryd.f7 0 = (.seq (.seq (regOf Tryd.f7 5) (.cond (.tmp 18) .skip (.exit 0))) (.seq (.block 1 (regOf Tryd.f7 7)) (regOf Tryd.f7 6))) := by kernel_rfl
theorem loop7_2 : loopOf Tryd.f7 2 = (.seq (.seq (regOf Tryd.f7 15) (.cond (.tmp 74) .skip (.exit 2))) (.seq (.block 3 (regOf Tryd.f7 17)) (regOf Tryd.f7 16))) := by kernel_rfl
theorem body11 : Tryd.f11.body = some (.seq (regOf Tryd.f11 0) (.seq (regOf Tryd.f11 1) (.seq (.seq (regOf Tryd.f11 2) (.cond (.tmp 17) (.seq (regOf Tryd.f11 3) .ret) .skip)) (.seq (regOf Tryd.f11 4) (.seq (.seq (regOf Tryd.f11 5) (.block 0 (.loop (loopOf Tryd.f11 0)))) (.seq (regOf Tryd.f11 13) .ret)))))) := by kernel_rfl
theorem loop11_0 : loopOf Tryd.f11 0 = (.seq (regOf Tryd.f11 6) (.seq (.cond (.tmp 24) .skip (.exit 0)) (.seq (.block 1 (.seq (regOf Tryd.f11 7) (.seq (regOf Tryd.f11 8) (.seq (.seq (regOf Tryd.f11 9) (.cond (.tmp 39) (.seq (regOf Tryd.f11 10) .ret) .skip)) (regOf Tryd.f11 11))))) (regOf Tryd.f11 12)))) := by kernel_rfl
theorem body14 : Tryd.f14.body = some (.seq (regOf Tryd.f14 0) (.seq (regOf Tryd.f14 1) .ret)) := by kernel_rfl
theorem body15 : Tryd.f15.body = some (.seq (regOf Tryd.f15 0) (.seq (regOf Tryd.f15 1) (.seq (.seq (regOf Tryd.f15 2) (.block 0 (.loop (loopOf Tryd.f15 0)))) (.seq (regOf Tryd.f15 6) .ret)))) := by kernel_rfl
theorem loop15_0 : loopOf Tryd.f15 0 = (.seq (.seq (regOf Tryd.f15 3) (.cond (.tmp 9) .skip (.exit 0))) (.seq (.block 1 (regOf Tryd.f15 5)) (regOf Tryd.f15 4))) := by kernel_rfl
theorem body23 : Tryd.f23.body = some (.seq (regOf Tryd.f23 0) (.seq (regOf Tryd.f23 1) .ret)) := by kernel_rfl
theorem body24 : Tryd.f24.body = some (.seq (regOf Tryd.f24 0) (.seq (regOf Tryd.f24 1) .ret)) := by kernel_rfl
theorem body25 : Tryd.f25.body = some (.seq (regOf Tryd.f25 0) (.seq (regOf Tryd.f25 1) .ret)) := by kernel_rfl
theorem body27 : Tryd.f27.body = some (.seq (regOf Tryd.f27 0) (.seq (regOf Tryd.f27 1) .ret)) := by kernel_rfl
theorem body28 : Tryd.f28.body = some (.seq (regOf Tryd.f28 0) (.seq (.seq (regOf Tryd.f28 1) (.cond (.tmp 14) (.seq (regOf Tryd.f28 2) .ret) .skip)) (.seq (regOf Tryd.f28 3) .ret))) := by kernel_rfl
theorem body29 : Tryd.f29.body = some (.seq (regOf Tryd.f29 0) (.seq (.seq (regOf Tryd.f29 1) (.cond (.tmp 19) (.seq (regOf Tryd.f29 2) .ret) .skip)) (.seq (regOf Tryd.f29 3) (.seq (regOf Tryd.f29 4) (.seq (.block 0 (.loop (loopOf Tryd.f29 0))) (.seq (regOf Tryd.f29 24) .ret)))))) := by kernel_rfl
theorem loop29_0 : loopOf Tryd.f29 0 = (.seq (.seq (regOf Tryd.f29 5) (.cond (.tmp 27) .skip (.exit 0))) (.block 1 (.seq (regOf Tryd.f29 6) (.seq (regOf Tryd.f29 7) (.seq (regOf Tryd.f29 8) (.block 2 (.seq (regOf Tryd.f29 15) (.cond (.tmp 86) .skip (.seq (regOf Tryd.f29 16) (.cond (.tmp 90) (.seq (regOf Tryd.f29 17) (.cond (.tmp 104) (.seq (regOf Tryd.f29 18) .ret) .skip)) (.seq (regOf Tryd.f29 19) (.cond (.tmp 105) (.seq (regOf Tryd.f29 20) (.cond (.tmp 119) (.seq (regOf Tryd.f29 21) .ret) .skip)) (.seq (regOf Tryd.f29 22) (.cond (.tmp 120) (.seq (regOf Tryd.f29 23) .ret) (.seq (regOf Tryd.f29 9) (.seq (.seq (regOf Tryd.f29 10) (.block 3 (.loop (loopOf Tryd.f29 3)))) (regOf Tryd.f29 14))))))))))))))))) := by kernel_rfl
theorem loop29_3 : loopOf Tryd.f29 3 = (.seq (.seq (regOf Tryd.f29 11) (.cond (.tmp 61) .skip (.exit 3))) (.seq (.block 4 (regOf Tryd.f29 13)) (regOf Tryd.f29 12))) := by kernel_rfl
theorem body30 : Tryd.f30.body = some (.seq (regOf Tryd.f30 0) (.seq (regOf Tryd.f30 1) .ret)) := by kernel_rfl
theorem body33 : Tryd.f33.body = some (.seq (regOf Tryd.f33 0) (.seq (regOf Tryd.f33 1) (.seq (regOf Tryd.f33 2) (.seq (.seq (regOf Tryd.f33 3) (.block 0 (.loop (loopOf Tryd.f33 0)))) (.seq (.seq (regOf Tryd.f33 10) (.block 2 (.loop (loopOf Tryd.f33 2)))) (.seq (regOf Tryd.f33 16) .ret)))))) := by kernel_rfl
theorem loop33_0 : loopOf Tryd.f33 0 = (.seq (regOf Tryd.f33 4) (.seq (.cond (.tmp 21) .skip (.exit 0)) (.seq (.block 1 (.seq (regOf Tryd.f33 5) (.seq (regOf Tryd.f33 6) (.seq (regOf Tryd.f33 7) (regOf Tryd.f33 8))))) (regOf Tryd.f33 9)))) := by kernel_rfl
theorem loop33_2 : loopOf Tryd.f33 2 = (.seq (regOf Tryd.f33 11) (.seq (.cond (.tmp 73) .skip (.exit 2)) (.seq (.block 3 (.seq (regOf Tryd.f33 12) (.seq (regOf Tryd.f33 13) (.cond (.tmp 85) (.seq (regOf Tryd.f33 14) .ret) .skip)))) (regOf Tryd.f33 15)))) := by kernel_rfl
theorem body34 : Tryd.f34.body = some (.seq (regOf Tryd.f34 0) (.seq (.seq (regOf Tryd.f34 1) (.cond (.tmp 13) (.seq (regOf Tryd.f34 2) .ret) .skip)) (.seq (regOf Tryd.f34 3) .ret))) := by kernel_rfl
theorem body39 : Tryd.f39.body = some (.seq (regOf Tryd.f39 0) (.seq (.seq (regOf Tryd.f39 1) (.cond (.tmp 15) (.seq (regOf Tryd.f39 2) .ret) .skip)) (.seq (.seq (regOf Tryd.f39 3) (.cond (.tmp 18) (.seq (regOf Tryd.f39 4) (.seq (.seq (regOf Tryd.f39 5) (.cond (.tmp 27) (.seq (regOf Tryd.f39 6) (regOf Tryd.f39 7)) .skip)) (.seq (regOf Tryd.f39 8) .ret))) .skip)) (.seq (regOf Tryd.f39 9) (.seq (.seq (regOf Tryd.f39 10) (.block 0 (.loop (loopOf Tryd.f39 0)))) (.seq (regOf Tryd.f39 15) .ret)))))) := by kernel_rfl
theorem loop39_0 : loopOf Tryd.f39 0 = (.seq (regOf Tryd.f39 11) (.seq (.cond (.tmp 43) .skip (.exit 0)) (.seq (.block 1 (.seq (regOf Tryd.f39 12) (regOf Tryd.f39 13))) (regOf Tryd.f39 14)))) := by kernel_rfl
theorem body43 : Tryd.f43.body = some (.seq (regOf Tryd.f43 0) (.seq (.seq (regOf Tryd.f43 1) (.cond (.tmp 6) (.seq (regOf Tryd.f43 2) .ret) .skip)) (.seq (.seq (regOf Tryd.f43 3) (.cond (.tmp 16) (.seq (regOf Tryd.f43 4) (.seq (regOf Tryd.f43 5) .ret)) .skip)) (.seq (regOf Tryd.f43 6) (.seq (regOf Tryd.f43 7) (.seq (regOf Tryd.f43 8) .ret)))))) := by kernel_rfl
theorem body44 : Tryd.f44.body = some (.seq (regOf Tryd.f44 0) (.seq (regOf Tryd.f44 1) .ret)) := by kernel_rfl
theorem body45 : Tryd.f45.body = some (.seq (regOf Tryd.f45 0) (.seq (.seq (regOf Tryd.f45 1) (.cond (.tmp 4) (.seq (regOf Tryd.f45 2) .ret) .skip)) (.seq (regOf Tryd.f45 3) .ret))) := by kernel_rfl
theorem body46 : Tryd.f46.body = some (.seq (regOf Tryd.f46 0) (.seq (regOf Tryd.f46 1) (.block 0 (.loop (loopOf Tryd.f46 0))))) := by kernel_rfl
theorem loop46_0 : loopOf Tryd.f46 0 = (.block 1 (.seq (regOf Tryd.f46 2) (.seq (.seq (regOf Tryd.f46 3) (.cond (.tmp 19) (.seq (regOf Tryd.f46 4) .ret) .skip)) (regOf Tryd.f46 5)))) := by kernel_rfl
theorem body47 : Tryd.f47.body = some (.seq (regOf Tryd.f47 0) (.seq (regOf Tryd.f47 1) (.seq (regOf Tryd.f47 2) (.seq (.seq (regOf Tryd.f47 3) (.cond (.tmp 22) (.seq (regOf Tryd.f47 4) .ret) .skip)) (.seq (regOf Tryd.f47 5) (.seq (regOf Tryd.f47 6) (.seq (regOf Tryd.f47 7) .ret))))))) := by kernel_rfl
theorem body48 : Tryd.f48.body = some (.seq (regOf Tryd.f48 0) (.seq (regOf Tryd.f48 1) (.seq (regOf Tryd.f48 2) .ret))) := by kernel_rfl
theorem body49 : Tryd.f49.body = some (.seq (regOf Tryd.f49 0) (.seq (regOf Tryd.f49 1) (.seq (.seq (regOf Tryd.f49 2) (.seq (regOf Tryd.f49 3) (.cond (.tmp 21) (.seq (regOf Tryd.f49 4) .ret) .skip))) (.seq (regOf Tryd.f49 5) (.seq (.seq (regOf Tryd.f49 6) (.block 0 (.loop (loopOf Tryd.f49 0)))) (.seq (regOf Tryd.f49 11) (.seq (regOf Tryd.f49 12) .ret))))))) := by kernel_rfl
theorem loop49_0 : loopOf Tryd.f49 0 = (.seq (regOf Tryd.f49 7) (.seq (.cond (.tmp 33) .skip (.exit 0)) (.seq (.block 1 (.seq (regOf Tryd.f49 8) (regOf Tryd.f49 9))) (regOf Tryd.f49 10)))) := by kernel_rfl
theorem body50 : Tryd.f50.body = some (.seq (regOf Tryd.f50 0) (.seq (regOf Tryd.f50 1) (.seq (regOf Tryd.f50 2) (.seq (.seq (regOf Tryd.f50 3) (.block 0 (.seq (regOf Tryd.f50 4) (.cond (.tmp 23) (.seq (regOf Tryd.f50 5) .ret) (.seq (regOf Tryd.f50 6) (.cond (.tmp 29) (.seq (regOf Tryd.f50 7) .ret) .skip)))))) (.seq (regOf Tryd.f50 8) (.seq (.seq (regOf Tryd.f50 9) (.block 1 (.loop (loopOf Tryd.f50 1)))) (.seq (regOf Tryd.f50 14) .ret))))))) := by kernel_rfl
theorem loop50_1 : loopOf Tryd.f50 1 = (.seq (regOf Tryd.f50 10) (.seq (.cond (.tmp 46) .skip (.exit 1)) (.seq (.block 2 (.seq (regOf Tryd.f50 11) (regOf Tryd.f50 12))) (regOf Tryd.f50 13)))) := by kernel_rfl
theorem body53 : Tryd.f53.body = some (.seq (regOf Tryd.f53 0) (.seq (regOf Tryd.f53 1) (.seq (regOf Tryd.f53 2) (.seq (regOf Tryd.f53 3) (.seq (.seq (regOf Tryd.f53 4) (.block 0 (.loop (loopOf Tryd.f53 0)))) (.seq (regOf Tryd.f53 9) .ret)))))) := by kernel_rfl
theorem loop53_0 : loopOf Tryd.f53 0 = (.seq (regOf Tryd.f53 5) (.seq (.cond (.tmp 11) .skip (.exit 0)) (.seq (.block 1 (.seq (regOf Tryd.f53 6) (regOf Tryd.f53 7))) (regOf Tryd.f53 8)))) := by kernel_rfl
theorem body54 : Tryd.f54.body = some (.seq (regOf Tryd.f54 0) (.seq (regOf Tryd.f54 1) (.seq (.seq (regOf Tryd.f54 2) (.block 0 (.loop (loopOf Tryd.f54 0)))) (.seq (regOf Tryd.f54 7) .ret)))) := by kernel_rfl
theorem loop54_0 : loopOf Tryd.f54 0 = (.seq (regOf Tryd.f54 3) (.seq (.cond (.tmp 9) .skip (.exit 0)) (.seq (.block 1 (.seq (regOf Tryd.f54 4) (regOf Tryd.f54 5))) (regOf Tryd.f54 6)))) := by kernel_rfl
theorem body55 : Tryd.f55.body = some (.seq (regOf Tryd.f55 0) (.seq (regOf Tryd.f55 1) .ret)) := by kernel_rfl
theorem body56 : Tryd.f56.body = some (.seq (regOf Tryd.f56 0) (.seq (.seq (regOf Tryd.f56 1) (.block 0 (.loop (loopOf Tryd.f56 0)))) (.seq (regOf Tryd.f56 7) .ret))) := by kernel_rfl
theorem loop56_0 : loopOf Tryd.f56 0 = (.seq (regOf Tryd.f56 2) (.seq (.cond (.tmp 13) .skip (.exit 0)) (.seq (.block 1 (.seq (regOf Tryd.f56 3) (.seq (regOf Tryd.f56 4) (.cond (.tmp 28) (.seq (regOf Tryd.f56 5) .ret) .skip)))) (regOf Tryd.f56 6)))) := by kernel_rfl
theorem body62 : Tryd.f62.body = some (.seq (regOf Tryd.f62 0) (.seq (regOf Tryd.f62 1) .ret)) := by kernel_rfl
theorem body63 : Tryd.f63.body = some (.seq (regOf Tryd.f63 0) (.seq (regOf Tryd.f63 1) .ret)) := by kernel_rfl
theorem body64 : Tryd.f64.body = some (.seq (regOf Tryd.f64 0) (.seq (.block 0 (.loop (loopOf Tryd.f64 0))) (.seq (regOf Tryd.f64 4) .ret))) := by kernel_rfl
theorem loop64_0 : loopOf Tryd.f64 0 = (.seq (.seq (regOf Tryd.f64 1) (.cond (.tmp 14) .skip (.exit 0))) (.block 1 (.seq (regOf Tryd.f64 2) (regOf Tryd.f64 3)))) := by kernel_rfl
theorem body65 : Tryd.f65.body = some (.seq (regOf Tryd.f65 0) (.seq (regOf Tryd.f65 1) (.seq (regOf Tryd.f65 2) (.seq (.block 0 (.loop (loopOf Tryd.f65 0))) (.seq (regOf Tryd.f65 11) .ret))))) := by kernel_rfl
theorem loop65_0 : loopOf Tryd.f65 0 = (.seq (.seq (regOf Tryd.f65 3) (.cond (.tmp 20) .skip (.exit 0))) (.block 1 (.seq (regOf Tryd.f65 4) (.seq (regOf Tryd.f65 5) (.seq (.seq (regOf Tryd.f65 6) (.cond (.tmp 46) (.exit 1) .skip)) (.seq (regOf Tryd.f65 7) (.seq (.seq (regOf Tryd.f65 8) (.cond (.tmp 61) (.seq (regOf Tryd.f65 9) .ret) .skip)) (regOf Tryd.f65 10)))))))) := by kernel_rfl
theorem body66 : Tryd.f66.body = some (.seq (regOf Tryd.f66 0) (.seq (regOf Tryd.f66 1) (.seq (regOf Tryd.f66 2) .ret))) := by kernel_rfl
theorem body67 : Tryd.f67.body = some (.seq (regOf Tryd.f67 0) (.seq (.seq (regOf Tryd.f67 1) (.seq (regOf Tryd.f67 2) (.cond (.tmp 16) (regOf Tryd.f67 3) .skip))) (.seq (regOf Tryd.f67 4) .ret))) := by kernel_rfl
theorem body69 : Tryd.f69.body = some (.seq (regOf Tryd.f69 0) (.seq (.seq (regOf Tryd.f69 1) (.cond (.tmp 15) (regOf Tryd.f69 2) .skip)) (.seq (regOf Tryd.f69 3) (.block 0 (.loop (loopOf Tryd.f69 0)))))) := by kernel_rfl
theorem loop69_0 : loopOf Tryd.f69 0 = (.seq (regOf Tryd.f69 4) (.seq (.cond (.tmp 25) .skip (.exit 0)) (.seq (.block 1 (.seq (regOf Tryd.f69 5) (regOf Tryd.f69 6))) (regOf Tryd.f69 7)))) := by kernel_rfl
theorem body70 : Tryd.f70.body = some (.seq (regOf Tryd.f70 0) (.seq (regOf Tryd.f70 1) .ret)) := by kernel_rfl
theorem body74 : Tryd.f74.body = some (.seq (regOf Tryd.f74 0) (.seq (.seq (regOf Tryd.f74 1) (.block 0 (.loop (loopOf Tryd.f74 0)))) (.seq (regOf Tryd.f74 7) .ret))) := by kernel_rfl
theorem loop74_0 : loopOf Tryd.f74 0 = (.seq (regOf Tryd.f74 2) (.seq (.cond (.tmp 9) .skip (.exit 0)) (.seq (.block 1 (.seq (regOf Tryd.f74 3) (.seq (regOf Tryd.f74 4) (.cond (.tmp 16) (.seq (regOf Tryd.f74 5) .ret) .skip)))) (regOf Tryd.f74 6)))) := by kernel_rfl
theorem body76 : Tryd.f76.body = some (.seq (regOf Tryd.f76 0) (.seq (.seq (regOf Tryd.f76 1) (.block 0 (.loop (loopOf Tryd.f76 0)))) (.seq (regOf Tryd.f76 7) .ret))) := by kernel_rfl
theorem loop76_0 : loopOf Tryd.f76 0 = (.seq (regOf Tryd.f76 2) (.seq (.cond (.tmp 9) .skip (.exit 0)) (.seq (.block 1 (.seq (regOf Tryd.f76 3) (.seq (regOf Tryd.f76 4) (.cond (.tmp 16) (.seq (regOf Tryd.f76 5) .ret) .skip)))) (regOf Tryd.f76 6)))) := by kernel_rfl
theorem ok3 : fnOk Tryd.prog md fg 3 = true := by kernel_rfl
theorem ok7 : fnOk Tryd.prog md fg 7 = true := by kernel_rfl
theorem ok11 : fnOk Tryd.prog md fg 11 = true := by kernel_rfl
theorem ok14 : fnOk Tryd.prog md fg 14 = true := by kernel_rfl
theorem ok15 : fnOk Tryd.prog md fg 15 = true := by kernel_rfl
theorem ok23 : fnOk Tryd.prog md fg 23 = true := by kernel_rfl
theorem ok24 : fnOk Tryd.prog md fg 24 = true := by kernel_rfl
theorem ok25 : fnOk Tryd.prog md fg 25 = true := by kernel_rfl
theorem ok27 : fnOk Tryd.prog md fg 27 = true := by kernel_rfl
theorem ok28 : fnOk Tryd.prog md fg 28 = true := by kernel_rfl
theorem ok29 : fnOk Tryd.prog md fg 29 = true := by kernel_rfl
theorem ok30 : fnOk Tryd.prog md fg 30 = true := by kernel_rfl
theorem ok33 : fnOk Tryd.prog md fg 33 = true := by kernel_rfl
theorem ok34 : fnOk Tryd.prog md fg 34 = true := by kernel_rfl
theorem ok39 : fnOk Tryd.prog md fg 39 = true := by kernel_rfl
theorem ok43 : fnOk Tryd.prog md fg 43 = true := by kernel_rfl
theorem ok44 : fnOk Tryd.prog md fg 44 = true := by kernel_rfl
theorem ok45 : fnOk Tryd.prog md fg 45 = true := by kernel_rfl
theorem ok46 : fnOk Tryd.prog md fg 46 = true := by kernel_rfl
theorem ok47 : fnOk Tryd.prog md fg 47 = true := by kernel_rfl
theorem ok48 : fnOk Tryd.prog md fg 48 = true := by kernel_rfl
theorem ok49 : fnOk Tryd.prog md fg 49 = true := by kernel_rfl
theorem ok50 : fnOk Tryd.prog md fg 50 = true := by kernel_rfl
theorem ok53 : fnOk Tryd.prog md fg 53 = true := by kernel_rfl
theorem ok54 : fnOk Tryd.prog md fg 54 = true := by kernel_rfl
theorem ok55 : fnOk Tryd.prog md fg 55 = true := by kernel_rfl
theorem ok56 : fnOk Tryd.prog md fg 56 = true := by kernel_rfl
theorem ok62 : fnOk Tryd.prog md fg 62 = true := by kernel_rfl
theorem ok63 : fnOk Tryd.prog md fg 63 = true := by kernel_rfl
theorem ok64 : fnOk Tryd.prog md fg 64 = true := by kernel_rfl
theorem ok65 : fnOk Tryd.prog md fg 65 = true := by kernel_rfl
theorem ok66 : fnOk Tryd.prog md fg 66 = true := by kernel_rfl
theorem ok67 : fnOk Tryd.prog md fg 67 = true := by kernel_rfl
theorem ok69 : fnOk Tryd.prog md fg 69 = true := by kernel_rfl
theorem ok70 : fnOk Tryd.prog md fg 70 = true := by kernel_rfl
theorem ok74 : fnOk Tryd.prog md fg 74 = true := by kernel_rfl
theorem ok76 : fnOk Tryd.prog md fg 76 = true := by kernel_rfl
theorem aval_of {f : FuncId} {fn : Func} {c : Code} {rs : Array ResultVar} {nt : Nat} (hf : Tryd.prog.funcs[f]? = some fn) (hb : fn.body = some c) (hr : fn.results = rs) (hn : fn.ntmps = nt) (hok : fnOk Tryd.prog md fg f = true) (args : List AV) (h : AHeap) :
    aval Tryd.prog md fg f args h = finish Tryd.prog rs.toList (arun Tryd.prog md fg (fg f) c [] (env0 nt args) h) := aval_eq hf hb hr hn hok args h
def known : List FuncId := [3, 4, 5, 6, 7, 8, 9, 10, 11, 12, 13, 14, 15, 16, 17, 18, 19, 20, 21, 22, 23, 24, 25, 26, 27, 28, 29, 30, 31, 32, 33, 34, 35, 36, 37, 38, 39, 40, 41, 42, 43, 44, 45, 46, 47, 48, 49, 50, 51, 52, 53, 54, 55, 56, 57, 58, 59, 60, 61, 62, 63, 64, 65, 66, 67, 68, 69, 70, 71, 72, 73, 74, 75, 76, 77, 78, 79, 80, 81, 82, 83, 84, 85, 86, 87, 88, 111]
def knows (f : FuncId) : Bool := known.contains f
theorem okKnown : okAll Tryd.prog md fg knows := by
  have h : known.all (fun f => fnOk Tryd.prog md fg f) = true := by kernel_rfl
  intro f hf
  exact List.all_eq_true.1 h f (by simpa [knows] using hf)
end Go.Proofs.YtncjbccjpneoiaaDoor
