/- Parts of the proof, each with its own heading: What the engine must know of the functions of a seat: which slots outlive a region, bodies by the numbers of their regions, types. Printed by wip/tools. -/
import Derived.Test.YtedapgcaibbhoaaDoorPart8
import Derived.Test.YtedapgcaibbhoaaDoorChecked
set_option linter.unusedSimpArgs false
set_option linter.unusedVariables false
namespace Go.Proofs.YtedapgcaibbhoaaDoor
open Go Go.Ab Go.Proofs
set_option maxRecDepth 20000
/-- How functions are called: by value; 1 by reference; 2 the same, to read; 5 with a slice that may be nil. -/
def md : FuncId → Nat
  | 11 => 185
  | 27 => 1
  | 32 => 1
  | 33 => 1
  | 34 => 1
  | 35 => 1
  | 36 => 1
  | 40 => 1
  | 44 => 1
  | 46 => 1
  | 47 => 1
  | 48 => 1
  | 49 => 1
  | 50 => 1
  | 51 => 1
  | 52 => 1
  | 53 => 1
  | 55 => 1
  | 56 => 1
  | 57 => 1
  | 58 => 1
  | 59 => 1
  | 60 => 1
  | 61 => 5
  | 63 => 1
  | 64 => 1
  | 65 => 1
  | 66 => 1
  | 67 => 1
  | 72 => 1
  | _ => 0
theorem md3 : md 3 = 0 := rfl
theorem md4 : md 4 = 0 := rfl
theorem md5 : md 5 = 0 := rfl
theorem md6 : md 6 = 0 := rfl
theorem md7 : md 7 = 0 := rfl
theorem md8 : md 8 = 0 := rfl
theorem md9 : md 9 = 0 := rfl
theorem md10 : md 10 = 0 := rfl
theorem md11 : md 11 = 185 := rfl
theorem md12 : md 12 = 0 := rfl
theorem md13 : md 13 = 0 := rfl
theorem md14 : md 14 = 0 := rfl
theorem md15 : md 15 = 0 := rfl
theorem md16 : md 16 = 0 := rfl
theorem md17 : md 17 = 0 := rfl
theorem md18 : md 18 = 0 := rfl
theorem md19 : md 19 = 0 := rfl
theorem md20 : md 20 = 0 := rfl
theorem md21 : md 21 = 0 := rfl
theorem md22 : md 22 = 0 := rfl
theorem md23 : md 23 = 0 := rfl
theorem md24 : md 24 = 0 := rfl
theorem md25 : md 25 = 0 := rfl
theorem md26 : md 26 = 0 := rfl
theorem md27 : md 27 = 1 := rfl
theorem md28 : md 28 = 0 := rfl
theorem md29 : md 29 = 0 := rfl
theorem md30 : md 30 = 0 := rfl
theorem md31 : md 31 = 0 := rfl
theorem md32 : md 32 = 1 := rfl
theorem md33 : md 33 = 1 := rfl
theorem md34 : md 34 = 1 := rfl
theorem md35 : md 35 = 1 := rfl
theorem md36 : md 36 = 1 := rfl
theorem md37 : md 37 = 0 := rfl
theorem md38 : md 38 = 0 := rfl
theorem md39 : md 39 = 0 := rfl
theorem md40 : md 40 = 1 := rfl
theorem md41 : md 41 = 0 := rfl
theorem md42 : md 42 = 0 := rfl
theorem md43 : md 43 = 0 := rfl
theorem md44 : md 44 = 1 := rfl
theorem md45 : md 45 = 0 := rfl
theorem md46 : md 46 = 1 := rfl
theorem md47 : md 47 = 1 := rfl
theorem md48 : md 48 = 1 := rfl
theorem md49 : md 49 = 1 := rfl
theorem md50 : md 50 = 1 := rfl
theorem md51 : md 51 = 1 := rfl
theorem md52 : md 52 = 1 := rfl
theorem md53 : md 53 = 1 := rfl
theorem md54 : md 54 = 0 := rfl
theorem md55 : md 55 = 1 := rfl
theorem md56 : md 56 = 1 := rfl
theorem md57 : md 57 = 1 := rfl
theorem md58 : md 58 = 1 := rfl
theorem md59 : md 59 = 1 := rfl
theorem md60 : md 60 = 1 := rfl
theorem md61 : md 61 = 5 := rfl
theorem md62 : md 62 = 0 := rfl
theorem md63 : md 63 = 1 := rfl
theorem md64 : md 64 = 1 := rfl
theorem md65 : md 65 = 1 := rfl
theorem md66 : md 66 = 1 := rfl
theorem md67 : md 67 = 1 := rfl
theorem md68 : md 68 = 0 := rfl
theorem md69 : md 69 = 0 := rfl
theorem md70 : md 70 = 0 := rfl
theorem md71 : md 71 = 0 := rfl
theorem md72 : md 72 = 1 := rfl
theorem md73 : md 73 = 0 := rfl
theorem md74 : md 74 = 0 := rfl
theorem md75 : md 75 = 0 := rfl
theorem md76 : md 76 = 0 := rfl
theorem md77 : md 77 = 0 := rfl
theorem md78 : md 78 = 0 := rfl
theorem md79 : md 79 = 0 := rfl
theorem md102 : md 102 = 0 := rfl
/-- Which slots outlive a region, and a round of a loop. -/
def fg : FuncId → Nat → List Bool
  | 5, 0 => [false, false, true, true, true, true, true, true, true, true, true, false, true, false, false, false, false, false, false, false, true, false, false, false, false, false, false, false, false, false, false, false, false, false, false, false, false, false, false, false, false, false, false, false, false, false, false, false, false, false, false, false, false, false, false, false, false, false, false, false, false, true, false, true, false, true, true, true, true, false, false, false, false, false, false, false, false, false, false, false, false, false, false, false, false, false, false, false, false, false, false]
  | 5, 1 => [false, false, true, true, false, false, false, false, false, true, true, false, false, false, false, false, false, false, false, false, false, false, false, false, false, false, false, false, false, false, false, false, false, false, false, false, false, false, false, false, false, false, false, false, false, false, false, false, false, false, false, false, false, false, false, false, false, false, false, false, false, false, false, false, false, true, true, true, false, false, false, false, false, false, false, false, false, false, false, false, false, false, false, false, false, false, false, false, false, false, false]
  | 6, 0 => [false, false, true, true, true, false, true, true, true, false, false, false, false, false, false, false, false, false, false, false, false, false, false, false, true, false, false, true, true, true, true, false, false, false, false, false, true, false, false, false, false, false, false, false, false, false, false, true, false, false, false, false, false, false, false, false, false, false, false, false, false, false, false, false, false, false, false, false, false, false, false, false, false, false, false, false, false, false, false, false, false, false, false, false, false, false, false, false, false, false, false, false, false, false, false]
  | 6, 1 => [false, false, true, true, true, false, false, false, false, false, false, false, false, false, false, false, false, false, false, false, false, false, false, false, false, false, false, true, true, true, false, false, false, false, false, false, false, false, false, false, false, false, false, false, false, false, false, false, false, false, false, false, false, false, false, false, false, false, false, false, false, false, false, false, false, false, false, false, false, false, false, false, false, false, false, false, false, false, false, false, false, false, false, false, false, false, false, false, false, false, false, false, false, false, false]
  | 8, 0 => [false, true, true, true, true, false, false, false, false, true, false, false, false, false, false, false, false, false, false, false, false]
  | 8, 1 => [false, true, false, true, true, false, false, false, false, false, false, false, false, false, false, false, false, false, false, false, false]
  | 11, 0 => [false, true, true, true, false, false, true, true, true, true, false, false, false, false, false, false, false, false, true, false, false, false, false, false, false, false, false, true, false, false, false, true, false, false, false, false, false, false, false, false, false, false, false, false, false, false, false, false, false, true, false, false, false, false, false, false, false, false, false, false, false, false, false, false, false, false]
  | 11, 1 => [false, true, true, true, false, false, true, true, false, false, false, false, false, false, false, false, false, false, false, false, false, false, false, false, false, false, false, false, false, false, false, false, false, false, false, false, false, false, false, false, false, false, false, false, false, false, false, false, false, false, false, false, false, false, false, false, false, false, false, false, false, false, false, false, false, false]
  | 11, 3 => [false, true, true, true, false, false, true, false, true, true, false, false, false, false, false, false, false, false, false, false, false, false, false, false, false, false, false, false, false, false, false, false, false, false, false, false, false, false, false, false, false, false, false, false, false, false, false, false, false, false, false, false, false, false, false, false, false, false, false, false, false, false, false, false, false, false]
  | 13, 0 => [false, true, true, true, true, true, false, false, false, false, false, false, false, true, true, true, false, false, false, false, false, false, false, false, false, false, false, false]
  | 13, 1 => [false, true, true, true, true, false, false, false, false, false, false, false, false, true, true, false, false, false, false, false, false, false, false, false, false, false, false, false]
  | 14, 0 => [false, false, true, true, true, true, false, false, false, false, false, false, false, false, false, false, false, false, false, false, false, false, false, false, false, false, false, false, false, false, false, false, false, false, false, false, false, false, false, false, true, false, false, false, false, true, false, false, false, false, false, false, false, false, false, false, false, false, false]
  | 14, 1 => [false, false, true, true, true, true, false, false, false, false, false, false, false, false, false, false, false, false, false, false, false, false, false, false, false, false, false, false, false, false, false, false, false, false, false, false, false, false, false, false, false, false, false, false, false, false, false, false, false, false, false, false, false, false, false, false, false, false, false, false]
  | 15, 0 => [false, false, true, true, true, true, true, true, true, false, true, false, false, false, false, false, false, false, true, false, false, true, true, true, true, false, false, false, false, false, false, false, false, false, false, false, false]
  | 15, 1 => [false, false, false, false, false, false, true, false, true, false, false, false, false, false, false, false, false, false, false, false, false, true, true, true, false, false, false, false, false, false, false, false, false, false, false, false, false]
  | 17, 0 => [true, true, false, false, true, true, false, false, false, false, true, false, false, false, true, false, false, false, false, false, false, false, false, false, false, false, false, false, false, false, false, false, false, false, false, false, false, false, false, false, false]
  | 17, 1 => [true, true, false, false, true, true, false, false, false, false, false, false, false, false, false, false, false, false, false, false, false, false, false, false, false, false, false, false, false, false, false, false, false, false, false, false, false, false, false, false, false, false]
  | 19, 0 => [true, false, false, true, true, true, false, false, false, false, false, false, false, false, false, true, false, false, false, false, false, false, false, false, false, false, false, true, false, false, false, false, false, false, false, false, false, false]
  | 19, 1 => [true, false, false, true, false, true, false, false, false, false, false, false, false, false, false, false, false, false, false, false, false, false, false, false, false, false, false, false, false, false, false, false, false, false, false, false, false, false]
  | 21, 0 => [false, false, true, true, true, true, true, true, false, true, false, true, true, true, false, false, false, false, false, false, false, false, false, true, false, false, false, false, true, true, true, true, false, false, false, false, false, false, false, false, false, false, false, false, false, false, true, false, false, false, false, false, false, false, false, false, false, false, false, false, false, false, false, false, false, false, true, false, false]
  | 21, 1 => [false, false, true, false, true, true, true, false, false, false, false, false, false, false, false, false, false, false, false, false, false, false, false, false, false, false, false, false, true, true, true, false, false, false, false, false, false, false, false, false, false, false, false, false, false, false, false, false, false, false, false, false, false, false, false, false, false, false, false, false, false, false, false, false, false, false, false, false, false]
  | 24, 0 => [false, true, true, true, false, false, false, false, false, false, false, false, false, false, false, false, false, false, false, false, false, false, false, false, false, false, false, false, false, false, false, false, true, false, false, false, false, true, false, false, false, false, false, false, false, false]
  | 24, 1 => [false, true, true, true, false, false, false, false, false, false, false, false, false, false, false, false, false, false, false, false, false, false, false, false, false, false, false, false, false, false, false, false, false, false, false, false, false, false, false, false, false, false, false, false, false, false, false]
  | 27, 0 => [false, false, true, true, true, true, true, true, true, true, true, true, true, true, false, false, false, false, false, false, false, true, false, false, false, false, false, false, false, false, false, false, false, false, false, false, false, false, false, false, false, false, false, true, false, false, false, false, false, false, false, false, false, false, false, false, false, true, false, false, false, false, false, false, false, false, false, false, false, false, false, false, false, false, false, false, false, false, false, false, false, false, false, false, false, false, false, false, false, false, false, false, false, false, false, false, true, false, true, true, true, true, false, false, false, false, false, false, false, false, false, false, false, false, false, false, false]
  | 27, 1 => [false, false, false, false, true, true, true, true, false, false, false, false, false, false, false, false, false, false, false, false, false, false, false, false, false, false, false, false, false, false, false, false, false, false, false, false, false, false, false, false, false, false, false, false, false, false, false, false, false, false, false, false, false, false, false, false, false, false, false, false, false, false, false, false, false, false, false, false, false, false, false, false, false, false, false, false, false, false, false, false, false, false, false, false, false, false, false, false, false, false, false, false, false, false, false, false, false, false, false, false, false, false, false, false, false, false, false, false, false, false, false, false, false, false, false, false, false]
  | 27, 3 => [false, false, false, false, false, false, true, true, false, true, false, false, false, false, false, false, false, false, false, false, false, false, false, false, false, false, false, false, false, false, false, false, false, false, false, false, false, false, false, false, false, false, false, false, false, false, false, false, false, false, false, false, false, false, false, false, false, false, false, false, false, false, false, false, false, false, false, false, false, false, false, false, false, false, false, false, false, false, false, false, false, false, false, false, false, false, false, false, false, false, false, false, false, false, false, false, false, false, true, true, true, false, false, false, false, false, false, false, false, false, false, false, false, false, false, false, false]
  | 28, 0 => [true, false, true, true, true, false, true, false, true, true, true, true, false, false, false, false, false, false, false]
  | 28, 1 => [false, false, false, true, true, false, false, false, true, true, true, false, false, false, false, false, false, false, false]
  | 29, 0 => [false, true, true, true, false, false, true, true, true, true, true, false, false, true, false, false, false, false, false, false, false, false, false, false, false, true, false, false, false, false, false, false, false, true, false, false, false, false, false, false, true, true, true, true, false, false, false, false, false, false, false, false, false, false, false, false, false, false]
  | 29, 1 => [false, true, true, true, false, false, true, false, true, false, false, false, false, false, false, false, false, false, false, false, false, false, false, false, false, false, false, false, false, false, false, false, false, false, false, false, false, false, false, false, true, true, true, false, false, false, false, false, false, false, false, false, false, false, false, false, false, false]
  | 30, 0 => [true, false, false, false, true, true, true, true, true, true, true, true, false, false, true, false, false, false, false, false, true, false, false, false, false, false, false, false, false, false, false, false, false, false, false, false, false, false, false, false, false, false, false, false, false, false, false, false, false, false, false, false, false, false, false, false, false, false, false, false, false, false, false, false, false, false, false, false, false, false, false, false, true, false, false, false, false, true, false, false, false, false, false, false, false, false, false, false, false, false, false, false, false, false, false, false, true, false, false]
  | 30, 1 => [true, false, false, false, true, true, true, true, false, true, false, false, false, false, false, false, false, false, false, false, false, false, false, false, false, false, false, false, false, false, false, false, false, false, false, false, false, false, false, false, false, false, false, false, false, false, false, false, false, false, false, false, false, false, false, false, false, false, false, false, false, false, false, false, false, false, false, false, false, false, false, false, false, false, false, false, false, false, false, false, false, false, false, false, false, false, false, false, false, false, false, false, false, false, false, false, false, false, false]
  | 31, 0 => [true, true, false, false, true, true, false, false, false, true, false, false, false, false, false, false, false]
  | 31, 1 => [true, true, false, false, true, true, false, false, false, false, false, false, false, false, false, false, false, false]
  | 32, 0 => [true, false, true, true, true, true, true, true, true, false, true, false, false, false, false, false, false, false, true, true, true, true, false, false, false, false, false, false, false, false, false, false, false, false, false, false, false, false, false, false, false, false, false, false, false, false, false, false, false, false, false, false, false, false, false, false, false, false, false, false, false, false, false, false, false, false, false, false, false, false, true, true, true, true, false, false, false, false, false, false, false, false, false, false, false, true, false, false, false]
  | 32, 1 => [false, false, false, false, true, true, false, false, false, false, false, false, false, false, false, false, false, false, true, true, true, false, false, false, false, false, false, false, false, false, false, false, false, false, false, false, false, false, false, false, false, false, false, false, false, false, false, false, false, false, false, false, false, false, false, false, false, false, false, false, false, false, false, false, false, false, false, false, false, false, false, false, false, false, false, false, false, false, false, false, false, false, false, false, false, false, false, false, false]
  | 32, 3 => [false, false, true, true, true, false, false, false, false, false, false, false, false, false, false, false, false, false, false, false, false, false, false, false, false, false, false, false, false, false, false, false, false, false, false, false, false, false, false, false, false, false, false, false, false, false, false, false, false, false, false, false, false, false, false, false, false, false, false, false, false, false, false, false, false, false, false, false, false, false, true, true, true, false, false, false, false, false, false, false, false, false, false, false, false, false, false, false, false]
  | 34, 0 => [true, false, true, true, false, true, false, false, true, true, true, true, true, true, false, true, false, false, true, false, false, false, false, false, false, false, false, true, false, false, false, false, false, false, false, false, false, false, false, false, true, true, true, true, false, false, false, false, false, false, false, false, false, false, false, false, false, false, false, false, false, false, false, false, false]
  | 34, 1 => [true, false, true, true, false, true, false, false, false, false, false, true, false, false, false, false, false, false, false, false, false, false, false, false, false, false, false, false, false, false, false, false, false, false, false, false, false, false, false, false, true, true, true, false, false, false, false, false, false, false, false, false, false, false, false, false, false, false, false, false, false, false, false, false, false]
  | 37, 0 => [false, true, true, false, true, true, true, false, false, false, false, false, false, false, true, false, false, false, false, false, false, false, false, false, false, false, false, false, true, true, true, false, false, true, false, false, false, false, false, false, false, false, false, false, false, false, false]
  | 37, 1 => [false, true, true, false, false, true, false, false, false, false, false, false, false, false, false, false, false, false, false, false, false, false, false, false, false, false, false, false, true, true, false, false, false, false, false, false, false, false, false, false, false, false, false, false, false, false, false]
  | 40, 0 => [false, true, true, true, false, true, false, false, false, false, false, false, false, false, false, true, false, false, false, false, false, false, true, true, true, true, false, false, false, false, false, false]
  | 40, 1 => [false, false, true, false, false, false, false, false, false, false, false, false, false, false, false, false, false, false, false, false, false, false, true, true, true, false, false, false, false, false, false, false]
  | 42, 0 => [true, true, false, false, true, true, false, true, true, true, false, false, false, false, false, false, true, false, false]
  | 42, 1 => [true, true, false, false, true, false, false, true, true, false, false, false, false, false, false, false, false, false, false]
  | 43, 0 => [true, true, false, false, true, true, false, false, false, true, false, false, false, false, false, false, false, false, true, false]
  | 43, 1 => [true, true, false, false, true, true, false, false, false, false, false, false, false, false, false, false, false, false, false, false]
  | 45, 0 => [true, false, true, true, false, true, true, true, true, true, false, false, false, false, false, false, false, false, false]
  | 45, 1 => [false, false, false, true, false, false, true, true, true, false, false, false, false, false, false, false, false, false, false]
  | 47, 0 => [true, true, true, false, false, false, true, true, true, true, true, true, true, true, false, false, false, false, false, true, false, false, false, false, false, false, false, true, false, false, false, false, false, false, false, false, false, false, false, false, false, false, false, false, false, false, false, false, false, false, false, false, false, false, false, false, false, false, false, false, false, true, false, false, false, false, false, false, false, false, false, false, false, false, false, false, false, false, false, false, false, false, false, false, false, false, true, false, false, false, true, false, false, false, false, false, false, false, false, false, false, false, false, false, true, true, false, false, false, false, false, false, false, false, false, false, false, false, false, true, true, false, false, false, false, false]
  | 47, 1 => [true, false, false, false, false, false, true, true, true, false, false, false, false, false, false, false, false, false, false, false, false, false, false, false, false, false, false, false, false, false, false, false, false, false, false, false, false, false, false, false, false, false, false, false, false, false, false, false, false, false, false, false, false, false, false, false, false, false, false, false, false, false, false, false, false, false, false, false, false, false, false, false, false, false, false, false, false, false, false, false, false, false, false, false, false, false, false, false, false, false, false, false, false, false, false, false, false, false, false, false, false, false, false, false, false, false, false, false, false, false, false, false, false, false, false, false, false, false, false, false, false, false, false, false, false, false]
  | 47, 4 => [true, false, false, false, false, false, false, true, true, false, true, true, true, true, false, false, false, false, false, false, false, false, false, false, false, false, false, false, false, false, false, false, false, false, false, false, false, false, false, false, false, false, false, false, false, false, false, false, false, false, false, false, false, false, false, false, false, false, false, false, false, false, false, false, false, false, false, false, false, false, false, false, false, false, false, false, false, false, false, false, false, false, false, false, false, false, false, false, false, false, false, false, false, false, false, false, false, false, false, false, false, false, false, false, false, false, false, false, false, false, false, false, false, false, false, false, false, false, false, false, false, false, false, false, false, false]
  | 48, 0 => [true, true, true, false, false, false, true, true, true, true, false, true, false, false, false, false, false, false, false, false, false, true, false, false, false, false, false, false, false, false, true, true, true, true, false, false, false, false, false, false, false, false, false, false, false, false, false, false]
  | 48, 1 => [true, true, true, false, false, false, false, false, false, true, false, false, false, false, false, false, false, false, false, false, false, false, false, false, false, false, false, false, false, false, true, true, true, false, false, false, false, false, false, false, false, false, false, false, false, false, false, false]
  | 49, 0 => [true, true, true, false, false, false, true, true, true, false, true, false, false, false, false, false, false, false, false, false, false, false, true, true, false, false, false, false, false, true, false, false, false, false, false, false, false, false, false, false, false, false, false, true, true, true, true, false, false, false, false, false, false, false, false, false, false, false, false, false]
  | 49, 2 => [true, false, true, false, false, false, true, false, true, false, false, false, false, false, false, false, false, false, false, false, false, false, false, false, false, false, false, false, false, false, false, false, false, false, false, false, false, false, false, false, false, false, false, true, true, true, false, false, false, false, false, false, false, false, false, false, false, false, false, false]
  | 50, 0 => [true, true, false, false, true, false, true, false, false, false, true, true, true, true, false, false, false, false, false, false, false, false, false, false, false, false, false, false, true, false, false]
  | 50, 1 => [true, true, false, false, true, false, false, false, false, false, true, true, true, false, false, false, false, false, false, false, false, false, false, false, false, false, false, false, false, false, false]
  | 55, 0 => [true, true, true, false, false, false, true, true, true, true, false, false, false, false, true, true, true, true, true, false, false, false, false, false, false, false, false, false, false, false, true, false]
  | 55, 1 => [false, true, true, false, false, false, true, false, false, false, false, false, false, false, false, true, true, true, false, false, false, false, false, false, false, false, false, false, false, false, false, false]
  | 57, 0 => [true, true, true, false, false, false, true, true, true, false, false, false, false, false, false, false, false, false, false, true, false, false, false, false]
  | 57, 1 => [true, true, true, false, false, false, true, false, false, false, false, false, false, false, false, false, false, false, false, false, false, false, false, false]
  | 60, 0 => [true, true, false, false, true, false, false, false, false, false, false, false, false, false, true, false, false, false, false, false, false, false, false, false, false, false, false, false, false, false, false, false, false, false, false, false, false, false, false, false, false, false, false, false, false, false]
  | 60, 1 => [true, true, false, false, false, false, false, false, false, false, false, false, false, false, false, false, false, false, false, false, false, false, false, false, false, false, false, false, false, false, false, false, false, false, false, false, false, false, false, false, false, false, false, false, false, false]
  | 65, 0 => [true, true, true, false, false, false, true, true, true, false, false, false, false, false, false, false, false, false, false, false, true, false, false, false, false, false, false, false, false, false, false, false, false, false, false, false, false, false, false, false, false, false, false, false, false, false, true, false, false, false, false, false, false, false, false, false, false, false, false, false, false, true, false, false, false, false, false, false, false, false, false, false]
  | 65, 1 => [true, false, true, false, false, false, true, true, false, false, false, false, false, false, false, false, false, false, false, false, false, false, false, false, false, false, false, false, false, false, false, false, false, false, false, false, false, false, false, false, false, false, false, false, false, false, false, false, false, false, false, false, false, false, false, false, false, false, false, false, false, false, false, false, false, false, false, false, false, false, false, false]
  | 70, 0 => [true, true, false, false, true, true, true, true, true, true, true, true, true, true, true, true, true, false, false, false, true, false, false, false, false, false, false, false, false, false, false, false, false, false, false, false, false, false, false, false, false, false, false, false, false, false, false, false, false, false, false, false, false, false, false, false, false, false, false, false, false, false, false, false, false, false, false, false, false, false, false, false, false, false, false, false, false, false, false, false, false, false, false, false, false, false, false, false, false, false, false, false, false, false, false, false, false, false, false, true, false, false, false, false, false, false, false, false, false, false, false, false, false, false, false, false, false, false, false, false, false, false, false, false, false, false, false, false, false, false, false, false, false, false, false, false, false, false, false, true, false, false, false, false, false, false, false, false, false, false, false, false, false, false, false, false, false, false, false, false, false, true, false, false, false, false, false]
  | 70, 1 => [true, true, false, false, true, false, false, false, false, false, false, false, false, false, false, false, false, false, false, false, false, false, false, false, false, false, false, false, false, false, false, false, false, false, false, false, false, false, false, false, false, false, false, false, false, false, false, false, false, false, false, false, false, false, false, false, false, false, false, false, false, false, false, false, false, false, false, false, false, false, false, false, false, false, false, false, false, false, false, false, false, false, false, false, false, false, false, false, false, false, false, false, false, false, false, false, false, false, false, false, false, false, false, false, false, false, false, false, false, false, false, false, false, false, false, false, false, false, false, false, false, false, false, false, false, false, false, false, false, false, false, false, false, false, false, false, false, false, false, false, false, false, false, false, false, false, false, false, false, false, false, false, false, false, false, false, false, false, false, false, false, false, false, false, false, false, false]
  | 71, 0 => [true, true, true, true, true, false, false, false, false, false, true, true, true, true, true, true, true, true, true, false, false, false, false, false, false, false, false, false, true, false, true, false, false, false, true, false, false, false, false, false, false, false, false, false, false, false, true, false, false, false, false, false, false, false, false, false, false, false, false, false, false, false, false, false, false, false, false, false, true, false, false, false, false, false, false, false, false, false, false, false, false, false, false, false, false, false, false, false, false, true, false, false, false, false, true, false, false, false, false, false, false, false]
  | 71, 1 => [true, true, false, true, true, false, false, false, false, false, true, true, true, true, true, true, true, false, false, false, false, false, false, false, false, false, false, false, false, false, false, false, false, false, false, false, false, false, false, false, false, false, false, false, false, false, false, false, false, false, false, false, false, false, false, false, false, false, false, false, false, false, false, false, false, false, false, false, false, false, false, false, false, false, false, false, false, false, false, false, false, false, false, false, false, false, false, false, false, false, false, false, false, false, false, false, false, false, false, false, false, false]
  | 71, 3 => [true, true, false, true, true, false, false, false, false, false, true, true, true, true, false, false, false, true, false, false, false, false, false, false, false, false, false, false, false, false, false, false, false, false, false, false, false, false, false, false, false, false, false, false, false, false, false, false, false, false, false, false, false, false, false, false, false, false, false, false, false, false, false, false, false, false, false, false, false, false, false, false, false, false, false, false, false, false, false, false, false, false, false, false, false, false, false, false, false, false, false, false, false, false, false, false, false, false, false, false, false, false]
  | 72, 0 => [true, true, false, false, true, true, false, true, true, true, false, false, false, false, false, false, true, false, false]
  | 72, 1 => [true, true, false, false, true, false, false, true, true, false, false, false, false, false, false, false, false, false, false]
  | 4, 100003 => [true]
  | 5, 100014 => [true]
  | 5, 100016 => [true]
  | 19, 100002 => [true]
  | 21, 100007 => [true]
  | 21, 100011 => [true]
  | 27, 100004 => [true]
  | 30, 100004 => [true]
  | 30, 100005 => [true]
  | 30, 100011 => [true]
  | 32, 100006 => [true]
  | 32, 100008 => [true]
  | 47, 100008 => [true]
  | 49, 100012 => [true]
  | 58, 100001 => [true]
  | 59, 100001 => [true]
  | 70, 100007 => [true]
  | 70, 100008 => [true]
  | 70, 100009 => [true]
  | 70, 100010 => [true]
  | 70, 100017 => [true]
  | 70, 100018 => [true]
  | 70, 100023 => [true]
  | 4, 200003 => [true, true, true, true, true, true, false, true, true, true, true, true, true, true, false, false, true, false, true, true, false, true, true, true, false, true, true, true, true, false, true, true, true, true, true, false, true, true, true, true, true, true, true, true, false, true, true, true, true, true, true, true, true, true, false]
  | 4, 300003 => [true, true]
  | 4, 1003001 => [false, true, false]
  | 4, 1003004 => [false, true, false]
  | 5, 200014 => [false, true, false, true, true, false, true, true, true, false, true, true, true, true, false, true, true, true, true, true, false, true, true, true, true, true, true, false, true, true, true, true, true, true, true, false, true, true, true, true, true, true, true, true, false, true, true, true, true, true, true, true, true, true, false, true, true, true, true, true, true, true, true, true, true, false, true, true, true, true, true, true, true, true, true, true, true, false]
  | 5, 200016 => [false, true, false, true, true, false, true, true, true, false, true, true, true, true, false, true, true, true, true, true, false, true, true, true, true, true, true, false, true, true, true, true, true, true, true, false, true, true, true, true, true, true, true, true, false, true, true, true, true, true, true, true, true, true, false]
  | 19, 200002 => [false, true, false, true, true, false, true, true, true, false, true, true, true, true, false, true, true, true, true, true, false, true, true, true, true, true, true, false, true, true, true, true, true, true, true, false]
  | 21, 200007 => [true, true, true, true, true, true, true, true, true, true, true, false, false, true, false, true, true, false, true, true, true, false, true, true, true, true, false, true, true, true, true, true, false, true, true, true, true, true, true, false, true, true, true, true, true, true, true, false, true, true, true, true, true, true, true, true, false, true, true, true, true, true, true, true, true, true, false, true, true, true, true, true, true, true, true, true, true, false, true, true, true, true, true, true, true, true, true, true, true, true, false, true, true, true, true, true, true, true, true, true, true, true, true, true, false]
  | 21, 300007 => [true]
  | 21, 1007000 => [false]
  | 21, 1007001 => [false]
  | 21, 1007004 => [false]
  | 21, 1007006 => [false]
  | 21, 1007007 => [false]
  | 21, 200011 => [true, true, true, true, true, true, true, true, true, true, true, true, true, true, true, true, false, false, true, false, true, true, false, true, true, true, false, true, true, true, true, false, true, true, true, true, true, false, true, true, true, true, true, true, false, true, true, true, true, true, true, true, false, true, true, true, true, true, true, true, true, false, true, true, true, true, true, true, true, true, true, false, true, true, true, true, true, true, true, true, true, true, false, true, true, true, true, true, true, true, true, true, true, true, false, true, true, true, true, true, true, true, true, true, true, true, true, false, true, true, true, true, true, true, true, true, true, true, true, true, true, false, true, true, true, true, true, true, true, true, true, true, true, true, true, true, false, true, true, true, true, true, true, true, true, true, true, true, true, true, true, true, false, true, true, true, true, true, true, true, true, true, true, true, true, true, true, true, true, true, false, true, true, true, true, true, true, true, true, true, true, true, true, true, true, true, true, true, true, false]
  | 21, 300011 => [true]
  | 21, 1011000 => [false]
  | 21, 1011001 => [false]
  | 21, 1011004 => [false]
  | 21, 1011005 => [false]
  | 21, 1011006 => [false]
  | 21, 1011009 => [false]
  | 21, 1011011 => [false]
  | 21, 1011012 => [false]
  | 27, 200004 => [true, true, true, true, true, true, true, true, true, true, true, true, true, true, false, true, true, true, true, true, true, true, true, true, true, true, true, true, true, true, false, false, true, false, true, true, false, true, true, true, false, true, true, true, true, false, true, true, true, true, true, false, true, true, true, true, true, true, false, true, true, true, true, true, true, true, false, true, true, true, true, true, true, true, true, false, true, true, true, true, true, true, true, true, true, false, true, true, true, true, true, true, true, true, true, true, false, true, true, true, true, true, true, true, true, true, true, true, false, true, true, true, true, true, true, true, true, true, true, true, true, false, true, true, true, true, true, true, true, true, true, true, true, true, true, false, true, true, true, true, true, true, true, true, true, true, true, true, true, true, true, true, false, true, true, true, true, true, true, true, true, true, true, true, true, true, true, true, true, true, false]
  | 27, 300004 => [true, true]
  | 27, 1004006 => [false, true, false]
  | 27, 1004013 => [false, true, false]
  | 30, 200004 => [false, true, false, true, true, false, true, true, true, false, true, true, true, true, false, true, true, true, true, true, false, true, true, true, true, true, true, false, true, true, true, true, true, true, true, false, true, true, true, true, true, true, true, true, false, true, true, true, true, true, true, true, true, true, false]
  | 30, 200005 => [false, true, false, true, true, false, true, true, true, false, true, true, true, true, false, true, true, true, true, true, false, true, true, true, true, true, true, false, true, true, true, true, true, true, true, false, true, true, true, true, true, true, true, true, false, true, true, true, true, true, true, true, true, true, false, true, true, true, true, true, true, true, true, true, true, false]
  | 30, 200011 => [false, true, false, true, true, false, true, true, true, false, true, true, true, true, false, true, true, true, true, true, false, true, true, true, true, true, true, false, true, true, true, true, true, true, true, false, true, true, true, true, true, true, true, true, false, true, true, true, true, true, true, true, true, true, false, true, true, true, true, true, true, true, true, true, true, false, true, true, true, true, true, true, true, true, true, true, true, false, true, true, true, true, true, true, true, true, true, true, true, true, false, true, true, true, true, true, true, true, true, true, true, true, true, true, false, true, true, true, true, true, true, true, true, true, true, true, true, true, true, false, true, true, true, true, true, true, true, true, true, true, true, true, true, true, true, false, true, true, true, true, true, true, true, true, true, true, true, true, true, true, true, true, false]
  | 32, 200006 => [false, true, false, true, true, false, true, true, true, false, true, true, true, true, false, true, true, true, true, true, false, true, true, true, true, true, true, false, true, true, true, true, true, true, true, false, true, true, true, true, true, true, true, true, false, true, true, true, true, true, true, true, true, true, false, true, true, true, true, true, true, true, true, true, true, false, true, true, true, true, true, true, true, true, true, true, true, false, true, true, true, true, true, true, true, true, true, true, true, true, false, true, true, true, true, true, true, true, true, true, true, true, true, true, false, true, true, true, true, true, true, true, true, true, true, true, true, true, true, false, true, true, true, true, true, true, true, true, true, true, true, true, true, true, true, false]
  | 32, 200008 => [false, true, false, true, true, false, true, true, true, false, true, true, true, true, false, true, true, true, true, true, false, true, true, true, true, true, true, false, true, true, true, true, true, true, true, false, true, true, true, true, true, true, true, true, false, true, true, true, true, true, true, true, true, true, false, true, true, true, true, true, true, true, true, true, true, false, true, true, true, true, true, true, true, true, true, true, true, false, true, true, true, true, true, true, true, true, true, true, true, true, false, true, true, true, true, true, true, true, true, true, true, true, true, true, false, true, true, true, true, true, true, true, true, true, true, true, true, true, true, false, true, true, true, true, true, true, true, true, true, true, true, true, true, true, true, false, true, true, true, true, true, true, true, true, true, true, true, true, true, true, true, true, false, true, true, true, true, true, true, true, true, true, true, true, true, true, true, true, true, true, false, true, true, true, true, true, true, true, true, true, true, true, true, true, true, true, true, true, true, false, true, true, true, true, true, true, true, true, true, true, true, true, true, true, true, true, true, true, true, false, true, true, true, true, true, true, true, true, true, true, true, true, true, true, true, true, true, true, true, true, false, true, true, true, true, true, true, true, true, true, true, true, true, true, true, true, true, true, true, true, true, true, false, true, true, true, true, true, true, true, true, true, true, true, true, true, true, true, true, true, true, true, true, true, true, false, true, true, true, true, true, true, true, true, true, true, true, true, true, true, true, true, true, true, true, true, true, true, true, false, true, true, true, true, true, true, true, true, true, true, true, true, true, true, true, true, true, true, true, true, true, true, true, true, false, true, true, true, true, true, true, true, true, true, true, true, true, true, true, true, true, true, true, true, true, true, true, true, true, true, false, true, true, true, true, true, true, true, true, true, true, true, true, true, true, true, true, true, true, true, true, true, true, true, true, true, true, false, true, true, true, true, true, true, true, true, true, true, true, true, true, true, true, true, true, true, true, true, true, true, true, true, true, true, true, false, true, true, true, true, true, true, true, true, true, true, true, true, true, true, true, true, true, true, true, true, true, true, true, true, true, true, true, true, false]
  | 47, 200008 => [false, true, false, true, true, false, true, true, true, false, true, true, true, true, false, true, true, true, true, true, false, true, true, true, true, true, true, false, true, true, true, true, true, true, true, false, true, true, true, true, true, true, true, true, false, true, true, true, true, true, true, true, true, true, false, true, true, true, true, true, true, true, true, true, true, false, true, true, true, true, true, true, true, true, true, true, true, false]
  | 49, 200012 => [false, true, false, true, true, false, true, true, true, false, true, true, true, true, false, true, true, true, true, true, false, true, true, true, true, true, true, false, true, true, true, true, true, true, true, false, true, true, true, true, true, true, true, true, false, true, true, true, true, true, true, true, true, true, false]
  | 58, 200001 => [true, true, true, true, true, true, true, true, false, false, true, false, true, true, false, true, true, true, false, true, true, true, true, false, true, true, true, true, true, false, true, true, true, true, true, true, false, true, true, true, true, true, true, true, false, true, true, true, true, true, true, true, true, true, false]
  | 58, 300001 => [true]
  | 58, 1001000 => [false]
  | 58, 1001003 => [false]
  | 58, 1001004 => [false]
  | 58, 1001007 => [false]
  | 59, 200001 => [false, true, false, true, true, false, true, true, true, false, true, true, true, true, false, true, true, true, true, true, false, true, true, true, true, true, true, false, true, true, true, true, true, true, true, false, true, true, true, true, true, true, true, true, false, true, true, true, true, true, true, true, true, true, false, true, true, true, true, true, true, true, true, true, true, false, true, true, true, true, true, true, true, true, true, true, true, false, true, true, true, true, true, true, true, true, true, true, true, true, false, true, true, true, true, true, true, true, true, true, true, true, true, true, false]
  | 70, 200007 => [false, true, false, true, true, false, true, true, true, false, true, true, true, true, false, true, true, true, true, true, false, true, true, true, true, true, true, false, true, true, true, true, true, true, true, false, true, true, true, true, true, true, true, true, false, true, true, true, true, true, true, true, true, true, false, true, true, true, true, true, true, true, true, true, true, false, true, true, true, true, true, true, true, true, true, true, true, false, true, true, true, true, true, true, true, true, true, true, true, true, false, true, true, true, true, true, true, true, true, true, true, true, true, true, false, true, true, true, true, true, true, true, true, true, true, true, true, true, true, false]
  | 70, 200008 => [false, true, false, true, true, false, true, true, true, false, true, true, true, true, false, true, true, true, true, true, false, true, true, true, true, true, true, false, true, true, true, true, true, true, true, false, true, true, true, true, true, true, true, true, false, true, true, true, true, true, true, true, true, true, false, true, true, true, true, true, true, true, true, true, true, false, true, true, true, true, true, true, true, true, true, true, true, false, true, true, true, true, true, true, true, true, true, true, true, true, false, true, true, true, true, true, true, true, true, true, true, true, true, true, false, true, true, true, true, true, true, true, true, true, true, true, true, true, true, false]
  | 70, 200009 => [false, true, false, true, true, false, true, true, true, false, true, true, true, true, false, true, true, true, true, true, false, true, true, true, true, true, true, false, true, true, true, true, true, true, true, false, true, true, true, true, true, true, true, true, false, true, true, true, true, true, true, true, true, true, false, true, true, true, true, true, true, true, true, true, true, false, true, true, true, true, true, true, true, true, true, true, true, false, true, true, true, true, true, true, true, true, true, true, true, true, false, true, true, true, true, true, true, true, true, true, true, true, true, true, false, true, true, true, true, true, true, true, true, true, true, true, true, true, true, false]
  | 70, 200010 => [false, true, false, true, true, false, true, true, true, false, true, true, true, true, false, true, true, true, true, true, false, true, true, true, true, true, true, false, true, true, true, true, true, true, true, false, true, true, true, true, true, true, true, true, false, true, true, true, true, true, true, true, true, true, false, true, true, true, true, true, true, true, true, true, true, false, true, true, true, true, true, true, true, true, true, true, true, false, true, true, true, true, true, true, true, true, true, true, true, true, false, true, true, true, true, true, true, true, true, true, true, true, true, true, false, true, true, true, true, true, true, true, true, true, true, true, true, true, true, false]
  | 70, 200017 => [false, true, false, true, true, false, true, true, true, false, true, true, true, true, false, true, true, true, true, true, false, true, true, true, true, true, true, false, true, true, true, true, true, true, true, false, true, true, true, true, true, true, true, true, false, true, true, true, true, true, true, true, true, true, false, true, true, true, true, true, true, true, true, true, true, false, true, true, true, true, true, true, true, true, true, true, true, false, true, true, true, true, true, true, true, true, true, true, true, true, false, true, true, true, true, true, true, true, true, true, true, true, true, true, false, true, true, true, true, true, true, true, true, true, true, true, true, true, true, false]
  | 70, 200018 => [false, true, false, true, true, false, true, true, true, false, true, true, true, true, false, true, true, true, true, true, false, true, true, true, true, true, true, false, true, true, true, true, true, true, true, false, true, true, true, true, true, true, true, true, false, true, true, true, true, true, true, true, true, true, false, true, true, true, true, true, true, true, true, true, true, false, true, true, true, true, true, true, true, true, true, true, true, false, true, true, true, true, true, true, true, true, true, true, true, true, false, true, true, true, true, true, true, true, true, true, true, true, true, true, false, true, true, true, true, true, true, true, true, true, true, true, true, true, true, false]
  | 70, 200023 => [false, true, false, true, true, false, true, true, true, false, true, true, true, true, false, true, true, true, true, true, false, true, true, true, true, true, true, false, true, true, true, true, true, true, true, false, true, true, true, true, true, true, true, true, false, true, true, true, true, true, true, true, true, true, false, true, true, true, true, true, true, true, true, true, true, false, true, true, true, true, true, true, true, true, true, true, true, false, true, true, true, true, true, true, true, true, true, true, true, true, false, true, true, true, true, true, true, true, true, true, true, true, true, true, false, true, true, true, true, true, true, true, true, true, true, true, true, true, true, false]
  | _, _ => []
theorem fg_3_0 (e : Env) : mask (fg 3 0) e = mask [] e := rfl
theorem fg_4_0 (e : Env) : mask (fg 4 0) e = mask [] e := rfl
theorem fg_5_0 (e : Env) : mask (fg 5 0) e = mask [false, false, true, true, true, true, true, true, true, true, true, false, true, false, false, false, false, false, false, false, true, false, false, false, false, false, false, false, false, false, false, false, false, false, false, false, false, false, false, false, false, false, false, false, false, false, false, false, false, false, false, false, false, false, false, false, false, false, false, false, false, true, false, true, false, true, true, true, true, false, false, false, false, false, false, false, false, false, false, false, false, false, false, false, false, false, false, false, false, false, false] e := rfl
theorem fg_5_1 (e : Env) : mask (fg 5 1) e = mask [false, false, true, true, false, false, false, false, false, true, true, false, false, false, false, false, false, false, false, false, false, false, false, false, false, false, false, false, false, false, false, false, false, false, false, false, false, false, false, false, false, false, false, false, false, false, false, false, false, false, false, false, false, false, false, false, false, false, false, false, false, false, false, false, false, true, true, true, false, false, false, false, false, false, false, false, false, false, false, false, false, false, false, false, false, false, false, false, false, false, false] e := rfl
theorem fg_5_2 (e : Env) : mask (fg 5 2) e = mask [] e := rfl
theorem fg_6_0 (e : Env) : mask (fg 6 0) e = mask [false, false, true, true, true, false, true, true, true, false, false, false, false, false, false, false, false, false, false, false, false, false, false, false, true, false, false, true, true, true, true, false, false, false, false, false, true, false, false, false, false, false, false, false, false, false, false, true, false, false, false, false, false, false, false, false, false, false, false, false, false, false, false, false, false, false, false, false, false, false, false, false, false, false, false, false, false, false, false, false, false, false, false, false, false, false, false, false, false, false, false, false, false, false, false] e := rfl
theorem fg_6_1 (e : Env) : mask (fg 6 1) e = mask [false, false, true, true, true, false, false, false, false, false, false, false, false, false, false, false, false, false, false, false, false, false, false, false, false, false, false, true, true, true, false, false, false, false, false, false, false, false, false, false, false, false, false, false, false, false, false, false, false, false, false, false, false, false, false, false, false, false, false, false, false, false, false, false, false, false, false, false, false, false, false, false, false, false, false, false, false, false, false, false, false, false, false, false, false, false, false, false, false, false, false, false, false, false, false] e := rfl
theorem fg_6_2 (e : Env) : mask (fg 6 2) e = mask [] e := rfl
theorem fg_7_0 (e : Env) : mask (fg 7 0) e = mask [] e := rfl
theorem fg_8_0 (e : Env) : mask (fg 8 0) e = mask [false, true, true, true, true, false, false, false, false, true, false, false, false, false, false, false, false, false, false, false, false] e := rfl
theorem fg_8_1 (e : Env) : mask (fg 8 1) e = mask [false, true, false, true, true, false, false, false, false, false, false, false, false, false, false, false, false, false, false, false, false] e := rfl
theorem fg_8_2 (e : Env) : mask (fg 8 2) e = mask [] e := rfl
theorem fg_9_0 (e : Env) : mask (fg 9 0) e = mask [] e := rfl
theorem fg_10_0 (e : Env) : mask (fg 10 0) e = mask [] e := rfl
theorem fg_11_0 (e : Env) : mask (fg 11 0) e = mask [false, true, true, true, false, false, true, true, true, true, false, false, false, false, false, false, false, false, true, false, false, false, false, false, false, false, false, true, false, false, false, true, false, false, false, false, false, false, false, false, false, false, false, false, false, false, false, false, false, true, false, false, false, false, false, false, false, false, false, false, false, false, false, false, false, false] e := rfl
theorem fg_11_1 (e : Env) : mask (fg 11 1) e = mask [false, true, true, true, false, false, true, true, false, false, false, false, false, false, false, false, false, false, false, false, false, false, false, false, false, false, false, false, false, false, false, false, false, false, false, false, false, false, false, false, false, false, false, false, false, false, false, false, false, false, false, false, false, false, false, false, false, false, false, false, false, false, false, false, false, false] e := rfl
theorem fg_11_2 (e : Env) : mask (fg 11 2) e = mask [] e := rfl
theorem fg_11_3 (e : Env) : mask (fg 11 3) e = mask [false, true, true, true, false, false, true, false, true, true, false, false, false, false, false, false, false, false, false, false, false, false, false, false, false, false, false, false, false, false, false, false, false, false, false, false, false, false, false, false, false, false, false, false, false, false, false, false, false, false, false, false, false, false, false, false, false, false, false, false, false, false, false, false, false, false] e := rfl
theorem fg_11_4 (e : Env) : mask (fg 11 4) e = mask [] e := rfl
theorem fg_12_0 (e : Env) : mask (fg 12 0) e = mask [] e := rfl
theorem fg_13_0 (e : Env) : mask (fg 13 0) e = mask [false, true, true, true, true, true, false, false, false, false, false, false, false, true, true, true, false, false, false, false, false, false, false, false, false, false, false, false] e := rfl
theorem fg_13_1 (e : Env) : mask (fg 13 1) e = mask [false, true, true, true, true, false, false, false, false, false, false, false, false, true, true, false, false, false, false, false, false, false, false, false, false, false, false, false] e := rfl
theorem fg_13_2 (e : Env) : mask (fg 13 2) e = mask [] e := rfl
theorem fg_14_0 (e : Env) : mask (fg 14 0) e = mask [false, false, true, true, true, true, false, false, false, false, false, false, false, false, false, false, false, false, false, false, false, false, false, false, false, false, false, false, false, false, false, false, false, false, false, false, false, false, false, false, true, false, false, false, false, true, false, false, false, false, false, false, false, false, false, false, false, false, false] e := rfl
theorem fg_14_1 (e : Env) : mask (fg 14 1) e = mask [false, false, true, true, true, true, false, false, false, false, false, false, false, false, false, false, false, false, false, false, false, false, false, false, false, false, false, false, false, false, false, false, false, false, false, false, false, false, false, false, false, false, false, false, false, false, false, false, false, false, false, false, false, false, false, false, false, false, false, false] e := rfl
theorem fg_14_2 (e : Env) : mask (fg 14 2) e = mask [] e := rfl
theorem fg_15_0 (e : Env) : mask (fg 15 0) e = mask [false, false, true, true, true, true, true, true, true, false, true, false, false, false, false, false, false, false, true, false, false, true, true, true, true, false, false, false, false, false, false, false, false, false, false, false, false] e := rfl
theorem fg_15_1 (e : Env) : mask (fg 15 1) e = mask [false, false, false, false, false, false, true, false, true, false, false, false, false, false, false, false, false, false, false, false, false, true, true, true, false, false, false, false, false, false, false, false, false, false, false, false, false] e := rfl
theorem fg_15_2 (e : Env) : mask (fg 15 2) e = mask [] e := rfl
theorem fg_16_0 (e : Env) : mask (fg 16 0) e = mask [] e := rfl
theorem fg_17_0 (e : Env) : mask (fg 17 0) e = mask [true, true, false, false, true, true, false, false, false, false, true, false, false, false, true, false, false, false, false, false, false, false, false, false, false, false, false, false, false, false, false, false, false, false, false, false, false, false, false, false, false] e := rfl
theorem fg_17_1 (e : Env) : mask (fg 17 1) e = mask [true, true, false, false, true, true, false, false, false, false, false, false, false, false, false, false, false, false, false, false, false, false, false, false, false, false, false, false, false, false, false, false, false, false, false, false, false, false, false, false, false, false] e := rfl
theorem fg_17_2 (e : Env) : mask (fg 17 2) e = mask [] e := rfl
theorem fg_18_0 (e : Env) : mask (fg 18 0) e = mask [] e := rfl
theorem fg_19_0 (e : Env) : mask (fg 19 0) e = mask [true, false, false, true, true, true, false, false, false, false, false, false, false, false, false, true, false, false, false, false, false, false, false, false, false, false, false, true, false, false, false, false, false, false, false, false, false, false] e := rfl
theorem fg_19_1 (e : Env) : mask (fg 19 1) e = mask [true, false, false, true, false, true, false, false, false, false, false, false, false, false, false, false, false, false, false, false, false, false, false, false, false, false, false, false, false, false, false, false, false, false, false, false, false, false] e := rfl
theorem fg_19_2 (e : Env) : mask (fg 19 2) e = mask [] e := rfl
theorem fg_20_0 (e : Env) : mask (fg 20 0) e = mask [] e := rfl
theorem fg_21_0 (e : Env) : mask (fg 21 0) e = mask [false, false, true, true, true, true, true, true, false, true, false, true, true, true, false, false, false, false, false, false, false, false, false, true, false, false, false, false, true, true, true, true, false, false, false, false, false, false, false, false, false, false, false, false, false, false, true, false, false, false, false, false, false, false, false, false, false, false, false, false, false, false, false, false, false, false, true, false, false] e := rfl
theorem fg_21_1 (e : Env) : mask (fg 21 1) e = mask [false, false, true, false, true, true, true, false, false, false, false, false, false, false, false, false, false, false, false, false, false, false, false, false, false, false, false, false, true, true, true, false, false, false, false, false, false, false, false, false, false, false, false, false, false, false, false, false, false, false, false, false, false, false, false, false, false, false, false, false, false, false, false, false, false, false, false, false, false] e := rfl
theorem fg_21_2 (e : Env) : mask (fg 21 2) e = mask [] e := rfl
theorem fg_22_0 (e : Env) : mask (fg 22 0) e = mask [] e := rfl
theorem fg_23_0 (e : Env) : mask (fg 23 0) e = mask [] e := rfl
theorem fg_24_0 (e : Env) : mask (fg 24 0) e = mask [false, true, true, true, false, false, false, false, false, false, false, false, false, false, false, false, false, false, false, false, false, false, false, false, false, false, false, false, false, false, false, false, true, false, false, false, false, true, false, false, false, false, false, false, false, false] e := rfl
theorem fg_24_1 (e : Env) : mask (fg 24 1) e = mask [false, true, true, true, false, false, false, false, false, false, false, false, false, false, false, false, false, false, false, false, false, false, false, false, false, false, false, false, false, false, false, false, false, false, false, false, false, false, false, false, false, false, false, false, false, false, false] e := rfl
theorem fg_24_2 (e : Env) : mask (fg 24 2) e = mask [] e := rfl
theorem fg_25_0 (e : Env) : mask (fg 25 0) e = mask [] e := rfl
theorem fg_26_0 (e : Env) : mask (fg 26 0) e = mask [] e := rfl
theorem fg_27_0 (e : Env) : mask (fg 27 0) e = mask [false, false, true, true, true, true, true, true, true, true, true, true, true, true, false, false, false, false, false, false, false, true, false, false, false, false, false, false, false, false, false, false, false, false, false, false, false, false, false, false, false, false, false, true, false, false, false, false, false, false, false, false, false, false, false, false, false, true, false, false, false, false, false, false, false, false, false, false, false, false, false, false, false, false, false, false, false, false, false, false, false, false, false, false, false, false, false, false, false, false, false, false, false, false, false, false, true, false, true, true, true, true, false, false, false, false, false, false, false, false, false, false, false, false, false, false, false] e := rfl
theorem fg_27_1 (e : Env) : mask (fg 27 1) e = mask [false, false, false, false, true, true, true, true, false, false, false, false, false, false, false, false, false, false, false, false, false, false, false, false, false, false, false, false, false, false, false, false, false, false, false, false, false, false, false, false, false, false, false, false, false, false, false, false, false, false, false, false, false, false, false, false, false, false, false, false, false, false, false, false, false, false, false, false, false, false, false, false, false, false, false, false, false, false, false, false, false, false, false, false, false, false, false, false, false, false, false, false, false, false, false, false, false, false, false, false, false, false, false, false, false, false, false, false, false, false, false, false, false, false, false, false, false] e := rfl
theorem fg_27_2 (e : Env) : mask (fg 27 2) e = mask [] e := rfl
theorem fg_27_3 (e : Env) : mask (fg 27 3) e = mask [false, false, false, false, false, false, true, true, false, true, false, false, false, false, false, false, false, false, false, false, false, false, false, false, false, false, false, false, false, false, false, false, false, false, false, false, false, false, false, false, false, false, false, false, false, false, false, false, false, false, false, false, false, false, false, false, false, false, false, false, false, false, false, false, false, false, false, false, false, false, false, false, false, false, false, false, false, false, false, false, false, false, false, false, false, false, false, false, false, false, false, false, false, false, false, false, false, false, true, true, true, false, false, false, false, false, false, false, false, false, false, false, false, false, false, false, false] e := rfl
theorem fg_27_4 (e : Env) : mask (fg 27 4) e = mask [] e := rfl
theorem fg_28_0 (e : Env) : mask (fg 28 0) e = mask [true, false, true, true, true, false, true, false, true, true, true, true, false, false, false, false, false, false, false] e := rfl
theorem fg_28_1 (e : Env) : mask (fg 28 1) e = mask [false, false, false, true, true, false, false, false, true, true, true, false, false, false, false, false, false, false, false] e := rfl
theorem fg_28_2 (e : Env) : mask (fg 28 2) e = mask [] e := rfl
theorem fg_29_0 (e : Env) : mask (fg 29 0) e = mask [false, true, true, true, false, false, true, true, true, true, true, false, false, true, false, false, false, false, false, false, false, false, false, false, false, true, false, false, false, false, false, false, false, true, false, false, false, false, false, false, true, true, true, true, false, false, false, false, false, false, false, false, false, false, false, false, false, false] e := rfl
theorem fg_29_1 (e : Env) : mask (fg 29 1) e = mask [false, true, true, true, false, false, true, false, true, false, false, false, false, false, false, false, false, false, false, false, false, false, false, false, false, false, false, false, false, false, false, false, false, false, false, false, false, false, false, false, true, true, true, false, false, false, false, false, false, false, false, false, false, false, false, false, false, false] e := rfl
theorem fg_29_2 (e : Env) : mask (fg 29 2) e = mask [] e := rfl
theorem fg_30_0 (e : Env) : mask (fg 30 0) e = mask [true, false, false, false, true, true, true, true, true, true, true, true, false, false, true, false, false, false, false, false, true, false, false, false, false, false, false, false, false, false, false, false, false, false, false, false, false, false, false, false, false, false, false, false, false, false, false, false, false, false, false, false, false, false, false, false, false, false, false, false, false, false, false, false, false, false, false, false, false, false, false, false, true, false, false, false, false, true, false, false, false, false, false, false, false, false, false, false, false, false, false, false, false, false, false, false, true, false, false] e := rfl
theorem fg_30_1 (e : Env) : mask (fg 30 1) e = mask [true, false, false, false, true, true, true, true, false, true, false, false, false, false, false, false, false, false, false, false, false, false, false, false, false, false, false, false, false, false, false, false, false, false, false, false, false, false, false, false, false, false, false, false, false, false, false, false, false, false, false, false, false, false, false, false, false, false, false, false, false, false, false, false, false, false, false, false, false, false, false, false, false, false, false, false, false, false, false, false, false, false, false, false, false, false, false, false, false, false, false, false, false, false, false, false, false, false, false] e := rfl
theorem fg_30_2 (e : Env) : mask (fg 30 2) e = mask [] e := rfl
theorem fg_31_0 (e : Env) : mask (fg 31 0) e = mask [true, true, false, false, true, true, false, false, false, true, false, false, false, false, false, false, false] e := rfl
theorem fg_31_1 (e : Env) : mask (fg 31 1) e = mask [true, true, false, false, true, true, false, false, false, false, false, false, false, false, false, false, false, false] e := rfl
theorem fg_31_2 (e : Env) : mask (fg 31 2) e = mask [] e := rfl
theorem fg_32_0 (e : Env) : mask (fg 32 0) e = mask [true, false, true, true, true, true, true, true, true, false, true, false, false, false, false, false, false, false, true, true, true, true, false, false, false, false, false, false, false, false, false, false, false, false, false, false, false, false, false, false, false, false, false, false, false, false, false, false, false, false, false, false, false, false, false, false, false, false, false, false, false, false, false, false, false, false, false, false, false, false, true, true, true, true, false, false, false, false, false, false, false, false, false, false, false, true, false, false, false] e := rfl
theorem fg_32_1 (e : Env) : mask (fg 32 1) e = mask [false, false, false, false, true, true, false, false, false, false, false, false, false, false, false, false, false, false, true, true, true, false, false, false, false, false, false, false, false, false, false, false, false, false, false, false, false, false, false, false, false, false, false, false, false, false, false, false, false, false, false, false, false, false, false, false, false, false, false, false, false, false, false, false, false, false, false, false, false, false, false, false, false, false, false, false, false, false, false, false, false, false, false, false, false, false, false, false, false] e := rfl
theorem fg_32_2 (e : Env) : mask (fg 32 2) e = mask [] e := rfl
theorem fg_32_3 (e : Env) : mask (fg 32 3) e = mask [false, false, true, true, true, false, false, false, false, false, false, false, false, false, false, false, false, false, false, false, false, false, false, false, false, false, false, false, false, false, false, false, false, false, false, false, false, false, false, false, false, false, false, false, false, false, false, false, false, false, false, false, false, false, false, false, false, false, false, false, false, false, false, false, false, false, false, false, false, false, true, true, true, false, false, false, false, false, false, false, false, false, false, false, false, false, false, false, false] e := rfl
theorem fg_32_4 (e : Env) : mask (fg 32 4) e = mask [] e := rfl
theorem fg_33_0 (e : Env) : mask (fg 33 0) e = mask [] e := rfl
theorem fg_34_0 (e : Env) : mask (fg 34 0) e = mask [true, false, true, true, false, true, false, false, true, true, true, true, true, true, false, true, false, false, true, false, false, false, false, false, false, false, false, true, false, false, false, false, false, false, false, false, false, false, false, false, true, true, true, true, false, false, false, false, false, false, false, false, false, false, false, false, false, false, false, false, false, false, false, false, false] e := rfl
theorem fg_34_1 (e : Env) : mask (fg 34 1) e = mask [true, false, true, true, false, true, false, false, false, false, false, true, false, false, false, false, false, false, false, false, false, false, false, false, false, false, false, false, false, false, false, false, false, false, false, false, false, false, false, false, true, true, true, false, false, false, false, false, false, false, false, false, false, false, false, false, false, false, false, false, false, false, false, false, false] e := rfl
theorem fg_34_2 (e : Env) : mask (fg 34 2) e = mask [] e := rfl
theorem fg_35_0 (e : Env) : mask (fg 35 0) e = mask [] e := rfl
theorem fg_36_0 (e : Env) : mask (fg 36 0) e = mask [] e := rfl
theorem fg_37_0 (e : Env) : mask (fg 37 0) e = mask [false, true, true, false, true, true, true, false, false, false, false, false, false, false, true, false, false, false, false, false, false, false, false, false, false, false, false, false, true, true, true, false, false, true, false, false, false, false, false, false, false, false, false, false, false, false, false] e := rfl
theorem fg_37_1 (e : Env) : mask (fg 37 1) e = mask [false, true, true, false, false, true, false, false, false, false, false, false, false, false, false, false, false, false, false, false, false, false, false, false, false, false, false, false, true, true, false, false, false, false, false, false, false, false, false, false, false, false, false, false, false, false, false] e := rfl
theorem fg_37_2 (e : Env) : mask (fg 37 2) e = mask [] e := rfl
theorem fg_38_0 (e : Env) : mask (fg 38 0) e = mask [] e := rfl
theorem fg_39_0 (e : Env) : mask (fg 39 0) e = mask [] e := rfl
theorem fg_40_0 (e : Env) : mask (fg 40 0) e = mask [false, true, true, true, false, true, false, false, false, false, false, false, false, false, false, true, false, false, false, false, false, false, true, true, true, true, false, false, false, false, false, false] e := rfl
theorem fg_40_1 (e : Env) : mask (fg 40 1) e = mask [false, false, true, false, false, false, false, false, false, false, false, false, false, false, false, false, false, false, false, false, false, false, true, true, true, false, false, false, false, false, false, false] e := rfl
theorem fg_40_2 (e : Env) : mask (fg 40 2) e = mask [] e := rfl
theorem fg_41_0 (e : Env) : mask (fg 41 0) e = mask [] e := rfl
theorem fg_42_0 (e : Env) : mask (fg 42 0) e = mask [true, true, false, false, true, true, false, true, true, true, false, false, false, false, false, false, true, false, false] e := rfl
theorem fg_42_1 (e : Env) : mask (fg 42 1) e = mask [true, true, false, false, true, false, false, true, true, false, false, false, false, false, false, false, false, false, false] e := rfl
theorem fg_42_2 (e : Env) : mask (fg 42 2) e = mask [] e := rfl
theorem fg_43_0 (e : Env) : mask (fg 43 0) e = mask [true, true, false, false, true, true, false, false, false, true, false, false, false, false, false, false, false, false, true, false] e := rfl
theorem fg_43_1 (e : Env) : mask (fg 43 1) e = mask [true, true, false, false, true, true, false, false, false, false, false, false, false, false, false, false, false, false, false, false] e := rfl
theorem fg_43_2 (e : Env) : mask (fg 43 2) e = mask [] e := rfl
theorem fg_44_0 (e : Env) : mask (fg 44 0) e = mask [] e := rfl
theorem fg_45_0 (e : Env) : mask (fg 45 0) e = mask [true, false, true, true, false, true, true, true, true, true, false, false, false, false, false, false, false, false, false] e := rfl
theorem fg_45_1 (e : Env) : mask (fg 45 1) e = mask [false, false, false, true, false, false, true, true, true, false, false, false, false, false, false, false, false, false, false] e := rfl
theorem fg_45_2 (e : Env) : mask (fg 45 2) e = mask [] e := rfl
theorem fg_46_0 (e : Env) : mask (fg 46 0) e = mask [] e := rfl
theorem fg_47_0 (e : Env) : mask (fg 47 0) e = mask [true, true, true, false, false, false, true, true, true, true, true, true, true, true, false, false, false, false, false, true, false, false, false, false, false, false, false, true, false, false, false, false, false, false, false, false, false, false, false, false, false, false, false, false, false, false, false, false, false, false, false, false, false, false, false, false, false, false, false, false, false, true, false, false, false, false, false, false, false, false, false, false, false, false, false, false, false, false, false, false, false, false, false, false, false, false, true, false, false, false, true, false, false, false, false, false, false, false, false, false, false, false, false, false, true, true, false, false, false, false, false, false, false, false, false, false, false, false, false, true, true, false, false, false, false, false] e := rfl
theorem fg_47_1 (e : Env) : mask (fg 47 1) e = mask [true, false, false, false, false, false, true, true, true, false, false, false, false, false, false, false, false, false, false, false, false, false, false, false, false, false, false, false, false, false, false, false, false, false, false, false, false, false, false, false, false, false, false, false, false, false, false, false, false, false, false, false, false, false, false, false, false, false, false, false, false, false, false, false, false, false, false, false, false, false, false, false, false, false, false, false, false, false, false, false, false, false, false, false, false, false, false, false, false, false, false, false, false, false, false, false, false, false, false, false, false, false, false, false, false, false, false, false, false, false, false, false, false, false, false, false, false, false, false, false, false, false, false, false, false, false] e := rfl
theorem fg_47_2 (e : Env) : mask (fg 47 2) e = mask [] e := rfl
theorem fg_47_3 (e : Env) : mask (fg 47 3) e = mask [] e := rfl
theorem fg_47_4 (e : Env) : mask (fg 47 4) e = mask [true, false, false, false, false, false, false, true, true, false, true, true, true, true, false, false, false, false, false, false, false, false, false, false, false, false, false, false, false, false, false, false, false, false, false, false, false, false, false, false, false, false, false, false, false, false, false, false, false, false, false, false, false, false, false, false, false, false, false, false, false, false, false, false, false, false, false, false, false, false, false, false, false, false, false, false, false, false, false, false, false, false, false, false, false, false, false, false, false, false, false, false, false, false, false, false, false, false, false, false, false, false, false, false, false, false, false, false, false, false, false, false, false, false, false, false, false, false, false, false, false, false, false, false, false, false] e := rfl
theorem fg_47_5 (e : Env) : mask (fg 47 5) e = mask [] e := rfl
theorem fg_48_0 (e : Env) : mask (fg 48 0) e = mask [true, true, true, false, false, false, true, true, true, true, false, true, false, false, false, false, false, false, false, false, false, true, false, false, false, false, false, false, false, false, true, true, true, true, false, false, false, false, false, false, false, false, false, false, false, false, false, false] e := rfl
theorem fg_48_1 (e : Env) : mask (fg 48 1) e = mask [true, true, true, false, false, false, false, false, false, true, false, false, false, false, false, false, false, false, false, false, false, false, false, false, false, false, false, false, false, false, true, true, true, false, false, false, false, false, false, false, false, false, false, false, false, false, false, false] e := rfl
theorem fg_48_2 (e : Env) : mask (fg 48 2) e = mask [] e := rfl
theorem fg_49_0 (e : Env) : mask (fg 49 0) e = mask [true, true, true, false, false, false, true, true, true, false, true, false, false, false, false, false, false, false, false, false, false, false, true, true, false, false, false, false, false, true, false, false, false, false, false, false, false, false, false, false, false, false, false, true, true, true, true, false, false, false, false, false, false, false, false, false, false, false, false, false] e := rfl
theorem fg_49_1 (e : Env) : mask (fg 49 1) e = mask [] e := rfl
theorem fg_49_2 (e : Env) : mask (fg 49 2) e = mask [true, false, true, false, false, false, true, false, true, false, false, false, false, false, false, false, false, false, false, false, false, false, false, false, false, false, false, false, false, false, false, false, false, false, false, false, false, false, false, false, false, false, false, true, true, true, false, false, false, false, false, false, false, false, false, false, false, false, false, false] e := rfl
theorem fg_49_3 (e : Env) : mask (fg 49 3) e = mask [] e := rfl
theorem fg_50_0 (e : Env) : mask (fg 50 0) e = mask [true, true, false, false, true, false, true, false, false, false, true, true, true, true, false, false, false, false, false, false, false, false, false, false, false, false, false, false, true, false, false] e := rfl
theorem fg_50_1 (e : Env) : mask (fg 50 1) e = mask [true, true, false, false, true, false, false, false, false, false, true, true, true, false, false, false, false, false, false, false, false, false, false, false, false, false, false, false, false, false, false] e := rfl
theorem fg_50_2 (e : Env) : mask (fg 50 2) e = mask [] e := rfl
theorem fg_51_0 (e : Env) : mask (fg 51 0) e = mask [] e := rfl
theorem fg_52_0 (e : Env) : mask (fg 52 0) e = mask [] e := rfl
theorem fg_53_0 (e : Env) : mask (fg 53 0) e = mask [] e := rfl
theorem fg_54_0 (e : Env) : mask (fg 54 0) e = mask [] e := rfl
theorem fg_55_0 (e : Env) : mask (fg 55 0) e = mask [true, true, true, false, false, false, true, true, true, true, false, false, false, false, true, true, true, true, true, false, false, false, false, false, false, false, false, false, false, false, true, false] e := rfl
theorem fg_55_1 (e : Env) : mask (fg 55 1) e = mask [false, true, true, false, false, false, true, false, false, false, false, false, false, false, false, true, true, true, false, false, false, false, false, false, false, false, false, false, false, false, false, false] e := rfl
theorem fg_55_2 (e : Env) : mask (fg 55 2) e = mask [] e := rfl
theorem fg_56_0 (e : Env) : mask (fg 56 0) e = mask [] e := rfl
theorem fg_57_0 (e : Env) : mask (fg 57 0) e = mask [true, true, true, false, false, false, true, true, true, false, false, false, false, false, false, false, false, false, false, true, false, false, false, false] e := rfl
theorem fg_57_1 (e : Env) : mask (fg 57 1) e = mask [true, true, true, false, false, false, true, false, false, false, false, false, false, false, false, false, false, false, false, false, false, false, false, false] e := rfl
theorem fg_57_2 (e : Env) : mask (fg 57 2) e = mask [] e := rfl
theorem fg_58_0 (e : Env) : mask (fg 58 0) e = mask [] e := rfl
theorem fg_59_0 (e : Env) : mask (fg 59 0) e = mask [] e := rfl
theorem fg_60_0 (e : Env) : mask (fg 60 0) e = mask [true, true, false, false, true, false, false, false, false, false, false, false, false, false, true, false, false, false, false, false, false, false, false, false, false, false, false, false, false, false, false, false, false, false, false, false, false, false, false, false, false, false, false, false, false, false] e := rfl
theorem fg_60_1 (e : Env) : mask (fg 60 1) e = mask [true, true, false, false, false, false, false, false, false, false, false, false, false, false, false, false, false, false, false, false, false, false, false, false, false, false, false, false, false, false, false, false, false, false, false, false, false, false, false, false, false, false, false, false, false, false] e := rfl
theorem fg_60_2 (e : Env) : mask (fg 60 2) e = mask [] e := rfl
theorem fg_61_0 (e : Env) : mask (fg 61 0) e = mask [] e := rfl
theorem fg_62_0 (e : Env) : mask (fg 62 0) e = mask [] e := rfl
theorem fg_63_0 (e : Env) : mask (fg 63 0) e = mask [] e := rfl
theorem fg_64_0 (e : Env) : mask (fg 64 0) e = mask [] e := rfl
theorem fg_65_0 (e : Env) : mask (fg 65 0) e = mask [true, true, true, false, false, false, true, true, true, false, false, false, false, false, false, false, false, false, false, false, true, false, false, false, false, false, false, false, false, false, false, false, false, false, false, false, false, false, false, false, false, false, false, false, false, false, true, false, false, false, false, false, false, false, false, false, false, false, false, false, false, true, false, false, false, false, false, false, false, false, false, false] e := rfl
theorem fg_65_1 (e : Env) : mask (fg 65 1) e = mask [true, false, true, false, false, false, true, true, false, false, false, false, false, false, false, false, false, false, false, false, false, false, false, false, false, false, false, false, false, false, false, false, false, false, false, false, false, false, false, false, false, false, false, false, false, false, false, false, false, false, false, false, false, false, false, false, false, false, false, false, false, false, false, false, false, false, false, false, false, false, false, false] e := rfl
theorem fg_65_2 (e : Env) : mask (fg 65 2) e = mask [] e := rfl
theorem fg_66_0 (e : Env) : mask (fg 66 0) e = mask [] e := rfl
theorem fg_67_0 (e : Env) : mask (fg 67 0) e = mask [] e := rfl
theorem fg_68_0 (e : Env) : mask (fg 68 0) e = mask [] e := rfl
theorem fg_69_0 (e : Env) : mask (fg 69 0) e = mask [] e := rfl
theorem fg_70_0 (e : Env) : mask (fg 70 0) e = mask [true, true, false, false, true, true, true, true, true, true, true, true, true, true, true, true, true, false, false, false, true, false, false, false, false, false, false, false, false, false, false, false, false, false, false, false, false, false, false, false, false, false, false, false, false, false, false, false, false, false, false, false, false, false, false, false, false, false, false, false, false, false, false, false, false, false, false, false, false, false, false, false, false, false, false, false, false, false, false, false, false, false, false, false, false, false, false, false, false, false, false, false, false, false, false, false, false, false, false, true, false, false, false, false, false, false, false, false, false, false, false, false, false, false, false, false, false, false, false, false, false, false, false, false, false, false, false, false, false, false, false, false, false, false, false, false, false, false, false, true, false, false, false, false, false, false, false, false, false, false, false, false, false, false, false, false, false, false, false, false, false, true, false, false, false, false, false] e := rfl
theorem fg_70_1 (e : Env) : mask (fg 70 1) e = mask [true, true, false, false, true, false, false, false, false, false, false, false, false, false, false, false, false, false, false, false, false, false, false, false, false, false, false, false, false, false, false, false, false, false, false, false, false, false, false, false, false, false, false, false, false, false, false, false, false, false, false, false, false, false, false, false, false, false, false, false, false, false, false, false, false, false, false, false, false, false, false, false, false, false, false, false, false, false, false, false, false, false, false, false, false, false, false, false, false, false, false, false, false, false, false, false, false, false, false, false, false, false, false, false, false, false, false, false, false, false, false, false, false, false, false, false, false, false, false, false, false, false, false, false, false, false, false, false, false, false, false, false, false, false, false, false, false, false, false, false, false, false, false, false, false, false, false, false, false, false, false, false, false, false, false, false, false, false, false, false, false, false, false, false, false, false, false] e := rfl
theorem fg_70_2 (e : Env) : mask (fg 70 2) e = mask [] e := rfl
theorem fg_71_0 (e : Env) : mask (fg 71 0) e = mask [true, true, true, true, true, false, false, false, false, false, true, true, true, true, true, true, true, true, true, false, false, false, false, false, false, false, false, false, true, false, true, false, false, false, true, false, false, false, false, false, false, false, false, false, false, false, true, false, false, false, false, false, false, false, false, false, false, false, false, false, false, false, false, false, false, false, false, false, true, false, false, false, false, false, false, false, false, false, false, false, false, false, false, false, false, false, false, false, false, true, false, false, false, false, true, false, false, false, false, false, false, false] e := rfl
theorem fg_71_1 (e : Env) : mask (fg 71 1) e = mask [true, true, false, true, true, false, false, false, false, false, true, true, true, true, true, true, true, false, false, false, false, false, false, false, false, false, false, false, false, false, false, false, false, false, false, false, false, false, false, false, false, false, false, false, false, false, false, false, false, false, false, false, false, false, false, false, false, false, false, false, false, false, false, false, false, false, false, false, false, false, false, false, false, false, false, false, false, false, false, false, false, false, false, false, false, false, false, false, false, false, false, false, false, false, false, false, false, false, false, false, false, false] e := rfl
theorem fg_71_2 (e : Env) : mask (fg 71 2) e = mask [] e := rfl
theorem fg_71_3 (e : Env) : mask (fg 71 3) e = mask [true, true, false, true, true, false, false, false, false, false, true, true, true, true, false, false, false, true, false, false, false, false, false, false, false, false, false, false, false, false, false, false, false, false, false, false, false, false, false, false, false, false, false, false, false, false, false, false, false, false, false, false, false, false, false, false, false, false, false, false, false, false, false, false, false, false, false, false, false, false, false, false, false, false, false, false, false, false, false, false, false, false, false, false, false, false, false, false, false, false, false, false, false, false, false, false, false, false, false, false, false, false] e := rfl
theorem fg_71_4 (e : Env) : mask (fg 71 4) e = mask [] e := rfl
theorem fg_72_0 (e : Env) : mask (fg 72 0) e = mask [true, true, false, false, true, true, false, true, true, true, false, false, false, false, false, false, true, false, false] e := rfl
theorem fg_72_1 (e : Env) : mask (fg 72 1) e = mask [true, true, false, false, true, false, false, true, true, false, false, false, false, false, false, false, false, false, false] e := rfl
theorem fg_72_2 (e : Env) : mask (fg 72 2) e = mask [] e := rfl
theorem fg_73_0 (e : Env) : mask (fg 73 0) e = mask [] e := rfl
theorem fg_74_0 (e : Env) : mask (fg 74 0) e = mask [] e := rfl
theorem fg_75_0 (e : Env) : mask (fg 75 0) e = mask [] e := rfl
theorem fg_76_0 (e : Env) : mask (fg 76 0) e = mask [] e := rfl
theorem fg_77_0 (e : Env) : mask (fg 77 0) e = mask [] e := rfl
theorem fg_78_0 (e : Env) : mask (fg 78 0) e = mask [] e := rfl
theorem fg_79_0 (e : Env) : mask (fg 79 0) e = mask [] e := rfl
theorem fg_102_0 (e : Env) : mask (fg 102 0) e = mask [] e := rfl
theorem la_3_6 : looseAt (fg 3) 6 = false := rfl
theorem la_3_8 : looseAt (fg 3) 8 = false := rfl
theorem la_4_3 : looseAt (fg 4) 3 = true := rfl
theorem sq_4_3 : seqAt (fg 4) 3 = [6, 7, 0, 1, 2, 3, 4, 5, 8, 9] := rfl
theorem am_4_3 : allocsAt (fg 4) 3 = 2 := rfl
theorem un_4_3_0 : unordAt (fg 4) 3 0 = [] := rfl
theorem un_4_3_1 : unordAt (fg 4) 3 1 = [0, 1] := rfl
theorem un_4_3_2 : unordAt (fg 4) 3 2 = [] := rfl
theorem un_4_3_3 : unordAt (fg 4) 3 3 = [] := rfl
theorem un_4_3_4 : unordAt (fg 4) 3 4 = [0, 1] := rfl
theorem un_4_3_5 : unordAt (fg 4) 3 5 = [] := rfl
theorem un_4_3_8 : unordAt (fg 4) 3 8 = [] := rfl
theorem un_4_3_9 : unordAt (fg 4) 3 9 = [] := rfl
theorem la_4_4 : looseAt (fg 4) 4 = false := rfl
theorem la_5_14 : looseAt (fg 5) 14 = true := rfl
theorem sq_5_14 : seqAt (fg 5) 14 = [0, 1, 2, 3, 4, 5, 6, 7, 8, 9, 10, 11] := rfl
theorem am_5_14 : allocsAt (fg 5) 14 = 0 := rfl
theorem un_5_14_0 : unordAt (fg 5) 14 0 = [] := rfl
theorem un_5_14_1 : unordAt (fg 5) 14 1 = [] := rfl
theorem un_5_14_2 : unordAt (fg 5) 14 2 = [] := rfl
theorem un_5_14_3 : unordAt (fg 5) 14 3 = [] := rfl
theorem un_5_14_4 : unordAt (fg 5) 14 4 = [] := rfl
theorem un_5_14_5 : unordAt (fg 5) 14 5 = [] := rfl
theorem un_5_14_6 : unordAt (fg 5) 14 6 = [] := rfl
theorem un_5_14_7 : unordAt (fg 5) 14 7 = [] := rfl
theorem un_5_14_8 : unordAt (fg 5) 14 8 = [] := rfl
theorem un_5_14_9 : unordAt (fg 5) 14 9 = [] := rfl
theorem un_5_14_10 : unordAt (fg 5) 14 10 = [] := rfl
theorem un_5_14_11 : unordAt (fg 5) 14 11 = [] := rfl
theorem la_5_16 : looseAt (fg 5) 16 = true := rfl
theorem sq_5_16 : seqAt (fg 5) 16 = [0, 1, 2, 3, 4, 5, 6, 7, 8, 9] := rfl
theorem am_5_16 : allocsAt (fg 5) 16 = 0 := rfl
theorem un_5_16_0 : unordAt (fg 5) 16 0 = [] := rfl
theorem un_5_16_1 : unordAt (fg 5) 16 1 = [] := rfl
theorem un_5_16_2 : unordAt (fg 5) 16 2 = [] := rfl
theorem un_5_16_3 : unordAt (fg 5) 16 3 = [] := rfl
theorem un_5_16_4 : unordAt (fg 5) 16 4 = [] := rfl
theorem un_5_16_5 : unordAt (fg 5) 16 5 = [] := rfl
theorem un_5_16_6 : unordAt (fg 5) 16 6 = [] := rfl
theorem un_5_16_7 : unordAt (fg 5) 16 7 = [] := rfl
theorem un_5_16_8 : unordAt (fg 5) 16 8 = [] := rfl
theorem un_5_16_9 : unordAt (fg 5) 16 9 = [] := rfl
theorem la_6_1 : looseAt (fg 6) 1 = false := rfl
theorem la_6_12 : looseAt (fg 6) 12 = false := rfl
theorem la_11_4 : looseAt (fg 11) 4 = false := rfl
theorem la_11_11 : looseAt (fg 11) 11 = false := rfl
theorem la_14_6 : looseAt (fg 14) 6 = false := rfl
theorem la_17_6 : looseAt (fg 17) 6 = false := rfl
theorem la_19_2 : looseAt (fg 19) 2 = true := rfl
theorem sq_19_2 : seqAt (fg 19) 2 = [0, 1, 2, 3, 4, 5, 6, 7] := rfl
theorem am_19_2 : allocsAt (fg 19) 2 = 0 := rfl
theorem un_19_2_0 : unordAt (fg 19) 2 0 = [] := rfl
theorem un_19_2_1 : unordAt (fg 19) 2 1 = [] := rfl
theorem un_19_2_2 : unordAt (fg 19) 2 2 = [] := rfl
theorem un_19_2_3 : unordAt (fg 19) 2 3 = [] := rfl
theorem un_19_2_4 : unordAt (fg 19) 2 4 = [] := rfl
theorem un_19_2_5 : unordAt (fg 19) 2 5 = [] := rfl
theorem un_19_2_6 : unordAt (fg 19) 2 6 = [] := rfl
theorem un_19_2_7 : unordAt (fg 19) 2 7 = [] := rfl
theorem la_21_7 : looseAt (fg 21) 7 = true := rfl
theorem sq_21_7 : seqAt (fg 21) 7 = [11, 0, 1, 2, 3, 4, 5, 6, 7, 8, 9, 10, 12, 13] := rfl
theorem am_21_7 : allocsAt (fg 21) 7 = 1 := rfl
theorem un_21_7_0 : unordAt (fg 21) 7 0 = [0] := rfl
theorem un_21_7_1 : unordAt (fg 21) 7 1 = [0] := rfl
theorem un_21_7_2 : unordAt (fg 21) 7 2 = [] := rfl
theorem un_21_7_3 : unordAt (fg 21) 7 3 = [] := rfl
theorem un_21_7_4 : unordAt (fg 21) 7 4 = [0] := rfl
theorem un_21_7_5 : unordAt (fg 21) 7 5 = [] := rfl
theorem un_21_7_6 : unordAt (fg 21) 7 6 = [0] := rfl
theorem un_21_7_7 : unordAt (fg 21) 7 7 = [0] := rfl
theorem un_21_7_8 : unordAt (fg 21) 7 8 = [] := rfl
theorem un_21_7_9 : unordAt (fg 21) 7 9 = [] := rfl
theorem un_21_7_10 : unordAt (fg 21) 7 10 = [] := rfl
theorem un_21_7_12 : unordAt (fg 21) 7 12 = [] := rfl
theorem un_21_7_13 : unordAt (fg 21) 7 13 = [] := rfl
theorem la_21_11 : looseAt (fg 21) 11 = true := rfl
theorem sq_21_11 : seqAt (fg 21) 11 = [16, 0, 1, 2, 3, 4, 5, 6, 7, 8, 9, 10, 11, 12, 13, 14, 15, 17, 18] := rfl
theorem am_21_11 : allocsAt (fg 21) 11 = 1 := rfl
theorem un_21_11_0 : unordAt (fg 21) 11 0 = [0] := rfl
theorem un_21_11_1 : unordAt (fg 21) 11 1 = [0] := rfl
theorem un_21_11_2 : unordAt (fg 21) 11 2 = [] := rfl
theorem un_21_11_3 : unordAt (fg 21) 11 3 = [] := rfl
theorem un_21_11_4 : unordAt (fg 21) 11 4 = [0] := rfl
theorem un_21_11_5 : unordAt (fg 21) 11 5 = [0] := rfl
theorem un_21_11_6 : unordAt (fg 21) 11 6 = [0] := rfl
theorem un_21_11_7 : unordAt (fg 21) 11 7 = [] := rfl
theorem un_21_11_8 : unordAt (fg 21) 11 8 = [] := rfl
theorem un_21_11_9 : unordAt (fg 21) 11 9 = [0] := rfl
theorem un_21_11_10 : unordAt (fg 21) 11 10 = [] := rfl
theorem un_21_11_11 : unordAt (fg 21) 11 11 = [0] := rfl
theorem un_21_11_12 : unordAt (fg 21) 11 12 = [0] := rfl
theorem un_21_11_13 : unordAt (fg 21) 11 13 = [] := rfl
theorem un_21_11_14 : unordAt (fg 21) 11 14 = [] := rfl
theorem un_21_11_15 : unordAt (fg 21) 11 15 = [] := rfl
theorem un_21_11_17 : unordAt (fg 21) 11 17 = [] := rfl
theorem un_21_11_18 : unordAt (fg 21) 11 18 = [] := rfl
theorem la_27_4 : looseAt (fg 27) 4 = true := rfl
theorem sq_27_4 : seqAt (fg 27) 4 = [14, 15, 0, 1, 2, 3, 4, 5, 6, 7, 8, 9, 10, 11, 12, 13, 16, 17] := rfl
theorem am_27_4 : allocsAt (fg 27) 4 = 2 := rfl
theorem un_27_4_0 : unordAt (fg 27) 4 0 = [] := rfl
theorem un_27_4_1 : unordAt (fg 27) 4 1 = [] := rfl
theorem un_27_4_2 : unordAt (fg 27) 4 2 = [] := rfl
theorem un_27_4_3 : unordAt (fg 27) 4 3 = [] := rfl
theorem un_27_4_4 : unordAt (fg 27) 4 4 = [] := rfl
theorem un_27_4_5 : unordAt (fg 27) 4 5 = [] := rfl
theorem un_27_4_6 : unordAt (fg 27) 4 6 = [0, 1] := rfl
theorem un_27_4_7 : unordAt (fg 27) 4 7 = [] := rfl
theorem un_27_4_8 : unordAt (fg 27) 4 8 = [] := rfl
theorem un_27_4_9 : unordAt (fg 27) 4 9 = [] := rfl
theorem un_27_4_10 : unordAt (fg 27) 4 10 = [] := rfl
theorem un_27_4_11 : unordAt (fg 27) 4 11 = [] := rfl
theorem un_27_4_12 : unordAt (fg 27) 4 12 = [] := rfl
theorem un_27_4_13 : unordAt (fg 27) 4 13 = [0, 1] := rfl
theorem un_27_4_16 : unordAt (fg 27) 4 16 = [] := rfl
theorem un_27_4_17 : unordAt (fg 27) 4 17 = [] := rfl
theorem la_27_16 : looseAt (fg 27) 16 = false := rfl
theorem la_30_4 : looseAt (fg 30) 4 = true := rfl
theorem sq_30_4 : seqAt (fg 30) 4 = [0, 1, 2, 3, 4, 5, 6, 7, 8, 9] := rfl
theorem am_30_4 : allocsAt (fg 30) 4 = 0 := rfl
theorem un_30_4_0 : unordAt (fg 30) 4 0 = [] := rfl
theorem un_30_4_1 : unordAt (fg 30) 4 1 = [] := rfl
theorem un_30_4_2 : unordAt (fg 30) 4 2 = [] := rfl
theorem un_30_4_3 : unordAt (fg 30) 4 3 = [] := rfl
theorem un_30_4_4 : unordAt (fg 30) 4 4 = [] := rfl
theorem un_30_4_5 : unordAt (fg 30) 4 5 = [] := rfl
theorem un_30_4_6 : unordAt (fg 30) 4 6 = [] := rfl
theorem un_30_4_7 : unordAt (fg 30) 4 7 = [] := rfl
theorem un_30_4_8 : unordAt (fg 30) 4 8 = [] := rfl
theorem un_30_4_9 : unordAt (fg 30) 4 9 = [] := rfl
theorem la_30_5 : looseAt (fg 30) 5 = true := rfl
theorem sq_30_5 : seqAt (fg 30) 5 = [0, 1, 2, 3, 4, 5, 6, 7, 8, 9, 10] := rfl
theorem am_30_5 : allocsAt (fg 30) 5 = 0 := rfl
theorem un_30_5_0 : unordAt (fg 30) 5 0 = [] := rfl
theorem un_30_5_1 : unordAt (fg 30) 5 1 = [] := rfl
theorem un_30_5_2 : unordAt (fg 30) 5 2 = [] := rfl
theorem un_30_5_3 : unordAt (fg 30) 5 3 = [] := rfl
theorem un_30_5_4 : unordAt (fg 30) 5 4 = [] := rfl
theorem un_30_5_5 : unordAt (fg 30) 5 5 = [] := rfl
theorem un_30_5_6 : unordAt (fg 30) 5 6 = [] := rfl
theorem un_30_5_7 : unordAt (fg 30) 5 7 = [] := rfl
theorem un_30_5_8 : unordAt (fg 30) 5 8 = [] := rfl
theorem un_30_5_9 : unordAt (fg 30) 5 9 = [] := rfl
theorem un_30_5_10 : unordAt (fg 30) 5 10 = [] := rfl
theorem la_30_11 : looseAt (fg 30) 11 = true := rfl
theorem sq_30_11 : seqAt (fg 30) 11 = [0, 1, 2, 3, 4, 5, 6, 7, 8, 9, 10, 11, 12, 13, 14, 15, 16] := rfl
theorem am_30_11 : allocsAt (fg 30) 11 = 0 := rfl
theorem un_30_11_0 : unordAt (fg 30) 11 0 = [] := rfl
theorem un_30_11_1 : unordAt (fg 30) 11 1 = [] := rfl
theorem un_30_11_2 : unordAt (fg 30) 11 2 = [] := rfl
theorem un_30_11_3 : unordAt (fg 30) 11 3 = [] := rfl
theorem un_30_11_4 : unordAt (fg 30) 11 4 = [] := rfl
theorem un_30_11_5 : unordAt (fg 30) 11 5 = [] := rfl
theorem un_30_11_6 : unordAt (fg 30) 11 6 = [] := rfl
theorem un_30_11_7 : unordAt (fg 30) 11 7 = [] := rfl
theorem un_30_11_8 : unordAt (fg 30) 11 8 = [] := rfl
theorem un_30_11_9 : unordAt (fg 30) 11 9 = [] := rfl
theorem un_30_11_10 : unordAt (fg 30) 11 10 = [] := rfl
theorem un_30_11_11 : unordAt (fg 30) 11 11 = [] := rfl
theorem un_30_11_12 : unordAt (fg 30) 11 12 = [] := rfl
theorem un_30_11_13 : unordAt (fg 30) 11 13 = [] := rfl
theorem un_30_11_14 : unordAt (fg 30) 11 14 = [] := rfl
theorem un_30_11_15 : unordAt (fg 30) 11 15 = [] := rfl
theorem un_30_11_16 : unordAt (fg 30) 11 16 = [] := rfl
theorem la_32_6 : looseAt (fg 32) 6 = true := rfl
theorem sq_32_6 : seqAt (fg 32) 6 = [0, 1, 2, 3, 4, 5, 6, 7, 8, 9, 10, 11, 12, 13, 14, 15] := rfl
theorem am_32_6 : allocsAt (fg 32) 6 = 0 := rfl
theorem un_32_6_0 : unordAt (fg 32) 6 0 = [] := rfl
theorem un_32_6_1 : unordAt (fg 32) 6 1 = [] := rfl
theorem un_32_6_2 : unordAt (fg 32) 6 2 = [] := rfl
theorem un_32_6_3 : unordAt (fg 32) 6 3 = [] := rfl
theorem un_32_6_4 : unordAt (fg 32) 6 4 = [] := rfl
theorem un_32_6_5 : unordAt (fg 32) 6 5 = [] := rfl
theorem un_32_6_6 : unordAt (fg 32) 6 6 = [] := rfl
theorem un_32_6_7 : unordAt (fg 32) 6 7 = [] := rfl
theorem un_32_6_8 : unordAt (fg 32) 6 8 = [] := rfl
theorem un_32_6_9 : unordAt (fg 32) 6 9 = [] := rfl
theorem un_32_6_10 : unordAt (fg 32) 6 10 = [] := rfl
theorem un_32_6_11 : unordAt (fg 32) 6 11 = [] := rfl
theorem un_32_6_12 : unordAt (fg 32) 6 12 = [] := rfl
theorem un_32_6_13 : unordAt (fg 32) 6 13 = [] := rfl
theorem un_32_6_14 : unordAt (fg 32) 6 14 = [] := rfl
theorem un_32_6_15 : unordAt (fg 32) 6 15 = [] := rfl
theorem la_32_8 : looseAt (fg 32) 8 = true := rfl
theorem sq_32_8 : seqAt (fg 32) 8 = [0, 1, 2, 3, 4, 5, 6, 7, 8, 9, 10, 11, 12, 13, 14, 15, 16, 17, 18, 19, 20, 21, 22, 23, 24, 25, 26, 27, 28] := rfl
theorem am_32_8 : allocsAt (fg 32) 8 = 0 := rfl
theorem un_32_8_0 : unordAt (fg 32) 8 0 = [] := rfl
theorem un_32_8_1 : unordAt (fg 32) 8 1 = [] := rfl
theorem un_32_8_2 : unordAt (fg 32) 8 2 = [] := rfl
theorem un_32_8_3 : unordAt (fg 32) 8 3 = [] := rfl
theorem un_32_8_4 : unordAt (fg 32) 8 4 = [] := rfl
theorem un_32_8_5 : unordAt (fg 32) 8 5 = [] := rfl
theorem un_32_8_6 : unordAt (fg 32) 8 6 = [] := rfl
theorem un_32_8_7 : unordAt (fg 32) 8 7 = [] := rfl
theorem un_32_8_8 : unordAt (fg 32) 8 8 = [] := rfl
theorem un_32_8_9 : unordAt (fg 32) 8 9 = [] := rfl
theorem un_32_8_10 : unordAt (fg 32) 8 10 = [] := rfl
theorem un_32_8_11 : unordAt (fg 32) 8 11 = [] := rfl
theorem un_32_8_12 : unordAt (fg 32) 8 12 = [] := rfl
theorem un_32_8_13 : unordAt (fg 32) 8 13 = [] := rfl
theorem un_32_8_14 : unordAt (fg 32) 8 14 = [] := rfl
theorem un_32_8_15 : unordAt (fg 32) 8 15 = [] := rfl
theorem un_32_8_16 : unordAt (fg 32) 8 16 = [] := rfl
theorem un_32_8_17 : unordAt (fg 32) 8 17 = [] := rfl
theorem un_32_8_18 : unordAt (fg 32) 8 18 = [] := rfl
theorem un_32_8_19 : unordAt (fg 32) 8 19 = [] := rfl
theorem un_32_8_20 : unordAt (fg 32) 8 20 = [] := rfl
theorem un_32_8_21 : unordAt (fg 32) 8 21 = [] := rfl
theorem un_32_8_22 : unordAt (fg 32) 8 22 = [] := rfl
theorem un_32_8_23 : unordAt (fg 32) 8 23 = [] := rfl
theorem un_32_8_24 : unordAt (fg 32) 8 24 = [] := rfl
theorem un_32_8_25 : unordAt (fg 32) 8 25 = [] := rfl
theorem un_32_8_26 : unordAt (fg 32) 8 26 = [] := rfl
theorem un_32_8_27 : unordAt (fg 32) 8 27 = [] := rfl
theorem un_32_8_28 : unordAt (fg 32) 8 28 = [] := rfl
theorem la_32_13 : looseAt (fg 32) 13 = false := rfl
theorem la_47_8 : looseAt (fg 47) 8 = true := rfl
theorem sq_47_8 : seqAt (fg 47) 8 = [0, 1, 2, 3, 4, 5, 6, 7, 8, 9, 10, 11] := rfl
theorem am_47_8 : allocsAt (fg 47) 8 = 0 := rfl
theorem un_47_8_0 : unordAt (fg 47) 8 0 = [] := rfl
theorem un_47_8_1 : unordAt (fg 47) 8 1 = [] := rfl
theorem un_47_8_2 : unordAt (fg 47) 8 2 = [] := rfl
theorem un_47_8_3 : unordAt (fg 47) 8 3 = [] := rfl
theorem un_47_8_4 : unordAt (fg 47) 8 4 = [] := rfl
theorem un_47_8_5 : unordAt (fg 47) 8 5 = [] := rfl
theorem un_47_8_6 : unordAt (fg 47) 8 6 = [] := rfl
theorem un_47_8_7 : unordAt (fg 47) 8 7 = [] := rfl
theorem un_47_8_8 : unordAt (fg 47) 8 8 = [] := rfl
theorem un_47_8_9 : unordAt (fg 47) 8 9 = [] := rfl
theorem un_47_8_10 : unordAt (fg 47) 8 10 = [] := rfl
theorem un_47_8_11 : unordAt (fg 47) 8 11 = [] := rfl
theorem la_47_13 : looseAt (fg 47) 13 = false := rfl
theorem la_49_12 : looseAt (fg 49) 12 = true := rfl
theorem sq_49_12 : seqAt (fg 49) 12 = [0, 1, 2, 3, 4, 5, 6, 7, 8, 9] := rfl
theorem am_49_12 : allocsAt (fg 49) 12 = 0 := rfl
theorem un_49_12_0 : unordAt (fg 49) 12 0 = [] := rfl
theorem un_49_12_1 : unordAt (fg 49) 12 1 = [] := rfl
theorem un_49_12_2 : unordAt (fg 49) 12 2 = [] := rfl
theorem un_49_12_3 : unordAt (fg 49) 12 3 = [] := rfl
theorem un_49_12_4 : unordAt (fg 49) 12 4 = [] := rfl
theorem un_49_12_5 : unordAt (fg 49) 12 5 = [] := rfl
theorem un_49_12_6 : unordAt (fg 49) 12 6 = [] := rfl
theorem un_49_12_7 : unordAt (fg 49) 12 7 = [] := rfl
theorem un_49_12_8 : unordAt (fg 49) 12 8 = [] := rfl
theorem un_49_12_9 : unordAt (fg 49) 12 9 = [] := rfl
theorem la_50_4 : looseAt (fg 50) 4 = false := rfl
theorem la_53_3 : looseAt (fg 53) 3 = false := rfl
theorem la_53_7 : looseAt (fg 53) 7 = false := rfl
theorem la_58_1 : looseAt (fg 58) 1 = true := rfl
theorem sq_58_1 : seqAt (fg 58) 1 = [8, 0, 1, 2, 3, 4, 5, 6, 7, 9] := rfl
theorem am_58_1 : allocsAt (fg 58) 1 = 1 := rfl
theorem un_58_1_0 : unordAt (fg 58) 1 0 = [0] := rfl
theorem un_58_1_1 : unordAt (fg 58) 1 1 = [] := rfl
theorem un_58_1_2 : unordAt (fg 58) 1 2 = [] := rfl
theorem un_58_1_3 : unordAt (fg 58) 1 3 = [0] := rfl
theorem un_58_1_4 : unordAt (fg 58) 1 4 = [0] := rfl
theorem un_58_1_5 : unordAt (fg 58) 1 5 = [] := rfl
theorem un_58_1_6 : unordAt (fg 58) 1 6 = [] := rfl
theorem un_58_1_7 : unordAt (fg 58) 1 7 = [0] := rfl
theorem un_58_1_9 : unordAt (fg 58) 1 9 = [] := rfl
theorem la_58_6 : looseAt (fg 58) 6 = false := rfl
theorem la_59_1 : looseAt (fg 59) 1 = true := rfl
theorem sq_59_1 : seqAt (fg 59) 1 = [0, 1, 2, 3, 4, 5, 6, 7, 8, 9, 10, 11, 12, 13] := rfl
theorem am_59_1 : allocsAt (fg 59) 1 = 0 := rfl
theorem un_59_1_0 : unordAt (fg 59) 1 0 = [] := rfl
theorem un_59_1_1 : unordAt (fg 59) 1 1 = [] := rfl
theorem un_59_1_2 : unordAt (fg 59) 1 2 = [] := rfl
theorem un_59_1_3 : unordAt (fg 59) 1 3 = [] := rfl
theorem un_59_1_4 : unordAt (fg 59) 1 4 = [] := rfl
theorem un_59_1_5 : unordAt (fg 59) 1 5 = [] := rfl
theorem un_59_1_6 : unordAt (fg 59) 1 6 = [] := rfl
theorem un_59_1_7 : unordAt (fg 59) 1 7 = [] := rfl
theorem un_59_1_8 : unordAt (fg 59) 1 8 = [] := rfl
theorem un_59_1_9 : unordAt (fg 59) 1 9 = [] := rfl
theorem un_59_1_10 : unordAt (fg 59) 1 10 = [] := rfl
theorem un_59_1_11 : unordAt (fg 59) 1 11 = [] := rfl
theorem un_59_1_12 : unordAt (fg 59) 1 12 = [] := rfl
theorem un_59_1_13 : unordAt (fg 59) 1 13 = [] := rfl
theorem la_59_2 : looseAt (fg 59) 2 = false := rfl
theorem la_60_2 : looseAt (fg 60) 2 = false := rfl
theorem la_65_6 : looseAt (fg 65) 6 = false := rfl
theorem la_65_7 : looseAt (fg 65) 7 = false := rfl
theorem la_66_2 : looseAt (fg 66) 2 = false := rfl
theorem la_67_3 : looseAt (fg 67) 3 = false := rfl
theorem la_70_7 : looseAt (fg 70) 7 = true := rfl
theorem sq_70_7 : seqAt (fg 70) 7 = [0, 1, 2, 3, 4, 5, 6, 7, 8, 9, 10, 11, 12, 13, 14] := rfl
theorem am_70_7 : allocsAt (fg 70) 7 = 0 := rfl
theorem un_70_7_0 : unordAt (fg 70) 7 0 = [] := rfl
theorem un_70_7_1 : unordAt (fg 70) 7 1 = [] := rfl
theorem un_70_7_2 : unordAt (fg 70) 7 2 = [] := rfl
theorem un_70_7_3 : unordAt (fg 70) 7 3 = [] := rfl
theorem un_70_7_4 : unordAt (fg 70) 7 4 = [] := rfl
theorem un_70_7_5 : unordAt (fg 70) 7 5 = [] := rfl
theorem un_70_7_6 : unordAt (fg 70) 7 6 = [] := rfl
theorem un_70_7_7 : unordAt (fg 70) 7 7 = [] := rfl
theorem un_70_7_8 : unordAt (fg 70) 7 8 = [] := rfl
theorem un_70_7_9 : unordAt (fg 70) 7 9 = [] := rfl
theorem un_70_7_10 : unordAt (fg 70) 7 10 = [] := rfl
theorem un_70_7_11 : unordAt (fg 70) 7 11 = [] := rfl
theorem un_70_7_12 : unordAt (fg 70) 7 12 = [] := rfl
theorem un_70_7_13 : unordAt (fg 70) 7 13 = [] := rfl
theorem un_70_7_14 : unordAt (fg 70) 7 14 = [] := rfl
theorem la_70_8 : looseAt (fg 70) 8 = true := rfl
theorem sq_70_8 : seqAt (fg 70) 8 = [0, 1, 2, 3, 4, 5, 6, 7, 8, 9, 10, 11, 12, 13, 14] := rfl
theorem am_70_8 : allocsAt (fg 70) 8 = 0 := rfl
theorem un_70_8_0 : unordAt (fg 70) 8 0 = [] := rfl
theorem un_70_8_1 : unordAt (fg 70) 8 1 = [] := rfl
theorem un_70_8_2 : unordAt (fg 70) 8 2 = [] := rfl
theorem un_70_8_3 : unordAt (fg 70) 8 3 = [] := rfl
theorem un_70_8_4 : unordAt (fg 70) 8 4 = [] := rfl
theorem un_70_8_5 : unordAt (fg 70) 8 5 = [] := rfl
theorem un_70_8_6 : unordAt (fg 70) 8 6 = [] := rfl
theorem un_70_8_7 : unordAt (fg 70) 8 7 = [] := rfl
theorem un_70_8_8 : unordAt (fg 70) 8 8 = [] := rfl
theorem un_70_8_9 : unordAt (fg 70) 8 9 = [] := rfl
theorem un_70_8_10 : unordAt (fg 70) 8 10 = [] := rfl
theorem un_70_8_11 : unordAt (fg 70) 8 11 = [] := rfl
theorem un_70_8_12 : unordAt (fg 70) 8 12 = [] := rfl
theorem un_70_8_13 : unordAt (fg 70) 8 13 = [] := rfl
theorem un_70_8_14 : unordAt (fg 70) 8 14 = [] := rfl
theorem la_70_9 : looseAt (fg 70) 9 = true := rfl
theorem sq_70_9 : seqAt (fg 70) 9 = [0, 1, 2, 3, 4, 5, 6, 7, 8, 9, 10, 11, 12, 13, 14] := rfl
theorem am_70_9 : allocsAt (fg 70) 9 = 0 := rfl
theorem un_70_9_0 : unordAt (fg 70) 9 0 = [] := rfl
theorem un_70_9_1 : unordAt (fg 70) 9 1 = [] := rfl
theorem un_70_9_2 : unordAt (fg 70) 9 2 = [] := rfl
theorem un_70_9_3 : unordAt (fg 70) 9 3 = [] := rfl
theorem un_70_9_4 : unordAt (fg 70) 9 4 = [] := rfl
theorem un_70_9_5 : unordAt (fg 70) 9 5 = [] := rfl
theorem un_70_9_6 : unordAt (fg 70) 9 6 = [] := rfl
theorem un_70_9_7 : unordAt (fg 70) 9 7 = [] := rfl
theorem un_70_9_8 : unordAt (fg 70) 9 8 = [] := rfl
theorem un_70_9_9 : unordAt (fg 70) 9 9 = [] := rfl
theorem un_70_9_10 : unordAt (fg 70) 9 10 = [] := rfl
theorem un_70_9_11 : unordAt (fg 70) 9 11 = [] := rfl
theorem un_70_9_12 : unordAt (fg 70) 9 12 = [] := rfl
theorem un_70_9_13 : unordAt (fg 70) 9 13 = [] := rfl
theorem un_70_9_14 : unordAt (fg 70) 9 14 = [] := rfl
theorem la_70_10 : looseAt (fg 70) 10 = true := rfl
theorem sq_70_10 : seqAt (fg 70) 10 = [0, 1, 2, 3, 4, 5, 6, 7, 8, 9, 10, 11, 12, 13, 14] := rfl
theorem am_70_10 : allocsAt (fg 70) 10 = 0 := rfl
theorem un_70_10_0 : unordAt (fg 70) 10 0 = [] := rfl
theorem un_70_10_1 : unordAt (fg 70) 10 1 = [] := rfl
theorem un_70_10_2 : unordAt (fg 70) 10 2 = [] := rfl
theorem un_70_10_3 : unordAt (fg 70) 10 3 = [] := rfl
theorem un_70_10_4 : unordAt (fg 70) 10 4 = [] := rfl
theorem un_70_10_5 : unordAt (fg 70) 10 5 = [] := rfl
theorem un_70_10_6 : unordAt (fg 70) 10 6 = [] := rfl
theorem un_70_10_7 : unordAt (fg 70) 10 7 = [] := rfl
theorem un_70_10_8 : unordAt (fg 70) 10 8 = [] := rfl
theorem un_70_10_9 : unordAt (fg 70) 10 9 = [] := rfl
theorem un_70_10_10 : unordAt (fg 70) 10 10 = [] := rfl
theorem un_70_10_11 : unordAt (fg 70) 10 11 = [] := rfl
theorem un_70_10_12 : unordAt (fg 70) 10 12 = [] := rfl
theorem un_70_10_13 : unordAt (fg 70) 10 13 = [] := rfl
theorem un_70_10_14 : unordAt (fg 70) 10 14 = [] := rfl
theorem la_70_17 : looseAt (fg 70) 17 = true := rfl
theorem sq_70_17 : seqAt (fg 70) 17 = [0, 1, 2, 3, 4, 5, 6, 7, 8, 9, 10, 11, 12, 13, 14] := rfl
theorem am_70_17 : allocsAt (fg 70) 17 = 0 := rfl
theorem un_70_17_0 : unordAt (fg 70) 17 0 = [] := rfl
theorem un_70_17_1 : unordAt (fg 70) 17 1 = [] := rfl
theorem un_70_17_2 : unordAt (fg 70) 17 2 = [] := rfl
theorem un_70_17_3 : unordAt (fg 70) 17 3 = [] := rfl
theorem un_70_17_4 : unordAt (fg 70) 17 4 = [] := rfl
theorem un_70_17_5 : unordAt (fg 70) 17 5 = [] := rfl
theorem un_70_17_6 : unordAt (fg 70) 17 6 = [] := rfl
theorem un_70_17_7 : unordAt (fg 70) 17 7 = [] := rfl
theorem un_70_17_8 : unordAt (fg 70) 17 8 = [] := rfl
theorem un_70_17_9 : unordAt (fg 70) 17 9 = [] := rfl
theorem un_70_17_10 : unordAt (fg 70) 17 10 = [] := rfl
theorem un_70_17_11 : unordAt (fg 70) 17 11 = [] := rfl
theorem un_70_17_12 : unordAt (fg 70) 17 12 = [] := rfl
theorem un_70_17_13 : unordAt (fg 70) 17 13 = [] := rfl
theorem un_70_17_14 : unordAt (fg 70) 17 14 = [] := rfl
theorem la_70_18 : looseAt (fg 70) 18 = true := rfl
theorem sq_70_18 : seqAt (fg 70) 18 = [0, 1, 2, 3, 4, 5, 6, 7, 8, 9, 10, 11, 12, 13, 14] := rfl
theorem am_70_18 : allocsAt (fg 70) 18 = 0 := rfl
theorem un_70_18_0 : unordAt (fg 70) 18 0 = [] := rfl
theorem un_70_18_1 : unordAt (fg 70) 18 1 = [] := rfl
theorem un_70_18_2 : unordAt (fg 70) 18 2 = [] := rfl
theorem un_70_18_3 : unordAt (fg 70) 18 3 = [] := rfl
theorem un_70_18_4 : unordAt (fg 70) 18 4 = [] := rfl
theorem un_70_18_5 : unordAt (fg 70) 18 5 = [] := rfl
theorem un_70_18_6 : unordAt (fg 70) 18 6 = [] := rfl
theorem un_70_18_7 : unordAt (fg 70) 18 7 = [] := rfl
theorem un_70_18_8 : unordAt (fg 70) 18 8 = [] := rfl
theorem un_70_18_9 : unordAt (fg 70) 18 9 = [] := rfl
theorem un_70_18_10 : unordAt (fg 70) 18 10 = [] := rfl
theorem un_70_18_11 : unordAt (fg 70) 18 11 = [] := rfl
theorem un_70_18_12 : unordAt (fg 70) 18 12 = [] := rfl
theorem un_70_18_13 : unordAt (fg 70) 18 13 = [] := rfl
theorem un_70_18_14 : unordAt (fg 70) 18 14 = [] := rfl
theorem la_70_23 : looseAt (fg 70) 23 = true := rfl
theorem sq_70_23 : seqAt (fg 70) 23 = [0, 1, 2, 3, 4, 5, 6, 7, 8, 9, 10, 11, 12, 13, 14] := rfl
theorem am_70_23 : allocsAt (fg 70) 23 = 0 := rfl
theorem un_70_23_0 : unordAt (fg 70) 23 0 = [] := rfl
theorem un_70_23_1 : unordAt (fg 70) 23 1 = [] := rfl
theorem un_70_23_2 : unordAt (fg 70) 23 2 = [] := rfl
theorem un_70_23_3 : unordAt (fg 70) 23 3 = [] := rfl
theorem un_70_23_4 : unordAt (fg 70) 23 4 = [] := rfl
theorem un_70_23_5 : unordAt (fg 70) 23 5 = [] := rfl
theorem un_70_23_6 : unordAt (fg 70) 23 6 = [] := rfl
theorem un_70_23_7 : unordAt (fg 70) 23 7 = [] := rfl
theorem un_70_23_8 : unordAt (fg 70) 23 8 = [] := rfl
theorem un_70_23_9 : unordAt (fg 70) 23 9 = [] := rfl
theorem un_70_23_10 : unordAt (fg 70) 23 10 = [] := rfl
theorem un_70_23_11 : unordAt (fg 70) 23 11 = [] := rfl
theorem un_70_23_12 : unordAt (fg 70) 23 12 = [] := rfl
theorem un_70_23_13 : unordAt (fg 70) 23 13 = [] := rfl
theorem un_70_23_14 : unordAt (fg 70) 23 14 = [] := rfl
theorem tsize_3 : tsize Tryd.prog 3 = 1 := by kernel_rfl
theorem tsize_4 : tsize Tryd.prog 4 = 1 := by kernel_rfl
theorem tsize_5 : tsize Tryd.prog 5 = 1 := by kernel_rfl
theorem tsize_9 : tsize Tryd.prog 9 = 1 := by kernel_rfl
theorem tsize_22 : tsize Tryd.prog 22 = 1 := by kernel_rfl
theorem tsize_24 : tsize Tryd.prog 24 = 5 := by kernel_rfl
theorem tsize_30 : tsize Tryd.prog 30 = 1 := by kernel_rfl
theorem tsize_38 : tsize Tryd.prog 38 = 6 := by kernel_rfl
theorem tsize_52 : tsize Tryd.prog 52 = 1 := by kernel_rfl
theorem tsize_56 : tsize Tryd.prog 56 = 10 := by kernel_rfl
theorem tsize_58 : tsize Tryd.prog 58 = 1 := by kernel_rfl
theorem tsize_59 : tsize Tryd.prog 59 = 1 := by kernel_rfl
theorem tsize_71 : tsize Tryd.prog 71 = 1 := by kernel_rfl
theorem tsize_78 : tsize Tryd.prog 78 = 2 := by kernel_rfl
theorem tsize_84 : tsize Tryd.prog 84 = 1 := by kernel_rfl
theorem tsize_88 : tsize Tryd.prog 88 = 7 := by kernel_rfl
theorem tsize_90 : tsize Tryd.prog 90 = 1 := by kernel_rfl
theorem tsize_101 : tsize Tryd.prog 101 = 1 := by kernel_rfl
theorem tsize_108 : tsize Tryd.prog 108 = 20 := by kernel_rfl
theorem tsize_114 : tsize Tryd.prog 114 = 32 := by kernel_rfl
theorem tsize_115 : tsize Tryd.prog 115 = 64 := by kernel_rfl
theorem tagg_3 : tagg Tryd.prog 3 = some false := by kernel_rfl
theorem tagg_4 : tagg Tryd.prog 4 = some false := by kernel_rfl
theorem tagg_5 : tagg Tryd.prog 5 = some false := by kernel_rfl
theorem tagg_9 : tagg Tryd.prog 9 = some false := by kernel_rfl
theorem tagg_22 : tagg Tryd.prog 22 = some false := by kernel_rfl
theorem tagg_24 : tagg Tryd.prog 24 = some true := by kernel_rfl
theorem tagg_30 : tagg Tryd.prog 30 = some false := by kernel_rfl
theorem tagg_38 : tagg Tryd.prog 38 = some true := by kernel_rfl
theorem tagg_52 : tagg Tryd.prog 52 = some false := by kernel_rfl
theorem tagg_56 : tagg Tryd.prog 56 = some true := by kernel_rfl
theorem tagg_58 : tagg Tryd.prog 58 = some false := by kernel_rfl
theorem tagg_59 : tagg Tryd.prog 59 = some false := by kernel_rfl
theorem tagg_71 : tagg Tryd.prog 71 = some false := by kernel_rfl
theorem tagg_78 : tagg Tryd.prog 78 = some true := by kernel_rfl
theorem tagg_84 : tagg Tryd.prog 84 = some false := by kernel_rfl
theorem tagg_88 : tagg Tryd.prog 88 = some true := by kernel_rfl
theorem tagg_90 : tagg Tryd.prog 90 = some false := by kernel_rfl
theorem tagg_101 : tagg Tryd.prog 101 = some false := by kernel_rfl
theorem tagg_108 : tagg Tryd.prog 108 = some true := by kernel_rfl
theorem tagg_114 : tagg Tryd.prog 114 = some true := by kernel_rfl
theorem tagg_115 : tagg Tryd.prog 115 = some true := by kernel_rfl
theorem tslice_9 : tslice Tryd.prog 9 = none := by kernel_rfl
theorem tslice_22 : tslice Tryd.prog 22 = some (5, 72, .agg [.val (.int .i64 0), .val (.string ⟨#[]⟩), .val (.string ⟨#[]⟩), .val (.int .i64 0), .slc true []]) := by kernel_rfl
theorem tslice_30 : tslice Tryd.prog 30 = some (1, 16, .val (.string ⟨#[]⟩)) := by kernel_rfl
theorem tslice_33 : tslice Tryd.prog 33 = some (6, 88, .agg [.val (.string ⟨#[]⟩), .val (.int .i64 0), .val (.string ⟨#[]⟩), .val (.string ⟨#[]⟩), .val (.int .i64 0), .slc true []]) := by kernel_rfl
theorem tslice_57 : tslice Tryd.prog 57 = some (10, 144, .agg [.val (.int .i64 0), .val (.string ⟨#[]⟩), .val (.string ⟨#[]⟩), .val (.int .i64 0), .slc true [], .val (.int .i64 0), .val (.string ⟨#[]⟩), .val (.string ⟨#[]⟩), .val (.int .i64 0), .slc true []]) := by kernel_rfl
theorem tslice_68 : tslice Tryd.prog 68 = some (1, 1, .val (.int .u8 0)) := by kernel_rfl
theorem tslice_69 : tslice Tryd.prog 69 = none := by kernel_rfl
theorem tslice_70 : tslice Tryd.prog 70 = some (10, 144, .agg [.val (.int .i64 0), .val (.string ⟨#[]⟩), .val (.string ⟨#[]⟩), .val (.int .i64 0), .slc true [], .val (.int .i64 0), .val (.string ⟨#[]⟩), .val (.string ⟨#[]⟩), .val (.int .i64 0), .slc true []]) := by kernel_rfl
theorem tslice_76 : tslice Tryd.prog 76 = some (2, 16, .agg [.val (.int .i64 0), .val (.int .i64 0)]) := by kernel_rfl
theorem tslice_78 : tslice Tryd.prog 78 = none := by kernel_rfl
theorem tslice_84 : tslice Tryd.prog 84 = some (1, 8, .val (.int .i64 0)) := by kernel_rfl
theorem tslice_90 : tslice Tryd.prog 90 = some (7, 88, .agg [.val (.int .i64 0), .val (.string ⟨#[]⟩), .val (.string ⟨#[]⟩), .slc true [], .val (.int .i64 0), .val (.int .i64 0), .val (.int .i64 0)]) := by kernel_rfl
theorem tslice_100 : tslice Tryd.prog 100 = none := by kernel_rfl
theorem tslice_108 : tslice Tryd.prog 108 = none := by kernel_rfl
theorem tslice_110 : tslice Tryd.prog 110 = none := by kernel_rfl
theorem tslice_114 : tslice Tryd.prog 114 = none := by kernel_rfl
theorem tslice_115 : tslice Tryd.prog 115 = none := by kernel_rfl
theorem ownT_22 : ownT Tryd.prog 22 = false := by kernel_rfl
theorem ownT_30 : ownT Tryd.prog 30 = false := by kernel_rfl
theorem ownT_33 : ownT Tryd.prog 33 = false := by kernel_rfl
theorem ownT_57 : ownT Tryd.prog 57 = false := by kernel_rfl
theorem ownT_68 : ownT Tryd.prog 68 = false := by kernel_rfl
theorem ownT_70 : ownT Tryd.prog 70 = true := by kernel_rfl
theorem ownT_76 : ownT Tryd.prog 76 = true := by kernel_rfl
theorem ownT_84 : ownT Tryd.prog 84 = false := by kernel_rfl
theorem ownT_90 : ownT Tryd.prog 90 = false := by kernel_rfl
theorem tarr_9 : tarr Tryd.prog 9 = none := by kernel_rfl
theorem tarr_22 : tarr Tryd.prog 22 = none := by kernel_rfl
theorem tarr_24 : tarr Tryd.prog 24 = none := by kernel_rfl
theorem tarr_30 : tarr Tryd.prog 30 = none := by kernel_rfl
theorem tarr_33 : tarr Tryd.prog 33 = none := by kernel_rfl
theorem tarr_38 : tarr Tryd.prog 38 = none := by kernel_rfl
theorem tarr_56 : tarr Tryd.prog 56 = none := by kernel_rfl
theorem tarr_57 : tarr Tryd.prog 57 = none := by kernel_rfl
theorem tarr_61 : tarr Tryd.prog 61 = none := by kernel_rfl
theorem tarr_68 : tarr Tryd.prog 68 = none := by kernel_rfl
theorem tarr_69 : tarr Tryd.prog 69 = some (2, 24) := by kernel_rfl
theorem tarr_70 : tarr Tryd.prog 70 = none := by kernel_rfl
theorem tarr_76 : tarr Tryd.prog 76 = none := by kernel_rfl
theorem tarr_78 : tarr Tryd.prog 78 = some (2, 3) := by kernel_rfl
theorem tarr_84 : tarr Tryd.prog 84 = none := by kernel_rfl
theorem tarr_88 : tarr Tryd.prog 88 = none := by kernel_rfl
theorem tarr_90 : tarr Tryd.prog 90 = none := by kernel_rfl
theorem tarr_92 : tarr Tryd.prog 92 = none := by kernel_rfl
theorem tarr_100 : tarr Tryd.prog 100 = some (24, 5) := by kernel_rfl
theorem tarr_108 : tarr Tryd.prog 108 = some (20, 101) := by kernel_rfl
theorem tarr_110 : tarr Tryd.prog 110 = some (65, 5) := by kernel_rfl
theorem tarr_114 : tarr Tryd.prog 114 = some (32, 5) := by kernel_rfl
theorem tarr_115 : tarr Tryd.prog 115 = some (64, 5) := by kernel_rfl
theorem tzero_3 : tzero Tryd.prog 3 = some (.val (.int .i64 0)) := by kernel_rfl
theorem tzero_24 : tzero Tryd.prog 24 = some (.agg [.val (.int .i64 0), .val (.string ⟨#[]⟩), .val (.string ⟨#[]⟩), .val (.int .i64 0), .slc true []]) := by kernel_rfl
theorem tzero_30 : tzero Tryd.prog 30 = some (.slc true []) := by kernel_rfl
theorem tzero_38 : tzero Tryd.prog 38 = some (.agg [.val (.string ⟨#[]⟩), .val (.int .i64 0), .val (.string ⟨#[]⟩), .val (.string ⟨#[]⟩), .val (.int .i64 0), .slc true []]) := by kernel_rfl
theorem tzero_52 : tzero Tryd.prog 52 = some (.val (.pointer .none)) := by kernel_rfl
theorem tzero_56 : tzero Tryd.prog 56 = some (.agg [.val (.int .i64 0), .val (.string ⟨#[]⟩), .val (.string ⟨#[]⟩), .val (.int .i64 0), .slc true [], .val (.int .i64 0), .val (.string ⟨#[]⟩), .val (.string ⟨#[]⟩), .val (.int .i64 0), .slc true []]) := by kernel_rfl
theorem tzero_61 : tzero Tryd.prog 61 = some (.agg [.val (.pointer .none), .val (.map .none), .slc true []]) := by kernel_rfl
theorem tzero_69 : tzero Tryd.prog 69 = some (.agg [.val (.int .i64 0), .val (.string ⟨#[]⟩), .val (.string ⟨#[]⟩), .val (.int .i64 0), .slc true [], .val (.int .i64 0), .val (.string ⟨#[]⟩), .val (.string ⟨#[]⟩), .val (.int .i64 0), .slc true []]) := by kernel_rfl
theorem tzero_71 : tzero Tryd.prog 71 = some (.val .nilFunc) := by kernel_rfl
theorem tzero_78 : tzero Tryd.prog 78 = some (.agg [.val (.int .i64 0), .val (.int .i64 0)]) := by kernel_rfl
theorem tzero_88 : tzero Tryd.prog 88 = some (.agg [.val (.int .i64 0), .val (.string ⟨#[]⟩), .val (.string ⟨#[]⟩), .slc true [], .val (.int .i64 0), .val (.int .i64 0), .val (.int .i64 0)]) := by kernel_rfl
theorem tzero_92 : tzero Tryd.prog 92 = some (.agg [.slc true [], .val (.int .i64 0), .val (.bool .false), .val (.int .i64 0)]) := by kernel_rfl
theorem tzero_100 : tzero Tryd.prog 100 = some (.agg [.val (.int .u8 0), .val (.int .u8 0), .val (.int .u8 0), .val (.int .u8 0), .val (.int .u8 0), .val (.int .u8 0), .val (.int .u8 0), .val (.int .u8 0), .val (.int .u8 0), .val (.int .u8 0), .val (.int .u8 0), .val (.int .u8 0), .val (.int .u8 0), .val (.int .u8 0), .val (.int .u8 0), .val (.int .u8 0), .val (.int .u8 0), .val (.int .u8 0), .val (.int .u8 0), .val (.int .u8 0), .val (.int .u8 0), .val (.int .u8 0), .val (.int .u8 0), .val (.int .u8 0)]) := by kernel_rfl
theorem tzero_108 : tzero Tryd.prog 108 = some (.agg [.val (.int .u64 0), .val (.int .u64 0), .val (.int .u64 0), .val (.int .u64 0), .val (.int .u64 0), .val (.int .u64 0), .val (.int .u64 0), .val (.int .u64 0), .val (.int .u64 0), .val (.int .u64 0), .val (.int .u64 0), .val (.int .u64 0), .val (.int .u64 0), .val (.int .u64 0), .val (.int .u64 0), .val (.int .u64 0), .val (.int .u64 0), .val (.int .u64 0), .val (.int .u64 0), .val (.int .u64 0)]) := by kernel_rfl
theorem tzero_110 : tzero Tryd.prog 110 = some (.agg [.val (.int .u8 0), .val (.int .u8 0), .val (.int .u8 0), .val (.int .u8 0), .val (.int .u8 0), .val (.int .u8 0), .val (.int .u8 0), .val (.int .u8 0), .val (.int .u8 0), .val (.int .u8 0), .val (.int .u8 0), .val (.int .u8 0), .val (.int .u8 0), .val (.int .u8 0), .val (.int .u8 0), .val (.int .u8 0), .val (.int .u8 0), .val (.int .u8 0), .val (.int .u8 0), .val (.int .u8 0), .val (.int .u8 0), .val (.int .u8 0), .val (.int .u8 0), .val (.int .u8 0), .val (.int .u8 0), .val (.int .u8 0), .val (.int .u8 0), .val (.int .u8 0), .val (.int .u8 0), .val (.int .u8 0), .val (.int .u8 0), .val (.int .u8 0), .val (.int .u8 0), .val (.int .u8 0), .val (.int .u8 0), .val (.int .u8 0), .val (.int .u8 0), .val (.int .u8 0), .val (.int .u8 0), .val (.int .u8 0), .val (.int .u8 0), .val (.int .u8 0), .val (.int .u8 0), .val (.int .u8 0), .val (.int .u8 0), .val (.int .u8 0), .val (.int .u8 0), .val (.int .u8 0), .val (.int .u8 0), .val (.int .u8 0), .val (.int .u8 0), .val (.int .u8 0), .val (.int .u8 0), .val (.int .u8 0), .val (.int .u8 0), .val (.int .u8 0), .val (.int .u8 0), .val (.int .u8 0), .val (.int .u8 0), .val (.int .u8 0), .val (.int .u8 0), .val (.int .u8 0), .val (.int .u8 0), .val (.int .u8 0), .val (.int .u8 0)]) := by kernel_rfl
theorem tzero_114 : tzero Tryd.prog 114 = some (.agg [.val (.int .u8 0), .val (.int .u8 0), .val (.int .u8 0), .val (.int .u8 0), .val (.int .u8 0), .val (.int .u8 0), .val (.int .u8 0), .val (.int .u8 0), .val (.int .u8 0), .val (.int .u8 0), .val (.int .u8 0), .val (.int .u8 0), .val (.int .u8 0), .val (.int .u8 0), .val (.int .u8 0), .val (.int .u8 0), .val (.int .u8 0), .val (.int .u8 0), .val (.int .u8 0), .val (.int .u8 0), .val (.int .u8 0), .val (.int .u8 0), .val (.int .u8 0), .val (.int .u8 0), .val (.int .u8 0), .val (.int .u8 0), .val (.int .u8 0), .val (.int .u8 0), .val (.int .u8 0), .val (.int .u8 0), .val (.int .u8 0), .val (.int .u8 0)]) := by kernel_rfl
theorem tzero_115 : tzero Tryd.prog 115 = some (.agg [.val (.int .u8 0), .val (.int .u8 0), .val (.int .u8 0), .val (.int .u8 0), .val (.int .u8 0), .val (.int .u8 0), .val (.int .u8 0), .val (.int .u8 0), .val (.int .u8 0), .val (.int .u8 0), .val (.int .u8 0), .val (.int .u8 0), .val (.int .u8 0), .val (.int .u8 0), .val (.int .u8 0), .val (.int .u8 0), .val (.int .u8 0), .val (.int .u8 0), .val (.int .u8 0), .val (.int .u8 0), .val (.int .u8 0), .val (.int .u8 0), .val (.int .u8 0), .val (.int .u8 0), .val (.int .u8 0), .val (.int .u8 0), .val (.int .u8 0), .val (.int .u8 0), .val (.int .u8 0), .val (.int .u8 0), .val (.int .u8 0), .val (.int .u8 0), .val (.int .u8 0), .val (.int .u8 0), .val (.int .u8 0), .val (.int .u8 0), .val (.int .u8 0), .val (.int .u8 0), .val (.int .u8 0), .val (.int .u8 0), .val (.int .u8 0), .val (.int .u8 0), .val (.int .u8 0), .val (.int .u8 0), .val (.int .u8 0), .val (.int .u8 0), .val (.int .u8 0), .val (.int .u8 0), .val (.int .u8 0), .val (.int .u8 0), .val (.int .u8 0), .val (.int .u8 0), .val (.int .u8 0), .val (.int .u8 0), .val (.int .u8 0), .val (.int .u8 0), .val (.int .u8 0), .val (.int .u8 0), .val (.int .u8 0), .val (.int .u8 0), .val (.int .u8 0), .val (.int .u8 0), .val (.int .u8 0), .val (.int .u8 0)]) := by kernel_rfl
theorem isStrT_9 : isStrT Tryd.prog 9 = true := by kernel_rfl
theorem isStrT_22 : isStrT Tryd.prog 22 = false := by kernel_rfl
theorem isStrT_30 : isStrT Tryd.prog 30 = false := by kernel_rfl
theorem isStrT_33 : isStrT Tryd.prog 33 = false := by kernel_rfl
theorem isStrT_57 : isStrT Tryd.prog 57 = false := by kernel_rfl
theorem isStrT_68 : isStrT Tryd.prog 68 = false := by kernel_rfl
theorem isStrT_69 : isStrT Tryd.prog 69 = false := by kernel_rfl
theorem isStrT_70 : isStrT Tryd.prog 70 = false := by kernel_rfl
theorem isStrT_76 : isStrT Tryd.prog 76 = false := by kernel_rfl
theorem isStrT_78 : isStrT Tryd.prog 78 = false := by kernel_rfl
theorem isStrT_84 : isStrT Tryd.prog 84 = false := by kernel_rfl
theorem isStrT_90 : isStrT Tryd.prog 90 = false := by kernel_rfl
theorem isStrT_100 : isStrT Tryd.prog 100 = false := by kernel_rfl
theorem isStrT_108 : isStrT Tryd.prog 108 = false := by kernel_rfl
theorem isStrT_110 : isStrT Tryd.prog 110 = false := by kernel_rfl
theorem isStrT_114 : isStrT Tryd.prog 114 = false := by kernel_rfl
theorem isStrT_115 : isStrT Tryd.prog 115 = false := by kernel_rfl
theorem isSeqT_22 : isSeqT Tryd.prog 22 = true := by kernel_rfl
theorem isSeqT_30 : isSeqT Tryd.prog 30 = true := by kernel_rfl
theorem isSeqT_33 : isSeqT Tryd.prog 33 = true := by kernel_rfl
theorem isSeqT_68 : isSeqT Tryd.prog 68 = true := by kernel_rfl
theorem isSeqT_70 : isSeqT Tryd.prog 70 = true := by kernel_rfl
theorem isSeqT_76 : isSeqT Tryd.prog 76 = true := by kernel_rfl
theorem isSeqT_84 : isSeqT Tryd.prog 84 = true := by kernel_rfl
theorem isSeqT_90 : isSeqT Tryd.prog 90 = true := by kernel_rfl
theorem isPtrT_58 : isPtrT Tryd.prog 58 = true := by kernel_rfl
theorem isBoolT_4 : isBoolT Tryd.prog 4 = true := by kernel_rfl
theorem tfield_24_0 : tfield Tryd.prog 24 0 = some (0, 1, false) := by kernel_rfl
theorem tfield_24_1 : tfield Tryd.prog 24 1 = some (1, 1, false) := by kernel_rfl
theorem tfield_24_2 : tfield Tryd.prog 24 2 = some (2, 1, false) := by kernel_rfl
theorem tfield_24_3 : tfield Tryd.prog 24 3 = some (3, 1, false) := by kernel_rfl
theorem tfield_24_4 : tfield Tryd.prog 24 4 = some (4, 1, false) := by kernel_rfl
theorem tfield_38_0 : tfield Tryd.prog 38 0 = some (0, 1, false) := by kernel_rfl
theorem tfield_38_1 : tfield Tryd.prog 38 1 = some (1, 5, true) := by kernel_rfl
theorem tfield_56_0 : tfield Tryd.prog 56 0 = some (0, 5, true) := by kernel_rfl
theorem tfield_56_1 : tfield Tryd.prog 56 1 = some (5, 5, true) := by kernel_rfl
theorem tfield_61_0 : tfield Tryd.prog 61 0 = some (0, 1, false) := by kernel_rfl
theorem tfield_61_1 : tfield Tryd.prog 61 1 = some (1, 1, false) := by kernel_rfl
theorem tfield_61_2 : tfield Tryd.prog 61 2 = some (2, 1, false) := by kernel_rfl
theorem tfield_88_0 : tfield Tryd.prog 88 0 = some (0, 1, false) := by kernel_rfl
theorem tfield_88_1 : tfield Tryd.prog 88 1 = some (1, 1, false) := by kernel_rfl
theorem tfield_88_2 : tfield Tryd.prog 88 2 = some (2, 1, false) := by kernel_rfl
theorem tfield_88_3 : tfield Tryd.prog 88 3 = some (3, 1, false) := by kernel_rfl
theorem tfield_88_4 : tfield Tryd.prog 88 4 = some (4, 1, false) := by kernel_rfl
theorem tfield_88_5 : tfield Tryd.prog 88 5 = some (5, 1, false) := by kernel_rfl
theorem tfield_88_6 : tfield Tryd.prog 88 6 = some (6, 1, false) := by kernel_rfl
theorem tfield_92_0 : tfield Tryd.prog 92 0 = some (0, 1, false) := by kernel_rfl
theorem tfield_92_1 : tfield Tryd.prog 92 1 = some (1, 1, false) := by kernel_rfl
theorem tfield_92_2 : tfield Tryd.prog 92 2 = some (2, 1, false) := by kernel_rfl
theorem tfield_92_3 : tfield Tryd.prog 92 3 = some (3, 1, false) := by kernel_rfl
theorem tplaces_24 : tplaces Tryd.prog 24 = some [(0, 1), (1, 1), (2, 1), (3, 1), (4, 1)] := by kernel_rfl
theorem abuild_24 (ps : List (Nat × AV)) : abuild Tryd.prog 24 ps = bT (tzero Tryd.prog 24) (some [(0, 1), (1, 1), (2, 1), (3, 1), (4, 1)]) ps := abuild_struct _ _ tplaces_24
theorem tplaces_38 : tplaces Tryd.prog 38 = some [(0, 1), (1, 5)] := by kernel_rfl
theorem abuild_38 (ps : List (Nat × AV)) : abuild Tryd.prog 38 ps = bT (tzero Tryd.prog 38) (some [(0, 1), (1, 5)]) ps := abuild_struct _ _ tplaces_38
theorem tplaces_56 : tplaces Tryd.prog 56 = some [(0, 5), (5, 5)] := by kernel_rfl
theorem abuild_56 (ps : List (Nat × AV)) : abuild Tryd.prog 56 ps = bT (tzero Tryd.prog 56) (some [(0, 5), (5, 5)]) ps := abuild_struct _ _ tplaces_56
theorem tplaces_61 : tplaces Tryd.prog 61 = some [(0, 1), (1, 1), (2, 1)] := by kernel_rfl
theorem abuild_61 (ps : List (Nat × AV)) : abuild Tryd.prog 61 ps = bT (tzero Tryd.prog 61) (some [(0, 1), (1, 1), (2, 1)]) ps := abuild_struct _ _ tplaces_61
theorem tplaces_69 : tplaces Tryd.prog 69 = none := by kernel_rfl
theorem tplaces_78 : tplaces Tryd.prog 78 = none := by kernel_rfl
theorem tplaces_88 : tplaces Tryd.prog 88 = some [(0, 1), (1, 1), (2, 1), (3, 1), (4, 1), (5, 1), (6, 1)] := by kernel_rfl
theorem abuild_88 (ps : List (Nat × AV)) : abuild Tryd.prog 88 ps = bT (tzero Tryd.prog 88) (some [(0, 1), (1, 1), (2, 1), (3, 1), (4, 1), (5, 1), (6, 1)]) ps := abuild_struct _ _ tplaces_88
theorem tplaces_92 : tplaces Tryd.prog 92 = some [(0, 1), (1, 1), (2, 1), (3, 1)] := by kernel_rfl
theorem abuild_92 (ps : List (Nat × AV)) : abuild Tryd.prog 92 ps = bT (tzero Tryd.prog 92) (some [(0, 1), (1, 1), (2, 1), (3, 1)]) ps := abuild_struct _ _ tplaces_92
theorem tplaces_108 : tplaces Tryd.prog 108 = none := by kernel_rfl
theorem tplaces_114 : tplaces Tryd.prog 114 = none := by kernel_rfl
theorem tplaces_115 : tplaces Tryd.prog 115 = none := by kernel_rfl
theorem und_2 : Tryd.prog.underlying 2 = some (.int .i64) := by kernel_rfl
theorem und_3 : Tryd.prog.underlying 3 = some (.int .i64) := by kernel_rfl
theorem und_5 : Tryd.prog.underlying 5 = some (.int .u8) := by kernel_rfl
theorem und_9 : Tryd.prog.underlying 9 = some .string := by kernel_rfl
theorem und_68 : Tryd.prog.underlying 68 = some (.slice 5) := by kernel_rfl
theorem und_101 : Tryd.prog.underlying 101 = some (.int .u64) := by kernel_rfl
theorem und_109 : Tryd.prog.underlying 109 = some (.int .u32) := by kernel_rfl
theorem und_111 : Tryd.prog.underlying 111 = some (.int .u64) := by kernel_rfl
theorem cv_2_101 (h : AHeap) (k : IntKind) (n : Int) : aconvert Tryd.prog 2 101 h (.val (.int k n)) = some (.val (.int .u64 (IntKind.u64.wrap n)), h) := aconvert_int _ _ _ _ und_2 und_101
theorem cv_3_5 (h : AHeap) (k : IntKind) (n : Int) : aconvert Tryd.prog 3 5 h (.val (.int k n)) = some (.val (.int .u8 (IntKind.u8.wrap n)), h) := aconvert_int _ _ _ _ und_3 und_5
theorem cv_3_101 (h : AHeap) (k : IntKind) (n : Int) : aconvert Tryd.prog 3 101 h (.val (.int k n)) = some (.val (.int .u64 (IntKind.u64.wrap n)), h) := aconvert_int _ _ _ _ und_3 und_101
theorem cv_3_111 (h : AHeap) (k : IntKind) (n : Int) : aconvert Tryd.prog 3 111 h (.val (.int k n)) = some (.val (.int .u64 (IntKind.u64.wrap n)), h) := aconvert_int _ _ _ _ und_3 und_111
theorem cv_5_3 (h : AHeap) (k : IntKind) (n : Int) : aconvert Tryd.prog 5 3 h (.val (.int k n)) = some (.val (.int .i64 (IntKind.i64.wrap n)), h) := aconvert_int _ _ _ _ und_5 und_3
theorem cv_68_9 (h : AHeap) (x : AV) : aconvert Tryd.prog 68 9 h x = textK (sview h x) h := aconvert_textK und_68 und_9 und_5
theorem cv_101_5 (h : AHeap) (k : IntKind) (n : Int) : aconvert Tryd.prog 101 5 h (.val (.int k n)) = some (.val (.int .u8 (IntKind.u8.wrap n)), h) := aconvert_int _ _ _ _ und_101 und_5
theorem cv_101_109 (h : AHeap) (k : IntKind) (n : Int) : aconvert Tryd.prog 101 109 h (.val (.int k n)) = some (.val (.int .u32 (IntKind.u32.wrap n)), h) := aconvert_int _ _ _ _ und_101 und_109
theorem cv_109_5 (h : AHeap) (k : IntKind) (n : Int) : aconvert Tryd.prog 109 5 h (.val (.int k n)) = some (.val (.int .u8 (IntKind.u8.wrap n)), h) := aconvert_int _ _ _ _ und_109 und_5
theorem cv_111_109 (h : AHeap) (k : IntKind) (n : Int) : aconvert Tryd.prog 111 109 h (.val (.int k n)) = some (.val (.int .u32 (IntKind.u32.wrap n)), h) := aconvert_int _ _ _ _ und_111 und_109
theorem callable_7 : callable Tryd.prog 7 = true := by kernel_rfl
theorem callable_8 : callable Tryd.prog 8 = true := by kernel_rfl
theorem callable_9 : callable Tryd.prog 9 = true := by kernel_rfl
theorem callable_10 : callable Tryd.prog 10 = true := by kernel_rfl
theorem callable_11 : callable Tryd.prog 11 = true := by kernel_rfl
theorem callable_12 : callable Tryd.prog 12 = true := by kernel_rfl
theorem callable_13 : callable Tryd.prog 13 = true := by kernel_rfl
theorem callable_14 : callable Tryd.prog 14 = true := by kernel_rfl
theorem callable_15 : callable Tryd.prog 15 = true := by kernel_rfl
theorem callable_16 : callable Tryd.prog 16 = true := by kernel_rfl
theorem callable_17 : callable Tryd.prog 17 = true := by kernel_rfl
theorem callable_18 : callable Tryd.prog 18 = true := by kernel_rfl
theorem callable_19 : callable Tryd.prog 19 = true := by kernel_rfl
theorem callable_20 : callable Tryd.prog 20 = true := by kernel_rfl
theorem callable_21 : callable Tryd.prog 21 = true := by kernel_rfl
theorem callable_22 : callable Tryd.prog 22 = true := by kernel_rfl
theorem callable_23 : callable Tryd.prog 23 = true := by kernel_rfl
theorem callable_24 : callable Tryd.prog 24 = true := by kernel_rfl
theorem callable_25 : callable Tryd.prog 25 = true := by kernel_rfl
theorem callable_26 : callable Tryd.prog 26 = true := by kernel_rfl
theorem callable_27 : callable Tryd.prog 27 = true := by kernel_rfl
theorem callable_28 : callable Tryd.prog 28 = true := by kernel_rfl
theorem callable_29 : callable Tryd.prog 29 = true := by kernel_rfl
theorem callable_30 : callable Tryd.prog 30 = true := by kernel_rfl
theorem callable_31 : callable Tryd.prog 31 = true := by kernel_rfl
theorem callable_32 : callable Tryd.prog 32 = true := by kernel_rfl
theorem callable_33 : callable Tryd.prog 33 = true := by kernel_rfl
theorem callable_34 : callable Tryd.prog 34 = true := by kernel_rfl
theorem callable_36 : callable Tryd.prog 36 = true := by kernel_rfl
theorem callable_37 : callable Tryd.prog 37 = true := by kernel_rfl
theorem callable_38 : callable Tryd.prog 38 = true := by kernel_rfl
theorem callable_39 : callable Tryd.prog 39 = true := by kernel_rfl
theorem callable_41 : callable Tryd.prog 41 = true := by kernel_rfl
theorem callable_42 : callable Tryd.prog 42 = true := by kernel_rfl
theorem callable_43 : callable Tryd.prog 43 = true := by kernel_rfl
theorem callable_44 : callable Tryd.prog 44 = true := by kernel_rfl
theorem callable_45 : callable Tryd.prog 45 = true := by kernel_rfl
theorem callable_47 : callable Tryd.prog 47 = true := by kernel_rfl
theorem callable_48 : callable Tryd.prog 48 = true := by kernel_rfl
theorem callable_49 : callable Tryd.prog 49 = true := by kernel_rfl
theorem callable_51 : callable Tryd.prog 51 = true := by kernel_rfl
theorem callable_52 : callable Tryd.prog 52 = true := by kernel_rfl
theorem callable_53 : callable Tryd.prog 53 = true := by kernel_rfl
theorem callable_54 : callable Tryd.prog 54 = true := by kernel_rfl
theorem callable_55 : callable Tryd.prog 55 = true := by kernel_rfl
theorem callable_56 : callable Tryd.prog 56 = true := by kernel_rfl
theorem callable_57 : callable Tryd.prog 57 = true := by kernel_rfl
theorem callable_58 : callable Tryd.prog 58 = true := by kernel_rfl
theorem callable_59 : callable Tryd.prog 59 = true := by kernel_rfl
theorem callable_60 : callable Tryd.prog 60 = true := by kernel_rfl
theorem callable_61 : callable Tryd.prog 61 = true := by kernel_rfl
theorem callable_62 : callable Tryd.prog 62 = true := by kernel_rfl
theorem callable_63 : callable Tryd.prog 63 = true := by kernel_rfl
theorem callable_65 : callable Tryd.prog 65 = true := by kernel_rfl
theorem callable_68 : callable Tryd.prog 68 = true := by kernel_rfl
theorem callable_69 : callable Tryd.prog 69 = true := by kernel_rfl
theorem callable_70 : callable Tryd.prog 70 = true := by kernel_rfl
theorem callable_71 : callable Tryd.prog 71 = true := by kernel_rfl
theorem callable_72 : callable Tryd.prog 72 = true := by kernel_rfl
theorem callable_73 : callable Tryd.prog 73 = true := by kernel_rfl
theorem callable_74 : callable Tryd.prog 74 = true := by kernel_rfl
theorem callable_75 : callable Tryd.prog 75 = true := by kernel_rfl
theorem callable_76 : callable Tryd.prog 76 = true := by kernel_rfl
theorem callable_77 : callable Tryd.prog 77 = true := by kernel_rfl
theorem callable_78 : callable Tryd.prog 78 = true := by kernel_rfl
theorem callable_79 : callable Tryd.prog 79 = true := by kernel_rfl
attribute [go_sem] tsize_3 tsize_4 tsize_5 tsize_9 tsize_22 tsize_24 tsize_30 tsize_38 tsize_52 tsize_56 tsize_58 tsize_59 tsize_71 tsize_78 tsize_84 tsize_88 tsize_90 tsize_101 tsize_108 tsize_114 tsize_115 tagg_3 tagg_4 tagg_5 tagg_9 tagg_22 tagg_24 tagg_30 tagg_38 tagg_52 tagg_56 tagg_58 tagg_59 tagg_71 tagg_78 tagg_84 tagg_88 tagg_90 tagg_101 tagg_108 tagg_114 tagg_115 tslice_9 tslice_22 tslice_30 tslice_33 tslice_57 tslice_68 tslice_69 tslice_70 tslice_76 tslice_78 tslice_84 tslice_90 tslice_100 tslice_108 tslice_110 tslice_114 tslice_115 ownT_22 ownT_30 ownT_33 ownT_57 ownT_68 ownT_70 ownT_76 ownT_84 ownT_90 tarr_9 tarr_22 tarr_24 tarr_30 tarr_33 tarr_38 tarr_56 tarr_57 tarr_61 tarr_68 tarr_69 tarr_70 tarr_76 tarr_78 tarr_84 tarr_88 tarr_90 tarr_92 tarr_100 tarr_108 tarr_110 tarr_114 tarr_115 tzero_3 tzero_24 tzero_30 tzero_38 tzero_52 tzero_56 tzero_61 tzero_69 tzero_71 tzero_78 tzero_88 tzero_92 tzero_100 tzero_108 tzero_110 tzero_114 tzero_115 isStrT_9 isStrT_22 isStrT_30 isStrT_33 isStrT_57 isStrT_68 isStrT_69 isStrT_70 isStrT_76 isStrT_78 isStrT_84 isStrT_90 isStrT_100 isStrT_108 isStrT_110 isStrT_114 isStrT_115 isSeqT_22 isSeqT_30 isSeqT_33 isSeqT_68 isSeqT_70 isSeqT_76 isSeqT_84 isSeqT_90 isPtrT_58 isBoolT_4 tfield_24_0 tfield_24_1 tfield_24_2 tfield_24_3 tfield_24_4 tfield_38_0 tfield_38_1 tfield_56_0 tfield_56_1 tfield_61_0 tfield_61_1 tfield_61_2 tfield_88_0 tfield_88_1 tfield_88_2 tfield_88_3 tfield_88_4 tfield_88_5 tfield_88_6 tfield_92_0 tfield_92_1 tfield_92_2 tfield_92_3 tplaces_24 abuild_24 tplaces_38 abuild_38 tplaces_56 abuild_56 tplaces_61 abuild_61 tplaces_69 tplaces_78 tplaces_88 abuild_88 tplaces_92 abuild_92 tplaces_108 tplaces_114 tplaces_115 und_2 und_3 und_5 und_9 und_68 und_101 und_109 und_111 cv_2_101 cv_3_5 cv_3_101 cv_3_111 cv_5_3 cv_68_9 cv_101_5 cv_101_109 cv_109_5 cv_111_109 callable_7 callable_8 callable_9 callable_10 callable_11 callable_12 callable_13 callable_14 callable_15 callable_16 callable_17 callable_18 callable_19 callable_20 callable_21 callable_22 callable_23 callable_24 callable_25 callable_26 callable_27 callable_28 callable_29 callable_30 callable_31 callable_32 callable_33 callable_34 callable_36 callable_37 callable_38 callable_39 callable_41 callable_42 callable_43 callable_44 callable_45 callable_47 callable_48 callable_49 callable_51 callable_52 callable_53 callable_54 callable_55 callable_56 callable_57 callable_58 callable_59 callable_60 callable_61 callable_62 callable_63 callable_65 callable_68 callable_69 callable_70 callable_71 callable_72 callable_73 callable_74 callable_75 callable_76 callable_77 callable_78 callable_79 fg_3_0 fg_4_0 fg_5_0 fg_5_1 fg_5_2 fg_6_0 fg_6_1 fg_6_2 fg_7_0 fg_8_0 fg_8_1 fg_8_2 fg_9_0 fg_10_0 fg_11_0 fg_11_1 fg_11_2 fg_11_3 fg_11_4 fg_12_0 fg_13_0 fg_13_1 fg_13_2 fg_14_0 fg_14_1 fg_14_2 fg_15_0 fg_15_1 fg_15_2 fg_16_0 fg_17_0 fg_17_1 fg_17_2 fg_18_0 fg_19_0 fg_19_1 fg_19_2 fg_20_0 fg_21_0 fg_21_1 fg_21_2 fg_22_0 fg_23_0 fg_24_0 fg_24_1 fg_24_2 fg_25_0 fg_26_0 fg_27_0 fg_27_1 fg_27_2 fg_27_3 fg_27_4 fg_28_0 fg_28_1 fg_28_2 fg_29_0 fg_29_1 fg_29_2 fg_30_0 fg_30_1 fg_30_2 fg_31_0 fg_31_1 fg_31_2 fg_32_0 fg_32_1 fg_32_2 fg_32_3 fg_32_4 fg_33_0 fg_34_0 fg_34_1 fg_34_2 fg_35_0 fg_36_0 fg_37_0 fg_37_1 fg_37_2 fg_38_0 fg_39_0 fg_40_0 fg_40_1 fg_40_2 fg_41_0 fg_42_0 fg_42_1 fg_42_2 fg_43_0 fg_43_1 fg_43_2 fg_44_0 fg_45_0 fg_45_1 fg_45_2 fg_46_0 fg_47_0 fg_47_1 fg_47_2 fg_47_3 fg_47_4 fg_47_5 fg_48_0 fg_48_1 fg_48_2 fg_49_0 fg_49_1 fg_49_2 fg_49_3 fg_50_0 fg_50_1 fg_50_2 fg_51_0 fg_52_0 fg_53_0 fg_54_0 fg_55_0 fg_55_1 fg_55_2 fg_56_0 fg_57_0 fg_57_1 fg_57_2 fg_58_0 fg_59_0 fg_60_0 fg_60_1 fg_60_2 fg_61_0 fg_62_0 fg_63_0 fg_64_0 fg_65_0 fg_65_1 fg_65_2 fg_66_0 fg_67_0 fg_68_0 fg_69_0 fg_70_0 fg_70_1 fg_70_2 fg_71_0 fg_71_1 fg_71_2 fg_71_3 fg_71_4 fg_72_0 fg_72_1 fg_72_2 fg_73_0 fg_74_0 fg_75_0 fg_76_0 fg_77_0 fg_78_0 fg_79_0 fg_102_0 la_3_6 la_3_8 la_4_3 sq_4_3 am_4_3 un_4_3_0 un_4_3_1 un_4_3_2 un_4_3_3 un_4_3_4 un_4_3_5 un_4_3_8 un_4_3_9 la_4_4 la_5_14 sq_5_14 am_5_14 un_5_14_0 un_5_14_1 un_5_14_2 un_5_14_3 un_5_14_4 un_5_14_5 un_5_14_6 un_5_14_7 un_5_14_8 un_5_14_9 un_5_14_10 un_5_14_11 la_5_16 sq_5_16 am_5_16 un_5_16_0 un_5_16_1 un_5_16_2 un_5_16_3 un_5_16_4 un_5_16_5 un_5_16_6 un_5_16_7 un_5_16_8 un_5_16_9 la_6_1 la_6_12 la_11_4 la_11_11 la_14_6 la_17_6 la_19_2 sq_19_2 am_19_2 un_19_2_0 un_19_2_1 un_19_2_2 un_19_2_3 un_19_2_4 un_19_2_5 un_19_2_6 un_19_2_7 la_21_7 sq_21_7 am_21_7 un_21_7_0 un_21_7_1 un_21_7_2 un_21_7_3 un_21_7_4 un_21_7_5 un_21_7_6 un_21_7_7 un_21_7_8 un_21_7_9 un_21_7_10 un_21_7_12 un_21_7_13 la_21_11 sq_21_11 am_21_11 un_21_11_0 un_21_11_1 un_21_11_2 un_21_11_3 un_21_11_4 un_21_11_5 un_21_11_6 un_21_11_7 un_21_11_8 un_21_11_9 un_21_11_10 un_21_11_11 un_21_11_12 un_21_11_13 un_21_11_14 un_21_11_15 un_21_11_17 un_21_11_18 la_27_4 sq_27_4 am_27_4 un_27_4_0 un_27_4_1 un_27_4_2 un_27_4_3 un_27_4_4 un_27_4_5 un_27_4_6 un_27_4_7 un_27_4_8 un_27_4_9 un_27_4_10 un_27_4_11 un_27_4_12 un_27_4_13 un_27_4_16 un_27_4_17 la_27_16 la_30_4 sq_30_4 am_30_4 un_30_4_0 un_30_4_1 un_30_4_2 un_30_4_3 un_30_4_4 un_30_4_5 un_30_4_6 un_30_4_7 un_30_4_8 un_30_4_9 la_30_5 sq_30_5 am_30_5 un_30_5_0 un_30_5_1 un_30_5_2 un_30_5_3 un_30_5_4 un_30_5_5 un_30_5_6 un_30_5_7 un_30_5_8 un_30_5_9 un_30_5_10 la_30_11 sq_30_11 am_30_11 un_30_11_0 un_30_11_1 un_30_11_2 un_30_11_3 un_30_11_4 un_30_11_5 un_30_11_6 un_30_11_7 un_30_11_8 un_30_11_9 un_30_11_10 un_30_11_11 un_30_11_12 un_30_11_13 un_30_11_14 un_30_11_15 un_30_11_16 la_32_6 sq_32_6 am_32_6 un_32_6_0 un_32_6_1 un_32_6_2 un_32_6_3 un_32_6_4 un_32_6_5 un_32_6_6 un_32_6_7 un_32_6_8 un_32_6_9 un_32_6_10 un_32_6_11 un_32_6_12 un_32_6_13 un_32_6_14 un_32_6_15 la_32_8 sq_32_8 am_32_8 un_32_8_0 un_32_8_1 un_32_8_2 un_32_8_3 un_32_8_4 un_32_8_5 un_32_8_6 un_32_8_7 un_32_8_8 un_32_8_9 un_32_8_10 un_32_8_11 un_32_8_12 un_32_8_13 un_32_8_14 un_32_8_15 un_32_8_16 un_32_8_17 un_32_8_18 un_32_8_19 un_32_8_20 un_32_8_21 un_32_8_22 un_32_8_23 un_32_8_24 un_32_8_25 un_32_8_26 un_32_8_27 un_32_8_28 la_32_13 la_47_8 sq_47_8 am_47_8 un_47_8_0 un_47_8_1 un_47_8_2 un_47_8_3 un_47_8_4 un_47_8_5 un_47_8_6 un_47_8_7 un_47_8_8 un_47_8_9 un_47_8_10 un_47_8_11 la_47_13 la_49_12 sq_49_12 am_49_12 un_49_12_0 un_49_12_1 un_49_12_2 un_49_12_3 un_49_12_4 un_49_12_5 un_49_12_6 un_49_12_7 un_49_12_8 un_49_12_9 la_50_4 la_53_3 la_53_7 la_58_1 sq_58_1 am_58_1 un_58_1_0 un_58_1_1 un_58_1_2 un_58_1_3 un_58_1_4 un_58_1_5 un_58_1_6 un_58_1_7 un_58_1_9 la_58_6 la_59_1 sq_59_1 am_59_1 un_59_1_0 un_59_1_1 un_59_1_2 un_59_1_3 un_59_1_4 un_59_1_5 un_59_1_6 un_59_1_7 un_59_1_8 un_59_1_9 un_59_1_10 un_59_1_11 un_59_1_12 un_59_1_13 la_59_2 la_60_2 la_65_6 la_65_7 la_66_2 la_67_3 la_70_7 sq_70_7 am_70_7 un_70_7_0 un_70_7_1 un_70_7_2 un_70_7_3 un_70_7_4 un_70_7_5 un_70_7_6 un_70_7_7 un_70_7_8 un_70_7_9 un_70_7_10 un_70_7_11 un_70_7_12 un_70_7_13 un_70_7_14 la_70_8 sq_70_8 am_70_8 un_70_8_0 un_70_8_1 un_70_8_2 un_70_8_3 un_70_8_4 un_70_8_5 un_70_8_6 un_70_8_7 un_70_8_8 un_70_8_9 un_70_8_10 un_70_8_11 un_70_8_12 un_70_8_13 un_70_8_14 la_70_9 sq_70_9 am_70_9 un_70_9_0 un_70_9_1 un_70_9_2 un_70_9_3 un_70_9_4 un_70_9_5 un_70_9_6 un_70_9_7 un_70_9_8 un_70_9_9 un_70_9_10 un_70_9_11 un_70_9_12 un_70_9_13 un_70_9_14 la_70_10 sq_70_10 am_70_10 un_70_10_0 un_70_10_1 un_70_10_2 un_70_10_3 un_70_10_4 un_70_10_5 un_70_10_6 un_70_10_7 un_70_10_8 un_70_10_9 un_70_10_10 un_70_10_11 un_70_10_12 un_70_10_13 un_70_10_14 la_70_17 sq_70_17 am_70_17 un_70_17_0 un_70_17_1 un_70_17_2 un_70_17_3 un_70_17_4 un_70_17_5 un_70_17_6 un_70_17_7 un_70_17_8 un_70_17_9 un_70_17_10 un_70_17_11 un_70_17_12 un_70_17_13 un_70_17_14 la_70_18 sq_70_18 am_70_18 un_70_18_0 un_70_18_1 un_70_18_2 un_70_18_3 un_70_18_4 un_70_18_5 un_70_18_6 un_70_18_7 un_70_18_8 un_70_18_9 un_70_18_10 un_70_18_11 un_70_18_12 un_70_18_13 un_70_18_14 la_70_23 sq_70_23 am_70_23 un_70_23_0 un_70_23_1 un_70_23_2 un_70_23_3 un_70_23_4 un_70_23_5 un_70_23_6 un_70_23_7 un_70_23_8 un_70_23_9 un_70_23_10 un_70_23_11 un_70_23_12 un_70_23_13 un_70_23_14
theorem body3 : Tryd.f3.body = some (.seq (regOf Tryd.f3 0) (.seq (.seq (regOf Tryd.f3 1) (.cond (.tmp 39) (.seq (regOf Tryd.f3 2) .ret) .skip)) (.seq (.seq (regOf Tryd.f3 3) (.cond (.tmp 60) (.seq (regOf Tryd.f3 4) .ret) .skip)) (.seq (regOf Tryd.f3 5) (.seq (.seq (regOf Tryd.f3 6) (.cond (.tmp 77) (.seq (regOf Tryd.f3 7) .ret) .skip)) (.seq (regOf Tryd.f3 8) .ret)))))) := by kernel_rfl
theorem body4 : Tryd.f4.body = some (.seq (regOf Tryd.f4 0) (.seq (.seq (regOf Tryd.f4 1) (.cond (.tmp 40) (.seq (regOf Tryd.f4 2) .ret) .skip)) (.seq (regOf Tryd.f4 3) (.seq (regOf Tryd.f4 4) .ret)))) := by kernel_rfl
theorem body5 : Tryd.f5.body = some (.seq (regOf Tryd.f5 0) (.seq (.seq (regOf Tryd.f5 1) (.cond (.tmp 20) (.seq (regOf Tryd.f5 2) .ret) .skip)) (.seq (regOf Tryd.f5 3) (.seq (regOf Tryd.f5 4) (.seq (.seq (regOf Tryd.f5 5) (.cond (.tmp 61) (.seq (regOf Tryd.f5 6) .ret) .skip)) (.seq (.seq (regOf Tryd.f5 7) (.cond (.tmp 63) (.seq (regOf Tryd.f5 8) .ret) .skip)) (.seq (regOf Tryd.f5 9) (.seq (regOf Tryd.f5 10) (.seq (.seq (regOf Tryd.f5 11) (.block 0 (.loop (loopOf Tryd.f5 0)))) (.seq (regOf Tryd.f5 16) .ret)))))))))) := by kernel_rfl
theorem loop5_0 : loopOf Tryd.f5 0 = (.seq (regOf Tryd.f5 12) (.seq (.cond (.tmp 68) .skip (.exit 0)) (.seq (.block 1 (.seq (regOf Tryd.f5 13) (regOf Tryd.f5 14))) (regOf Tryd.f5 15)))) := by kernel_rfl
theorem body6 : Tryd.f6.body = some (.seq (regOf Tryd.f6 0) (.seq (.seq (regOf Tryd.f6 1) (.cond (.tmp 24) (.seq (regOf Tryd.f6 2) .ret) .skip)) (.seq (.seq (regOf Tryd.f6 3) (.block 0 (.loop (loopOf Tryd.f6 0)))) (.seq (regOf Tryd.f6 9) (.seq (.seq (regOf Tryd.f6 10) (.cond (.tmp 47) (.seq (regOf Tryd.f6 11) .ret) .skip)) (.seq (regOf Tryd.f6 12) .ret)))))) := by kernel_rfl
theorem loop6_0 : loopOf Tryd.f6 0 = (.seq (regOf Tryd.f6 4) (.seq (.cond (.tmp 30) .skip (.exit 0)) (.seq (.block 1 (.seq (regOf Tryd.f6 5) (.seq (regOf Tryd.f6 6) (.cond (.tmp 36) (.seq (regOf Tryd.f6 7) .ret) .skip)))) (regOf Tryd.f6 8)))) := by kernel_rfl
theorem body7 : Tryd.f7.body = some (.seq (regOf Tryd.f7 0) (.seq (regOf Tryd.f7 1) .ret)) := by kernel_rfl
theorem body8 : Tryd.f8.body = some (.seq (regOf Tryd.f8 0) (.seq (regOf Tryd.f8 1) (.seq (.seq (regOf Tryd.f8 2) (.block 0 (.loop (loopOf Tryd.f8 0)))) (.seq (regOf Tryd.f8 6) .ret)))) := by kernel_rfl
theorem loop8_0 : loopOf Tryd.f8 0 = (.seq (.seq (regOf Tryd.f8 3) (.cond (.tmp 9) .skip (.exit 0))) (.seq (.block 1 (regOf Tryd.f8 5)) (regOf Tryd.f8 4))) := by kernel_rfl
theorem body9 : Tryd.f9.body = some (.seq (regOf Tryd.f9 0) (.seq (regOf Tryd.f9 1) .ret)) := by kernel_rfl
theorem body10 : Tryd.f10.body = some (.seq (regOf Tryd.f10 0) (.seq (regOf Tryd.f10 1) (.seq (regOf Tryd.f10 2) .ret))) := by kernel_rfl
theorem body11 : Tryd.f11.body = some (.seq (regOf Tryd.f11 0) (.seq (.seq (regOf Tryd.f11 1) (.block 0 (.loop (loopOf Tryd.f11 0)))) (.seq (regOf Tryd.f11 7) (.seq (.seq (regOf Tryd.f11 8) (.block 2 (.loop (loopOf Tryd.f11 2)))) (.seq (regOf Tryd.f11 12) .ret))))) := by kernel_rfl
theorem loop11_0 : loopOf Tryd.f11 0 = (.seq (.seq (regOf Tryd.f11 2) (.cond (.tmp 18) .skip (.exit 0))) (.seq (.block 1 (.seq (regOf Tryd.f11 4) (.cond (.tmp 27) (.seq (.seq (regOf Tryd.f11 5) (.cond (.tmp 31) (.seq (regOf Tryd.f11 6) .ret) .skip)) (.exit 0)) .skip))) (regOf Tryd.f11 3))) := by kernel_rfl
theorem loop11_2 : loopOf Tryd.f11 2 = (.seq (.seq (regOf Tryd.f11 9) (.cond (.tmp 49) .skip (.exit 2))) (.seq (.block 3 (regOf Tryd.f11 11)) (regOf Tryd.f11 10))) := by kernel_rfl
theorem body12 : Tryd.f12.body = some (.seq (regOf Tryd.f12 0) (.seq (regOf Tryd.f12 1) .ret)) := by kernel_rfl
theorem body13 : Tryd.f13.body = some (.seq (regOf Tryd.f13 0) (.seq (regOf Tryd.f13 1) (.seq (regOf Tryd.f13 2) (.seq (.seq (regOf Tryd.f13 3) (.block 0 (.loop (loopOf Tryd.f13 0)))) (.seq (regOf Tryd.f13 8) .ret))))) := by kernel_rfl
theorem loop13_0 : loopOf Tryd.f13 0 = (.seq (regOf Tryd.f13 4) (.seq (.cond (.tmp 15) .skip (.exit 0)) (.seq (.block 1 (.seq (regOf Tryd.f13 5) (regOf Tryd.f13 6))) (regOf Tryd.f13 7)))) := by kernel_rfl
theorem body14 : Tryd.f14.body = some (.seq (regOf Tryd.f14 0) (.seq (.seq (regOf Tryd.f14 1) (.cond (.tmp 40) (.seq (regOf Tryd.f14 2) .ret) .skip)) (.seq (.seq (regOf Tryd.f14 3) (.block 0 (.loop (loopOf Tryd.f14 0)))) (.seq (regOf Tryd.f14 8) .ret)))) := by kernel_rfl
theorem loop14_0 : loopOf Tryd.f14 0 = (.seq (.seq (regOf Tryd.f14 4) (.cond (.tmp 45) .skip (.exit 0))) (.seq (.block 1 (.seq (regOf Tryd.f14 6) (.cond (.tmp 59) (.seq (regOf Tryd.f14 7) .ret) .skip))) (regOf Tryd.f14 5))) := by kernel_rfl
theorem body15 : Tryd.f15.body = some (.seq (regOf Tryd.f15 0) (.seq (regOf Tryd.f15 1) (.seq (.seq (regOf Tryd.f15 2) (.cond (.tmp 18) (.seq (regOf Tryd.f15 3) .ret) .skip)) (.seq (regOf Tryd.f15 4) (.seq (.seq (regOf Tryd.f15 5) (.block 0 (.loop (loopOf Tryd.f15 0)))) (.seq (regOf Tryd.f15 10) .ret)))))) := by kernel_rfl
theorem loop15_0 : loopOf Tryd.f15 0 = (.seq (regOf Tryd.f15 6) (.seq (.cond (.tmp 24) .skip (.exit 0)) (.seq (.block 1 (.seq (regOf Tryd.f15 7) (regOf Tryd.f15 8))) (regOf Tryd.f15 9)))) := by kernel_rfl
theorem body16 : Tryd.f16.body = some (.seq (regOf Tryd.f16 0) (.seq (regOf Tryd.f16 1) (.seq (.seq (regOf Tryd.f16 2) (.cond (.tmp 15) (.seq (regOf Tryd.f16 3) .ret) .skip)) (.seq (regOf Tryd.f16 4) .ret)))) := by kernel_rfl
theorem body17 : Tryd.f17.body = some (.seq (regOf Tryd.f17 0) (.seq (.seq (regOf Tryd.f17 1) (.cond (.tmp 10) (.seq (regOf Tryd.f17 2) .ret) .skip)) (.seq (.seq (regOf Tryd.f17 3) (.block 0 (.loop (loopOf Tryd.f17 0)))) (.seq (regOf Tryd.f17 8) .ret)))) := by kernel_rfl
theorem loop17_0 : loopOf Tryd.f17 0 = (.seq (.seq (regOf Tryd.f17 4) (.cond (.tmp 14) .skip (.exit 0))) (.seq (.block 1 (.seq (regOf Tryd.f17 6) (.cond (.tmp 41) (.seq (regOf Tryd.f17 7) .ret) .skip))) (regOf Tryd.f17 5))) := by kernel_rfl
theorem body18 : Tryd.f18.body = some (.seq (regOf Tryd.f18 0) (.seq (regOf Tryd.f18 1) (.seq (regOf Tryd.f18 2) .ret))) := by kernel_rfl
theorem body19 : Tryd.f19.body = some (.seq (regOf Tryd.f19 0) (.seq (.seq (regOf Tryd.f19 1) (.cond (.tmp 15) (regOf Tryd.f19 2) .skip)) (.seq (.seq (regOf Tryd.f19 3) (.block 0 (.loop (loopOf Tryd.f19 0)))) (.seq (regOf Tryd.f19 7) .ret)))) := by kernel_rfl
theorem loop19_0 : loopOf Tryd.f19 0 = (.seq (.seq (regOf Tryd.f19 4) (.cond (.tmp 27) .skip (.exit 0))) (.seq (.block 1 (regOf Tryd.f19 6)) (regOf Tryd.f19 5))) := by kernel_rfl
theorem body20 : Tryd.f20.body = some (.seq (regOf Tryd.f20 0) (.seq (regOf Tryd.f20 1) .ret)) := by kernel_rfl
theorem body21 : Tryd.f21.body = some (.seq (regOf Tryd.f21 0) (.seq (regOf Tryd.f21 1) (.seq (.seq (regOf Tryd.f21 2) (.cond (.tmp 23) (.seq (regOf Tryd.f21 3) .ret) .skip)) (.seq (.seq (regOf Tryd.f21 4) (.block 0 (.loop (loopOf Tryd.f21 0)))) (.seq (regOf Tryd.f21 11) (.seq (.seq (regOf Tryd.f21 12) (.cond (.tmp 66) (.seq (regOf Tryd.f21 13) .ret) .skip)) (.seq (regOf Tryd.f21 14) .ret))))))) := by kernel_rfl
theorem loop21_0 : loopOf Tryd.f21 0 = (.seq (regOf Tryd.f21 5) (.seq (.cond (.tmp 31) .skip (.exit 0)) (.seq (.block 1 (.seq (regOf Tryd.f21 6) (.seq (regOf Tryd.f21 7) (.seq (regOf Tryd.f21 8) (.cond (.tmp 46) (.seq (regOf Tryd.f21 9) .ret) .skip))))) (regOf Tryd.f21 10)))) := by kernel_rfl
theorem body22 : Tryd.f22.body = some (.seq (regOf Tryd.f22 0) (.seq (regOf Tryd.f22 1) .ret)) := by kernel_rfl
theorem body23 : Tryd.f23.body = some (.seq (regOf Tryd.f23 0) (.seq (regOf Tryd.f23 1) .ret)) := by kernel_rfl
theorem body24 : Tryd.f24.body = some (.seq (regOf Tryd.f24 0) (.seq (.seq (regOf Tryd.f24 1) (.cond (.tmp 32) (.seq (regOf Tryd.f24 2) .ret) .skip)) (.seq (.seq (regOf Tryd.f24 3) (.block 0 (.loop (loopOf Tryd.f24 0)))) (.seq (regOf Tryd.f24 8) .ret)))) := by kernel_rfl
theorem loop24_0 : loopOf Tryd.f24 0 = (.seq (.seq (regOf Tryd.f24 4) (.cond (.tmp 37) .skip (.exit 0))) (.seq (.block 1 (.seq (regOf Tryd.f24 6) (.cond (.tmp 46) (.seq (regOf Tryd.f24 7) .ret) .skip))) (regOf Tryd.f24 5))) := by kernel_rfl
theorem body25 : Tryd.f25.body = some (.seq (regOf Tryd.f25 0) (.seq (regOf Tryd.f25 1) .ret)) := by kernel_rfl
theorem body26 : Tryd.f26.body = some (.seq (regOf Tryd.f26 0) (.seq (regOf Tryd.f26 1) (.seq (regOf Tryd.f26 2) (.seq (.seq (regOf Tryd.f26 3) (.cond (.tmp 13) (regOf Tryd.f26 4) .skip)) (.seq (regOf Tryd.f26 5) .ret))))) := by kernel_rfl
theorem body27 : Tryd.f27.body = some (.seq (regOf Tryd.f27 0) (.seq (regOf Tryd.f27 1) (.seq (regOf Tryd.f27 2) (.seq (.block 0 (.loop (loopOf Tryd.f27 0))) (.seq (regOf Tryd.f27 18) .ret))))) := by kernel_rfl
theorem loop27_0 : loopOf Tryd.f27 0 = (.seq (.seq (regOf Tryd.f27 3) (.cond (.tmp 21) .skip (.exit 0))) (.block 1 (.seq (regOf Tryd.f27 4) (.seq (regOf Tryd.f27 5) (.seq (.seq (regOf Tryd.f27 6) (.cond (.tmp 43) (.seq (.seq (regOf Tryd.f27 7) (.seq (regOf Tryd.f27 8) (.cond (.tmp 57) (.seq (regOf Tryd.f27 9) .ret) .skip))) (.seq (regOf Tryd.f27 10) (.exit 1))) .skip)) (.seq (.seq (regOf Tryd.f27 11) (.cond (.tmp 96) (.seq (regOf Tryd.f27 12) .ret) .skip)) (.seq (regOf Tryd.f27 13) (.block 2 (.loop (loopOf Tryd.f27 2)))))))))) := by kernel_rfl
theorem loop27_2 : loopOf Tryd.f27 2 = (.seq (regOf Tryd.f27 14) (.seq (.cond (.tmp 101) .skip (.exit 2)) (.seq (.block 3 (.seq (regOf Tryd.f27 15) (regOf Tryd.f27 16))) (regOf Tryd.f27 17)))) := by kernel_rfl
theorem body28 : Tryd.f28.body = some (.seq (regOf Tryd.f28 0) (.seq (regOf Tryd.f28 1) (.seq (regOf Tryd.f28 2) (.seq (regOf Tryd.f28 3) (.seq (.seq (regOf Tryd.f28 4) (.block 0 (.loop (loopOf Tryd.f28 0)))) (.seq (regOf Tryd.f28 9) .ret)))))) := by kernel_rfl
theorem loop28_0 : loopOf Tryd.f28 0 = (.seq (regOf Tryd.f28 5) (.seq (.cond (.tmp 11) .skip (.exit 0)) (.seq (.block 1 (.seq (regOf Tryd.f28 6) (regOf Tryd.f28 7))) (regOf Tryd.f28 8)))) := by kernel_rfl
theorem body29 : Tryd.f29.body = some (.seq (regOf Tryd.f29 0) (.seq (.seq (regOf Tryd.f29 1) (.cond (.tmp 13) (.seq (regOf Tryd.f29 2) (.seq (regOf Tryd.f29 3) (.cond (.tmp 25) (.seq (regOf Tryd.f29 4) .ret) .skip))) .skip)) (.seq (.seq (regOf Tryd.f29 5) (.cond (.tmp 33) (.seq (regOf Tryd.f29 6) .ret) .skip)) (.seq (regOf Tryd.f29 7) (.seq (.seq (regOf Tryd.f29 8) (.block 0 (.loop (loopOf Tryd.f29 0)))) (.seq (regOf Tryd.f29 13) (.seq (regOf Tryd.f29 14) .ret))))))) := by kernel_rfl
theorem loop29_0 : loopOf Tryd.f29 0 = (.seq (regOf Tryd.f29 9) (.seq (.cond (.tmp 43) .skip (.exit 0)) (.seq (.block 1 (.seq (regOf Tryd.f29 10) (regOf Tryd.f29 11))) (regOf Tryd.f29 12)))) := by kernel_rfl
theorem body30 : Tryd.f30.body = some (.seq (regOf Tryd.f30 0) (.seq (.seq (regOf Tryd.f30 1) (.cond (.tmp 14) (.seq (regOf Tryd.f30 2) (.seq (.seq (regOf Tryd.f30 3) (.cond (.tmp 20) (.seq (regOf Tryd.f30 4) .ret) .skip)) (.seq (regOf Tryd.f30 5) .ret))) .skip)) (.seq (.seq (regOf Tryd.f30 6) (.cond (.tmp 72) (.seq (regOf Tryd.f30 7) .ret) .skip)) (.seq (.seq (regOf Tryd.f30 8) (.block 0 (.loop (loopOf Tryd.f30 0)))) (.seq (regOf Tryd.f30 15) .ret))))) := by kernel_rfl
theorem loop30_0 : loopOf Tryd.f30 0 = (.seq (.seq (regOf Tryd.f30 9) (.cond (.tmp 77) .skip (.exit 0))) (.seq (.block 1 (.seq (regOf Tryd.f30 11) (.seq (.seq (regOf Tryd.f30 12) (.cond (.tmp 96) (.seq (regOf Tryd.f30 13) .ret) .skip)) (regOf Tryd.f30 14)))) (regOf Tryd.f30 10))) := by kernel_rfl
theorem body31 : Tryd.f31.body = some (.seq (regOf Tryd.f31 0) (.seq (.seq (regOf Tryd.f31 1) (.block 0 (.loop (loopOf Tryd.f31 0)))) (.seq (regOf Tryd.f31 6) .ret))) := by kernel_rfl
theorem loop31_0 : loopOf Tryd.f31 0 = (.seq (.seq (regOf Tryd.f31 2) (.cond (.tmp 9) .skip (.exit 0))) (.seq (.block 1 (.seq (regOf Tryd.f31 4) (.cond (.tmp 17) (.seq (regOf Tryd.f31 5) .ret) .skip))) (regOf Tryd.f31 3))) := by kernel_rfl
theorem body32 : Tryd.f32.body = some (.seq (regOf Tryd.f32 0) (.seq (regOf Tryd.f32 1) (.seq (regOf Tryd.f32 2) (.seq (.seq (regOf Tryd.f32 3) (.block 0 (.loop (loopOf Tryd.f32 0)))) (.seq (.seq (regOf Tryd.f32 10) (.block 2 (.loop (loopOf Tryd.f32 2)))) (.seq (regOf Tryd.f32 16) .ret)))))) := by kernel_rfl
theorem loop32_0 : loopOf Tryd.f32 0 = (.seq (regOf Tryd.f32 4) (.seq (.cond (.tmp 21) .skip (.exit 0)) (.seq (.block 1 (.seq (regOf Tryd.f32 5) (.seq (regOf Tryd.f32 6) (.seq (regOf Tryd.f32 7) (regOf Tryd.f32 8))))) (regOf Tryd.f32 9)))) := by kernel_rfl
theorem loop32_2 : loopOf Tryd.f32 2 = (.seq (regOf Tryd.f32 11) (.seq (.cond (.tmp 73) .skip (.exit 2)) (.seq (.block 3 (.seq (regOf Tryd.f32 12) (.seq (regOf Tryd.f32 13) (.cond (.tmp 85) (.seq (regOf Tryd.f32 14) .ret) .skip)))) (regOf Tryd.f32 15)))) := by kernel_rfl
theorem body33 : Tryd.f33.body = some (.seq (regOf Tryd.f33 0) (.seq (.seq (regOf Tryd.f33 1) (.cond (.tmp 13) (.seq (regOf Tryd.f33 2) .ret) .skip)) (.seq (regOf Tryd.f33 3) .ret))) := by kernel_rfl
theorem body34 : Tryd.f34.body = some (.seq (regOf Tryd.f34 0) (.seq (.seq (regOf Tryd.f34 1) (.cond (.tmp 15) (.seq (regOf Tryd.f34 2) .ret) .skip)) (.seq (.seq (regOf Tryd.f34 3) (.cond (.tmp 18) (.seq (regOf Tryd.f34 4) (.seq (.seq (regOf Tryd.f34 5) (.cond (.tmp 27) (.seq (regOf Tryd.f34 6) (regOf Tryd.f34 7)) .skip)) (.seq (regOf Tryd.f34 8) .ret))) .skip)) (.seq (regOf Tryd.f34 9) (.seq (.seq (regOf Tryd.f34 10) (.block 0 (.loop (loopOf Tryd.f34 0)))) (.seq (regOf Tryd.f34 15) .ret)))))) := by kernel_rfl
theorem loop34_0 : loopOf Tryd.f34 0 = (.seq (regOf Tryd.f34 11) (.seq (.cond (.tmp 43) .skip (.exit 0)) (.seq (.block 1 (.seq (regOf Tryd.f34 12) (regOf Tryd.f34 13))) (regOf Tryd.f34 14)))) := by kernel_rfl
theorem body35 : Tryd.f35.body = some (.seq (regOf Tryd.f35 0) (.seq (regOf Tryd.f35 1) .ret)) := by kernel_rfl
theorem body36 : Tryd.f36.body = some (.seq (regOf Tryd.f36 0) (.seq (regOf Tryd.f36 1) .ret)) := by kernel_rfl
theorem body37 : Tryd.f37.body = some (.seq (regOf Tryd.f37 0) (.seq (.seq (regOf Tryd.f37 1) (.cond (.tmp 14) (.seq (regOf Tryd.f37 2) .ret) .skip)) (.seq (regOf Tryd.f37 3) (.seq (.seq (regOf Tryd.f37 4) (.block 0 (.loop (loopOf Tryd.f37 0)))) (.seq (regOf Tryd.f37 10) .ret))))) := by kernel_rfl
theorem loop37_0 : loopOf Tryd.f37 0 = (.seq (regOf Tryd.f37 5) (.seq (.cond (.tmp 30) .skip (.exit 0)) (.seq (.block 1 (.seq (regOf Tryd.f37 6) (.seq (regOf Tryd.f37 7) (.cond (.tmp 33) (regOf Tryd.f37 8) .skip)))) (regOf Tryd.f37 9)))) := by kernel_rfl
theorem body38 : Tryd.f38.body = some (.seq (regOf Tryd.f38 0) (.seq (regOf Tryd.f38 1) .ret)) := by kernel_rfl
theorem body39 : Tryd.f39.body = some (.seq (regOf Tryd.f39 0) (.seq (regOf Tryd.f39 1) .ret)) := by kernel_rfl
theorem body40 : Tryd.f40.body = some (.seq (regOf Tryd.f40 0) (.seq (.seq (regOf Tryd.f40 1) (.cond (.tmp 15) (regOf Tryd.f40 2) .skip)) (.seq (regOf Tryd.f40 3) (.block 0 (.loop (loopOf Tryd.f40 0)))))) := by kernel_rfl
theorem loop40_0 : loopOf Tryd.f40 0 = (.seq (regOf Tryd.f40 4) (.seq (.cond (.tmp 25) .skip (.exit 0)) (.seq (.block 1 (.seq (regOf Tryd.f40 5) (regOf Tryd.f40 6))) (regOf Tryd.f40 7)))) := by kernel_rfl
theorem body41 : Tryd.f41.body = some (.seq (regOf Tryd.f41 0) (.seq (regOf Tryd.f41 1) .ret)) := by kernel_rfl
theorem body42 : Tryd.f42.body = some (.seq (regOf Tryd.f42 0) (.seq (.seq (regOf Tryd.f42 1) (.block 0 (.loop (loopOf Tryd.f42 0)))) (.seq (regOf Tryd.f42 7) .ret))) := by kernel_rfl
theorem loop42_0 : loopOf Tryd.f42 0 = (.seq (regOf Tryd.f42 2) (.seq (.cond (.tmp 9) .skip (.exit 0)) (.seq (.block 1 (.seq (regOf Tryd.f42 3) (.seq (regOf Tryd.f42 4) (.cond (.tmp 16) (.seq (regOf Tryd.f42 5) .ret) .skip)))) (regOf Tryd.f42 6)))) := by kernel_rfl
theorem body43 : Tryd.f43.body = some (.seq (regOf Tryd.f43 0) (.seq (.seq (regOf Tryd.f43 1) (.block 0 (.loop (loopOf Tryd.f43 0)))) (.seq (regOf Tryd.f43 6) .ret))) := by kernel_rfl
theorem loop43_0 : loopOf Tryd.f43 0 = (.seq (.seq (regOf Tryd.f43 2) (.cond (.tmp 9) .skip (.exit 0))) (.seq (.block 1 (.seq (regOf Tryd.f43 4) (.cond (.tmp 18) (.seq (regOf Tryd.f43 5) .ret) .skip))) (regOf Tryd.f43 3))) := by kernel_rfl
theorem body44 : Tryd.f44.body = some (.seq (regOf Tryd.f44 0) (.seq (regOf Tryd.f44 1) .ret)) := by kernel_rfl
theorem body45 : Tryd.f45.body = some (.seq (regOf Tryd.f45 0) (.seq (regOf Tryd.f45 1) (.seq (.seq (regOf Tryd.f45 2) (.block 0 (.loop (loopOf Tryd.f45 0)))) (.seq (regOf Tryd.f45 7) .ret)))) := by kernel_rfl
theorem loop45_0 : loopOf Tryd.f45 0 = (.seq (regOf Tryd.f45 3) (.seq (.cond (.tmp 9) .skip (.exit 0)) (.seq (.block 1 (.seq (regOf Tryd.f45 4) (regOf Tryd.f45 5))) (regOf Tryd.f45 6)))) := by kernel_rfl
theorem body46 : Tryd.f46.body = some (.seq (regOf Tryd.f46 0) (.seq (regOf Tryd.f46 1) .ret)) := by kernel_rfl
theorem body47 : Tryd.f47.body = some (.seq (regOf Tryd.f47 0) (.seq (.seq (regOf Tryd.f47 1) (.cond (.tmp 19) (.seq (regOf Tryd.f47 2) .ret) .skip)) (.seq (regOf Tryd.f47 3) (.seq (regOf Tryd.f47 4) (.seq (.block 0 (.loop (loopOf Tryd.f47 0))) (.seq (regOf Tryd.f47 24) .ret)))))) := by kernel_rfl
theorem loop47_0 : loopOf Tryd.f47 0 = (.seq (.seq (regOf Tryd.f47 5) (.cond (.tmp 27) .skip (.exit 0))) (.block 1 (.seq (regOf Tryd.f47 6) (.seq (regOf Tryd.f47 7) (.seq (regOf Tryd.f47 8) (.block 2 (.seq (regOf Tryd.f47 15) (.cond (.tmp 86) .skip (.seq (regOf Tryd.f47 16) (.cond (.tmp 90) (.seq (regOf Tryd.f47 17) (.cond (.tmp 104) (.seq (regOf Tryd.f47 18) .ret) .skip)) (.seq (regOf Tryd.f47 19) (.cond (.tmp 105) (.seq (regOf Tryd.f47 20) (.cond (.tmp 119) (.seq (regOf Tryd.f47 21) .ret) .skip)) (.seq (regOf Tryd.f47 22) (.cond (.tmp 120) (.seq (regOf Tryd.f47 23) .ret) (.seq (regOf Tryd.f47 9) (.seq (.seq (regOf Tryd.f47 10) (.block 3 (.loop (loopOf Tryd.f47 3)))) (regOf Tryd.f47 14))))))))))))))))) := by kernel_rfl
theorem loop47_3 : loopOf Tryd.f47 3 = (.seq (.seq (regOf Tryd.f47 11) (.cond (.tmp 61) .skip (.exit 3))) (.seq (.block 4 (regOf Tryd.f47 13)) (regOf Tryd.f47 12))) := by kernel_rfl
theorem body48 : Tryd.f48.body = some (.seq (regOf Tryd.f48 0) (.seq (regOf Tryd.f48 1) (.seq (.seq (regOf Tryd.f48 2) (.seq (regOf Tryd.f48 3) (.cond (.tmp 21) (.seq (regOf Tryd.f48 4) .ret) .skip))) (.seq (regOf Tryd.f48 5) (.seq (.seq (regOf Tryd.f48 6) (.block 0 (.loop (loopOf Tryd.f48 0)))) (.seq (regOf Tryd.f48 11) (.seq (regOf Tryd.f48 12) .ret))))))) := by kernel_rfl
theorem loop48_0 : loopOf Tryd.f48 0 = (.seq (regOf Tryd.f48 7) (.seq (.cond (.tmp 33) .skip (.exit 0)) (.seq (.block 1 (.seq (regOf Tryd.f48 8) (regOf Tryd.f48 9))) (regOf Tryd.f48 10)))) := by kernel_rfl
theorem body49 : Tryd.f49.body = some (.seq (regOf Tryd.f49 0) (.seq (regOf Tryd.f49 1) (.seq (regOf Tryd.f49 2) (.seq (.seq (regOf Tryd.f49 3) (.block 0 (.seq (regOf Tryd.f49 4) (.cond (.tmp 23) (.seq (regOf Tryd.f49 5) .ret) (.seq (regOf Tryd.f49 6) (.cond (.tmp 29) (.seq (regOf Tryd.f49 7) .ret) .skip)))))) (.seq (regOf Tryd.f49 8) (.seq (.seq (regOf Tryd.f49 9) (.block 1 (.loop (loopOf Tryd.f49 1)))) (.seq (regOf Tryd.f49 14) .ret))))))) := by kernel_rfl
theorem loop49_1 : loopOf Tryd.f49 1 = (.seq (regOf Tryd.f49 10) (.seq (.cond (.tmp 46) .skip (.exit 1)) (.seq (.block 2 (.seq (regOf Tryd.f49 11) (regOf Tryd.f49 12))) (regOf Tryd.f49 13)))) := by kernel_rfl
theorem body50 : Tryd.f50.body = some (.seq (regOf Tryd.f50 0) (.seq (.seq (regOf Tryd.f50 1) (.block 0 (.loop (loopOf Tryd.f50 0)))) (.seq (regOf Tryd.f50 7) .ret))) := by kernel_rfl
theorem loop50_0 : loopOf Tryd.f50 0 = (.seq (regOf Tryd.f50 2) (.seq (.cond (.tmp 13) .skip (.exit 0)) (.seq (.block 1 (.seq (regOf Tryd.f50 3) (.seq (regOf Tryd.f50 4) (.cond (.tmp 28) (.seq (regOf Tryd.f50 5) .ret) .skip)))) (regOf Tryd.f50 6)))) := by kernel_rfl
theorem body51 : Tryd.f51.body = some (.seq (regOf Tryd.f51 0) (.seq (regOf Tryd.f51 1) .ret)) := by kernel_rfl
theorem body52 : Tryd.f52.body = some (.seq (regOf Tryd.f52 0) (.seq (.seq (regOf Tryd.f52 1) (.cond (.tmp 14) (.seq (regOf Tryd.f52 2) .ret) .skip)) (.seq (regOf Tryd.f52 3) .ret))) := by kernel_rfl
theorem body53 : Tryd.f53.body = some (.seq (regOf Tryd.f53 0) (.seq (.seq (regOf Tryd.f53 1) (.cond (.tmp 6) (.seq (regOf Tryd.f53 2) .ret) .skip)) (.seq (.seq (regOf Tryd.f53 3) (.cond (.tmp 16) (.seq (regOf Tryd.f53 4) (.seq (regOf Tryd.f53 5) .ret)) .skip)) (.seq (regOf Tryd.f53 6) (.seq (regOf Tryd.f53 7) (.seq (regOf Tryd.f53 8) .ret)))))) := by kernel_rfl
theorem body54 : Tryd.f54.body = some (.seq (regOf Tryd.f54 0) (.seq (regOf Tryd.f54 1) .ret)) := by kernel_rfl
theorem body55 : Tryd.f55.body = some (.seq (regOf Tryd.f55 0) (.seq (.seq (regOf Tryd.f55 1) (.cond (.tmp 14) (.seq (regOf Tryd.f55 2) .ret) .skip)) (.seq (.seq (regOf Tryd.f55 3) (.block 0 (.loop (loopOf Tryd.f55 0)))) (.seq (regOf Tryd.f55 10) .ret)))) := by kernel_rfl
theorem loop55_0 : loopOf Tryd.f55 0 = (.seq (regOf Tryd.f55 4) (.seq (.cond (.tmp 18) .skip (.exit 0)) (.seq (.block 1 (.seq (regOf Tryd.f55 5) (.seq (regOf Tryd.f55 6) (.seq (regOf Tryd.f55 7) (.cond (.tmp 30) (.seq (regOf Tryd.f55 8) .ret) .skip))))) (regOf Tryd.f55 9)))) := by kernel_rfl
theorem body56 : Tryd.f56.body = some (.seq (regOf Tryd.f56 0) (.seq (regOf Tryd.f56 1) .ret)) := by kernel_rfl
theorem body57 : Tryd.f57.body = some (.seq (regOf Tryd.f57 0) (.seq (regOf Tryd.f57 1) (.block 0 (.loop (loopOf Tryd.f57 0))))) := by kernel_rfl
theorem loop57_0 : loopOf Tryd.f57 0 = (.block 1 (.seq (regOf Tryd.f57 2) (.seq (.seq (regOf Tryd.f57 3) (.cond (.tmp 19) (.seq (regOf Tryd.f57 4) .ret) .skip)) (regOf Tryd.f57 5)))) := by kernel_rfl
theorem body58 : Tryd.f58.body = some (.seq (regOf Tryd.f58 0) (.seq (regOf Tryd.f58 1) (.seq (regOf Tryd.f58 2) (.seq (.seq (regOf Tryd.f58 3) (.cond (.tmp 22) (.seq (regOf Tryd.f58 4) .ret) .skip)) (.seq (regOf Tryd.f58 5) (.seq (regOf Tryd.f58 6) (.seq (regOf Tryd.f58 7) .ret))))))) := by kernel_rfl
theorem body59 : Tryd.f59.body = some (.seq (regOf Tryd.f59 0) (.seq (regOf Tryd.f59 1) (.seq (regOf Tryd.f59 2) .ret))) := by kernel_rfl
theorem body60 : Tryd.f60.body = some (.seq (regOf Tryd.f60 0) (.seq (.block 0 (.loop (loopOf Tryd.f60 0))) (.seq (regOf Tryd.f60 4) .ret))) := by kernel_rfl
theorem loop60_0 : loopOf Tryd.f60 0 = (.seq (.seq (regOf Tryd.f60 1) (.cond (.tmp 14) .skip (.exit 0))) (.block 1 (.seq (regOf Tryd.f60 2) (regOf Tryd.f60 3)))) := by kernel_rfl
theorem body61 : Tryd.f61.body = some (.seq (regOf Tryd.f61 0) (.seq (.seq (regOf Tryd.f61 1) (.cond (.tmp 4) (.seq (regOf Tryd.f61 2) .ret) .skip)) (.seq (regOf Tryd.f61 3) .ret))) := by kernel_rfl
theorem body62 : Tryd.f62.body = some (.seq (regOf Tryd.f62 0) (.seq (.seq (regOf Tryd.f62 1) (.cond (.tmp 11) (.seq (.seq (regOf Tryd.f62 2) (.cond (.tmp 17) (.seq (regOf Tryd.f62 3) .ret) .skip)) (.seq (regOf Tryd.f62 4) (.seq (regOf Tryd.f62 5) (.seq (.seq (regOf Tryd.f62 6) (.cond (.tmp 23) (regOf Tryd.f62 7) .skip)) (.seq (regOf Tryd.f62 8) (.seq (regOf Tryd.f62 9) (.seq (.seq (regOf Tryd.f62 10) (.cond (.tmp 34) (.seq (regOf Tryd.f62 11) (.seq (regOf Tryd.f62 12) .ret)) .skip)) (.seq (regOf Tryd.f62 13) .ret)))))))) .skip)) (.seq (regOf Tryd.f62 14) (.seq (regOf Tryd.f62 15) .ret)))) := by kernel_rfl
theorem body63 : Tryd.f63.body = some (.seq (regOf Tryd.f63 0) (.seq (regOf Tryd.f63 1) .ret)) := by kernel_rfl
theorem body64 : Tryd.f64.body = some (.seq (regOf Tryd.f64 0) (.seq (regOf Tryd.f64 1) .ret)) := by kernel_rfl
theorem body65 : Tryd.f65.body = some (.seq (regOf Tryd.f65 0) (.seq (regOf Tryd.f65 1) (.seq (regOf Tryd.f65 2) (.seq (.block 0 (.loop (loopOf Tryd.f65 0))) (.seq (regOf Tryd.f65 11) .ret))))) := by kernel_rfl
theorem loop65_0 : loopOf Tryd.f65 0 = (.seq (.seq (regOf Tryd.f65 3) (.cond (.tmp 20) .skip (.exit 0))) (.block 1 (.seq (regOf Tryd.f65 4) (.seq (regOf Tryd.f65 5) (.seq (.seq (regOf Tryd.f65 6) (.cond (.tmp 46) (.exit 1) .skip)) (.seq (regOf Tryd.f65 7) (.seq (.seq (regOf Tryd.f65 8) (.cond (.tmp 61) (.seq (regOf Tryd.f65 9) .ret) .skip)) (regOf Tryd.f65 10)))))))) := by kernel_rfl
theorem body66 : Tryd.f66.body = some (.seq (regOf Tryd.f66 0) (.seq (regOf Tryd.f66 1) (.seq (regOf Tryd.f66 2) .ret))) := by kernel_rfl
theorem body67 : Tryd.f67.body = some (.seq (regOf Tryd.f67 0) (.seq (.seq (regOf Tryd.f67 1) (.seq (regOf Tryd.f67 2) (.cond (.tmp 16) (regOf Tryd.f67 3) .skip))) (.seq (regOf Tryd.f67 4) .ret))) := by kernel_rfl
theorem body68 : Tryd.f68.body = some (.seq (regOf Tryd.f68 0) (.seq (.seq (regOf Tryd.f68 1) (.cond (.tmp 4) (.seq (regOf Tryd.f68 2) .ret) .skip)) (.seq (regOf Tryd.f68 3) .ret))) := by kernel_rfl
theorem body69 : Tryd.f69.body = some (.seq (regOf Tryd.f69 0) (.seq (regOf Tryd.f69 1) (.seq (regOf Tryd.f69 2) .ret))) := by kernel_rfl
theorem body70 : Tryd.f70.body = some (.seq (regOf Tryd.f70 0) (.seq (.block 0 (.loop (loopOf Tryd.f70 0))) (.seq (regOf Tryd.f70 12) (.seq (.seq (regOf Tryd.f70 13) (.cond (.tmp 99) (.seq (regOf Tryd.f70 14) (.seq (regOf Tryd.f70 15) (.seq (regOf Tryd.f70 16) (.seq (regOf Tryd.f70 17) (.seq (regOf Tryd.f70 18) (regOf Tryd.f70 19)))))) .skip)) (.seq (.seq (regOf Tryd.f70 20) (.cond (.tmp 139) (.seq (regOf Tryd.f70 21) (.seq (regOf Tryd.f70 22) (.seq (regOf Tryd.f70 23) (regOf Tryd.f70 24)))) .skip)) (.seq (regOf Tryd.f70 25) (.cond (.tmp 161) (regOf Tryd.f70 26) .skip))))))) := by kernel_rfl
theorem loop70_0 : loopOf Tryd.f70 0 = (.seq (.seq (regOf Tryd.f70 1) (.cond (.tmp 20) .skip (.exit 0))) (.block 1 (.seq (regOf Tryd.f70 2) (.seq (regOf Tryd.f70 3) (.seq (regOf Tryd.f70 4) (.seq (regOf Tryd.f70 5) (.seq (regOf Tryd.f70 6) (.seq (regOf Tryd.f70 7) (.seq (regOf Tryd.f70 8) (.seq (regOf Tryd.f70 9) (.seq (regOf Tryd.f70 10) (regOf Tryd.f70 11)))))))))))) := by kernel_rfl
theorem body71 : Tryd.f71.body = some (.seq (regOf Tryd.f71 0) (.seq (.seq (regOf Tryd.f71 1) (.cond (.tmp 28) (regOf Tryd.f71 2) .skip)) (.seq (regOf Tryd.f71 3) (.seq (regOf Tryd.f71 4) (.seq (.seq (regOf Tryd.f71 5) (.cond (.tmp 30) (regOf Tryd.f71 6) .skip)) (.seq (.seq (regOf Tryd.f71 7) (.cond (.tmp 34) (.seq (regOf Tryd.f71 8) (.seq (regOf Tryd.f71 9) (.seq (regOf Tryd.f71 10) (.seq (.block 0 (.loop (loopOf Tryd.f71 0))) (.seq (regOf Tryd.f71 15) (regOf Tryd.f71 16)))))) (.seq (regOf Tryd.f71 17) (.seq (.block 2 (.loop (loopOf Tryd.f71 2))) (.seq (regOf Tryd.f71 23) (regOf Tryd.f71 24)))))) (.seq (.seq (regOf Tryd.f71 25) (.cond (.tmp 89) (.seq (regOf Tryd.f71 26) (regOf Tryd.f71 27)) .skip)) (.seq (.seq (regOf Tryd.f71 28) (.cond (.tmp 94) (.seq (regOf Tryd.f71 29) .ret) .skip)) (.seq (regOf Tryd.f71 30) .ret))))))))) := by kernel_rfl
theorem loop71_0 : loopOf Tryd.f71 0 = (.seq (.seq (regOf Tryd.f71 11) (.cond (.tmp 46) .skip (.exit 0))) (.block 1 (.seq (regOf Tryd.f71 12) (.seq (regOf Tryd.f71 13) (regOf Tryd.f71 14))))) := by kernel_rfl
theorem loop71_2 : loopOf Tryd.f71 2 = (.seq (.seq (regOf Tryd.f71 18) (.cond (.tmp 68) .skip (.exit 2))) (.block 3 (.seq (regOf Tryd.f71 19) (.seq (regOf Tryd.f71 20) (.seq (regOf Tryd.f71 21) (regOf Tryd.f71 22)))))) := by kernel_rfl
theorem body72 : Tryd.f72.body = some (.seq (regOf Tryd.f72 0) (.seq (.seq (regOf Tryd.f72 1) (.block 0 (.loop (loopOf Tryd.f72 0)))) (.seq (regOf Tryd.f72 7) .ret))) := by kernel_rfl
theorem loop72_0 : loopOf Tryd.f72 0 = (.seq (regOf Tryd.f72 2) (.seq (.cond (.tmp 9) .skip (.exit 0)) (.seq (.block 1 (.seq (regOf Tryd.f72 3) (.seq (regOf Tryd.f72 4) (.cond (.tmp 16) (.seq (regOf Tryd.f72 5) .ret) .skip)))) (regOf Tryd.f72 6)))) := by kernel_rfl
theorem body73 : Tryd.f73.body = some (.seq (regOf Tryd.f73 0) (.seq (regOf Tryd.f73 1) .ret)) := by kernel_rfl
theorem body74 : Tryd.f74.body = some (.seq (regOf Tryd.f74 0) (.seq (.seq (regOf Tryd.f74 1) (.cond (.tmp 4) (.seq (regOf Tryd.f74 2) (regOf Tryd.f74 3)) .skip)) (.seq (.seq (regOf Tryd.f74 4) (.cond (.tmp 8) (.seq (regOf Tryd.f74 5) (regOf Tryd.f74 6)) .skip)) (.seq (.seq (regOf Tryd.f74 7) (.cond (.tmp 14) (.seq (regOf Tryd.f74 8) (regOf Tryd.f74 9)) .skip)) (.seq (regOf Tryd.f74 10) .ret))))) := by kernel_rfl
theorem body75 : Tryd.f75.body = some (.seq (regOf Tryd.f75 0) (.seq (.seq (regOf Tryd.f75 1) (.cond (.tmp 3) (.seq (regOf Tryd.f75 2) .ret) .skip)) (.seq (regOf Tryd.f75 3) .ret))) := by kernel_rfl
theorem body76 : Tryd.f76.body = some (.seq (regOf Tryd.f76 0) (.seq (regOf Tryd.f76 1) .ret)) := by kernel_rfl
theorem body77 : Tryd.f77.body = some (.seq (regOf Tryd.f77 0) (.seq (.cond (.const (.bool .false)) (.seq (regOf Tryd.f77 1) .ret) .skip) (.seq (regOf Tryd.f77 2) .ret))) := by kernel_rfl
theorem body78 : Tryd.f78.body = some (.seq (regOf Tryd.f78 0) (.seq (.seq (regOf Tryd.f78 1) (.cond (.tmp 4) (.seq (regOf Tryd.f78 2) .ret) .skip)) (.seq (regOf Tryd.f78 3) .ret))) := by kernel_rfl
theorem body79 : Tryd.f79.body = some (.seq (regOf Tryd.f79 0) (.seq (.seq (regOf Tryd.f79 1) (.cond (.tmp 4) (.seq (regOf Tryd.f79 2) .ret) .skip)) (.seq (regOf Tryd.f79 3) .ret))) := by kernel_rfl
theorem body102 : Tryd.f102.body = some (.seq (regOf Tryd.f102 0) (.seq (regOf Tryd.f102 1) (regOf Tryd.f102 2))) := by kernel_rfl
theorem ok3 : fnOk Tryd.prog md fg 3 = true := by kernel_rfl
theorem ok4 : fnOk Tryd.prog md fg 4 = true := by kernel_rfl
theorem ok5 : fnOk Tryd.prog md fg 5 = true := by kernel_rfl
theorem ok6 : fnOk Tryd.prog md fg 6 = true := by kernel_rfl
theorem ok7 : fnOk Tryd.prog md fg 7 = true := by kernel_rfl
theorem ok8 : fnOk Tryd.prog md fg 8 = true := by kernel_rfl
theorem ok9 : fnOk Tryd.prog md fg 9 = true := by kernel_rfl
theorem ok10 : fnOk Tryd.prog md fg 10 = true := by kernel_rfl
theorem ok11 : fnOk Tryd.prog md fg 11 = true := by kernel_rfl
theorem ok12 : fnOk Tryd.prog md fg 12 = true := by kernel_rfl
theorem ok13 : fnOk Tryd.prog md fg 13 = true := by kernel_rfl
theorem ok14 : fnOk Tryd.prog md fg 14 = true := by kernel_rfl
theorem ok15 : fnOk Tryd.prog md fg 15 = true := by kernel_rfl
theorem ok16 : fnOk Tryd.prog md fg 16 = true := by kernel_rfl
theorem ok17 : fnOk Tryd.prog md fg 17 = true := by kernel_rfl
theorem ok18 : fnOk Tryd.prog md fg 18 = true := by kernel_rfl
theorem ok19 : fnOk Tryd.prog md fg 19 = true := by kernel_rfl
theorem ok20 : fnOk Tryd.prog md fg 20 = true := by kernel_rfl
theorem ok21 : fnOk Tryd.prog md fg 21 = true := by kernel_rfl
theorem ok22 : fnOk Tryd.prog md fg 22 = true := by kernel_rfl
theorem ok23 : fnOk Tryd.prog md fg 23 = true := by kernel_rfl
theorem ok24 : fnOk Tryd.prog md fg 24 = true := by kernel_rfl
theorem ok25 : fnOk Tryd.prog md fg 25 = true := by kernel_rfl
theorem ok26 : fnOk Tryd.prog md fg 26 = true := by kernel_rfl
theorem ok27 : fnOk Tryd.prog md fg 27 = true := by kernel_rfl
theorem ok28 : fnOk Tryd.prog md fg 28 = true := by kernel_rfl
theorem ok29 : fnOk Tryd.prog md fg 29 = true := by kernel_rfl
theorem ok30 : fnOk Tryd.prog md fg 30 = true := by kernel_rfl
theorem ok31 : fnOk Tryd.prog md fg 31 = true := by kernel_rfl
theorem ok32 : fnOk Tryd.prog md fg 32 = true := by kernel_rfl
theorem ok33 : fnOk Tryd.prog md fg 33 = true := by kernel_rfl
theorem ok34 : fnOk Tryd.prog md fg 34 = true := by kernel_rfl
theorem ok35 : fnOk Tryd.prog md fg 35 = true := by kernel_rfl
theorem ok36 : fnOk Tryd.prog md fg 36 = true := by kernel_rfl
theorem ok37 : fnOk Tryd.prog md fg 37 = true := by kernel_rfl
theorem ok38 : fnOk Tryd.prog md fg 38 = true := by kernel_rfl
theorem ok39 : fnOk Tryd.prog md fg 39 = true := by kernel_rfl
theorem ok40 : fnOk Tryd.prog md fg 40 = true := by kernel_rfl
theorem ok41 : fnOk Tryd.prog md fg 41 = true := by kernel_rfl
theorem ok42 : fnOk Tryd.prog md fg 42 = true := by kernel_rfl
theorem ok43 : fnOk Tryd.prog md fg 43 = true := by kernel_rfl
theorem ok44 : fnOk Tryd.prog md fg 44 = true := by kernel_rfl
theorem ok45 : fnOk Tryd.prog md fg 45 = true := by kernel_rfl
theorem ok46 : fnOk Tryd.prog md fg 46 = true := by kernel_rfl
theorem ok47 : fnOk Tryd.prog md fg 47 = true := by kernel_rfl
theorem ok48 : fnOk Tryd.prog md fg 48 = true := by kernel_rfl
theorem ok49 : fnOk Tryd.prog md fg 49 = true := by kernel_rfl
theorem ok50 : fnOk Tryd.prog md fg 50 = true := by kernel_rfl
theorem ok51 : fnOk Tryd.prog md fg 51 = true := by kernel_rfl
theorem ok52 : fnOk Tryd.prog md fg 52 = true := by kernel_rfl
theorem ok53 : fnOk Tryd.prog md fg 53 = true := by kernel_rfl
theorem ok54 : fnOk Tryd.prog md fg 54 = true := by kernel_rfl
theorem ok55 : fnOk Tryd.prog md fg 55 = true := by kernel_rfl
theorem ok56 : fnOk Tryd.prog md fg 56 = true := by kernel_rfl
theorem ok57 : fnOk Tryd.prog md fg 57 = true := by kernel_rfl
theorem ok58 : fnOk Tryd.prog md fg 58 = true := by kernel_rfl
theorem ok59 : fnOk Tryd.prog md fg 59 = true := by kernel_rfl
theorem ok60 : fnOk Tryd.prog md fg 60 = true := by kernel_rfl
theorem ok61 : fnOk Tryd.prog md fg 61 = true := by kernel_rfl
theorem ok62 : fnOk Tryd.prog md fg 62 = true := by kernel_rfl
theorem ok63 : fnOk Tryd.prog md fg 63 = true := by kernel_rfl
theorem ok64 : fnOk Tryd.prog md fg 64 = true := by kernel_rfl
theorem ok65 : fnOk Tryd.prog md fg 65 = true := by kernel_rfl
theorem ok66 : fnOk Tryd.prog md fg 66 = true := by kernel_rfl
theorem ok67 : fnOk Tryd.prog md fg 67 = true := by kernel_rfl
theorem ok68 : fnOk Tryd.prog md fg 68 = true := by kernel_rfl
theorem ok69 : fnOk Tryd.prog md fg 69 = true := by kernel_rfl
theorem ok70 : fnOk Tryd.prog md fg 70 = true := by kernel_rfl
theorem ok71 : fnOk Tryd.prog md fg 71 = true := by kernel_rfl
theorem ok72 : fnOk Tryd.prog md fg 72 = true := by kernel_rfl
theorem ok73 : fnOk Tryd.prog md fg 73 = true := by kernel_rfl
theorem ok74 : fnOk Tryd.prog md fg 74 = true := by kernel_rfl
theorem ok75 : fnOk Tryd.prog md fg 75 = true := by kernel_rfl
theorem ok76 : fnOk Tryd.prog md fg 76 = true := by kernel_rfl
theorem ok77 : fnOk Tryd.prog md fg 77 = true := by kernel_rfl
theorem ok78 : fnOk Tryd.prog md fg 78 = true := by kernel_rfl
theorem ok79 : fnOk Tryd.prog md fg 79 = true := by kernel_rfl
theorem ok102 : fnOk Tryd.prog md fg 102 = true := by kernel_rfl
theorem aval_of {f : FuncId} {fn : Func} {c : Code} {rs : Array ResultVar} {nt : Nat} (hf : Tryd.prog.funcs[f]? = some fn) (hb : fn.body = some c) (hr : fn.results = rs) (hn : fn.ntmps = nt) (hok : fnOk Tryd.prog md fg f = true) (args : List AV) (h : AHeap) :
    aval Tryd.prog md fg f args h = finish Tryd.prog rs.toList (arun Tryd.prog md fg (fg f) c [] (env0 nt args) h) := aval_eq hf hb hr hn hok args h
/-- The functions that are reckoned. -/
def known : List FuncId := [3, 4, 5, 6, 7, 8, 9, 10, 11, 12, 13, 14, 15, 16, 17, 18, 19, 20, 21, 22, 23, 24, 25, 26, 27, 28, 29, 30, 31, 32, 33, 34, 35, 36, 37, 38, 39, 40, 41, 42, 43, 44, 45, 46, 47, 48, 49, 50, 51, 52, 53, 54, 55, 56, 57, 58, 59, 60, 61, 62, 63, 64, 65, 66, 67, 68, 69, 70, 71, 72, 73, 74, 75, 76, 77, 78, 79, 102]
def knows (f : FuncId) : Bool := known.contains f
theorem okKnown : okAll Tryd.prog md fg knows := by
  have h : known.all (fun f => fnOk Tryd.prog md fg f) = true := by kernel_rfl
  intro f hf
  exact List.all_eq_true.1 h f (by simpa [knows] using hf)
end Go.Proofs.YtedapgcaibbhoaaDoor
