/- Parts of the proof, each with its own heading: What the engine must know of the functions of a seat: which slots outlive a region, bodies by the numbers of their regions, types. Printed by wip/tools. -/
import Derived.Test.YtgijlgdhogbgbaaPart8
import Derived.Test.YtgijlgdhogbgbaaChecked
set_option linter.unusedSimpArgs false
set_option linter.unusedVariables false
namespace Go.Proofs.Ytgijlgdhogbgbaa
open Go Go.Ab Go.Proofs
set_option maxRecDepth 20000
/-- How functions are called: by value; 1 by reference; 2 the same, to read; 5 with a slice that may be nil. -/
def md : FuncId → Nat
  | 26 => 1
  | 27 => 1
  | 28 => 1
  | 29 => 1
  | 31 => 1
  | 32 => 3
  | 33 => 1
  | 37 => 1
  | 38 => 3
  | 42 => 1
  | 44 => 1
  | 46 => 1
  | 49 => 5
  | 50 => 1
  | 51 => 1
  | _ => 0
theorem md3 : md 3 = 0 := rfl
theorem md4 : md 4 = 0 := rfl
theorem md5 : md 5 = 0 := rfl
theorem md6 : md 6 = 0 := rfl
theorem md7 : md 7 = 0 := rfl
theorem md8 : md 8 = 0 := rfl
theorem md9 : md 9 = 0 := rfl
theorem md10 : md 10 = 0 := rfl
theorem md11 : md 11 = 0 := rfl
theorem md12 : md 12 = 0 := rfl
theorem md13 : md 13 = 0 := rfl
theorem md14 : md 14 = 0 := rfl
theorem md15 : md 15 = 0 := rfl
theorem md16 : md 16 = 0 := rfl
theorem md17 : md 17 = 0 := rfl
theorem md18 : md 18 = 0 := rfl
theorem md19 : md 19 = 0 := rfl
theorem md20 : md 20 = 0 := rfl
theorem md21 : md 21 = 0 := rfl
theorem md22 : md 22 = 0 := rfl
theorem md23 : md 23 = 0 := rfl
theorem md24 : md 24 = 0 := rfl
theorem md25 : md 25 = 0 := rfl
theorem md26 : md 26 = 1 := rfl
theorem md27 : md 27 = 1 := rfl
theorem md28 : md 28 = 1 := rfl
theorem md29 : md 29 = 1 := rfl
theorem md30 : md 30 = 0 := rfl
theorem md31 : md 31 = 1 := rfl
theorem md32 : md 32 = 3 := rfl
theorem md33 : md 33 = 1 := rfl
theorem md34 : md 34 = 0 := rfl
theorem md35 : md 35 = 0 := rfl
theorem md36 : md 36 = 0 := rfl
theorem md37 : md 37 = 1 := rfl
theorem md38 : md 38 = 3 := rfl
theorem md39 : md 39 = 0 := rfl
theorem md40 : md 40 = 0 := rfl
theorem md41 : md 41 = 0 := rfl
theorem md42 : md 42 = 1 := rfl
theorem md43 : md 43 = 0 := rfl
theorem md44 : md 44 = 1 := rfl
theorem md45 : md 45 = 0 := rfl
theorem md46 : md 46 = 1 := rfl
theorem md47 : md 47 = 0 := rfl
theorem md48 : md 48 = 0 := rfl
theorem md49 : md 49 = 5 := rfl
theorem md50 : md 50 = 1 := rfl
theorem md51 : md 51 = 1 := rfl
theorem md52 : md 52 = 0 := rfl
theorem md53 : md 53 = 0 := rfl
/-- Which slots outlive a region, and a round of a loop. -/
def fg : FuncId → Nat → List Bool
  | 4, 0 => [false, true, true, true, false, false, true, true, true, true, true, true, true, true, false, false, false, false, false, false, false, false, false, false, false, false, false, false, false, false, false, true, false, false, true, true, true, false, false, false, false, true, true, true, false, false, false, false, false, false, false, false, false, false, false, true, false, false, false, false, false, false, false, false, false, false, false, false, false, false, false, false, false, false, false, false, false, false, false, false, false, false, false, false, false, false, false, false, false, false, false, false, false, false, false, false, false, false, false, false, false, false]
  | 4, 1 => [false, true, true, true, false, false, true, false, false, false, false, false, false, false, false, false, false, false, false, false, false, false, false, false, false, false, false, false, false, false, false, false, false, false, true, true, false, false, false, false, false, false, false, false, false, false, false, false, false, false, false, false, false, false, false, false, false, false, false, false, false, false, false, false, false, false, false, false, false, false, false, false, false, false, false, false, false, false, false, false, false, false, false, false, false, false, false, false, false, false, false, false, false, false, false, false, false, false, false, false, false, false]
  | 4, 3 => [false, true, true, true, false, false, true, true, false, false, false, false, false, false, false, false, false, false, false, false, false, false, false, false, false, false, false, false, false, false, false, false, false, false, true, true, false, false, false, false, false, true, true, false, false, false, false, false, false, false, false, false, false, false, false, false, false, false, false, false, false, false, false, false, false, false, false, false, false, false, false, false, false, false, false, false, false, false, false, false, false, false, false, false, false, false, false, false, false, false, false, false, false, false, false, false, false, false, false, false, false, false]
  | 5, 0 => [false, false, true, true, true, true, false, false, true, true, false, true, true, true, true, true, true, true, false, false, false, false, false, false, false, false, false, false, false, false, false, false, false, false, false, false, false, false, false, false, false, false, false, false, false, false, false, false, false, false, false, false, false, false, false, true, false, false, true, true, true, false, false, false, false, false, false, true, true, true, true, false, false, false, false, false, false, false, false, false, true, false, false, false, false, false, false, false, false, false, false, false, false, false, false, false, false, false, false, false, false, false, false, false, false, false, false, false, false, false, false, false, false, false, false, false, false, false, false, false, false, false, false, false, true, false, false, false, false, false, false, false, false, false, false, false, false]
  | 5, 1 => [false, false, true, true, true, true, false, false, true, false, false, false, false, false, false, false, false, false, false, false, false, false, false, false, false, false, false, false, false, false, false, false, false, false, false, false, false, false, false, false, false, false, false, false, false, false, false, false, false, false, false, false, false, false, false, false, false, false, true, true, false, false, false, false, false, false, false, false, false, false, false, false, false, false, false, false, false, false, false, false, false, false, false, false, false, false, false, false, false, false, false, false, false, false, false, false, false, false, false, false, false, false, false, false, false, false, false, false, false, false, false, false, false, false, false, false, false, false, false, false, false, false, false, false, false, false, false, false, false, false, false, false, false, false, false, false, false]
  | 5, 3 => [false, false, true, true, true, true, false, false, true, true, false, false, false, false, false, false, false, false, false, false, false, false, false, false, false, false, false, false, false, false, false, false, false, false, false, false, false, false, false, false, false, false, false, false, false, false, false, false, false, false, false, false, false, false, false, false, false, false, true, true, false, false, false, false, false, false, false, true, true, true, false, false, false, false, false, false, false, false, false, false, false, false, false, false, false, false, false, false, false, false, false, false, false, false, false, false, false, false, false, false, false, false, false, false, false, false, false, false, false, false, false, false, false, false, false, false, false, false, false, false, false, false, false, false, false, false, false, false, false, false, false, false, false, false, false, false, false]
  | 6, 0 => [true, true, true, false, false, false, true, true, true, true, true, true, true, true, true, false, false, false, false, false, false, false, true, false, false, false, false, false, false, false, false, false, false, true, false, true, false, false, false, true, false, false, false, false, false, false, false, false, false, false, false, false, false, false, false, false, false, false, false, true, false, false, false, false, false, false, false, false, false, false, false, false, false, false, false, false, true, false, false, false, false, false, false, true, false, false, false, false, false, false, false, false, false, false, false, false, false, false, false, false, false, false]
  | 6, 1 => [true, true, true, false, false, false, false, true, true, true, false, false, false, false, false, false, false, false, false, false, false, false, false, false, false, false, false, false, false, false, false, false, false, false, false, false, false, false, false, false, false, false, false, false, false, false, false, false, false, false, false, false, false, false, false, false, false, false, false, false, false, false, false, false, false, false, false, false, false, false, false, false, false, false, false, false, false, false, false, false, false, false, false, false, false, false, false, false, false, false, false, false, false, false, false, false, false, false, false, false, false, false]
  | 6, 3 => [true, true, false, false, false, false, false, false, false, false, false, true, true, true, true, false, false, false, false, false, false, false, false, false, false, false, false, false, false, false, false, false, false, false, false, false, false, false, false, false, false, false, false, false, false, false, false, false, false, false, false, false, false, false, false, false, false, false, false, false, false, false, false, false, false, false, false, false, false, false, false, false, false, false, false, false, false, false, false, false, false, false, false, false, false, false, false, false, false, false, false, false, false, false, false, false, false, false, false, false, false, false]
  | 7, 0 => [true, false, true, true, false, false, false, false, false, false, false, false, true, false, true, true, true, false, false, false, false, false, false, false, true, false]
  | 7, 1 => [true, false, true, false, false, false, false, false, false, false, false, false, false, false, true, true, false, false, false, false, false, false, false, false, false, false]
  | 9, 0 => [true, false, true, true, true, true, true, false, false, false, true, false, false, false, false, false, false, false, true, false, false, false, false, false, false, false, false, false, false, false, false, false, false, false, false, false]
  | 9, 1 => [false, false, false, false, true, true, false, false, false, false, false, false, false, false, false, false, false, false, false, false, false, false, false, false, false, false, false, false, false, false, false, false, false, false, false, false]
  | 10, 0 => [true, false, true, true, true, true, true, true, true, true, false, false, false, false, true, false, false, false, false, false, false, false, false, false, false, false, false, false, false, true, false, false, false, false, false, true, false, false, false, false, false, false, false, false, false, false, false, false, false, false, false, false, false, false, false, false, false, false, false, false, true, true, false, false, true, false, false, true, false, false, false, false, false, false, false, false]
  | 10, 1 => [true, false, true, true, true, false, false, false, false, false, false, false, false, false, false, false, false, false, false, false, false, false, false, false, false, false, false, false, false, false, false, false, false, false, false, false, false, false, false, false, false, false, false, false, false, false, false, false, false, false, false, false, false, false, false, false, false, false, false, false, false, false, false, false, false, false, false, false, false, false, false, false, false, false, false, false]
  | 10, 3 => [true, false, false, false, true, true, true, true, false, false, false, false, false, false, false, false, false, false, false, false, false, false, false, false, false, false, false, false, false, false, false, false, false, false, false, false, false, false, false, false, false, false, false, false, false, false, false, false, false, false, false, false, false, false, false, false, false, false, false, false, false, false, false, false, false, false, false, false, false, false, false, false, false, false, false, false]
  | 10, 5 => [true, false, false, false, true, true, true, true, true, true, false, false, false, false, false, false, false, false, false, false, false, false, false, false, false, false, false, false, false, false, false, false, false, false, false, false, false, false, false, false, false, false, false, false, false, false, false, false, false, false, false, false, false, false, false, false, false, false, false, false, false, false, false, false, false, false, false, false, false, false, false, false, false, false, false, false]
  | 11, 0 => [true, true, false, false, true, true, false, false, false, false, true, false, false, false, true, false, false, false, false, false, false, false, false, false, false]
  | 11, 1 => [true, true, false, false, true, true, false, false, false, false, false, false, false, false, false, false, false, false, false, false, false, false, false, false, false, false]
  | 14, 0 => [false, true, true, true, false, false, false, false, false, false, false, false, true, false, false, true, true, true, false, false, false, false, false, false, false, true, false]
  | 14, 1 => [false, true, true, false, false, false, false, false, false, false, false, false, false, false, false, true, true, false, false, false, false, false, false, false, false, false, false]
  | 16, 0 => [false, false, true, true, true, true, false, false, false, false, false, false, false, false, false, false, false, false, false, false, false, false, false, false, false, false, false, false, false, false, false, false, false, false, false, false, false, false, false, false, true, false, false, false, false, true, false, false, false, false, false, false, false, false, false, false, false, false, false]
  | 16, 1 => [false, false, true, true, true, true, false, false, false, false, false, false, false, false, false, false, false, false, false, false, false, false, false, false, false, false, false, false, false, false, false, false, false, false, false, false, false, false, false, false, false, false, false, false, false, false, false, false, false, false, false, false, false, false, false, false, false, false, false, false]
  | 17, 0 => [false, true, true, true, true, false, false, false, false, true, false, false, false, false, false, false, false, false, false, false, false]
  | 17, 1 => [false, true, false, true, true, false, false, false, false, false, false, false, false, false, false, false, false, false, false, false, false]
  | 18, 0 => [true, false, false, true, true, true, false, false, false, false, false, false, false, false, false, true, false, false, false, false, false, false, false, false, false, false, false, true, false, false, false, false, false, false, false, false, false, false]
  | 18, 1 => [true, false, false, true, false, true, false, false, false, false, false, false, false, false, false, false, false, false, false, false, false, false, false, false, false, false, false, false, false, false, false, false, false, false, false, false, false, false]
  | 20, 0 => [false, true, true, true, false, false, true, true, true, true, false, false, false, false, false, false, false, false, true, false, false, false, false, false, false, false, false, true, false, false, false, true, false, false, false, false, false, false, false, false, false, false, false, false, false, false, false, false, false, true, false, false, false, false, false, false, false, false, false, false, false, false, false, false, false, false]
  | 20, 1 => [false, true, true, true, false, false, true, true, false, false, false, false, false, false, false, false, false, false, false, false, false, false, false, false, false, false, false, false, false, false, false, false, false, false, false, false, false, false, false, false, false, false, false, false, false, false, false, false, false, false, false, false, false, false, false, false, false, false, false, false, false, false, false, false, false, false]
  | 20, 3 => [false, true, true, true, false, false, true, false, true, true, false, false, false, false, false, false, false, false, false, false, false, false, false, false, false, false, false, false, false, false, false, false, false, false, false, false, false, false, false, false, false, false, false, false, false, false, false, false, false, false, false, false, false, false, false, false, false, false, false, false, false, false, false, false, false, false]
  | 21, 0 => [false, true, true, false, true, true, false, true, true, true, false, false, false, false, false, false, false, true, false, false, false, false]
  | 21, 1 => [false, true, true, false, true, false, false, true, true, false, false, false, false, false, false, false, false, false, false, false, false, false]
  | 25, 0 => [false, true, true, true, true, true, true, true, true, true, true, true, true, false, false, false, false, false, false, false, false, false, false, false, false, false, false, false, false, false, false, false, false, false, false, false, false, false, false, false, true, false, false, true, true, true, false, false, false, false, false, false, false, false, false, false, false, false, false, false, false, false, false, false, false, false, false, false, false, false, true, true, true, false, false, false, false, false, false, false, false, false, false, false, false, false, false, false, false, false, false, false, false, false, false, false, false, false, false, false, false, false, false, false, false, false, false, false, false, false, false, false, false, false, false, false, true, false, false, false, false, false, false, false, false, false, false, false, false, false, false, false, false, false, false, false, false, false, false, false, false, false, false, false, false, false, false, false, false, false, false, false, false, false, false, true, false, false, false, false, false, false, false, false, false, false, false, false, false, false, false, false, false, false, true, true, true, false, false, false, false, false, false, false, false, false, false, false, false, false, false, false, false, false, false, false, false, false, false, false, false, false, false, false, false, false, false, false, false, false, false, false, false, false, false, false, false, false, false, true, false, false, false, false, false, false, false, false, false, false, false, false, false, false, false, false, false, false, true, true, true, false, false, false, false, false, false, false, false, false, false, false, false, false, false, false, false, false, false, false, false, false, false, false, false, false, false, false, false, false, false, true, true, true, false, false, false, false, false, false, false, false, false, false, false, false, false, false, false, false, false, false, false, false, false, false, false, false, false, false, false, false]
  | 25, 1 => [false, true, false, true, true, false, false, false, false, false, false, false, false, false, false, false, false, false, false, false, false, false, false, false, false, false, false, false, false, false, false, false, false, false, false, false, false, false, false, false, false, false, false, true, true, false, false, false, false, false, false, false, false, false, false, false, false, false, false, false, false, false, false, false, false, false, false, false, false, false, false, false, false, false, false, false, false, false, false, false, false, false, false, false, false, false, false, false, false, false, false, false, false, false, false, false, false, false, false, false, false, false, false, false, false, false, false, false, false, false, false, false, false, false, false, false, false, false, false, false, false, false, false, false, false, false, false, false, false, false, false, false, false, false, false, false, false, false, false, false, false, false, false, false, false, false, false, false, false, false, false, false, false, false, false, false, false, false, false, false, false, false, false, false, false, false, false, false, false, false, false, false, false, false, false, false, false, false, false, false, false, false, false, false, false, false, false, false, false, false, false, false, false, false, false, false, false, false, false, false, false, false, false, false, false, false, false, false, false, false, false, false, false, false, false, false, false, false, false, false, false, false, false, false, false, false, false, false, false, false, false, false, false, false, false, false, false, false, false, false, false, false, false, false, false, false, false, false, false, false, false, false, false, false, false, false, false, false, false, false, false, false, false, false, false, false, false, false, false, false, false, false, false, false, false, false, false, false, false, false, false, false, false, false, false, false, false, false, false, false, false, false, false, false, false, false, false, false, false, false, false, false]
  | 25, 3 => [false, true, false, true, true, false, false, false, false, false, false, false, false, false, false, false, false, false, false, false, false, false, false, false, false, false, false, false, false, false, false, false, false, false, false, false, false, false, false, false, false, false, false, false, false, false, false, false, false, false, false, false, false, false, false, false, false, false, false, false, false, false, false, false, false, false, false, false, false, false, true, true, false, false, false, false, false, false, false, false, false, false, false, false, false, false, false, false, false, false, false, false, false, false, false, false, false, false, false, false, false, false, false, false, false, false, false, false, false, false, false, false, false, false, false, false, false, false, false, false, false, false, false, false, false, false, false, false, false, false, false, false, false, false, false, false, false, false, false, false, false, false, false, false, false, false, false, false, false, false, false, false, false, false, false, false, false, false, false, false, false, false, false, false, false, false, false, false, false, false, false, false, false, false, false, false, false, false, false, false, false, false, false, false, false, false, false, false, false, false, false, false, false, false, false, false, false, false, false, false, false, false, false, false, false, false, false, false, false, false, false, false, false, false, false, false, false, false, false, false, false, false, false, false, false, false, false, false, false, false, false, false, false, false, false, false, false, false, false, false, false, false, false, false, false, false, false, false, false, false, false, false, false, false, false, false, false, false, false, false, false, false, false, false, false, false, false, false, false, false, false, false, false, false, false, false, false, false, false, false, false, false, false, false, false, false, false, false, false, false, false, false, false, false, false, false, false, false, false, false, false, false]
  | 25, 5 => [false, true, false, true, true, false, true, true, false, false, false, false, false, false, false, false, false, false, false, false, false, false, false, false, false, false, false, false, false, false, false, false, false, false, false, false, false, false, false, false, false, false, false, false, false, false, false, false, false, false, false, false, false, false, false, false, false, false, false, false, false, false, false, false, false, false, false, false, false, false, true, true, false, false, false, false, false, false, false, false, false, false, false, false, false, false, false, false, false, false, false, false, false, false, false, false, false, false, false, false, false, false, false, false, false, false, false, false, false, false, false, false, false, false, false, false, false, false, false, false, false, false, false, false, false, false, false, false, false, false, false, false, false, false, false, false, false, false, false, false, false, false, false, false, false, false, false, false, false, false, false, false, false, false, false, false, false, false, false, false, false, false, false, false, false, false, false, false, false, false, false, false, false, false, false, false, false, false, false, false, false, false, false, false, false, false, false, false, false, false, false, false, false, false, false, false, false, false, false, false, false, false, false, false, false, false, false, false, false, false, false, false, false, false, false, false, false, false, false, false, false, false, false, false, false, false, false, false, false, false, false, false, false, false, false, false, false, false, false, false, false, false, false, false, false, false, false, false, false, false, false, false, false, false, false, false, false, false, false, false, false, false, false, false, false, false, false, false, false, false, false, false, false, false, false, false, false, false, false, false, false, false, false, false, false, false, false, false, false, false, false, false, false, false, false, false, false, false, false, false, false, false]
  | 25, 7 => [false, true, false, true, true, false, true, false, true, false, false, false, false, false, false, false, false, false, false, false, false, false, false, false, false, false, false, false, false, false, false, false, false, false, false, false, false, false, false, false, false, false, false, false, false, false, false, false, false, false, false, false, false, false, false, false, false, false, false, false, false, false, false, false, false, false, false, false, false, false, true, true, false, false, false, false, false, false, false, false, false, false, false, false, false, false, false, false, false, false, false, false, false, false, false, false, false, false, false, false, false, false, false, false, false, false, false, false, false, false, false, false, false, false, false, false, false, false, false, false, false, false, false, false, false, false, false, false, false, false, false, false, false, false, false, false, false, false, false, false, false, false, false, false, false, false, false, false, false, false, false, false, false, false, false, false, false, false, false, false, false, false, false, false, false, false, false, false, false, false, false, false, false, false, false, false, false, false, false, false, false, false, false, false, false, false, false, false, false, false, false, false, false, false, false, false, false, false, false, false, false, false, false, false, false, false, false, false, false, false, false, false, false, false, false, false, false, false, false, false, false, false, false, false, false, false, false, false, false, false, false, false, false, false, false, false, false, false, false, false, false, false, false, false, false, false, false, false, false, false, false, false, false, false, false, false, false, false, false, false, false, false, false, false, false, false, false, false, false, false, false, false, false, false, false, false, false, false, false, false, false, false, false, false, false, false, false, false, false, false, false, false, false, false, false, false, false, false, false, false, false, false]
  | 25, 9 => [false, true, false, true, true, false, false, false, false, false, false, false, false, false, false, false, false, false, false, false, false, false, false, false, false, false, false, false, false, false, false, false, false, false, false, false, false, false, false, false, false, false, false, false, false, false, false, false, false, false, false, false, false, false, false, false, false, false, false, false, false, false, false, false, false, false, false, false, false, false, false, false, false, false, false, false, false, false, false, false, false, false, false, false, false, false, false, false, false, false, false, false, false, false, false, false, false, false, false, false, false, false, false, false, false, false, false, false, false, false, false, false, false, false, false, false, false, false, false, false, false, false, false, false, false, false, false, false, false, false, false, false, false, false, false, false, false, false, false, false, false, false, false, false, false, false, false, false, false, false, false, false, false, false, false, false, false, false, false, false, false, false, false, false, false, false, false, false, false, false, false, false, false, false, true, true, false, false, false, false, false, false, false, false, false, false, false, false, false, false, false, false, false, false, false, false, false, false, false, false, false, false, false, false, false, false, false, false, false, false, false, false, false, false, false, false, false, false, false, false, false, false, false, false, false, false, false, false, false, false, false, false, false, false, false, false, false, false, false, false, false, false, false, false, false, false, false, false, false, false, false, false, false, false, false, false, false, false, false, false, false, false, false, false, false, false, false, false, false, false, false, false, false, false, false, false, false, false, false, false, false, false, false, false, false, false, false, false, false, false, false, false, false, false, false, false, false, false, false, false, false, false]
  | 25, 11 => [false, true, false, true, true, false, false, false, false, true, true, false, false, false, false, false, false, false, false, false, false, false, false, false, false, false, false, false, false, false, false, false, false, false, false, false, false, false, false, false, false, false, false, false, false, false, false, false, false, false, false, false, false, false, false, false, false, false, false, false, false, false, false, false, false, false, false, false, false, false, false, false, false, false, false, false, false, false, false, false, false, false, false, false, false, false, false, false, false, false, false, false, false, false, false, false, false, false, false, false, false, false, false, false, false, false, false, false, false, false, false, false, false, false, false, false, false, false, false, false, false, false, false, false, false, false, false, false, false, false, false, false, false, false, false, false, false, false, false, false, false, false, false, false, false, false, false, false, false, false, false, false, false, false, false, false, false, false, false, false, false, false, false, false, false, false, false, false, false, false, false, false, false, false, true, true, false, false, false, false, false, false, false, false, false, false, false, false, false, false, false, false, false, false, false, false, false, false, false, false, false, false, false, false, false, false, false, false, false, false, false, false, false, false, false, false, false, false, false, false, false, false, false, false, false, false, false, false, false, false, false, false, false, false, false, false, false, false, false, false, false, false, false, false, false, false, false, false, false, false, false, false, false, false, false, false, false, false, false, false, false, false, false, false, false, false, false, false, false, false, false, false, false, false, false, false, false, false, false, false, false, false, false, false, false, false, false, false, false, false, false, false, false, false, false, false, false, false, false, false, false, false]
  | 25, 13 => [false, true, false, true, true, false, false, false, false, false, false, false, false, false, false, false, false, false, false, false, false, false, false, false, false, false, false, false, false, false, false, false, false, false, false, false, false, false, false, false, false, false, false, false, false, false, false, false, false, false, false, false, false, false, false, false, false, false, false, false, false, false, false, false, false, false, false, false, false, false, false, false, false, false, false, false, false, false, false, false, false, false, false, false, false, false, false, false, false, false, false, false, false, false, false, false, false, false, false, false, false, false, false, false, false, false, false, false, false, false, false, false, false, false, false, false, false, false, false, false, false, false, false, false, false, false, false, false, false, false, false, false, false, false, false, false, false, false, false, false, false, false, false, false, false, false, false, false, false, false, false, false, false, false, false, false, false, false, false, false, false, false, false, false, false, false, false, false, false, false, false, false, false, false, false, false, false, false, false, false, false, false, false, false, false, false, false, false, false, false, false, false, false, false, false, false, false, false, false, false, false, false, false, false, false, false, false, false, false, false, false, false, false, false, false, false, false, false, false, false, false, false, false, false, false, false, false, false, false, false, false, false, false, false, false, false, false, false, true, true, false, false, false, false, false, false, false, false, false, false, false, false, false, false, false, false, false, false, false, false, false, false, false, false, false, false, false, false, false, false, false, false, false, false, false, false, false, false, false, false, false, false, false, false, false, false, false, false, false, false, false, false, false, false, false, false, false, false, false, false, false, false]
  | 25, 15 => [false, true, false, true, true, false, false, false, false, false, false, false, false, false, false, false, false, false, false, false, false, false, false, false, false, false, false, false, false, false, false, false, false, false, false, false, false, false, false, false, false, false, false, false, false, false, false, false, false, false, false, false, false, false, false, false, false, false, false, false, false, false, false, false, false, false, false, false, false, false, false, false, false, false, false, false, false, false, false, false, false, false, false, false, false, false, false, false, false, false, false, false, false, false, false, false, false, false, false, false, false, false, false, false, false, false, false, false, false, false, false, false, false, false, false, false, false, false, false, false, false, false, false, false, false, false, false, false, false, false, false, false, false, false, false, false, false, false, false, false, false, false, false, false, false, false, false, false, false, false, false, false, false, false, false, false, false, false, false, false, false, false, false, false, false, false, false, false, false, false, false, false, false, false, false, false, false, false, false, false, false, false, false, false, false, false, false, false, false, false, false, false, false, false, false, false, false, false, false, false, false, false, false, false, false, false, false, false, false, false, false, false, false, false, false, false, false, false, false, false, false, false, false, false, false, false, false, false, false, false, false, false, false, false, false, false, false, false, false, false, false, false, false, false, false, false, false, false, false, false, false, false, false, false, false, false, false, false, false, false, false, false, false, false, false, false, false, false, false, false, false, true, true, false, false, false, false, false, false, false, false, false, false, false, false, false, false, false, false, false, false, false, false, false, false, false, false, false, false, false, false, false]
  | 26, 0 => [true, false, true, true, false, true, false, true, false, false, false, false, true, true, true, true, false, false, false, false, false, false, false, false, false, false, false, false, false, true, false, false, false, false, false, false, false, false, false, false, false, false, false, false, false, false, false, false, false, false]
  | 26, 1 => [false, false, false, true, false, false, false, false, false, false, false, false, true, true, true, false, false, false, false, false, false, false, false, false, false, false, false, false, false, false, false, false, false, false, false, false, false, false, false, false, false, false, false, false, false, false, false, false, false, false]
  | 28, 0 => [true, true, false, false, true, true, false, true, true, true, false, false, false, false, false, false, true, false, false]
  | 28, 1 => [true, true, false, false, true, false, false, true, true, false, false, false, false, false, false, false, false, false, false]
  | 32, 0 => [true, false, false, true, true, true, true, true, false, true, false, false, false, false, false, false, true, false, false, false, false, false, false, true, true, true, true, false, false, false, false, false, false, false, false, false]
  | 32, 1 => [true, false, false, false, false, true, false, false, false, false, false, false, false, false, false, false, false, false, false, false, false, false, false, true, true, true, false, false, false, false, false, false, false, false, false, false]
  | 34, 0 => [true, true, false, false, true, true, false, false, true, false, false, false, false, false, false, false, false, false, false, false, false]
  | 34, 1 => [true, true, false, false, true, true, false, false, false, false, false, false, false, false, false, false, false, false, false, false, false, false]
  | 35, 0 => [true, false, true, false, true, false, true, true, false, false, false, false, true, false, false, false, false, true, false, false, false, false, false, false, false, false, false]
  | 35, 1 => [true, false, true, false, true, false, true, true, false, false, false, false, false, false, false, false, false, false, false, false, false, false, false, false, false, false, false, false]
  | 36, 0 => [false, true, true, false, true, true, true, false, false, false, false, false, false, false, true, false, false, false, false, false, false, false, false, false, false, false, false, false, true, true, true, false, false, true, false, false, false, false, false, false, false, false, false, false, false, false, false]
  | 36, 1 => [false, true, true, false, false, true, false, false, false, false, false, false, false, false, false, false, false, false, false, false, false, false, false, false, false, false, false, false, true, true, false, false, false, false, false, false, false, false, false, false, false, false, false, false, false, false, false]
  | 37, 0 => [true, false, false, true, true, true, true, false, true, false, false, false, false, false, false, false, true, false, true, false, false, false, false, false, false, false]
  | 37, 1 => [false, false, false, false, false, false, true, false, false, false, false, false, false, false, false, false, true, false, false, false, false, false, false, false, false, false]
  | 38, 0 => [true, false, false, true, true, true, true, true, true, true, false, false, false, false, false, false, true, false, false, false, false, false, false, false, false, false, false, false, false, true, true, true, true, false, false, false, false, false, false, false, false, false, false, false, false, false]
  | 38, 1 => [true, false, false, true, true, false, false, true, false, false, false, false, false, false, false, false, false, false, false, false, false, false, false, false, false, false, false, false, false, true, true, true, false, false, false, false, false, false, false, false, false, false, false, false, false, false]
  | 39, 0 => [true, true, false, false, true, true, false, false, false, true, false, false, false, false, false, false, false]
  | 39, 1 => [true, true, false, false, true, true, false, false, false, false, false, false, false, false, false, false, false, false]
  | 40, 0 => [false, true, true, false, true, true, true, false, true, true, true, false, false, false, false, false, false, false, false, false, false, false, false, false, false, false, false, false, false, false, false, false, false, false, false, false, false, false, false, false, false, true, false, false, false, true, true, true, false, false, false, false, false, false, false, true, false]
  | 40, 1 => [false, true, true, false, true, false, false, false, true, true, false, false, false, false, false, false, false, false, false, false, false, false, false, false, false, false, false, false, false, false, false, false, false, false, false, false, false, false, false, false, false, false, false, false, false, false, false, false, false, false, false, false, false, false, false, false, false]
  | 40, 3 => [false, true, true, false, true, false, false, false, false, false, false, false, false, false, false, false, false, false, false, false, false, false, false, false, false, false, false, false, false, false, false, false, false, false, false, false, false, false, false, false, false, false, false, false, false, true, true, false, false, false, false, false, false, false, false, false, false]
  | 41, 0 => [true, false, true, true, true, false, false, false, false, false, false, false, true, false, false, false, false, false, false, false, false, false, false, false]
  | 41, 1 => [true, false, false, true, true, false, false, false, false, false, false, false, false, false, false, false, false, false, false, false, false, false, false, false]
  | 43, 0 => [true, true, false, false, true, true, false, true, true, true, false, false, false, false, false, false, true, false, false]
  | 43, 1 => [true, true, false, false, true, false, false, true, true, false, false, false, false, false, false, false, false, false, false]
  | 45, 0 => [true, false, false, true, true, true, false, false, false, true, false, false, false, false, false, false, false, false, false, false, false, false, false, false, false, false, false, false, false, true, false]
  | 45, 1 => [true, false, false, true, true, true, false, false, false, false, false, false, false, false, false, false, false, false, false, false, false, false, false, false, false, false, false, false, false, false, false]
  | 46, 0 => [true, false, false, true, true, true, true, true, false, true, true, true, true, true, false, false, false, false, true, false, false, false, false, false, false, false, false, false, false, false, false, true, false, true, true, true, true, false, false, false, false, false, false, false, false, false, false, false, false, false, false, false, false, true, false, true, false, false, false, false, false, false, false, false, false, false, false, false, false, false, true, false, false, false, false, false, false, false, false, false, false, false, false, false, false, false, false]
  | 46, 1 => [true, false, false, false, true, true, false, false, false, false, false, false, false, false, false, false, false, false, false, false, false, false, false, false, false, false, false, false, false, false, false, false, false, true, true, true, false, false, false, false, false, false, false, false, false, false, false, false, false, false, false, false, false, false, false, false, false, false, false, false, false, false, false, false, false, false, false, false, false, false, false, false, false, false, false, false, false, false, false, false, false, false, false, false, false, false, false]
  | 46, 3 => [true, false, false, true, true, true, true, false, false, false, false, false, false, false, false, false, false, false, false, false, false, false, false, false, false, false, false, false, false, false, false, false, false, false, false, false, false, false, false, false, false, false, false, false, false, false, false, false, false, false, false, false, false, true, false, false, false, false, false, false, false, false, false, false, false, false, false, false, false, false, false, false, false, false, false, false, false, false, false, false, false, false, false, false, false, false, false]
  | 48, 0 => [false, true, true, true, false, false, true, true, true, true, true, false, false, true, false, false, false, false, false, false, false, false, false, false, false, true, false, false, false, false, false, false, false, true, false, false, false, false, false, false, true, true, true, true, false, false, false, false, false, false, false, false, false, false, false, false, false, false]
  | 48, 1 => [false, true, true, true, false, false, true, false, true, false, false, false, false, false, false, false, false, false, false, false, false, false, false, false, false, false, false, false, false, false, false, false, false, false, false, false, false, false, false, false, true, true, true, false, false, false, false, false, false, false, false, false, false, false, false, false, false, false]
  | 50, 0 => [true, false, true, false, true, false, true, true, false, false, false, false, false, false, false, false, false, false, false, false, false, false, true, false, true, false, false, false, false, false, false, false, false, false, false, false, false, false, false, false, false, false, false]
  | 50, 1 => [true, false, true, false, false, false, false, false, false, false, false, false, false, false, false, false, false, false, false, false, false, false, true, false, false, false, false, false, false, false, false, false, false, false, false, false, false, false, false, false, false, false, false]
  | 4, 100015 => [true]
  | 6, 100014 => [true]
  | 18, 100002 => [true]
  | 26, 100005 => [true]
  | 42, 100007 => [true]
  | 44, 100001 => [true]
  | 44, 100002 => [true]
  | 51, 100001 => [true]
  | 4, 200015 => [true, true, true, true, true, true, true, true, true, true, true, true, true, true, false, false, true, false, true, true, false, true, true, true, false, true, true, true, true, false, true, true, true, true, true, false, true, true, true, true, true, true, false, true, true, true, true, true, true, true, false, true, true, true, true, true, true, true, true, false, true, true, true, true, true, true, true, true, true, false, true, true, true, true, true, true, true, true, true, true, false, true, true, true, true, true, true, true, true, true, true, true, false, true, true, true, true, true, true, true, true, true, true, true, true, false, true, true, true, true, true, true, true, true, true, true, true, true, true, false, true, true, true, true, true, true, true, true, true, true, true, true, true, true, true, false, true, true, true, true, true, true, true, true, true, true, true, true, true, true, true, true, false]
  | 4, 300015 => [true]
  | 4, 1015000 => [false]
  | 4, 1015005 => [false]
  | 4, 1015009 => [false]
  | 4, 1015010 => [false]
  | 6, 200014 => [false, true, false, true, true, false, true, true, true, false, true, true, true, true, false, true, true, true, true, true, false, true, true, true, true, true, true, false, true, true, true, true, true, true, true, false, true, true, true, true, true, true, true, true, false]
  | 18, 200002 => [false, true, false, true, true, false, true, true, true, false, true, true, true, true, false, true, true, true, true, true, false, true, true, true, true, true, true, false, true, true, true, true, true, true, true, false]
  | 26, 200005 => [true, true, true, true, true, true, true, true, true, true, false, false, true, false, true, true, false, true, true, true, false, true, true, true, true, false, true, true, true, true, true, false, true, true, true, true, true, true, false, true, true, true, true, true, true, true, false, true, true, true, true, true, true, true, true, false, true, true, true, true, true, true, true, true, true, false, true, true, true, true, true, true, true, true, true, true, true, false, true, true, true, true, true, true, true, true, true, true, true, true, false]
  | 26, 300005 => [true]
  | 26, 1005003 => [false]
  | 26, 1005005 => [false]
  | 26, 1005006 => [false]
  | 42, 200007 => [false, true, false, true, true, false, true, true, true, false, true, true, true, true, false, true, true, true, true, true, false, true, true, true, true, true, true, false, true, true, true, true, true, true, true, false, true, true, true, true, true, true, true, true, false, true, true, true, true, true, true, true, true, true, false, true, true, true, true, true, true, true, true, true, true, false]
  | 44, 200001 => [true, true, true, true, true, true, true, true, true, true, false, false, true, false, true, true, false, true, true, true, false, true, true, true, true, false, true, true, true, true, true, false, true, true, true, true, true, true, false, true, true, true, true, true, true, true, false, true, true, true, true, true, true, true, true, false, true, true, true, true, true, true, true, true, true, false, true, true, true, true, true, true, true, true, true, true, true, false, true, true, true, true, true, true, true, true, true, true, true, true, false]
  | 44, 300001 => [true]
  | 44, 1001003 => [false]
  | 44, 1001005 => [false]
  | 44, 1001006 => [false]
  | 44, 200002 => [false, true, false, true, true, false, true, true, true, false, true, true, true, true, false, true, true, true, true, true, false, true, true, true, true, true, true, false, true, true, true, true, true, true, true, false, true, true, true, true, true, true, true, true, false, true, true, true, true, true, true, true, true, true, false, true, true, true, true, true, true, true, true, true, true, false, true, true, true, true, true, true, true, true, true, true, true, false, true, true, true, true, true, true, true, true, true, true, true, true, false, true, true, true, true, true, true, true, true, true, true, true, true, true, false]
  | 51, 200001 => [true, true, true, true, true, true, true, true, true, true, false, false, true, false, true, true, false, true, true, true, false, true, true, true, true, false, true, true, true, true, true, false, true, true, true, true, true, true, false, true, true, true, true, true, true, true, false, true, true, true, true, true, true, true, true, false, true, true, true, true, true, true, true, true, true, false, true, true, true, true, true, true, true, true, true, true, true, false, true, true, true, true, true, true, true, true, true, true, true, true, false]
  | 51, 300001 => [true]
  | 51, 1001003 => [false]
  | 51, 1001005 => [false]
  | 51, 1001006 => [false]
  | _, _ => []
theorem fg_3_0 (e : Env) : mask (fg 3 0) e = mask [] e := rfl
theorem fg_4_0 (e : Env) : mask (fg 4 0) e = mask [false, true, true, true, false, false, true, true, true, true, true, true, true, true, false, false, false, false, false, false, false, false, false, false, false, false, false, false, false, false, false, true, false, false, true, true, true, false, false, false, false, true, true, true, false, false, false, false, false, false, false, false, false, false, false, true, false, false, false, false, false, false, false, false, false, false, false, false, false, false, false, false, false, false, false, false, false, false, false, false, false, false, false, false, false, false, false, false, false, false, false, false, false, false, false, false, false, false, false, false, false, false] e := rfl
theorem fg_4_1 (e : Env) : mask (fg 4 1) e = mask [false, true, true, true, false, false, true, false, false, false, false, false, false, false, false, false, false, false, false, false, false, false, false, false, false, false, false, false, false, false, false, false, false, false, true, true, false, false, false, false, false, false, false, false, false, false, false, false, false, false, false, false, false, false, false, false, false, false, false, false, false, false, false, false, false, false, false, false, false, false, false, false, false, false, false, false, false, false, false, false, false, false, false, false, false, false, false, false, false, false, false, false, false, false, false, false, false, false, false, false, false, false] e := rfl
theorem fg_4_2 (e : Env) : mask (fg 4 2) e = mask [] e := rfl
theorem fg_4_3 (e : Env) : mask (fg 4 3) e = mask [false, true, true, true, false, false, true, true, false, false, false, false, false, false, false, false, false, false, false, false, false, false, false, false, false, false, false, false, false, false, false, false, false, false, true, true, false, false, false, false, false, true, true, false, false, false, false, false, false, false, false, false, false, false, false, false, false, false, false, false, false, false, false, false, false, false, false, false, false, false, false, false, false, false, false, false, false, false, false, false, false, false, false, false, false, false, false, false, false, false, false, false, false, false, false, false, false, false, false, false, false, false] e := rfl
theorem fg_4_4 (e : Env) : mask (fg 4 4) e = mask [] e := rfl
theorem fg_5_0 (e : Env) : mask (fg 5 0) e = mask [false, false, true, true, true, true, false, false, true, true, false, true, true, true, true, true, true, true, false, false, false, false, false, false, false, false, false, false, false, false, false, false, false, false, false, false, false, false, false, false, false, false, false, false, false, false, false, false, false, false, false, false, false, false, false, true, false, false, true, true, true, false, false, false, false, false, false, true, true, true, true, false, false, false, false, false, false, false, false, false, true, false, false, false, false, false, false, false, false, false, false, false, false, false, false, false, false, false, false, false, false, false, false, false, false, false, false, false, false, false, false, false, false, false, false, false, false, false, false, false, false, false, false, false, true, false, false, false, false, false, false, false, false, false, false, false, false] e := rfl
theorem fg_5_1 (e : Env) : mask (fg 5 1) e = mask [false, false, true, true, true, true, false, false, true, false, false, false, false, false, false, false, false, false, false, false, false, false, false, false, false, false, false, false, false, false, false, false, false, false, false, false, false, false, false, false, false, false, false, false, false, false, false, false, false, false, false, false, false, false, false, false, false, false, true, true, false, false, false, false, false, false, false, false, false, false, false, false, false, false, false, false, false, false, false, false, false, false, false, false, false, false, false, false, false, false, false, false, false, false, false, false, false, false, false, false, false, false, false, false, false, false, false, false, false, false, false, false, false, false, false, false, false, false, false, false, false, false, false, false, false, false, false, false, false, false, false, false, false, false, false, false, false] e := rfl
theorem fg_5_2 (e : Env) : mask (fg 5 2) e = mask [] e := rfl
theorem fg_5_3 (e : Env) : mask (fg 5 3) e = mask [false, false, true, true, true, true, false, false, true, true, false, false, false, false, false, false, false, false, false, false, false, false, false, false, false, false, false, false, false, false, false, false, false, false, false, false, false, false, false, false, false, false, false, false, false, false, false, false, false, false, false, false, false, false, false, false, false, false, true, true, false, false, false, false, false, false, false, true, true, true, false, false, false, false, false, false, false, false, false, false, false, false, false, false, false, false, false, false, false, false, false, false, false, false, false, false, false, false, false, false, false, false, false, false, false, false, false, false, false, false, false, false, false, false, false, false, false, false, false, false, false, false, false, false, false, false, false, false, false, false, false, false, false, false, false, false, false] e := rfl
theorem fg_5_4 (e : Env) : mask (fg 5 4) e = mask [] e := rfl
theorem fg_6_0 (e : Env) : mask (fg 6 0) e = mask [true, true, true, false, false, false, true, true, true, true, true, true, true, true, true, false, false, false, false, false, false, false, true, false, false, false, false, false, false, false, false, false, false, true, false, true, false, false, false, true, false, false, false, false, false, false, false, false, false, false, false, false, false, false, false, false, false, false, false, true, false, false, false, false, false, false, false, false, false, false, false, false, false, false, false, false, true, false, false, false, false, false, false, true, false, false, false, false, false, false, false, false, false, false, false, false, false, false, false, false, false, false] e := rfl
theorem fg_6_1 (e : Env) : mask (fg 6 1) e = mask [true, true, true, false, false, false, false, true, true, true, false, false, false, false, false, false, false, false, false, false, false, false, false, false, false, false, false, false, false, false, false, false, false, false, false, false, false, false, false, false, false, false, false, false, false, false, false, false, false, false, false, false, false, false, false, false, false, false, false, false, false, false, false, false, false, false, false, false, false, false, false, false, false, false, false, false, false, false, false, false, false, false, false, false, false, false, false, false, false, false, false, false, false, false, false, false, false, false, false, false, false, false] e := rfl
theorem fg_6_2 (e : Env) : mask (fg 6 2) e = mask [] e := rfl
theorem fg_6_3 (e : Env) : mask (fg 6 3) e = mask [true, true, false, false, false, false, false, false, false, false, false, true, true, true, true, false, false, false, false, false, false, false, false, false, false, false, false, false, false, false, false, false, false, false, false, false, false, false, false, false, false, false, false, false, false, false, false, false, false, false, false, false, false, false, false, false, false, false, false, false, false, false, false, false, false, false, false, false, false, false, false, false, false, false, false, false, false, false, false, false, false, false, false, false, false, false, false, false, false, false, false, false, false, false, false, false, false, false, false, false, false, false] e := rfl
theorem fg_6_4 (e : Env) : mask (fg 6 4) e = mask [] e := rfl
theorem fg_7_0 (e : Env) : mask (fg 7 0) e = mask [true, false, true, true, false, false, false, false, false, false, false, false, true, false, true, true, true, false, false, false, false, false, false, false, true, false] e := rfl
theorem fg_7_1 (e : Env) : mask (fg 7 1) e = mask [true, false, true, false, false, false, false, false, false, false, false, false, false, false, true, true, false, false, false, false, false, false, false, false, false, false] e := rfl
theorem fg_7_2 (e : Env) : mask (fg 7 2) e = mask [] e := rfl
theorem fg_8_0 (e : Env) : mask (fg 8 0) e = mask [] e := rfl
theorem fg_9_0 (e : Env) : mask (fg 9 0) e = mask [true, false, true, true, true, true, true, false, false, false, true, false, false, false, false, false, false, false, true, false, false, false, false, false, false, false, false, false, false, false, false, false, false, false, false, false] e := rfl
theorem fg_9_1 (e : Env) : mask (fg 9 1) e = mask [false, false, false, false, true, true, false, false, false, false, false, false, false, false, false, false, false, false, false, false, false, false, false, false, false, false, false, false, false, false, false, false, false, false, false, false] e := rfl
theorem fg_9_2 (e : Env) : mask (fg 9 2) e = mask [] e := rfl
theorem fg_10_0 (e : Env) : mask (fg 10 0) e = mask [true, false, true, true, true, true, true, true, true, true, false, false, false, false, true, false, false, false, false, false, false, false, false, false, false, false, false, false, false, true, false, false, false, false, false, true, false, false, false, false, false, false, false, false, false, false, false, false, false, false, false, false, false, false, false, false, false, false, false, false, true, true, false, false, true, false, false, true, false, false, false, false, false, false, false, false] e := rfl
theorem fg_10_1 (e : Env) : mask (fg 10 1) e = mask [true, false, true, true, true, false, false, false, false, false, false, false, false, false, false, false, false, false, false, false, false, false, false, false, false, false, false, false, false, false, false, false, false, false, false, false, false, false, false, false, false, false, false, false, false, false, false, false, false, false, false, false, false, false, false, false, false, false, false, false, false, false, false, false, false, false, false, false, false, false, false, false, false, false, false, false] e := rfl
theorem fg_10_2 (e : Env) : mask (fg 10 2) e = mask [] e := rfl
theorem fg_10_3 (e : Env) : mask (fg 10 3) e = mask [true, false, false, false, true, true, true, true, false, false, false, false, false, false, false, false, false, false, false, false, false, false, false, false, false, false, false, false, false, false, false, false, false, false, false, false, false, false, false, false, false, false, false, false, false, false, false, false, false, false, false, false, false, false, false, false, false, false, false, false, false, false, false, false, false, false, false, false, false, false, false, false, false, false, false, false] e := rfl
theorem fg_10_4 (e : Env) : mask (fg 10 4) e = mask [] e := rfl
theorem fg_10_5 (e : Env) : mask (fg 10 5) e = mask [true, false, false, false, true, true, true, true, true, true, false, false, false, false, false, false, false, false, false, false, false, false, false, false, false, false, false, false, false, false, false, false, false, false, false, false, false, false, false, false, false, false, false, false, false, false, false, false, false, false, false, false, false, false, false, false, false, false, false, false, false, false, false, false, false, false, false, false, false, false, false, false, false, false, false, false] e := rfl
theorem fg_10_6 (e : Env) : mask (fg 10 6) e = mask [] e := rfl
theorem fg_11_0 (e : Env) : mask (fg 11 0) e = mask [true, true, false, false, true, true, false, false, false, false, true, false, false, false, true, false, false, false, false, false, false, false, false, false, false] e := rfl
theorem fg_11_1 (e : Env) : mask (fg 11 1) e = mask [true, true, false, false, true, true, false, false, false, false, false, false, false, false, false, false, false, false, false, false, false, false, false, false, false, false] e := rfl
theorem fg_11_2 (e : Env) : mask (fg 11 2) e = mask [] e := rfl
theorem fg_12_0 (e : Env) : mask (fg 12 0) e = mask [] e := rfl
theorem fg_13_0 (e : Env) : mask (fg 13 0) e = mask [] e := rfl
theorem fg_14_0 (e : Env) : mask (fg 14 0) e = mask [false, true, true, true, false, false, false, false, false, false, false, false, true, false, false, true, true, true, false, false, false, false, false, false, false, true, false] e := rfl
theorem fg_14_1 (e : Env) : mask (fg 14 1) e = mask [false, true, true, false, false, false, false, false, false, false, false, false, false, false, false, true, true, false, false, false, false, false, false, false, false, false, false] e := rfl
theorem fg_14_2 (e : Env) : mask (fg 14 2) e = mask [] e := rfl
theorem fg_15_0 (e : Env) : mask (fg 15 0) e = mask [] e := rfl
theorem fg_15_1 (e : Env) : mask (fg 15 1) e = mask [] e := rfl
theorem fg_16_0 (e : Env) : mask (fg 16 0) e = mask [false, false, true, true, true, true, false, false, false, false, false, false, false, false, false, false, false, false, false, false, false, false, false, false, false, false, false, false, false, false, false, false, false, false, false, false, false, false, false, false, true, false, false, false, false, true, false, false, false, false, false, false, false, false, false, false, false, false, false] e := rfl
theorem fg_16_1 (e : Env) : mask (fg 16 1) e = mask [false, false, true, true, true, true, false, false, false, false, false, false, false, false, false, false, false, false, false, false, false, false, false, false, false, false, false, false, false, false, false, false, false, false, false, false, false, false, false, false, false, false, false, false, false, false, false, false, false, false, false, false, false, false, false, false, false, false, false, false] e := rfl
theorem fg_16_2 (e : Env) : mask (fg 16 2) e = mask [] e := rfl
theorem fg_17_0 (e : Env) : mask (fg 17 0) e = mask [false, true, true, true, true, false, false, false, false, true, false, false, false, false, false, false, false, false, false, false, false] e := rfl
theorem fg_17_1 (e : Env) : mask (fg 17 1) e = mask [false, true, false, true, true, false, false, false, false, false, false, false, false, false, false, false, false, false, false, false, false] e := rfl
theorem fg_17_2 (e : Env) : mask (fg 17 2) e = mask [] e := rfl
theorem fg_18_0 (e : Env) : mask (fg 18 0) e = mask [true, false, false, true, true, true, false, false, false, false, false, false, false, false, false, true, false, false, false, false, false, false, false, false, false, false, false, true, false, false, false, false, false, false, false, false, false, false] e := rfl
theorem fg_18_1 (e : Env) : mask (fg 18 1) e = mask [true, false, false, true, false, true, false, false, false, false, false, false, false, false, false, false, false, false, false, false, false, false, false, false, false, false, false, false, false, false, false, false, false, false, false, false, false, false] e := rfl
theorem fg_18_2 (e : Env) : mask (fg 18 2) e = mask [] e := rfl
theorem fg_19_0 (e : Env) : mask (fg 19 0) e = mask [] e := rfl
theorem fg_20_0 (e : Env) : mask (fg 20 0) e = mask [false, true, true, true, false, false, true, true, true, true, false, false, false, false, false, false, false, false, true, false, false, false, false, false, false, false, false, true, false, false, false, true, false, false, false, false, false, false, false, false, false, false, false, false, false, false, false, false, false, true, false, false, false, false, false, false, false, false, false, false, false, false, false, false, false, false] e := rfl
theorem fg_20_1 (e : Env) : mask (fg 20 1) e = mask [false, true, true, true, false, false, true, true, false, false, false, false, false, false, false, false, false, false, false, false, false, false, false, false, false, false, false, false, false, false, false, false, false, false, false, false, false, false, false, false, false, false, false, false, false, false, false, false, false, false, false, false, false, false, false, false, false, false, false, false, false, false, false, false, false, false] e := rfl
theorem fg_20_2 (e : Env) : mask (fg 20 2) e = mask [] e := rfl
theorem fg_20_3 (e : Env) : mask (fg 20 3) e = mask [false, true, true, true, false, false, true, false, true, true, false, false, false, false, false, false, false, false, false, false, false, false, false, false, false, false, false, false, false, false, false, false, false, false, false, false, false, false, false, false, false, false, false, false, false, false, false, false, false, false, false, false, false, false, false, false, false, false, false, false, false, false, false, false, false, false] e := rfl
theorem fg_20_4 (e : Env) : mask (fg 20 4) e = mask [] e := rfl
theorem fg_21_0 (e : Env) : mask (fg 21 0) e = mask [false, true, true, false, true, true, false, true, true, true, false, false, false, false, false, false, false, true, false, false, false, false] e := rfl
theorem fg_21_1 (e : Env) : mask (fg 21 1) e = mask [false, true, true, false, true, false, false, true, true, false, false, false, false, false, false, false, false, false, false, false, false, false] e := rfl
theorem fg_21_2 (e : Env) : mask (fg 21 2) e = mask [] e := rfl
theorem fg_22_0 (e : Env) : mask (fg 22 0) e = mask [] e := rfl
theorem fg_23_0 (e : Env) : mask (fg 23 0) e = mask [] e := rfl
theorem fg_24_0 (e : Env) : mask (fg 24 0) e = mask [] e := rfl
theorem fg_25_0 (e : Env) : mask (fg 25 0) e = mask [false, true, true, true, true, true, true, true, true, true, true, true, true, false, false, false, false, false, false, false, false, false, false, false, false, false, false, false, false, false, false, false, false, false, false, false, false, false, false, false, true, false, false, true, true, true, false, false, false, false, false, false, false, false, false, false, false, false, false, false, false, false, false, false, false, false, false, false, false, false, true, true, true, false, false, false, false, false, false, false, false, false, false, false, false, false, false, false, false, false, false, false, false, false, false, false, false, false, false, false, false, false, false, false, false, false, false, false, false, false, false, false, false, false, false, false, true, false, false, false, false, false, false, false, false, false, false, false, false, false, false, false, false, false, false, false, false, false, false, false, false, false, false, false, false, false, false, false, false, false, false, false, false, false, false, true, false, false, false, false, false, false, false, false, false, false, false, false, false, false, false, false, false, false, true, true, true, false, false, false, false, false, false, false, false, false, false, false, false, false, false, false, false, false, false, false, false, false, false, false, false, false, false, false, false, false, false, false, false, false, false, false, false, false, false, false, false, false, false, true, false, false, false, false, false, false, false, false, false, false, false, false, false, false, false, false, false, false, true, true, true, false, false, false, false, false, false, false, false, false, false, false, false, false, false, false, false, false, false, false, false, false, false, false, false, false, false, false, false, false, false, true, true, true, false, false, false, false, false, false, false, false, false, false, false, false, false, false, false, false, false, false, false, false, false, false, false, false, false, false, false, false] e := rfl
theorem fg_25_1 (e : Env) : mask (fg 25 1) e = mask [false, true, false, true, true, false, false, false, false, false, false, false, false, false, false, false, false, false, false, false, false, false, false, false, false, false, false, false, false, false, false, false, false, false, false, false, false, false, false, false, false, false, false, true, true, false, false, false, false, false, false, false, false, false, false, false, false, false, false, false, false, false, false, false, false, false, false, false, false, false, false, false, false, false, false, false, false, false, false, false, false, false, false, false, false, false, false, false, false, false, false, false, false, false, false, false, false, false, false, false, false, false, false, false, false, false, false, false, false, false, false, false, false, false, false, false, false, false, false, false, false, false, false, false, false, false, false, false, false, false, false, false, false, false, false, false, false, false, false, false, false, false, false, false, false, false, false, false, false, false, false, false, false, false, false, false, false, false, false, false, false, false, false, false, false, false, false, false, false, false, false, false, false, false, false, false, false, false, false, false, false, false, false, false, false, false, false, false, false, false, false, false, false, false, false, false, false, false, false, false, false, false, false, false, false, false, false, false, false, false, false, false, false, false, false, false, false, false, false, false, false, false, false, false, false, false, false, false, false, false, false, false, false, false, false, false, false, false, false, false, false, false, false, false, false, false, false, false, false, false, false, false, false, false, false, false, false, false, false, false, false, false, false, false, false, false, false, false, false, false, false, false, false, false, false, false, false, false, false, false, false, false, false, false, false, false, false, false, false, false, false, false, false, false, false, false, false, false, false, false, false, false] e := rfl
theorem fg_25_2 (e : Env) : mask (fg 25 2) e = mask [] e := rfl
theorem fg_25_3 (e : Env) : mask (fg 25 3) e = mask [false, true, false, true, true, false, false, false, false, false, false, false, false, false, false, false, false, false, false, false, false, false, false, false, false, false, false, false, false, false, false, false, false, false, false, false, false, false, false, false, false, false, false, false, false, false, false, false, false, false, false, false, false, false, false, false, false, false, false, false, false, false, false, false, false, false, false, false, false, false, true, true, false, false, false, false, false, false, false, false, false, false, false, false, false, false, false, false, false, false, false, false, false, false, false, false, false, false, false, false, false, false, false, false, false, false, false, false, false, false, false, false, false, false, false, false, false, false, false, false, false, false, false, false, false, false, false, false, false, false, false, false, false, false, false, false, false, false, false, false, false, false, false, false, false, false, false, false, false, false, false, false, false, false, false, false, false, false, false, false, false, false, false, false, false, false, false, false, false, false, false, false, false, false, false, false, false, false, false, false, false, false, false, false, false, false, false, false, false, false, false, false, false, false, false, false, false, false, false, false, false, false, false, false, false, false, false, false, false, false, false, false, false, false, false, false, false, false, false, false, false, false, false, false, false, false, false, false, false, false, false, false, false, false, false, false, false, false, false, false, false, false, false, false, false, false, false, false, false, false, false, false, false, false, false, false, false, false, false, false, false, false, false, false, false, false, false, false, false, false, false, false, false, false, false, false, false, false, false, false, false, false, false, false, false, false, false, false, false, false, false, false, false, false, false, false, false, false, false, false, false, false] e := rfl
theorem fg_25_4 (e : Env) : mask (fg 25 4) e = mask [] e := rfl
theorem fg_25_5 (e : Env) : mask (fg 25 5) e = mask [false, true, false, true, true, false, true, true, false, false, false, false, false, false, false, false, false, false, false, false, false, false, false, false, false, false, false, false, false, false, false, false, false, false, false, false, false, false, false, false, false, false, false, false, false, false, false, false, false, false, false, false, false, false, false, false, false, false, false, false, false, false, false, false, false, false, false, false, false, false, true, true, false, false, false, false, false, false, false, false, false, false, false, false, false, false, false, false, false, false, false, false, false, false, false, false, false, false, false, false, false, false, false, false, false, false, false, false, false, false, false, false, false, false, false, false, false, false, false, false, false, false, false, false, false, false, false, false, false, false, false, false, false, false, false, false, false, false, false, false, false, false, false, false, false, false, false, false, false, false, false, false, false, false, false, false, false, false, false, false, false, false, false, false, false, false, false, false, false, false, false, false, false, false, false, false, false, false, false, false, false, false, false, false, false, false, false, false, false, false, false, false, false, false, false, false, false, false, false, false, false, false, false, false, false, false, false, false, false, false, false, false, false, false, false, false, false, false, false, false, false, false, false, false, false, false, false, false, false, false, false, false, false, false, false, false, false, false, false, false, false, false, false, false, false, false, false, false, false, false, false, false, false, false, false, false, false, false, false, false, false, false, false, false, false, false, false, false, false, false, false, false, false, false, false, false, false, false, false, false, false, false, false, false, false, false, false, false, false, false, false, false, false, false, false, false, false, false, false, false, false, false] e := rfl
theorem fg_25_6 (e : Env) : mask (fg 25 6) e = mask [] e := rfl
theorem fg_25_7 (e : Env) : mask (fg 25 7) e = mask [false, true, false, true, true, false, true, false, true, false, false, false, false, false, false, false, false, false, false, false, false, false, false, false, false, false, false, false, false, false, false, false, false, false, false, false, false, false, false, false, false, false, false, false, false, false, false, false, false, false, false, false, false, false, false, false, false, false, false, false, false, false, false, false, false, false, false, false, false, false, true, true, false, false, false, false, false, false, false, false, false, false, false, false, false, false, false, false, false, false, false, false, false, false, false, false, false, false, false, false, false, false, false, false, false, false, false, false, false, false, false, false, false, false, false, false, false, false, false, false, false, false, false, false, false, false, false, false, false, false, false, false, false, false, false, false, false, false, false, false, false, false, false, false, false, false, false, false, false, false, false, false, false, false, false, false, false, false, false, false, false, false, false, false, false, false, false, false, false, false, false, false, false, false, false, false, false, false, false, false, false, false, false, false, false, false, false, false, false, false, false, false, false, false, false, false, false, false, false, false, false, false, false, false, false, false, false, false, false, false, false, false, false, false, false, false, false, false, false, false, false, false, false, false, false, false, false, false, false, false, false, false, false, false, false, false, false, false, false, false, false, false, false, false, false, false, false, false, false, false, false, false, false, false, false, false, false, false, false, false, false, false, false, false, false, false, false, false, false, false, false, false, false, false, false, false, false, false, false, false, false, false, false, false, false, false, false, false, false, false, false, false, false, false, false, false, false, false, false, false, false, false] e := rfl
theorem fg_25_8 (e : Env) : mask (fg 25 8) e = mask [] e := rfl
theorem fg_25_9 (e : Env) : mask (fg 25 9) e = mask [false, true, false, true, true, false, false, false, false, false, false, false, false, false, false, false, false, false, false, false, false, false, false, false, false, false, false, false, false, false, false, false, false, false, false, false, false, false, false, false, false, false, false, false, false, false, false, false, false, false, false, false, false, false, false, false, false, false, false, false, false, false, false, false, false, false, false, false, false, false, false, false, false, false, false, false, false, false, false, false, false, false, false, false, false, false, false, false, false, false, false, false, false, false, false, false, false, false, false, false, false, false, false, false, false, false, false, false, false, false, false, false, false, false, false, false, false, false, false, false, false, false, false, false, false, false, false, false, false, false, false, false, false, false, false, false, false, false, false, false, false, false, false, false, false, false, false, false, false, false, false, false, false, false, false, false, false, false, false, false, false, false, false, false, false, false, false, false, false, false, false, false, false, false, true, true, false, false, false, false, false, false, false, false, false, false, false, false, false, false, false, false, false, false, false, false, false, false, false, false, false, false, false, false, false, false, false, false, false, false, false, false, false, false, false, false, false, false, false, false, false, false, false, false, false, false, false, false, false, false, false, false, false, false, false, false, false, false, false, false, false, false, false, false, false, false, false, false, false, false, false, false, false, false, false, false, false, false, false, false, false, false, false, false, false, false, false, false, false, false, false, false, false, false, false, false, false, false, false, false, false, false, false, false, false, false, false, false, false, false, false, false, false, false, false, false, false, false, false, false, false, false] e := rfl
theorem fg_25_10 (e : Env) : mask (fg 25 10) e = mask [] e := rfl
theorem fg_25_11 (e : Env) : mask (fg 25 11) e = mask [false, true, false, true, true, false, false, false, false, true, true, false, false, false, false, false, false, false, false, false, false, false, false, false, false, false, false, false, false, false, false, false, false, false, false, false, false, false, false, false, false, false, false, false, false, false, false, false, false, false, false, false, false, false, false, false, false, false, false, false, false, false, false, false, false, false, false, false, false, false, false, false, false, false, false, false, false, false, false, false, false, false, false, false, false, false, false, false, false, false, false, false, false, false, false, false, false, false, false, false, false, false, false, false, false, false, false, false, false, false, false, false, false, false, false, false, false, false, false, false, false, false, false, false, false, false, false, false, false, false, false, false, false, false, false, false, false, false, false, false, false, false, false, false, false, false, false, false, false, false, false, false, false, false, false, false, false, false, false, false, false, false, false, false, false, false, false, false, false, false, false, false, false, false, true, true, false, false, false, false, false, false, false, false, false, false, false, false, false, false, false, false, false, false, false, false, false, false, false, false, false, false, false, false, false, false, false, false, false, false, false, false, false, false, false, false, false, false, false, false, false, false, false, false, false, false, false, false, false, false, false, false, false, false, false, false, false, false, false, false, false, false, false, false, false, false, false, false, false, false, false, false, false, false, false, false, false, false, false, false, false, false, false, false, false, false, false, false, false, false, false, false, false, false, false, false, false, false, false, false, false, false, false, false, false, false, false, false, false, false, false, false, false, false, false, false, false, false, false, false, false, false] e := rfl
theorem fg_25_12 (e : Env) : mask (fg 25 12) e = mask [] e := rfl
theorem fg_25_13 (e : Env) : mask (fg 25 13) e = mask [false, true, false, true, true, false, false, false, false, false, false, false, false, false, false, false, false, false, false, false, false, false, false, false, false, false, false, false, false, false, false, false, false, false, false, false, false, false, false, false, false, false, false, false, false, false, false, false, false, false, false, false, false, false, false, false, false, false, false, false, false, false, false, false, false, false, false, false, false, false, false, false, false, false, false, false, false, false, false, false, false, false, false, false, false, false, false, false, false, false, false, false, false, false, false, false, false, false, false, false, false, false, false, false, false, false, false, false, false, false, false, false, false, false, false, false, false, false, false, false, false, false, false, false, false, false, false, false, false, false, false, false, false, false, false, false, false, false, false, false, false, false, false, false, false, false, false, false, false, false, false, false, false, false, false, false, false, false, false, false, false, false, false, false, false, false, false, false, false, false, false, false, false, false, false, false, false, false, false, false, false, false, false, false, false, false, false, false, false, false, false, false, false, false, false, false, false, false, false, false, false, false, false, false, false, false, false, false, false, false, false, false, false, false, false, false, false, false, false, false, false, false, false, false, false, false, false, false, false, false, false, false, false, false, false, false, false, false, true, true, false, false, false, false, false, false, false, false, false, false, false, false, false, false, false, false, false, false, false, false, false, false, false, false, false, false, false, false, false, false, false, false, false, false, false, false, false, false, false, false, false, false, false, false, false, false, false, false, false, false, false, false, false, false, false, false, false, false, false, false, false, false] e := rfl
theorem fg_25_14 (e : Env) : mask (fg 25 14) e = mask [] e := rfl
theorem fg_25_15 (e : Env) : mask (fg 25 15) e = mask [false, true, false, true, true, false, false, false, false, false, false, false, false, false, false, false, false, false, false, false, false, false, false, false, false, false, false, false, false, false, false, false, false, false, false, false, false, false, false, false, false, false, false, false, false, false, false, false, false, false, false, false, false, false, false, false, false, false, false, false, false, false, false, false, false, false, false, false, false, false, false, false, false, false, false, false, false, false, false, false, false, false, false, false, false, false, false, false, false, false, false, false, false, false, false, false, false, false, false, false, false, false, false, false, false, false, false, false, false, false, false, false, false, false, false, false, false, false, false, false, false, false, false, false, false, false, false, false, false, false, false, false, false, false, false, false, false, false, false, false, false, false, false, false, false, false, false, false, false, false, false, false, false, false, false, false, false, false, false, false, false, false, false, false, false, false, false, false, false, false, false, false, false, false, false, false, false, false, false, false, false, false, false, false, false, false, false, false, false, false, false, false, false, false, false, false, false, false, false, false, false, false, false, false, false, false, false, false, false, false, false, false, false, false, false, false, false, false, false, false, false, false, false, false, false, false, false, false, false, false, false, false, false, false, false, false, false, false, false, false, false, false, false, false, false, false, false, false, false, false, false, false, false, false, false, false, false, false, false, false, false, false, false, false, false, false, false, false, false, false, false, true, true, false, false, false, false, false, false, false, false, false, false, false, false, false, false, false, false, false, false, false, false, false, false, false, false, false, false, false, false, false] e := rfl
theorem fg_25_16 (e : Env) : mask (fg 25 16) e = mask [] e := rfl
theorem fg_26_0 (e : Env) : mask (fg 26 0) e = mask [true, false, true, true, false, true, false, true, false, false, false, false, true, true, true, true, false, false, false, false, false, false, false, false, false, false, false, false, false, true, false, false, false, false, false, false, false, false, false, false, false, false, false, false, false, false, false, false, false, false] e := rfl
theorem fg_26_1 (e : Env) : mask (fg 26 1) e = mask [false, false, false, true, false, false, false, false, false, false, false, false, true, true, true, false, false, false, false, false, false, false, false, false, false, false, false, false, false, false, false, false, false, false, false, false, false, false, false, false, false, false, false, false, false, false, false, false, false, false] e := rfl
theorem fg_26_2 (e : Env) : mask (fg 26 2) e = mask [] e := rfl
theorem fg_27_0 (e : Env) : mask (fg 27 0) e = mask [] e := rfl
theorem fg_28_0 (e : Env) : mask (fg 28 0) e = mask [true, true, false, false, true, true, false, true, true, true, false, false, false, false, false, false, true, false, false] e := rfl
theorem fg_28_1 (e : Env) : mask (fg 28 1) e = mask [true, true, false, false, true, false, false, true, true, false, false, false, false, false, false, false, false, false, false] e := rfl
theorem fg_28_2 (e : Env) : mask (fg 28 2) e = mask [] e := rfl
theorem fg_29_0 (e : Env) : mask (fg 29 0) e = mask [] e := rfl
theorem fg_30_0 (e : Env) : mask (fg 30 0) e = mask [] e := rfl
theorem fg_31_0 (e : Env) : mask (fg 31 0) e = mask [] e := rfl
theorem fg_32_0 (e : Env) : mask (fg 32 0) e = mask [true, false, false, true, true, true, true, true, false, true, false, false, false, false, false, false, true, false, false, false, false, false, false, true, true, true, true, false, false, false, false, false, false, false, false, false] e := rfl
theorem fg_32_1 (e : Env) : mask (fg 32 1) e = mask [true, false, false, false, false, true, false, false, false, false, false, false, false, false, false, false, false, false, false, false, false, false, false, true, true, true, false, false, false, false, false, false, false, false, false, false] e := rfl
theorem fg_32_2 (e : Env) : mask (fg 32 2) e = mask [] e := rfl
theorem fg_33_0 (e : Env) : mask (fg 33 0) e = mask [] e := rfl
theorem fg_34_0 (e : Env) : mask (fg 34 0) e = mask [true, true, false, false, true, true, false, false, true, false, false, false, false, false, false, false, false, false, false, false, false] e := rfl
theorem fg_34_1 (e : Env) : mask (fg 34 1) e = mask [true, true, false, false, true, true, false, false, false, false, false, false, false, false, false, false, false, false, false, false, false, false] e := rfl
theorem fg_34_2 (e : Env) : mask (fg 34 2) e = mask [] e := rfl
theorem fg_35_0 (e : Env) : mask (fg 35 0) e = mask [true, false, true, false, true, false, true, true, false, false, false, false, true, false, false, false, false, true, false, false, false, false, false, false, false, false, false] e := rfl
theorem fg_35_1 (e : Env) : mask (fg 35 1) e = mask [true, false, true, false, true, false, true, true, false, false, false, false, false, false, false, false, false, false, false, false, false, false, false, false, false, false, false, false] e := rfl
theorem fg_35_2 (e : Env) : mask (fg 35 2) e = mask [] e := rfl
theorem fg_36_0 (e : Env) : mask (fg 36 0) e = mask [false, true, true, false, true, true, true, false, false, false, false, false, false, false, true, false, false, false, false, false, false, false, false, false, false, false, false, false, true, true, true, false, false, true, false, false, false, false, false, false, false, false, false, false, false, false, false] e := rfl
theorem fg_36_1 (e : Env) : mask (fg 36 1) e = mask [false, true, true, false, false, true, false, false, false, false, false, false, false, false, false, false, false, false, false, false, false, false, false, false, false, false, false, false, true, true, false, false, false, false, false, false, false, false, false, false, false, false, false, false, false, false, false] e := rfl
theorem fg_36_2 (e : Env) : mask (fg 36 2) e = mask [] e := rfl
theorem fg_37_0 (e : Env) : mask (fg 37 0) e = mask [true, false, false, true, true, true, true, false, true, false, false, false, false, false, false, false, true, false, true, false, false, false, false, false, false, false] e := rfl
theorem fg_37_1 (e : Env) : mask (fg 37 1) e = mask [false, false, false, false, false, false, true, false, false, false, false, false, false, false, false, false, true, false, false, false, false, false, false, false, false, false] e := rfl
theorem fg_37_2 (e : Env) : mask (fg 37 2) e = mask [] e := rfl
theorem fg_38_0 (e : Env) : mask (fg 38 0) e = mask [true, false, false, true, true, true, true, true, true, true, false, false, false, false, false, false, true, false, false, false, false, false, false, false, false, false, false, false, false, true, true, true, true, false, false, false, false, false, false, false, false, false, false, false, false, false] e := rfl
theorem fg_38_1 (e : Env) : mask (fg 38 1) e = mask [true, false, false, true, true, false, false, true, false, false, false, false, false, false, false, false, false, false, false, false, false, false, false, false, false, false, false, false, false, true, true, true, false, false, false, false, false, false, false, false, false, false, false, false, false, false] e := rfl
theorem fg_38_2 (e : Env) : mask (fg 38 2) e = mask [] e := rfl
theorem fg_39_0 (e : Env) : mask (fg 39 0) e = mask [true, true, false, false, true, true, false, false, false, true, false, false, false, false, false, false, false] e := rfl
theorem fg_39_1 (e : Env) : mask (fg 39 1) e = mask [true, true, false, false, true, true, false, false, false, false, false, false, false, false, false, false, false, false] e := rfl
theorem fg_39_2 (e : Env) : mask (fg 39 2) e = mask [] e := rfl
theorem fg_40_0 (e : Env) : mask (fg 40 0) e = mask [false, true, true, false, true, true, true, false, true, true, true, false, false, false, false, false, false, false, false, false, false, false, false, false, false, false, false, false, false, false, false, false, false, false, false, false, false, false, false, false, false, true, false, false, false, true, true, true, false, false, false, false, false, false, false, true, false] e := rfl
theorem fg_40_1 (e : Env) : mask (fg 40 1) e = mask [false, true, true, false, true, false, false, false, true, true, false, false, false, false, false, false, false, false, false, false, false, false, false, false, false, false, false, false, false, false, false, false, false, false, false, false, false, false, false, false, false, false, false, false, false, false, false, false, false, false, false, false, false, false, false, false, false] e := rfl
theorem fg_40_2 (e : Env) : mask (fg 40 2) e = mask [] e := rfl
theorem fg_40_3 (e : Env) : mask (fg 40 3) e = mask [false, true, true, false, true, false, false, false, false, false, false, false, false, false, false, false, false, false, false, false, false, false, false, false, false, false, false, false, false, false, false, false, false, false, false, false, false, false, false, false, false, false, false, false, false, true, true, false, false, false, false, false, false, false, false, false, false] e := rfl
theorem fg_40_4 (e : Env) : mask (fg 40 4) e = mask [] e := rfl
theorem fg_41_0 (e : Env) : mask (fg 41 0) e = mask [true, false, true, true, true, false, false, false, false, false, false, false, true, false, false, false, false, false, false, false, false, false, false, false] e := rfl
theorem fg_41_1 (e : Env) : mask (fg 41 1) e = mask [true, false, false, true, true, false, false, false, false, false, false, false, false, false, false, false, false, false, false, false, false, false, false, false] e := rfl
theorem fg_41_2 (e : Env) : mask (fg 41 2) e = mask [] e := rfl
theorem fg_42_0 (e : Env) : mask (fg 42 0) e = mask [] e := rfl
theorem fg_42_1 (e : Env) : mask (fg 42 1) e = mask [] e := rfl
theorem fg_43_0 (e : Env) : mask (fg 43 0) e = mask [true, true, false, false, true, true, false, true, true, true, false, false, false, false, false, false, true, false, false] e := rfl
theorem fg_43_1 (e : Env) : mask (fg 43 1) e = mask [true, true, false, false, true, false, false, true, true, false, false, false, false, false, false, false, false, false, false] e := rfl
theorem fg_43_2 (e : Env) : mask (fg 43 2) e = mask [] e := rfl
theorem fg_44_0 (e : Env) : mask (fg 44 0) e = mask [] e := rfl
theorem fg_45_0 (e : Env) : mask (fg 45 0) e = mask [true, false, false, true, true, true, false, false, false, true, false, false, false, false, false, false, false, false, false, false, false, false, false, false, false, false, false, false, false, true, false] e := rfl
theorem fg_45_1 (e : Env) : mask (fg 45 1) e = mask [true, false, false, true, true, true, false, false, false, false, false, false, false, false, false, false, false, false, false, false, false, false, false, false, false, false, false, false, false, false, false] e := rfl
theorem fg_45_2 (e : Env) : mask (fg 45 2) e = mask [] e := rfl
theorem fg_46_0 (e : Env) : mask (fg 46 0) e = mask [true, false, false, true, true, true, true, true, false, true, true, true, true, true, false, false, false, false, true, false, false, false, false, false, false, false, false, false, false, false, false, true, false, true, true, true, true, false, false, false, false, false, false, false, false, false, false, false, false, false, false, false, false, true, false, true, false, false, false, false, false, false, false, false, false, false, false, false, false, false, true, false, false, false, false, false, false, false, false, false, false, false, false, false, false, false, false] e := rfl
theorem fg_46_1 (e : Env) : mask (fg 46 1) e = mask [true, false, false, false, true, true, false, false, false, false, false, false, false, false, false, false, false, false, false, false, false, false, false, false, false, false, false, false, false, false, false, false, false, true, true, true, false, false, false, false, false, false, false, false, false, false, false, false, false, false, false, false, false, false, false, false, false, false, false, false, false, false, false, false, false, false, false, false, false, false, false, false, false, false, false, false, false, false, false, false, false, false, false, false, false, false, false] e := rfl
theorem fg_46_2 (e : Env) : mask (fg 46 2) e = mask [] e := rfl
theorem fg_46_3 (e : Env) : mask (fg 46 3) e = mask [true, false, false, true, true, true, true, false, false, false, false, false, false, false, false, false, false, false, false, false, false, false, false, false, false, false, false, false, false, false, false, false, false, false, false, false, false, false, false, false, false, false, false, false, false, false, false, false, false, false, false, false, false, true, false, false, false, false, false, false, false, false, false, false, false, false, false, false, false, false, false, false, false, false, false, false, false, false, false, false, false, false, false, false, false, false, false] e := rfl
theorem fg_46_4 (e : Env) : mask (fg 46 4) e = mask [] e := rfl
theorem fg_47_0 (e : Env) : mask (fg 47 0) e = mask [] e := rfl
theorem fg_48_0 (e : Env) : mask (fg 48 0) e = mask [false, true, true, true, false, false, true, true, true, true, true, false, false, true, false, false, false, false, false, false, false, false, false, false, false, true, false, false, false, false, false, false, false, true, false, false, false, false, false, false, true, true, true, true, false, false, false, false, false, false, false, false, false, false, false, false, false, false] e := rfl
theorem fg_48_1 (e : Env) : mask (fg 48 1) e = mask [false, true, true, true, false, false, true, false, true, false, false, false, false, false, false, false, false, false, false, false, false, false, false, false, false, false, false, false, false, false, false, false, false, false, false, false, false, false, false, false, true, true, true, false, false, false, false, false, false, false, false, false, false, false, false, false, false, false] e := rfl
theorem fg_48_2 (e : Env) : mask (fg 48 2) e = mask [] e := rfl
theorem fg_49_0 (e : Env) : mask (fg 49 0) e = mask [] e := rfl
theorem fg_50_0 (e : Env) : mask (fg 50 0) e = mask [true, false, true, false, true, false, true, true, false, false, false, false, false, false, false, false, false, false, false, false, false, false, true, false, true, false, false, false, false, false, false, false, false, false, false, false, false, false, false, false, false, false, false] e := rfl
theorem fg_50_1 (e : Env) : mask (fg 50 1) e = mask [true, false, true, false, false, false, false, false, false, false, false, false, false, false, false, false, false, false, false, false, false, false, true, false, false, false, false, false, false, false, false, false, false, false, false, false, false, false, false, false, false, false, false] e := rfl
theorem fg_50_2 (e : Env) : mask (fg 50 2) e = mask [] e := rfl
theorem fg_51_0 (e : Env) : mask (fg 51 0) e = mask [] e := rfl
theorem fg_52_0 (e : Env) : mask (fg 52 0) e = mask [] e := rfl
theorem fg_53_0 (e : Env) : mask (fg 53 0) e = mask [] e := rfl
theorem la_4_9 : looseAt (fg 4) 9 = false := rfl
theorem la_4_15 : looseAt (fg 4) 15 = true := rfl
theorem sq_4_15 : seqAt (fg 4) 15 = [14, 0, 1, 2, 3, 4, 5, 6, 7, 8, 9, 10, 11, 12, 13, 15, 16] := rfl
theorem am_4_15 : allocsAt (fg 4) 15 = 1 := rfl
theorem un_4_15_0 : unordAt (fg 4) 15 0 = [0] := rfl
theorem un_4_15_1 : unordAt (fg 4) 15 1 = [] := rfl
theorem un_4_15_2 : unordAt (fg 4) 15 2 = [] := rfl
theorem un_4_15_3 : unordAt (fg 4) 15 3 = [] := rfl
theorem un_4_15_4 : unordAt (fg 4) 15 4 = [] := rfl
theorem un_4_15_5 : unordAt (fg 4) 15 5 = [0] := rfl
theorem un_4_15_6 : unordAt (fg 4) 15 6 = [] := rfl
theorem un_4_15_7 : unordAt (fg 4) 15 7 = [] := rfl
theorem un_4_15_8 : unordAt (fg 4) 15 8 = [] := rfl
theorem un_4_15_9 : unordAt (fg 4) 15 9 = [0] := rfl
theorem un_4_15_10 : unordAt (fg 4) 15 10 = [0] := rfl
theorem un_4_15_11 : unordAt (fg 4) 15 11 = [] := rfl
theorem un_4_15_12 : unordAt (fg 4) 15 12 = [] := rfl
theorem un_4_15_13 : unordAt (fg 4) 15 13 = [] := rfl
theorem un_4_15_15 : unordAt (fg 4) 15 15 = [] := rfl
theorem un_4_15_16 : unordAt (fg 4) 15 16 = [] := rfl
theorem la_5_18 : looseAt (fg 5) 18 = false := rfl
theorem la_6_14 : looseAt (fg 6) 14 = true := rfl
theorem sq_6_14 : seqAt (fg 6) 14 = [0, 1, 2, 3, 4, 5, 6, 7, 8] := rfl
theorem am_6_14 : allocsAt (fg 6) 14 = 0 := rfl
theorem un_6_14_0 : unordAt (fg 6) 14 0 = [] := rfl
theorem un_6_14_1 : unordAt (fg 6) 14 1 = [] := rfl
theorem un_6_14_2 : unordAt (fg 6) 14 2 = [] := rfl
theorem un_6_14_3 : unordAt (fg 6) 14 3 = [] := rfl
theorem un_6_14_4 : unordAt (fg 6) 14 4 = [] := rfl
theorem un_6_14_5 : unordAt (fg 6) 14 5 = [] := rfl
theorem un_6_14_6 : unordAt (fg 6) 14 6 = [] := rfl
theorem un_6_14_7 : unordAt (fg 6) 14 7 = [] := rfl
theorem un_6_14_8 : unordAt (fg 6) 14 8 = [] := rfl
theorem la_8_2 : looseAt (fg 8) 2 = false := rfl
theorem la_8_5 : looseAt (fg 8) 5 = false := rfl
theorem la_9_5 : looseAt (fg 9) 5 = false := rfl
theorem la_9_7 : looseAt (fg 9) 7 = false := rfl
theorem la_11_6 : looseAt (fg 11) 6 = false := rfl
theorem la_16_6 : looseAt (fg 16) 6 = false := rfl
theorem la_18_2 : looseAt (fg 18) 2 = true := rfl
theorem sq_18_2 : seqAt (fg 18) 2 = [0, 1, 2, 3, 4, 5, 6, 7] := rfl
theorem am_18_2 : allocsAt (fg 18) 2 = 0 := rfl
theorem un_18_2_0 : unordAt (fg 18) 2 0 = [] := rfl
theorem un_18_2_1 : unordAt (fg 18) 2 1 = [] := rfl
theorem un_18_2_2 : unordAt (fg 18) 2 2 = [] := rfl
theorem un_18_2_3 : unordAt (fg 18) 2 3 = [] := rfl
theorem un_18_2_4 : unordAt (fg 18) 2 4 = [] := rfl
theorem un_18_2_5 : unordAt (fg 18) 2 5 = [] := rfl
theorem un_18_2_6 : unordAt (fg 18) 2 6 = [] := rfl
theorem un_18_2_7 : unordAt (fg 18) 2 7 = [] := rfl
theorem la_20_4 : looseAt (fg 20) 4 = false := rfl
theorem la_20_11 : looseAt (fg 20) 11 = false := rfl
theorem la_25_8 : looseAt (fg 25) 8 = false := rfl
theorem la_25_13 : looseAt (fg 25) 13 = false := rfl
theorem la_25_17 : looseAt (fg 25) 17 = false := rfl
theorem la_25_26 : looseAt (fg 25) 26 = false := rfl
theorem la_25_37 : looseAt (fg 25) 37 = false := rfl
theorem la_26_5 : looseAt (fg 26) 5 = true := rfl
theorem sq_26_5 : seqAt (fg 26) 5 = [10, 0, 1, 2, 3, 4, 5, 6, 7, 8, 9, 11, 12] := rfl
theorem am_26_5 : allocsAt (fg 26) 5 = 1 := rfl
theorem un_26_5_0 : unordAt (fg 26) 5 0 = [] := rfl
theorem un_26_5_1 : unordAt (fg 26) 5 1 = [] := rfl
theorem un_26_5_2 : unordAt (fg 26) 5 2 = [] := rfl
theorem un_26_5_3 : unordAt (fg 26) 5 3 = [0] := rfl
theorem un_26_5_4 : unordAt (fg 26) 5 4 = [] := rfl
theorem un_26_5_5 : unordAt (fg 26) 5 5 = [0] := rfl
theorem un_26_5_6 : unordAt (fg 26) 5 6 = [0] := rfl
theorem un_26_5_7 : unordAt (fg 26) 5 7 = [] := rfl
theorem un_26_5_8 : unordAt (fg 26) 5 8 = [] := rfl
theorem un_26_5_9 : unordAt (fg 26) 5 9 = [] := rfl
theorem un_26_5_11 : unordAt (fg 26) 5 11 = [] := rfl
theorem un_26_5_12 : unordAt (fg 26) 5 12 = [] := rfl
theorem la_26_7 : looseAt (fg 26) 7 = false := rfl
theorem la_26_8 : looseAt (fg 26) 8 = false := rfl
theorem la_27_4 : looseAt (fg 27) 4 = false := rfl
theorem la_29_1 : looseAt (fg 29) 1 = false := rfl
theorem la_34_4 : looseAt (fg 34) 4 = false := rfl
theorem la_40_4 : looseAt (fg 40) 4 = false := rfl
theorem la_42_7 : looseAt (fg 42) 7 = true := rfl
theorem sq_42_7 : seqAt (fg 42) 7 = [0, 1, 2, 3, 4, 5, 6, 7, 8, 9, 10] := rfl
theorem am_42_7 : allocsAt (fg 42) 7 = 0 := rfl
theorem un_42_7_0 : unordAt (fg 42) 7 0 = [] := rfl
theorem un_42_7_1 : unordAt (fg 42) 7 1 = [] := rfl
theorem un_42_7_2 : unordAt (fg 42) 7 2 = [] := rfl
theorem un_42_7_3 : unordAt (fg 42) 7 3 = [] := rfl
theorem un_42_7_4 : unordAt (fg 42) 7 4 = [] := rfl
theorem un_42_7_5 : unordAt (fg 42) 7 5 = [] := rfl
theorem un_42_7_6 : unordAt (fg 42) 7 6 = [] := rfl
theorem un_42_7_7 : unordAt (fg 42) 7 7 = [] := rfl
theorem un_42_7_8 : unordAt (fg 42) 7 8 = [] := rfl
theorem un_42_7_9 : unordAt (fg 42) 7 9 = [] := rfl
theorem un_42_7_10 : unordAt (fg 42) 7 10 = [] := rfl
theorem la_44_1 : looseAt (fg 44) 1 = true := rfl
theorem sq_44_1 : seqAt (fg 44) 1 = [10, 0, 1, 2, 3, 4, 5, 6, 7, 8, 9, 11, 12] := rfl
theorem am_44_1 : allocsAt (fg 44) 1 = 1 := rfl
theorem un_44_1_0 : unordAt (fg 44) 1 0 = [] := rfl
theorem un_44_1_1 : unordAt (fg 44) 1 1 = [] := rfl
theorem un_44_1_2 : unordAt (fg 44) 1 2 = [] := rfl
theorem un_44_1_3 : unordAt (fg 44) 1 3 = [0] := rfl
theorem un_44_1_4 : unordAt (fg 44) 1 4 = [] := rfl
theorem un_44_1_5 : unordAt (fg 44) 1 5 = [0] := rfl
theorem un_44_1_6 : unordAt (fg 44) 1 6 = [0] := rfl
theorem un_44_1_7 : unordAt (fg 44) 1 7 = [] := rfl
theorem un_44_1_8 : unordAt (fg 44) 1 8 = [] := rfl
theorem un_44_1_9 : unordAt (fg 44) 1 9 = [] := rfl
theorem un_44_1_11 : unordAt (fg 44) 1 11 = [] := rfl
theorem un_44_1_12 : unordAt (fg 44) 1 12 = [] := rfl
theorem la_44_2 : looseAt (fg 44) 2 = true := rfl
theorem sq_44_2 : seqAt (fg 44) 2 = [0, 1, 2, 3, 4, 5, 6, 7, 8, 9, 10, 11, 12, 13] := rfl
theorem am_44_2 : allocsAt (fg 44) 2 = 0 := rfl
theorem un_44_2_0 : unordAt (fg 44) 2 0 = [] := rfl
theorem un_44_2_1 : unordAt (fg 44) 2 1 = [] := rfl
theorem un_44_2_2 : unordAt (fg 44) 2 2 = [] := rfl
theorem un_44_2_3 : unordAt (fg 44) 2 3 = [] := rfl
theorem un_44_2_4 : unordAt (fg 44) 2 4 = [] := rfl
theorem un_44_2_5 : unordAt (fg 44) 2 5 = [] := rfl
theorem un_44_2_6 : unordAt (fg 44) 2 6 = [] := rfl
theorem un_44_2_7 : unordAt (fg 44) 2 7 = [] := rfl
theorem un_44_2_8 : unordAt (fg 44) 2 8 = [] := rfl
theorem un_44_2_9 : unordAt (fg 44) 2 9 = [] := rfl
theorem un_44_2_10 : unordAt (fg 44) 2 10 = [] := rfl
theorem un_44_2_11 : unordAt (fg 44) 2 11 = [] := rfl
theorem un_44_2_12 : unordAt (fg 44) 2 12 = [] := rfl
theorem un_44_2_13 : unordAt (fg 44) 2 13 = [] := rfl
theorem la_45_4 : looseAt (fg 45) 4 = false := rfl
theorem la_50_1 : looseAt (fg 50) 1 = false := rfl
theorem la_50_5 : looseAt (fg 50) 5 = false := rfl
theorem la_51_1 : looseAt (fg 51) 1 = true := rfl
theorem sq_51_1 : seqAt (fg 51) 1 = [10, 0, 1, 2, 3, 4, 5, 6, 7, 8, 9, 11, 12] := rfl
theorem am_51_1 : allocsAt (fg 51) 1 = 1 := rfl
theorem un_51_1_0 : unordAt (fg 51) 1 0 = [] := rfl
theorem un_51_1_1 : unordAt (fg 51) 1 1 = [] := rfl
theorem un_51_1_2 : unordAt (fg 51) 1 2 = [] := rfl
theorem un_51_1_3 : unordAt (fg 51) 1 3 = [0] := rfl
theorem un_51_1_4 : unordAt (fg 51) 1 4 = [] := rfl
theorem un_51_1_5 : unordAt (fg 51) 1 5 = [0] := rfl
theorem un_51_1_6 : unordAt (fg 51) 1 6 = [0] := rfl
theorem un_51_1_7 : unordAt (fg 51) 1 7 = [] := rfl
theorem un_51_1_8 : unordAt (fg 51) 1 8 = [] := rfl
theorem un_51_1_9 : unordAt (fg 51) 1 9 = [] := rfl
theorem un_51_1_11 : unordAt (fg 51) 1 11 = [] := rfl
theorem un_51_1_12 : unordAt (fg 51) 1 12 = [] := rfl
theorem la_51_5 : looseAt (fg 51) 5 = false := rfl
theorem tsize_3 : tsize Try.prog 3 = 1 := by kernel_rfl
theorem tsize_9 : tsize Try.prog 9 = 1 := by kernel_rfl
theorem tsize_22 : tsize Try.prog 22 = 1 := by kernel_rfl
theorem tsize_25 : tsize Try.prog 25 = 1 := by kernel_rfl
theorem tsize_33 : tsize Try.prog 33 = 1 := by kernel_rfl
theorem tsize_35 : tsize Try.prog 35 = 5 := by kernel_rfl
theorem tsize_38 : tsize Try.prog 38 = 7 := by kernel_rfl
theorem tsize_55 : tsize Try.prog 55 = 1 := by kernel_rfl
theorem tsize_56 : tsize Try.prog 56 = 1 := by kernel_rfl
theorem tsize_57 : tsize Try.prog 57 = 1 := by kernel_rfl
theorem tsize_58 : tsize Try.prog 58 = 1 := by kernel_rfl
theorem tsize_61 : tsize Try.prog 61 = 1 := by kernel_rfl
theorem tsize_63 : tsize Try.prog 63 = 1 := by kernel_rfl
theorem tsize_64 : tsize Try.prog 64 = 1 := by kernel_rfl
theorem tsize_71 : tsize Try.prog 71 = 1 := by kernel_rfl
theorem tsize_82 : tsize Try.prog 82 = 1 := by kernel_rfl
theorem tsize_93 : tsize Try.prog 93 = 1 := by kernel_rfl
theorem tsize_98 : tsize Try.prog 98 = 2 := by kernel_rfl
theorem tagg_3 : tagg Try.prog 3 = some false := by kernel_rfl
theorem tagg_9 : tagg Try.prog 9 = some false := by kernel_rfl
theorem tagg_22 : tagg Try.prog 22 = some false := by kernel_rfl
theorem tagg_25 : tagg Try.prog 25 = some false := by kernel_rfl
theorem tagg_33 : tagg Try.prog 33 = some false := by kernel_rfl
theorem tagg_35 : tagg Try.prog 35 = some true := by kernel_rfl
theorem tagg_38 : tagg Try.prog 38 = some true := by kernel_rfl
theorem tagg_55 : tagg Try.prog 55 = some false := by kernel_rfl
theorem tagg_56 : tagg Try.prog 56 = some false := by kernel_rfl
theorem tagg_57 : tagg Try.prog 57 = some false := by kernel_rfl
theorem tagg_58 : tagg Try.prog 58 = some false := by kernel_rfl
theorem tagg_61 : tagg Try.prog 61 = some false := by kernel_rfl
theorem tagg_63 : tagg Try.prog 63 = some false := by kernel_rfl
theorem tagg_64 : tagg Try.prog 64 = some false := by kernel_rfl
theorem tagg_71 : tagg Try.prog 71 = some false := by kernel_rfl
theorem tagg_82 : tagg Try.prog 82 = some false := by kernel_rfl
theorem tagg_93 : tagg Try.prog 93 = some false := by kernel_rfl
theorem tagg_98 : tagg Try.prog 98 = some true := by kernel_rfl
theorem tslice_9 : tslice Try.prog 9 = none := by kernel_rfl
theorem tslice_22 : tslice Try.prog 22 = some (7, 112, .agg [.val (.string ⟨#[]⟩), .slc true [], .val (.int .i64 0), .val (.string ⟨#[]⟩), .val (.string ⟨#[]⟩), .val (.int .i64 0), .slc true []]) := by kernel_rfl
theorem tslice_25 : tslice Try.prog 25 = some (1, 16, .val (.string ⟨#[]⟩)) := by kernel_rfl
theorem tslice_33 : tslice Try.prog 33 = some (5, 72, .agg [.val (.int .i64 0), .val (.string ⟨#[]⟩), .val (.string ⟨#[]⟩), .val (.int .i64 0), .slc true []]) := by kernel_rfl
theorem tslice_49 : tslice Try.prog 49 = some (1, 1, .val (.int .u8 0)) := by kernel_rfl
theorem tslice_55 : tslice Try.prog 55 = some (5, 56, .agg [.val (.string ⟨#[]⟩), .val (.string ⟨#[]⟩), .val (.int .i64 0), .val (.int .i64 0), .val (.int .i64 0)]) := by kernel_rfl
theorem tslice_56 : tslice Try.prog 56 = some (3, 64, .agg [.val (.string ⟨#[]⟩), .slc true [], .slc true []]) := by kernel_rfl
theorem tslice_57 : tslice Try.prog 57 = some (7, 112, .agg [.val (.string ⟨#[]⟩), .slc true [], .val (.int .i64 0), .val (.string ⟨#[]⟩), .val (.string ⟨#[]⟩), .val (.int .i64 0), .slc true []]) := by kernel_rfl
theorem tslice_58 : tslice Try.prog 58 = some (3, 48, .agg [.val (.bool .false), .val (.string ⟨#[]⟩), .slc true []]) := by kernel_rfl
theorem tslice_82 : tslice Try.prog 82 = some (2, 40, .agg [.val (.string ⟨#[]⟩), .slc true []]) := by kernel_rfl
theorem ownT_22 : ownT Try.prog 22 = false := by kernel_rfl
theorem ownT_25 : ownT Try.prog 25 = false := by kernel_rfl
theorem ownT_33 : ownT Try.prog 33 = false := by kernel_rfl
theorem ownT_49 : ownT Try.prog 49 = false := by kernel_rfl
theorem tarr_9 : tarr Try.prog 9 = none := by kernel_rfl
theorem tarr_22 : tarr Try.prog 22 = none := by kernel_rfl
theorem tarr_25 : tarr Try.prog 25 = none := by kernel_rfl
theorem tarr_33 : tarr Try.prog 33 = none := by kernel_rfl
theorem tarr_35 : tarr Try.prog 35 = none := by kernel_rfl
theorem tarr_38 : tarr Try.prog 38 = none := by kernel_rfl
theorem tarr_55 : tarr Try.prog 55 = none := by kernel_rfl
theorem tarr_56 : tarr Try.prog 56 = none := by kernel_rfl
theorem tarr_57 : tarr Try.prog 57 = none := by kernel_rfl
theorem tarr_58 : tarr Try.prog 58 = none := by kernel_rfl
theorem tarr_60 : tarr Try.prog 60 = none := by kernel_rfl
theorem tarr_66 : tarr Try.prog 66 = none := by kernel_rfl
theorem tarr_82 : tarr Try.prog 82 = none := by kernel_rfl
theorem tarr_98 : tarr Try.prog 98 = none := by kernel_rfl
theorem tzero_25 : tzero Try.prog 25 = some (.slc true []) := by kernel_rfl
theorem tzero_35 : tzero Try.prog 35 = some (.agg [.val (.int .i64 0), .val (.string ⟨#[]⟩), .val (.string ⟨#[]⟩), .val (.int .i64 0), .slc true []]) := by kernel_rfl
theorem tzero_38 : tzero Try.prog 38 = some (.agg [.val (.string ⟨#[]⟩), .slc true [], .val (.int .i64 0), .val (.string ⟨#[]⟩), .val (.string ⟨#[]⟩), .val (.int .i64 0), .slc true []]) := by kernel_rfl
theorem tzero_60 : tzero Try.prog 60 = some (.agg [.slc true [], .slc true [], .slc true [], .slc true [], .slc true []]) := by kernel_rfl
theorem tzero_61 : tzero Try.prog 61 = some (.val (.pointer .none)) := by kernel_rfl
theorem tzero_66 : tzero Try.prog 66 = some (.agg [.val (.map .none), .slc true [], .val (.map .none)]) := by kernel_rfl
theorem tzero_71 : tzero Try.prog 71 = some (.val .nilFunc) := by kernel_rfl
theorem tzero_93 : tzero Try.prog 93 = some (.val (.map .none)) := by kernel_rfl
theorem tzero_98 : tzero Try.prog 98 = some (.agg [.val (.int .i64 0), .val (.map .none)]) := by kernel_rfl
theorem isStrT_9 : isStrT Try.prog 9 = true := by kernel_rfl
theorem isStrT_22 : isStrT Try.prog 22 = false := by kernel_rfl
theorem isStrT_25 : isStrT Try.prog 25 = false := by kernel_rfl
theorem isStrT_33 : isStrT Try.prog 33 = false := by kernel_rfl
theorem isStrT_55 : isStrT Try.prog 55 = false := by kernel_rfl
theorem isStrT_56 : isStrT Try.prog 56 = false := by kernel_rfl
theorem isStrT_57 : isStrT Try.prog 57 = false := by kernel_rfl
theorem isStrT_58 : isStrT Try.prog 58 = false := by kernel_rfl
theorem isStrT_82 : isStrT Try.prog 82 = false := by kernel_rfl
theorem isSeqT_22 : isSeqT Try.prog 22 = true := by kernel_rfl
theorem isSeqT_25 : isSeqT Try.prog 25 = true := by kernel_rfl
theorem isSeqT_33 : isSeqT Try.prog 33 = true := by kernel_rfl
theorem tfield_35_0 : tfield Try.prog 35 0 = some (0, 1, false) := by kernel_rfl
theorem tfield_35_1 : tfield Try.prog 35 1 = some (1, 1, false) := by kernel_rfl
theorem tfield_35_2 : tfield Try.prog 35 2 = some (2, 1, false) := by kernel_rfl
theorem tfield_35_3 : tfield Try.prog 35 3 = some (3, 1, false) := by kernel_rfl
theorem tfield_35_4 : tfield Try.prog 35 4 = some (4, 1, false) := by kernel_rfl
theorem tfield_38_0 : tfield Try.prog 38 0 = some (0, 1, false) := by kernel_rfl
theorem tfield_38_1 : tfield Try.prog 38 1 = some (1, 1, false) := by kernel_rfl
theorem tfield_38_2 : tfield Try.prog 38 2 = some (2, 5, true) := by kernel_rfl
theorem tfield_60_0 : tfield Try.prog 60 0 = some (0, 1, false) := by kernel_rfl
theorem tfield_60_1 : tfield Try.prog 60 1 = some (1, 1, false) := by kernel_rfl
theorem tfield_60_2 : tfield Try.prog 60 2 = some (2, 1, false) := by kernel_rfl
theorem tfield_60_3 : tfield Try.prog 60 3 = some (3, 1, false) := by kernel_rfl
theorem tfield_60_4 : tfield Try.prog 60 4 = some (4, 1, false) := by kernel_rfl
theorem tfield_66_0 : tfield Try.prog 66 0 = some (0, 1, false) := by kernel_rfl
theorem tfield_66_1 : tfield Try.prog 66 1 = some (1, 1, false) := by kernel_rfl
theorem tfield_66_2 : tfield Try.prog 66 2 = some (2, 1, false) := by kernel_rfl
theorem tfield_79_0 : tfield Try.prog 79 0 = some (0, 1, false) := by kernel_rfl
theorem tfield_81_0 : tfield Try.prog 81 0 = some (0, 1, false) := by kernel_rfl
theorem tfield_81_1 : tfield Try.prog 81 1 = some (1, 4, true) := by kernel_rfl
theorem tfield_84_0 : tfield Try.prog 84 0 = some (0, 1, false) := by kernel_rfl
theorem tfield_84_1 : tfield Try.prog 84 1 = some (1, 1, false) := by kernel_rfl
theorem tfield_84_2 : tfield Try.prog 84 2 = some (2, 1, false) := by kernel_rfl
theorem tfield_86_0 : tfield Try.prog 86 0 = some (0, 1, false) := by kernel_rfl
theorem tfield_86_1 : tfield Try.prog 86 1 = some (1, 1, false) := by kernel_rfl
theorem tfield_88_0 : tfield Try.prog 88 0 = some (0, 1, false) := by kernel_rfl
theorem tfield_88_1 : tfield Try.prog 88 1 = some (1, 1, false) := by kernel_rfl
theorem tfield_88_2 : tfield Try.prog 88 2 = some (2, 5, true) := by kernel_rfl
theorem tfield_90_1 : tfield Try.prog 90 1 = some (1, 1, false) := by kernel_rfl
theorem tfield_90_2 : tfield Try.prog 90 2 = some (2, 1, false) := by kernel_rfl
theorem tfield_98_0 : tfield Try.prog 98 0 = some (0, 1, false) := by kernel_rfl
theorem tfield_98_1 : tfield Try.prog 98 1 = some (1, 1, false) := by kernel_rfl
theorem tplaces_35 : tplaces Try.prog 35 = some [(0, 1), (1, 1), (2, 1), (3, 1), (4, 1)] := by kernel_rfl
theorem abuild_35 (ps : List (Nat × AV)) : abuild Try.prog 35 ps = bT (tzero Try.prog 35) (some [(0, 1), (1, 1), (2, 1), (3, 1), (4, 1)]) ps := abuild_struct _ _ tplaces_35
theorem tplaces_38 : tplaces Try.prog 38 = some [(0, 1), (1, 1), (2, 5)] := by kernel_rfl
theorem abuild_38 (ps : List (Nat × AV)) : abuild Try.prog 38 ps = bT (tzero Try.prog 38) (some [(0, 1), (1, 1), (2, 5)]) ps := abuild_struct _ _ tplaces_38
theorem tplaces_60 : tplaces Try.prog 60 = some [(0, 1), (1, 1), (2, 1), (3, 1), (4, 1)] := by kernel_rfl
theorem abuild_60 (ps : List (Nat × AV)) : abuild Try.prog 60 ps = bT (tzero Try.prog 60) (some [(0, 1), (1, 1), (2, 1), (3, 1), (4, 1)]) ps := abuild_struct _ _ tplaces_60
theorem tplaces_66 : tplaces Try.prog 66 = some [(0, 1), (1, 1), (2, 1)] := by kernel_rfl
theorem abuild_66 (ps : List (Nat × AV)) : abuild Try.prog 66 ps = bT (tzero Try.prog 66) (some [(0, 1), (1, 1), (2, 1)]) ps := abuild_struct _ _ tplaces_66
theorem tplaces_98 : tplaces Try.prog 98 = some [(0, 1), (1, 1)] := by kernel_rfl
theorem abuild_98 (ps : List (Nat × AV)) : abuild Try.prog 98 ps = bT (tzero Try.prog 98) (some [(0, 1), (1, 1)]) ps := abuild_struct _ _ tplaces_98
theorem und_3 : Try.prog.underlying 3 = some (.int .i64) := by kernel_rfl
theorem und_5 : Try.prog.underlying 5 = some (.int .u8) := by kernel_rfl
theorem und_9 : Try.prog.underlying 9 = some .string := by kernel_rfl
theorem und_49 : Try.prog.underlying 49 = some (.slice 5) := by kernel_rfl
theorem cv_3_5 (h : AHeap) (k : IntKind) (n : Int) : aconvert Try.prog 3 5 h (.val (.int k n)) = some (.val (.int .u8 (IntKind.u8.wrap n)), h) := aconvert_int _ _ _ _ und_3 und_5
theorem cv_49_9 (h : AHeap) (x : AV) : aconvert Try.prog 49 9 h x = textK (sview h x) h := aconvert_textK und_49 und_9 und_5
theorem callable_7 : callable Try.prog 7 = true := by kernel_rfl
theorem callable_8 : callable Try.prog 8 = true := by kernel_rfl
theorem callable_9 : callable Try.prog 9 = true := by kernel_rfl
theorem callable_10 : callable Try.prog 10 = true := by kernel_rfl
theorem callable_11 : callable Try.prog 11 = true := by kernel_rfl
theorem callable_12 : callable Try.prog 12 = true := by kernel_rfl
theorem callable_13 : callable Try.prog 13 = true := by kernel_rfl
theorem callable_14 : callable Try.prog 14 = true := by kernel_rfl
theorem callable_15 : callable Try.prog 15 = true := by kernel_rfl
theorem callable_16 : callable Try.prog 16 = true := by kernel_rfl
theorem callable_17 : callable Try.prog 17 = true := by kernel_rfl
theorem callable_18 : callable Try.prog 18 = true := by kernel_rfl
theorem callable_19 : callable Try.prog 19 = true := by kernel_rfl
theorem callable_20 : callable Try.prog 20 = true := by kernel_rfl
theorem callable_21 : callable Try.prog 21 = true := by kernel_rfl
theorem callable_23 : callable Try.prog 23 = true := by kernel_rfl
theorem callable_24 : callable Try.prog 24 = true := by kernel_rfl
theorem callable_25 : callable Try.prog 25 = true := by kernel_rfl
theorem callable_26 : callable Try.prog 26 = true := by kernel_rfl
theorem callable_27 : callable Try.prog 27 = true := by kernel_rfl
theorem callable_28 : callable Try.prog 28 = true := by kernel_rfl
theorem callable_30 : callable Try.prog 30 = true := by kernel_rfl
theorem callable_31 : callable Try.prog 31 = true := by kernel_rfl
theorem callable_32 : callable Try.prog 32 = true := by kernel_rfl
theorem callable_34 : callable Try.prog 34 = true := by kernel_rfl
theorem callable_35 : callable Try.prog 35 = true := by kernel_rfl
theorem callable_36 : callable Try.prog 36 = true := by kernel_rfl
theorem callable_37 : callable Try.prog 37 = true := by kernel_rfl
theorem callable_38 : callable Try.prog 38 = true := by kernel_rfl
theorem callable_39 : callable Try.prog 39 = true := by kernel_rfl
theorem callable_40 : callable Try.prog 40 = true := by kernel_rfl
theorem callable_41 : callable Try.prog 41 = true := by kernel_rfl
theorem callable_43 : callable Try.prog 43 = true := by kernel_rfl
theorem callable_44 : callable Try.prog 44 = true := by kernel_rfl
theorem callable_45 : callable Try.prog 45 = true := by kernel_rfl
theorem callable_46 : callable Try.prog 46 = true := by kernel_rfl
theorem callable_47 : callable Try.prog 47 = true := by kernel_rfl
theorem callable_48 : callable Try.prog 48 = true := by kernel_rfl
theorem callable_49 : callable Try.prog 49 = true := by kernel_rfl
theorem callable_50 : callable Try.prog 50 = true := by kernel_rfl
theorem callable_51 : callable Try.prog 51 = true := by kernel_rfl
theorem callable_52 : callable Try.prog 52 = true := by kernel_rfl
theorem callable_53 : callable Try.prog 53 = true := by kernel_rfl
attribute [go_sem] tsize_3 tsize_9 tsize_22 tsize_25 tsize_33 tsize_35 tsize_38 tsize_55 tsize_56 tsize_57 tsize_58 tsize_61 tsize_63 tsize_64 tsize_71 tsize_82 tsize_93 tsize_98 tagg_3 tagg_9 tagg_22 tagg_25 tagg_33 tagg_35 tagg_38 tagg_55 tagg_56 tagg_57 tagg_58 tagg_61 tagg_63 tagg_64 tagg_71 tagg_82 tagg_93 tagg_98 tslice_9 tslice_22 tslice_25 tslice_33 tslice_49 tslice_55 tslice_56 tslice_57 tslice_58 tslice_82 ownT_22 ownT_25 ownT_33 ownT_49 tarr_9 tarr_22 tarr_25 tarr_33 tarr_35 tarr_38 tarr_55 tarr_56 tarr_57 tarr_58 tarr_60 tarr_66 tarr_82 tarr_98 tzero_25 tzero_35 tzero_38 tzero_60 tzero_61 tzero_66 tzero_71 tzero_93 tzero_98 isStrT_9 isStrT_22 isStrT_25 isStrT_33 isStrT_55 isStrT_56 isStrT_57 isStrT_58 isStrT_82 isSeqT_22 isSeqT_25 isSeqT_33 tfield_35_0 tfield_35_1 tfield_35_2 tfield_35_3 tfield_35_4 tfield_38_0 tfield_38_1 tfield_38_2 tfield_60_0 tfield_60_1 tfield_60_2 tfield_60_3 tfield_60_4 tfield_66_0 tfield_66_1 tfield_66_2 tfield_79_0 tfield_81_0 tfield_81_1 tfield_84_0 tfield_84_1 tfield_84_2 tfield_86_0 tfield_86_1 tfield_88_0 tfield_88_1 tfield_88_2 tfield_90_1 tfield_90_2 tfield_98_0 tfield_98_1 tplaces_35 abuild_35 tplaces_38 abuild_38 tplaces_60 abuild_60 tplaces_66 abuild_66 tplaces_98 abuild_98 und_3 und_5 und_9 und_49 cv_3_5 cv_49_9 callable_7 callable_8 callable_9 callable_10 callable_11 callable_12 callable_13 callable_14 callable_15 callable_16 callable_17 callable_18 callable_19 callable_20 callable_21 callable_23 callable_24 callable_25 callable_26 callable_27 callable_28 callable_30 callable_31 callable_32 callable_34 callable_35 callable_36 callable_37 callable_38 callable_39 callable_40 callable_41 callable_43 callable_44 callable_45 callable_46 callable_47 callable_48 callable_49 callable_50 callable_51 callable_52 callable_53 fg_3_0 fg_4_0 fg_4_1 fg_4_2 fg_4_3 fg_4_4 fg_5_0 fg_5_1 fg_5_2 fg_5_3 fg_5_4 fg_6_0 fg_6_1 fg_6_2 fg_6_3 fg_6_4 fg_7_0 fg_7_1 fg_7_2 fg_8_0 fg_9_0 fg_9_1 fg_9_2 fg_10_0 fg_10_1 fg_10_2 fg_10_3 fg_10_4 fg_10_5 fg_10_6 fg_11_0 fg_11_1 fg_11_2 fg_12_0 fg_13_0 fg_14_0 fg_14_1 fg_14_2 fg_15_0 fg_15_1 fg_16_0 fg_16_1 fg_16_2 fg_17_0 fg_17_1 fg_17_2 fg_18_0 fg_18_1 fg_18_2 fg_19_0 fg_20_0 fg_20_1 fg_20_2 fg_20_3 fg_20_4 fg_21_0 fg_21_1 fg_21_2 fg_22_0 fg_23_0 fg_24_0 fg_25_0 fg_25_1 fg_25_2 fg_25_3 fg_25_4 fg_25_5 fg_25_6 fg_25_7 fg_25_8 fg_25_9 fg_25_10 fg_25_11 fg_25_12 fg_25_13 fg_25_14 fg_25_15 fg_25_16 fg_26_0 fg_26_1 fg_26_2 fg_27_0 fg_28_0 fg_28_1 fg_28_2 fg_29_0 fg_30_0 fg_31_0 fg_32_0 fg_32_1 fg_32_2 fg_33_0 fg_34_0 fg_34_1 fg_34_2 fg_35_0 fg_35_1 fg_35_2 fg_36_0 fg_36_1 fg_36_2 fg_37_0 fg_37_1 fg_37_2 fg_38_0 fg_38_1 fg_38_2 fg_39_0 fg_39_1 fg_39_2 fg_40_0 fg_40_1 fg_40_2 fg_40_3 fg_40_4 fg_41_0 fg_41_1 fg_41_2 fg_42_0 fg_42_1 fg_43_0 fg_43_1 fg_43_2 fg_44_0 fg_45_0 fg_45_1 fg_45_2 fg_46_0 fg_46_1 fg_46_2 fg_46_3 fg_46_4 fg_47_0 fg_48_0 fg_48_1 fg_48_2 fg_49_0 fg_50_0 fg_50_1 fg_50_2 fg_51_0 fg_52_0 fg_53_0 la_4_9 la_4_15 sq_4_15 am_4_15 un_4_15_0 un_4_15_1 un_4_15_2 un_4_15_3 un_4_15_4 un_4_15_5 un_4_15_6 un_4_15_7 un_4_15_8 un_4_15_9 un_4_15_10 un_4_15_11 un_4_15_12 un_4_15_13 un_4_15_15 un_4_15_16 la_5_18 la_6_14 sq_6_14 am_6_14 un_6_14_0 un_6_14_1 un_6_14_2 un_6_14_3 un_6_14_4 un_6_14_5 un_6_14_6 un_6_14_7 un_6_14_8 la_8_2 la_8_5 la_9_5 la_9_7 la_11_6 la_16_6 la_18_2 sq_18_2 am_18_2 un_18_2_0 un_18_2_1 un_18_2_2 un_18_2_3 un_18_2_4 un_18_2_5 un_18_2_6 un_18_2_7 la_20_4 la_20_11 la_25_8 la_25_13 la_25_17 la_25_26 la_25_37 la_26_5 sq_26_5 am_26_5 un_26_5_0 un_26_5_1 un_26_5_2 un_26_5_3 un_26_5_4 un_26_5_5 un_26_5_6 un_26_5_7 un_26_5_8 un_26_5_9 un_26_5_11 un_26_5_12 la_26_7 la_26_8 la_27_4 la_29_1 la_34_4 la_40_4 la_42_7 sq_42_7 am_42_7 un_42_7_0 un_42_7_1 un_42_7_2 un_42_7_3 un_42_7_4 un_42_7_5 un_42_7_6 un_42_7_7 un_42_7_8 un_42_7_9 un_42_7_10 la_44_1 sq_44_1 am_44_1 un_44_1_0 un_44_1_1 un_44_1_2 un_44_1_3 un_44_1_4 un_44_1_5 un_44_1_6 un_44_1_7 un_44_1_8 un_44_1_9 un_44_1_11 un_44_1_12 la_44_2 sq_44_2 am_44_2 un_44_2_0 un_44_2_1 un_44_2_2 un_44_2_3 un_44_2_4 un_44_2_5 un_44_2_6 un_44_2_7 un_44_2_8 un_44_2_9 un_44_2_10 un_44_2_11 un_44_2_12 un_44_2_13 la_45_4 la_50_1 la_50_5 la_51_1 sq_51_1 am_51_1 un_51_1_0 un_51_1_1 un_51_1_2 un_51_1_3 un_51_1_4 un_51_1_5 un_51_1_6 un_51_1_7 un_51_1_8 un_51_1_9 un_51_1_11 un_51_1_12 la_51_5
theorem body3 : Try.f3.body = some (.seq (regOf Try.f3 0) (.seq (.seq (regOf Try.f3 1) (.cond (.tmp 9) (.seq (regOf Try.f3 2) .ret) .skip)) (.seq (regOf Try.f3 3) (.seq (regOf Try.f3 4) (.seq (regOf Try.f3 5) .ret))))) := by kernel_rfl
theorem body4 : Try.f4.body = some (.seq (regOf Try.f4 0) (.seq (.seq (regOf Try.f4 1) (.cond (.tmp 31) (.seq (regOf Try.f4 2) .ret) .skip)) (.seq (.seq (regOf Try.f4 3) (.block 0 (.loop (loopOf Try.f4 0)))) (.seq (regOf Try.f4 13) (.seq (regOf Try.f4 14) (.seq (regOf Try.f4 15) (.seq (regOf Try.f4 16) .ret))))))) := by kernel_rfl
theorem loop4_0 : loopOf Try.f4 0 = (.seq (regOf Try.f4 4) (.seq (.cond (.tmp 36) .skip (.exit 0)) (.seq (.block 1 (.seq (regOf Try.f4 5) (.seq (regOf Try.f4 6) (.block 2 (.loop (loopOf Try.f4 2)))))) (regOf Try.f4 12)))) := by kernel_rfl
theorem loop4_2 : loopOf Try.f4 2 = (.seq (regOf Try.f4 7) (.seq (.cond (.tmp 43) .skip (.exit 2)) (.seq (.block 3 (.seq (regOf Try.f4 8) (.seq (regOf Try.f4 9) (.cond (.tmp 55) (.seq (regOf Try.f4 10) .ret) .skip)))) (regOf Try.f4 11)))) := by kernel_rfl
theorem body5 : Try.f5.body = some (.seq (regOf Try.f5 0) (.seq (.seq (regOf Try.f5 1) (.cond (.tmp 55) (.seq (regOf Try.f5 2) .ret) .skip)) (.seq (.seq (regOf Try.f5 3) (.block 0 (.loop (loopOf Try.f5 0)))) (.seq (regOf Try.f5 13) (.seq (regOf Try.f5 14) (.seq (regOf Try.f5 15) (.seq (.seq (regOf Try.f5 16) (.cond (.tmp 124) (.seq (regOf Try.f5 17) .ret) .skip)) (.seq (regOf Try.f5 18) .ret)))))))) := by kernel_rfl
theorem loop5_0 : loopOf Try.f5 0 = (.seq (regOf Try.f5 4) (.seq (.cond (.tmp 60) .skip (.exit 0)) (.seq (.block 1 (.seq (regOf Try.f5 5) (.seq (regOf Try.f5 6) (.block 2 (.loop (loopOf Try.f5 2)))))) (regOf Try.f5 12)))) := by kernel_rfl
theorem loop5_2 : loopOf Try.f5 2 = (.seq (regOf Try.f5 7) (.seq (.cond (.tmp 70) .skip (.exit 2)) (.seq (.block 3 (.seq (regOf Try.f5 8) (.seq (regOf Try.f5 9) (.cond (.tmp 80) (.seq (regOf Try.f5 10) .ret) .skip)))) (regOf Try.f5 11)))) := by kernel_rfl
theorem body6 : Try.f6.body = some (.seq (regOf Try.f6 0) (.seq (regOf Try.f6 1) (.seq (regOf Try.f6 2) (.seq (regOf Try.f6 3) (.seq (.seq (regOf Try.f6 4) (.block 0 (.loop (loopOf Try.f6 0)))) (.seq (regOf Try.f6 15) (.seq (.seq (regOf Try.f6 16) (.cond (.tmp 59) (.seq (regOf Try.f6 17) .ret) .skip)) (.seq (regOf Try.f6 18) (.seq (.seq (regOf Try.f6 19) (.block 2 (.loop (loopOf Try.f6 2)))) (.seq (.seq (regOf Try.f6 23) (.cond (.tmp 83) (.seq (regOf Try.f6 24) .ret) .skip)) (.seq (regOf Try.f6 25) .ret))))))))))) := by kernel_rfl
theorem loop6_0 : loopOf Try.f6 0 = (.seq (.seq (regOf Try.f6 5) (.cond (.tmp 22) .skip (.exit 0))) (.seq (.block 1 (.seq (regOf Try.f6 7) (.seq (.seq (regOf Try.f6 8) (.cond (.tmp 33) (.seq (regOf Try.f6 9) (.seq (regOf Try.f6 10) (.cond (.tmp 35) (regOf Try.f6 11) .skip))) .skip)) (.seq (.seq (regOf Try.f6 12) (.cond (.tmp 39) (regOf Try.f6 13) .skip)) (regOf Try.f6 14))))) (regOf Try.f6 6))) := by kernel_rfl
theorem loop6_2 : loopOf Try.f6 2 = (.seq (.seq (regOf Try.f6 20) (.cond (.tmp 76) .skip (.exit 2))) (.seq (.block 3 (regOf Try.f6 22)) (regOf Try.f6 21))) := by kernel_rfl
theorem body7 : Try.f7.body = some (.seq (regOf Try.f7 0) (.seq (.seq (regOf Try.f7 1) (.cond (.tmp 12) (.seq (regOf Try.f7 2) .ret) .skip)) (.seq (.seq (regOf Try.f7 3) (.block 0 (.loop (loopOf Try.f7 0)))) (.seq (regOf Try.f7 9) .ret)))) := by kernel_rfl
theorem loop7_0 : loopOf Try.f7 0 = (.seq (regOf Try.f7 4) (.seq (.cond (.tmp 16) .skip (.exit 0)) (.seq (.block 1 (.seq (regOf Try.f7 5) (.seq (regOf Try.f7 6) (.cond (.tmp 24) (.seq (regOf Try.f7 7) .ret) .skip)))) (regOf Try.f7 8)))) := by kernel_rfl
theorem body8 : Try.f8.body = some (.seq (regOf Try.f8 0) (.seq (regOf Try.f8 1) (.seq (regOf Try.f8 2) (.seq (regOf Try.f8 3) (.seq (regOf Try.f8 4) (.seq (regOf Try.f8 5) .ret)))))) := by kernel_rfl
theorem body9 : Try.f9.body = some (.seq (regOf Try.f9 0) (.seq (regOf Try.f9 1) (.seq (.seq (regOf Try.f9 2) (.cond (.tmp 10) (.seq (regOf Try.f9 3) .ret) .skip)) (.seq (regOf Try.f9 4) (.seq (.block 0 (.loop (loopOf Try.f9 0))) (.seq (regOf Try.f9 8) .ret)))))) := by kernel_rfl
theorem loop9_0 : loopOf Try.f9 0 = (.seq (.seq (regOf Try.f9 5) (.cond (.tmp 18) .skip (.exit 0))) (.block 1 (.seq (regOf Try.f9 6) (regOf Try.f9 7)))) := by kernel_rfl
theorem body10 : Try.f10.body = some (.seq (regOf Try.f10 0) (.seq (regOf Try.f10 1) (.block 0 (.loop (loopOf Try.f10 0))))) := by kernel_rfl
theorem loop10_0 : loopOf Try.f10 0 = (.block 1 (.seq (regOf Try.f10 2) (.seq (regOf Try.f10 3) (.seq (.seq (regOf Try.f10 4) (.block 2 (.loop (loopOf Try.f10 2)))) (.seq (.seq (regOf Try.f10 17) (.cond (.tmp 64) (.seq (regOf Try.f10 18) .ret) .skip)) (.seq (.seq (regOf Try.f10 19) (.cond (.tmp 67) (.seq (regOf Try.f10 20) .ret) .skip)) (regOf Try.f10 21))))))) := by kernel_rfl
theorem loop10_2 : loopOf Try.f10 2 = (.seq (.seq (regOf Try.f10 5) (.cond (.tmp 14) .skip (.exit 2))) (.seq (.block 3 (.seq (.seq (regOf Try.f10 7) (.cond (.tmp 29) (.exit 3) .skip)) (.seq (regOf Try.f10 8) (.seq (regOf Try.f10 9) (.seq (.seq (regOf Try.f10 10) (.block 4 (.loop (loopOf Try.f10 4)))) (.seq (regOf Try.f10 15) (.cond (.tmp 61) (regOf Try.f10 16) .skip))))))) (regOf Try.f10 6))) := by kernel_rfl
theorem loop10_4 : loopOf Try.f10 4 = (.seq (.seq (regOf Try.f10 11) (.cond (.tmp 35) .skip (.exit 4))) (.seq (.block 5 (.seq (regOf Try.f10 13) (.cond (.tmp 60) (regOf Try.f10 14) .skip))) (regOf Try.f10 12))) := by kernel_rfl
theorem body11 : Try.f11.body = some (.seq (regOf Try.f11 0) (.seq (.seq (regOf Try.f11 1) (.cond (.tmp 10) (.seq (regOf Try.f11 2) .ret) .skip)) (.seq (.seq (regOf Try.f11 3) (.block 0 (.loop (loopOf Try.f11 0)))) (.seq (regOf Try.f11 8) .ret)))) := by kernel_rfl
theorem loop11_0 : loopOf Try.f11 0 = (.seq (.seq (regOf Try.f11 4) (.cond (.tmp 14) .skip (.exit 0))) (.seq (.block 1 (.seq (regOf Try.f11 6) (.cond (.tmp 25) (.seq (regOf Try.f11 7) .ret) .skip))) (regOf Try.f11 5))) := by kernel_rfl
theorem body12 : Try.f12.body = some (.seq (regOf Try.f12 0) (.seq (regOf Try.f12 1) .ret)) := by kernel_rfl
theorem body13 : Try.f13.body = some (.seq (regOf Try.f13 0) (.seq (regOf Try.f13 1) .ret)) := by kernel_rfl
theorem body14 : Try.f14.body = some (.seq (regOf Try.f14 0) (.seq (.seq (regOf Try.f14 1) (.cond (.tmp 12) (.seq (regOf Try.f14 2) .ret) .skip)) (.seq (.seq (regOf Try.f14 3) (.block 0 (.loop (loopOf Try.f14 0)))) (.seq (regOf Try.f14 9) .ret)))) := by kernel_rfl
theorem loop14_0 : loopOf Try.f14 0 = (.seq (regOf Try.f14 4) (.seq (.cond (.tmp 17) .skip (.exit 0)) (.seq (.block 1 (.seq (regOf Try.f14 5) (.seq (regOf Try.f14 6) (.cond (.tmp 25) (.seq (regOf Try.f14 7) .ret) .skip)))) (regOf Try.f14 8)))) := by kernel_rfl
theorem body15 : Try.f15.body = some (.seq (regOf Try.f15 0) (.seq (regOf Try.f15 1) (.seq (.block 0 (.seq (regOf Try.f15 2) (.cond (.tmp 9) (.seq (regOf Try.f15 3) .ret) (.seq (regOf Try.f15 4) (.cond (.tmp 13) (.seq (regOf Try.f15 5) .ret) .skip))))) (.seq (regOf Try.f15 6) .ret)))) := by kernel_rfl
theorem body16 : Try.f16.body = some (.seq (regOf Try.f16 0) (.seq (.seq (regOf Try.f16 1) (.cond (.tmp 40) (.seq (regOf Try.f16 2) .ret) .skip)) (.seq (.seq (regOf Try.f16 3) (.block 0 (.loop (loopOf Try.f16 0)))) (.seq (regOf Try.f16 8) .ret)))) := by kernel_rfl
theorem loop16_0 : loopOf Try.f16 0 = (.seq (.seq (regOf Try.f16 4) (.cond (.tmp 45) .skip (.exit 0))) (.seq (.block 1 (.seq (regOf Try.f16 6) (.cond (.tmp 59) (.seq (regOf Try.f16 7) .ret) .skip))) (regOf Try.f16 5))) := by kernel_rfl
theorem body17 : Try.f17.body = some (.seq (regOf Try.f17 0) (.seq (regOf Try.f17 1) (.seq (.seq (regOf Try.f17 2) (.block 0 (.loop (loopOf Try.f17 0)))) (.seq (regOf Try.f17 6) .ret)))) := by kernel_rfl
theorem loop17_0 : loopOf Try.f17 0 = (.seq (.seq (regOf Try.f17 3) (.cond (.tmp 9) .skip (.exit 0))) (.seq (.block 1 (regOf Try.f17 5)) (regOf Try.f17 4))) := by kernel_rfl
theorem body18 : Try.f18.body = some (.seq (regOf Try.f18 0) (.seq (.seq (regOf Try.f18 1) (.cond (.tmp 15) (regOf Try.f18 2) .skip)) (.seq (.seq (regOf Try.f18 3) (.block 0 (.loop (loopOf Try.f18 0)))) (.seq (regOf Try.f18 7) .ret)))) := by kernel_rfl
theorem loop18_0 : loopOf Try.f18 0 = (.seq (.seq (regOf Try.f18 4) (.cond (.tmp 27) .skip (.exit 0))) (.seq (.block 1 (regOf Try.f18 6)) (regOf Try.f18 5))) := by kernel_rfl
theorem body19 : Try.f19.body = some (.seq (regOf Try.f19 0) (.seq (regOf Try.f19 1) .ret)) := by kernel_rfl
theorem body20 : Try.f20.body = some (.seq (regOf Try.f20 0) (.seq (.seq (regOf Try.f20 1) (.block 0 (.loop (loopOf Try.f20 0)))) (.seq (regOf Try.f20 7) (.seq (.seq (regOf Try.f20 8) (.block 2 (.loop (loopOf Try.f20 2)))) (.seq (regOf Try.f20 12) .ret))))) := by kernel_rfl
theorem loop20_0 : loopOf Try.f20 0 = (.seq (.seq (regOf Try.f20 2) (.cond (.tmp 18) .skip (.exit 0))) (.seq (.block 1 (.seq (regOf Try.f20 4) (.cond (.tmp 27) (.seq (.seq (regOf Try.f20 5) (.cond (.tmp 31) (.seq (regOf Try.f20 6) .ret) .skip)) (.exit 0)) .skip))) (regOf Try.f20 3))) := by kernel_rfl
theorem loop20_2 : loopOf Try.f20 2 = (.seq (.seq (regOf Try.f20 9) (.cond (.tmp 49) .skip (.exit 2))) (.seq (.block 3 (regOf Try.f20 11)) (regOf Try.f20 10))) := by kernel_rfl
theorem body21 : Try.f21.body = some (.seq (regOf Try.f21 0) (.seq (.seq (regOf Try.f21 1) (.block 0 (.loop (loopOf Try.f21 0)))) (.seq (regOf Try.f21 7) .ret))) := by kernel_rfl
theorem loop21_0 : loopOf Try.f21 0 = (.seq (regOf Try.f21 2) (.seq (.cond (.tmp 9) .skip (.exit 0)) (.seq (.block 1 (.seq (regOf Try.f21 3) (.seq (regOf Try.f21 4) (.cond (.tmp 17) (.seq (regOf Try.f21 5) .ret) .skip)))) (regOf Try.f21 6)))) := by kernel_rfl
theorem body22 : Try.f22.body = some (.seq (regOf Try.f22 0) (.seq (regOf Try.f22 1) .ret)) := by kernel_rfl
theorem body23 : Try.f23.body = some (.seq (regOf Try.f23 0) (.seq (regOf Try.f23 1) .ret)) := by kernel_rfl
theorem body24 : Try.f24.body = some (.seq (regOf Try.f24 0) (.seq (regOf Try.f24 1) .ret)) := by kernel_rfl
theorem body25 : Try.f25.body = some (.seq (regOf Try.f25 0) (.seq (.seq (regOf Try.f25 1) (.cond (.tmp 40) (.seq (regOf Try.f25 2) .ret) .skip)) (.seq (regOf Try.f25 3) (.seq (regOf Try.f25 4) (.seq (.seq (regOf Try.f25 5) (.block 0 (.loop (loopOf Try.f25 0)))) (.seq (.seq (regOf Try.f25 10) (.block 2 (.loop (loopOf Try.f25 2)))) (.seq (.seq (regOf Try.f25 23) (.block 8 (.loop (loopOf Try.f25 8)))) (.seq (.seq (regOf Try.f25 33) (.block 12 (.loop (loopOf Try.f25 12)))) (.seq (.seq (regOf Try.f25 39) (.block 14 (.loop (loopOf Try.f25 14)))) (.seq (regOf Try.f25 45) .ret)))))))))) := by kernel_rfl
theorem loop25_0 : loopOf Try.f25 0 = (.seq (regOf Try.f25 6) (.seq (.cond (.tmp 45) .skip (.exit 0)) (.seq (.block 1 (.seq (regOf Try.f25 7) (regOf Try.f25 8))) (regOf Try.f25 9)))) := by kernel_rfl
theorem loop25_2 : loopOf Try.f25 2 = (.seq (regOf Try.f25 11) (.seq (.cond (.tmp 72) .skip (.exit 2)) (.seq (.block 3 (.seq (regOf Try.f25 12) (.seq (regOf Try.f25 13) (.seq (.seq (regOf Try.f25 14) (.block 4 (.loop (loopOf Try.f25 4)))) (.seq (regOf Try.f25 18) (.block 6 (.loop (loopOf Try.f25 6)))))))) (regOf Try.f25 22)))) := by kernel_rfl
theorem loop25_4 : loopOf Try.f25 4 = (.seq (.seq (regOf Try.f25 15) (.cond (.tmp 116) .skip (.exit 4))) (.seq (.block 5 (regOf Try.f25 17)) (regOf Try.f25 16))) := by kernel_rfl
theorem loop25_6 : loopOf Try.f25 6 = (.seq (.seq (regOf Try.f25 19) (.cond (.tmp 155) .skip (.exit 6))) (.seq (.block 7 (regOf Try.f25 21)) (regOf Try.f25 20))) := by kernel_rfl
theorem loop25_8 : loopOf Try.f25 8 = (.seq (regOf Try.f25 24) (.seq (.cond (.tmp 176) .skip (.exit 8)) (.seq (.block 9 (.seq (regOf Try.f25 25) (.seq (regOf Try.f25 26) (.seq (regOf Try.f25 27) (.seq (regOf Try.f25 28) (.block 10 (.loop (loopOf Try.f25 10)))))))) (regOf Try.f25 32)))) := by kernel_rfl
theorem loop25_10 : loopOf Try.f25 10 = (.seq (.seq (regOf Try.f25 29) (.cond (.tmp 219) .skip (.exit 10))) (.seq (.block 11 (regOf Try.f25 31)) (regOf Try.f25 30))) := by kernel_rfl
theorem loop25_12 : loopOf Try.f25 12 = (.seq (regOf Try.f25 34) (.seq (.cond (.tmp 240) .skip (.exit 12)) (.seq (.block 13 (.seq (regOf Try.f25 35) (.seq (regOf Try.f25 36) (regOf Try.f25 37)))) (regOf Try.f25 38)))) := by kernel_rfl
theorem loop25_14 : loopOf Try.f25 14 = (.seq (regOf Try.f25 40) (.seq (.cond (.tmp 273) .skip (.exit 14)) (.seq (.block 15 (.seq (regOf Try.f25 41) (.seq (regOf Try.f25 42) (regOf Try.f25 43)))) (regOf Try.f25 44)))) := by kernel_rfl
theorem body26 : Try.f26.body = some (.seq (regOf Try.f26 0) (.seq (regOf Try.f26 1) (.seq (.seq (regOf Try.f26 2) (.block 0 (.loop (loopOf Try.f26 0)))) (.seq (regOf Try.f26 10) .ret)))) := by kernel_rfl
theorem loop26_0 : loopOf Try.f26 0 = (.seq (regOf Try.f26 3) (.seq (.cond (.tmp 15) .skip (.exit 0)) (.seq (.block 1 (.seq (regOf Try.f26 4) (.seq (regOf Try.f26 5) (.seq (regOf Try.f26 6) (.cond (.tmp 29) (.seq (regOf Try.f26 7) (regOf Try.f26 8)) .skip))))) (regOf Try.f26 9)))) := by kernel_rfl
theorem body27 : Try.f27.body = some (.seq (regOf Try.f27 0) (.seq (regOf Try.f27 1) (.seq (regOf Try.f27 2) (.seq (regOf Try.f27 3) (.seq (regOf Try.f27 4) .ret))))) := by kernel_rfl
theorem body28 : Try.f28.body = some (.seq (regOf Try.f28 0) (.seq (.seq (regOf Try.f28 1) (.block 0 (.loop (loopOf Try.f28 0)))) (.seq (regOf Try.f28 7) .ret))) := by kernel_rfl
theorem loop28_0 : loopOf Try.f28 0 = (.seq (regOf Try.f28 2) (.seq (.cond (.tmp 9) .skip (.exit 0)) (.seq (.block 1 (.seq (regOf Try.f28 3) (.seq (regOf Try.f28 4) (.cond (.tmp 16) (.seq (regOf Try.f28 5) .ret) .skip)))) (regOf Try.f28 6)))) := by kernel_rfl
theorem body29 : Try.f29.body = some (.seq (regOf Try.f29 0) (.seq (regOf Try.f29 1) .ret)) := by kernel_rfl
theorem body30 : Try.f30.body = some (.seq (regOf Try.f30 0) (.seq (regOf Try.f30 1) .ret)) := by kernel_rfl
theorem body31 : Try.f31.body = some (.seq (regOf Try.f31 0) (.seq (regOf Try.f31 1) .ret)) := by kernel_rfl
theorem body32 : Try.f32.body = some (.seq (regOf Try.f32 0) (.seq (regOf Try.f32 1) (.seq (.seq (regOf Try.f32 2) (.seq (regOf Try.f32 3) (.cond (.tmp 16) (regOf Try.f32 4) .skip))) (.seq (.seq (regOf Try.f32 5) (.block 0 (.loop (loopOf Try.f32 0)))) (.seq (regOf Try.f32 10) .ret))))) := by kernel_rfl
theorem loop32_0 : loopOf Try.f32 0 = (.seq (regOf Try.f32 6) (.seq (.cond (.tmp 26) .skip (.exit 0)) (.seq (.block 1 (.seq (regOf Try.f32 7) (regOf Try.f32 8))) (regOf Try.f32 9)))) := by kernel_rfl
theorem body33 : Try.f33.body = some (.seq (regOf Try.f33 0) (.seq (regOf Try.f33 1) .ret)) := by kernel_rfl
theorem body34 : Try.f34.body = some (.seq (regOf Try.f34 0) (.seq (.seq (regOf Try.f34 1) (.block 0 (.loop (loopOf Try.f34 0)))) (.seq (regOf Try.f34 6) .ret))) := by kernel_rfl
theorem loop34_0 : loopOf Try.f34 0 = (.seq (.seq (regOf Try.f34 2) (.cond (.tmp 8) .skip (.exit 0))) (.seq (.block 1 (.seq (regOf Try.f34 4) (.cond (.tmp 21) (.seq (regOf Try.f34 5) .ret) .skip))) (regOf Try.f34 3))) := by kernel_rfl
theorem body35 : Try.f35.body = some (.seq (regOf Try.f35 0) (.seq (.seq (regOf Try.f35 1) (.cond (.tmp 12) (.seq (regOf Try.f35 2) .ret) .skip)) (.seq (.seq (regOf Try.f35 3) (.block 0 (.loop (loopOf Try.f35 0)))) (.seq (regOf Try.f35 8) .ret)))) := by kernel_rfl
theorem loop35_0 : loopOf Try.f35 0 = (.seq (.seq (regOf Try.f35 4) (.cond (.tmp 17) .skip (.exit 0))) (.seq (.block 1 (.seq (regOf Try.f35 6) (.cond (.tmp 27) (.seq (regOf Try.f35 7) .ret) .skip))) (regOf Try.f35 5))) := by kernel_rfl
theorem body36 : Try.f36.body = some (.seq (regOf Try.f36 0) (.seq (.seq (regOf Try.f36 1) (.cond (.tmp 14) (.seq (regOf Try.f36 2) .ret) .skip)) (.seq (regOf Try.f36 3) (.seq (.seq (regOf Try.f36 4) (.block 0 (.loop (loopOf Try.f36 0)))) (.seq (regOf Try.f36 10) .ret))))) := by kernel_rfl
theorem loop36_0 : loopOf Try.f36 0 = (.seq (regOf Try.f36 5) (.seq (.cond (.tmp 30) .skip (.exit 0)) (.seq (.block 1 (.seq (regOf Try.f36 6) (.seq (regOf Try.f36 7) (.cond (.tmp 33) (regOf Try.f36 8) .skip)))) (regOf Try.f36 9)))) := by kernel_rfl
theorem body37 : Try.f37.body = some (.seq (regOf Try.f37 0) (.seq (regOf Try.f37 1) (.seq (regOf Try.f37 2) (.seq (.seq (regOf Try.f37 3) (.block 0 (.loop (loopOf Try.f37 0)))) (.seq (regOf Try.f37 7) .ret))))) := by kernel_rfl
theorem loop37_0 : loopOf Try.f37 0 = (.seq (regOf Try.f37 4) (.seq (.cond (.tmp 18) .skip (.exit 0)) (.block 1 (.seq (regOf Try.f37 5) (regOf Try.f37 6))))) := by kernel_rfl
theorem body38 : Try.f38.body = some (.seq (regOf Try.f38 0) (.seq (.seq (regOf Try.f38 1) (.seq (regOf Try.f38 2) (.cond (.tmp 16) (.seq (regOf Try.f38 3) .ret) .skip))) (.seq (regOf Try.f38 4) (.seq (.seq (regOf Try.f38 5) (.block 0 (.loop (loopOf Try.f38 0)))) (.seq (regOf Try.f38 10) (.seq (regOf Try.f38 11) .ret)))))) := by kernel_rfl
theorem loop38_0 : loopOf Try.f38 0 = (.seq (regOf Try.f38 6) (.seq (.cond (.tmp 32) .skip (.exit 0)) (.seq (.block 1 (.seq (regOf Try.f38 7) (regOf Try.f38 8))) (regOf Try.f38 9)))) := by kernel_rfl
theorem body39 : Try.f39.body = some (.seq (regOf Try.f39 0) (.seq (.seq (regOf Try.f39 1) (.block 0 (.loop (loopOf Try.f39 0)))) (.seq (regOf Try.f39 6) .ret))) := by kernel_rfl
theorem loop39_0 : loopOf Try.f39 0 = (.seq (.seq (regOf Try.f39 2) (.cond (.tmp 9) .skip (.exit 0))) (.seq (.block 1 (.seq (regOf Try.f39 4) (.cond (.tmp 17) (.seq (regOf Try.f39 5) .ret) .skip))) (regOf Try.f39 3))) := by kernel_rfl
theorem body40 : Try.f40.body = some (.seq (regOf Try.f40 0) (.seq (.seq (regOf Try.f40 1) (.block 0 (.loop (loopOf Try.f40 0)))) (.seq (.seq (regOf Try.f40 7) (.block 2 (.loop (loopOf Try.f40 2)))) (.seq (regOf Try.f40 13) .ret)))) := by kernel_rfl
theorem loop40_0 : loopOf Try.f40 0 = (.seq (regOf Try.f40 2) (.seq (.cond (.tmp 10) .skip (.exit 0)) (.seq (.block 1 (.seq (regOf Try.f40 3) (.seq (regOf Try.f40 4) (.cond (.tmp 41) (.seq (regOf Try.f40 5) .ret) .skip)))) (regOf Try.f40 6)))) := by kernel_rfl
theorem loop40_2 : loopOf Try.f40 2 = (.seq (regOf Try.f40 8) (.seq (.cond (.tmp 47) .skip (.exit 2)) (.seq (.block 3 (.seq (regOf Try.f40 9) (.seq (regOf Try.f40 10) (.cond (.tmp 55) (.seq (regOf Try.f40 11) .ret) .skip)))) (regOf Try.f40 12)))) := by kernel_rfl
theorem body41 : Try.f41.body = some (.seq (regOf Try.f41 0) (.seq (regOf Try.f41 1) (.seq (.seq (regOf Try.f41 2) (.block 0 (.loop (loopOf Try.f41 0)))) (.seq (regOf Try.f41 6) .ret)))) := by kernel_rfl
theorem loop41_0 : loopOf Try.f41 0 = (.seq (.seq (regOf Try.f41 3) (.cond (.tmp 12) .skip (.exit 0))) (.seq (.block 1 (regOf Try.f41 5)) (regOf Try.f41 4))) := by kernel_rfl
theorem body42 : Try.f42.body = some (.seq (regOf Try.f42 0) (.seq (.seq (regOf Try.f42 1) (.block 0 (.seq (regOf Try.f42 2) (.cond (.tmp 9) (.seq (regOf Try.f42 3) .ret) (.seq (regOf Try.f42 4) (.cond (.tmp 11) (.seq (regOf Try.f42 5) .ret) .skip)))))) (.seq (regOf Try.f42 6) (.seq (.seq (regOf Try.f42 7) (.cond (.tmp 25) (.seq (regOf Try.f42 8) .ret) .skip)) (.seq (regOf Try.f42 9) (.seq (regOf Try.f42 10) .ret)))))) := by kernel_rfl
theorem body43 : Try.f43.body = some (.seq (regOf Try.f43 0) (.seq (.seq (regOf Try.f43 1) (.block 0 (.loop (loopOf Try.f43 0)))) (.seq (regOf Try.f43 7) .ret))) := by kernel_rfl
theorem loop43_0 : loopOf Try.f43 0 = (.seq (regOf Try.f43 2) (.seq (.cond (.tmp 9) .skip (.exit 0)) (.seq (.block 1 (.seq (regOf Try.f43 3) (.seq (regOf Try.f43 4) (.cond (.tmp 16) (.seq (regOf Try.f43 5) .ret) .skip)))) (regOf Try.f43 6)))) := by kernel_rfl
theorem body44 : Try.f44.body = some (.seq (regOf Try.f44 0) (.seq (regOf Try.f44 1) (.seq (regOf Try.f44 2) .ret))) := by kernel_rfl
theorem body45 : Try.f45.body = some (.seq (regOf Try.f45 0) (.seq (.seq (regOf Try.f45 1) (.block 0 (.loop (loopOf Try.f45 0)))) (.seq (regOf Try.f45 6) .ret))) := by kernel_rfl
theorem loop45_0 : loopOf Try.f45 0 = (.seq (.seq (regOf Try.f45 2) (.cond (.tmp 9) .skip (.exit 0))) (.seq (.block 1 (.seq (regOf Try.f45 4) (.cond (.tmp 29) (.seq (regOf Try.f45 5) .ret) .skip))) (regOf Try.f45 3))) := by kernel_rfl
theorem body46 : Try.f46.body = some (.seq (regOf Try.f46 0) (.seq (regOf Try.f46 1) (.seq (.seq (regOf Try.f46 2) (.cond (.tmp 18) (.seq (regOf Try.f46 3) .ret) .skip)) (.seq (regOf Try.f46 4) (.seq (.seq (regOf Try.f46 5) (.cond (.tmp 31) (.seq (.seq (regOf Try.f46 6) (.block 0 (.loop (loopOf Try.f46 0)))) (.seq (regOf Try.f46 11) .ret)) .skip)) (.seq (regOf Try.f46 12) (.seq (regOf Try.f46 13) (.seq (.seq (regOf Try.f46 14) (.block 2 (.loop (loopOf Try.f46 2)))) (.seq (regOf Try.f46 21) .ret))))))))) := by kernel_rfl
theorem loop46_0 : loopOf Try.f46 0 = (.seq (regOf Try.f46 7) (.seq (.cond (.tmp 36) .skip (.exit 0)) (.seq (.block 1 (.seq (regOf Try.f46 8) (regOf Try.f46 9))) (regOf Try.f46 10)))) := by kernel_rfl
theorem loop46_2 : loopOf Try.f46 2 = (.seq (regOf Try.f46 15) (.seq (.cond (.tmp 55) .skip (.exit 2)) (.block 3 (.seq (regOf Try.f46 16) (.seq (regOf Try.f46 17) (.seq (.seq (regOf Try.f46 18) (.cond (.tmp 70) (.seq (regOf Try.f46 19) (.exit 3)) .skip)) (regOf Try.f46 20))))))) := by kernel_rfl
theorem body47 : Try.f47.body = some (.seq (regOf Try.f47 0) (.seq (regOf Try.f47 1) .ret)) := by kernel_rfl
theorem body48 : Try.f48.body = some (.seq (regOf Try.f48 0) (.seq (.seq (regOf Try.f48 1) (.cond (.tmp 13) (.seq (regOf Try.f48 2) (.seq (regOf Try.f48 3) (.cond (.tmp 25) (.seq (regOf Try.f48 4) .ret) .skip))) .skip)) (.seq (.seq (regOf Try.f48 5) (.cond (.tmp 33) (.seq (regOf Try.f48 6) .ret) .skip)) (.seq (regOf Try.f48 7) (.seq (.seq (regOf Try.f48 8) (.block 0 (.loop (loopOf Try.f48 0)))) (.seq (regOf Try.f48 13) (.seq (regOf Try.f48 14) .ret))))))) := by kernel_rfl
theorem loop48_0 : loopOf Try.f48 0 = (.seq (regOf Try.f48 9) (.seq (.cond (.tmp 43) .skip (.exit 0)) (.seq (.block 1 (.seq (regOf Try.f48 10) (regOf Try.f48 11))) (regOf Try.f48 12)))) := by kernel_rfl
theorem body49 : Try.f49.body = some (.seq (regOf Try.f49 0) (.seq (.seq (regOf Try.f49 1) (.cond (.tmp 4) (.seq (regOf Try.f49 2) .ret) .skip)) (.seq (regOf Try.f49 3) .ret))) := by kernel_rfl
theorem body50 : Try.f50.body = some (.seq (regOf Try.f50 0) (.seq (regOf Try.f50 1) (.seq (regOf Try.f50 2) (.block 0 (.loop (loopOf Try.f50 0)))))) := by kernel_rfl
theorem loop50_0 : loopOf Try.f50 0 = (.seq (regOf Try.f50 3) (.seq (.cond (.tmp 24) .skip (.exit 0)) (.block 1 (.seq (regOf Try.f50 4) (regOf Try.f50 5))))) := by kernel_rfl
theorem body51 : Try.f51.body = some (.seq (regOf Try.f51 0) (.seq (.seq (regOf Try.f51 1) (.seq (regOf Try.f51 2) (.cond (.tmp 18) (.seq (regOf Try.f51 3) .ret) .skip))) (.seq (regOf Try.f51 4) (.seq (regOf Try.f51 5) (.seq (regOf Try.f51 6) .ret))))) := by kernel_rfl
theorem body52 : Try.f52.body = some (.seq (regOf Try.f52 0) (.seq (regOf Try.f52 1) .ret)) := by kernel_rfl
theorem body53 : Try.f53.body = some (.seq (regOf Try.f53 0) (.seq (regOf Try.f53 1) .ret)) := by kernel_rfl
theorem ok3 : fnOk Try.prog md fg 3 = true := by kernel_rfl
theorem ok4 : fnOk Try.prog md fg 4 = true := by kernel_rfl
theorem ok5 : fnOk Try.prog md fg 5 = true := by kernel_rfl
theorem ok6 : fnOk Try.prog md fg 6 = true := by kernel_rfl
theorem ok7 : fnOk Try.prog md fg 7 = true := by kernel_rfl
theorem ok8 : fnOk Try.prog md fg 8 = true := by kernel_rfl
theorem ok9 : fnOk Try.prog md fg 9 = true := by kernel_rfl
theorem ok10 : fnOk Try.prog md fg 10 = true := by kernel_rfl
theorem ok11 : fnOk Try.prog md fg 11 = true := by kernel_rfl
theorem ok12 : fnOk Try.prog md fg 12 = true := by kernel_rfl
theorem ok13 : fnOk Try.prog md fg 13 = true := by kernel_rfl
theorem ok14 : fnOk Try.prog md fg 14 = true := by kernel_rfl
theorem ok15 : fnOk Try.prog md fg 15 = true := by kernel_rfl
theorem ok16 : fnOk Try.prog md fg 16 = true := by kernel_rfl
theorem ok17 : fnOk Try.prog md fg 17 = true := by kernel_rfl
theorem ok18 : fnOk Try.prog md fg 18 = true := by kernel_rfl
theorem ok19 : fnOk Try.prog md fg 19 = true := by kernel_rfl
theorem ok20 : fnOk Try.prog md fg 20 = true := by kernel_rfl
theorem ok21 : fnOk Try.prog md fg 21 = true := by kernel_rfl
theorem ok22 : fnOk Try.prog md fg 22 = true := by kernel_rfl
theorem ok23 : fnOk Try.prog md fg 23 = true := by kernel_rfl
theorem ok24 : fnOk Try.prog md fg 24 = true := by kernel_rfl
theorem ok25 : fnOk Try.prog md fg 25 = true := by kernel_rfl
theorem ok26 : fnOk Try.prog md fg 26 = true := by kernel_rfl
theorem ok27 : fnOk Try.prog md fg 27 = true := by kernel_rfl
theorem ok28 : fnOk Try.prog md fg 28 = true := by kernel_rfl
theorem ok29 : fnOk Try.prog md fg 29 = true := by kernel_rfl
theorem ok30 : fnOk Try.prog md fg 30 = true := by kernel_rfl
theorem ok31 : fnOk Try.prog md fg 31 = true := by kernel_rfl
theorem ok32 : fnOk Try.prog md fg 32 = true := by kernel_rfl
theorem ok33 : fnOk Try.prog md fg 33 = true := by kernel_rfl
theorem ok34 : fnOk Try.prog md fg 34 = true := by kernel_rfl
theorem ok35 : fnOk Try.prog md fg 35 = true := by kernel_rfl
theorem ok36 : fnOk Try.prog md fg 36 = true := by kernel_rfl
theorem ok37 : fnOk Try.prog md fg 37 = true := by kernel_rfl
theorem ok38 : fnOk Try.prog md fg 38 = true := by kernel_rfl
theorem ok39 : fnOk Try.prog md fg 39 = true := by kernel_rfl
theorem ok40 : fnOk Try.prog md fg 40 = true := by kernel_rfl
theorem ok41 : fnOk Try.prog md fg 41 = true := by kernel_rfl
theorem ok42 : fnOk Try.prog md fg 42 = true := by kernel_rfl
theorem ok43 : fnOk Try.prog md fg 43 = true := by kernel_rfl
theorem ok44 : fnOk Try.prog md fg 44 = true := by kernel_rfl
theorem ok45 : fnOk Try.prog md fg 45 = true := by kernel_rfl
theorem ok46 : fnOk Try.prog md fg 46 = true := by kernel_rfl
theorem ok47 : fnOk Try.prog md fg 47 = true := by kernel_rfl
theorem ok48 : fnOk Try.prog md fg 48 = true := by kernel_rfl
theorem ok49 : fnOk Try.prog md fg 49 = true := by kernel_rfl
theorem ok50 : fnOk Try.prog md fg 50 = true := by kernel_rfl
theorem ok51 : fnOk Try.prog md fg 51 = true := by kernel_rfl
theorem ok52 : fnOk Try.prog md fg 52 = true := by kernel_rfl
theorem ok53 : fnOk Try.prog md fg 53 = true := by kernel_rfl
theorem aval_of {f : FuncId} {fn : Func} {c : Code} {rs : Array ResultVar} {nt : Nat} (hf : Try.prog.funcs[f]? = some fn) (hb : fn.body = some c) (hr : fn.results = rs) (hn : fn.ntmps = nt) (hok : fnOk Try.prog md fg f = true) (args : List AV) (h : AHeap) :
    aval Try.prog md fg f args h = finish Try.prog rs.toList (arun Try.prog md fg (fg f) c [] (env0 nt args) h) := aval_eq hf hb hr hn hok args h
/-- The functions that are reckoned. -/
def known : List FuncId := [3, 4, 5, 6, 7, 8, 9, 10, 11, 12, 13, 14, 15, 16, 17, 18, 19, 20, 21, 22, 23, 24, 25, 26, 27, 28, 29, 30, 31, 32, 33, 34, 35, 36, 37, 38, 39, 40, 41, 42, 43, 44, 45, 46, 47, 48, 49, 50, 51, 52, 53]
def knows (f : FuncId) : Bool := known.contains f
theorem okKnown : okAll Try.prog md fg knows := by
  have h : known.all (fun f => fnOk Try.prog md fg f) = true := by kernel_rfl
  intro f hf
  exact List.all_eq_true.1 h f (by simpa [knows] using hf)
end Go.Proofs.Ytgijlgdhogbgbaa
