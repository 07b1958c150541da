/- Parts of the proof, each with its own heading: What the engine must know of the functions of a seat: which slots outlive a region, bodies by the numbers of their regions, types. Printed by wip/tools. -/
import Derived.Test.YtfloombnadnmaaaDoorPart7
import Derived.Test.YtfloombnadnmaaaDoorChecked
set_option linter.unusedSimpArgs false
set_option linter.unusedVariables false
namespace Go.Proofs.YtfloombnadnmaaaDoor
open Go Go.Ab Go.Proofs
set_option maxRecDepth 20000
/-- How functions are called: by value; 1 by reference; 2 the same, to read; 5 with a slice that may be nil. -/
def md : FuncId → Nat
  | 22 => 1
  | 24 => 1
  | 25 => 1
  | 26 => 1
  | 34 => 1
  | 35 => 1
  | 36 => 1
  | 37 => 1
  | 38 => 1
  | 40 => 1
  | 41 => 1
  | 42 => 1
  | 43 => 1
  | 44 => 1
  | 45 => 1
  | 46 => 1
  | 48 => 1
  | 49 => 1
  | 68 => 1
  | 69 => 1
  | 72 => 1
  | _ => 0
theorem md3 : md 3 = 0 := rfl
theorem md4 : md 4 = 0 := rfl
theorem md5 : md 5 = 0 := rfl
theorem md6 : md 6 = 0 := rfl
theorem md7 : md 7 = 0 := rfl
theorem md8 : md 8 = 0 := rfl
theorem md9 : md 9 = 0 := rfl
theorem md10 : md 10 = 0 := rfl
theorem md11 : md 11 = 0 := rfl
theorem md12 : md 12 = 0 := rfl
theorem md13 : md 13 = 0 := rfl
theorem md14 : md 14 = 0 := rfl
theorem md15 : md 15 = 0 := rfl
theorem md16 : md 16 = 0 := rfl
theorem md17 : md 17 = 0 := rfl
theorem md18 : md 18 = 0 := rfl
theorem md19 : md 19 = 0 := rfl
theorem md20 : md 20 = 0 := rfl
theorem md21 : md 21 = 0 := rfl
theorem md22 : md 22 = 1 := rfl
theorem md23 : md 23 = 0 := rfl
theorem md24 : md 24 = 1 := rfl
theorem md25 : md 25 = 1 := rfl
theorem md26 : md 26 = 1 := rfl
theorem md27 : md 27 = 0 := rfl
theorem md28 : md 28 = 0 := rfl
theorem md29 : md 29 = 0 := rfl
theorem md30 : md 30 = 0 := rfl
theorem md31 : md 31 = 0 := rfl
theorem md32 : md 32 = 0 := rfl
theorem md33 : md 33 = 0 := rfl
theorem md34 : md 34 = 1 := rfl
theorem md35 : md 35 = 1 := rfl
theorem md36 : md 36 = 1 := rfl
theorem md37 : md 37 = 1 := rfl
theorem md38 : md 38 = 1 := rfl
theorem md39 : md 39 = 0 := rfl
theorem md40 : md 40 = 1 := rfl
theorem md41 : md 41 = 1 := rfl
theorem md42 : md 42 = 1 := rfl
theorem md43 : md 43 = 1 := rfl
theorem md44 : md 44 = 1 := rfl
theorem md45 : md 45 = 1 := rfl
theorem md46 : md 46 = 1 := rfl
theorem md47 : md 47 = 0 := rfl
theorem md48 : md 48 = 1 := rfl
theorem md49 : md 49 = 1 := rfl
theorem md50 : md 50 = 0 := rfl
theorem md51 : md 51 = 0 := rfl
theorem md52 : md 52 = 0 := rfl
theorem md53 : md 53 = 0 := rfl
theorem md54 : md 54 = 0 := rfl
theorem md55 : md 55 = 0 := rfl
theorem md56 : md 56 = 0 := rfl
theorem md57 : md 57 = 0 := rfl
theorem md58 : md 58 = 0 := rfl
theorem md59 : md 59 = 0 := rfl
theorem md60 : md 60 = 0 := rfl
theorem md61 : md 61 = 0 := rfl
theorem md62 : md 62 = 0 := rfl
theorem md63 : md 63 = 0 := rfl
theorem md64 : md 64 = 0 := rfl
theorem md65 : md 65 = 0 := rfl
theorem md66 : md 66 = 0 := rfl
theorem md67 : md 67 = 0 := rfl
theorem md68 : md 68 = 1 := rfl
theorem md69 : md 69 = 1 := rfl
theorem md70 : md 70 = 0 := rfl
theorem md71 : md 71 = 0 := rfl
theorem md72 : md 72 = 1 := rfl
theorem md73 : md 73 = 0 := rfl
theorem md74 : md 74 = 0 := rfl
theorem md75 : md 75 = 0 := rfl
theorem md76 : md 76 = 0 := rfl
theorem md78 : md 78 = 0 := rfl
theorem md79 : md 79 = 0 := rfl
theorem md80 : md 80 = 0 := rfl
theorem md81 : md 81 = 0 := rfl
theorem md83 : md 83 = 0 := rfl
theorem md106 : md 106 = 0 := rfl
/-- Which slots outlive a region, and a round of a loop. -/
def fg : FuncId → Nat → List Bool
  | 5, 0 => [false, true, true, true, true, true, true, true, false, false, false, false, false, false, false, false, false, false, false, false, false, false, false, false, false, false, false, false, false, false, false, false, true, false, false, false, false, false, false, false, false, false, false, false, false, false, false, false, false, false, false, false, true, false, false, false, false, false, false, false, false, false, false, false, false, false, false, false, false, false, false, false, false, false, false, false, false, false]
  | 5, 1 => [false, true, false, true, true, false, false, false, false, false, false, false, false, false, false, false, false, false, false, false, false, false, false, false, false, false, false, false, false, false, false, false, false, false, false, false, false, false, false, false, false, false, false, false, false, false, false, false, false, false, false, false, false, false, false, false, false, false, false, false, false, false, false, false, false, false, false, false, false, false, false, false, false, false, false, false, false, false]
  | 17, 0 => [false, true, true, true, false, true, true, false, false, false, false, false, false, false, false, false, false, false, false, false, false, false, false, false, false, false, false, false, false, false, false, false, false, false, false, false, false, false, false, false, true, true, true, true, false, false, false, false, false, false, false, false, false, false, false, false, false, false, false, false, false, false, false, false, false, false, false, false, false, false, false, false, false, false, false, false, true, false, false, false, false, false, false, false, false, false, false, false, false, false, false, false, false, false, false, false, false, false, false, false, false]
  | 17, 1 => [false, true, false, true, false, false, false, false, false, false, false, false, false, false, false, false, false, false, false, false, false, false, false, false, false, false, false, false, false, false, false, false, false, false, false, false, false, false, false, false, true, true, true, false, false, false, false, false, false, false, false, false, false, false, false, false, false, false, false, false, false, false, false, false, false, false, false, false, false, false, false, false, false, false, false, false, false, false, false, false, false, false, false, false, false, false, false, false, false, false, false, false, false, false, false, false, false, false, false, false, false]
  | 18, 0 => [true, false, true, true, true, true, true, true, false, false, false, false, false, false, false, false, false, false, false, false, false, false, false, false, false, false, false, false, false, false, false, false, false, false, false, false, false, false, true, true, true, false, false, true, false, false, false, false, false, false, false, false, false, false, false, false, false, false, false, false, false, false, false, false, false, false, false, false, false, false, false, false, false, false, false, false, false, false, false, false, false, false, false, false, false, false, false, false, false, false, false, false, false, false, false, false, false, false, false, false, false, false, false, false, false, false, false, true, false, false]
  | 18, 1 => [true, false, true, false, true, true, false, false, false, false, false, false, false, false, false, false, false, false, false, false, false, false, false, false, false, false, false, false, false, false, false, false, false, false, false, false, false, false, true, true, false, false, false, false, false, false, false, false, false, false, false, false, false, false, false, false, false, false, false, false, false, false, false, false, false, false, false, false, false, false, false, false, false, false, false, false, false, false, false, false, false, false, false, false, false, false, false, false, false, false, false, false, false, false, false, false, false, false, false, false, false, false, false, false, false, false, false, false, false, false]
  | 19, 0 => [false, true, true, true, true, false, false, false, false, false, false, false, false, false, false, false, false, false, false, false, false, false, false, false, false, false, false, false, false, false, false, false, false, false, false, false, false, false, false, false, true, false, false, false, false, false, false, false, false, false, false, false, false, false, false, false, false, false, false, false, false, false, false, false, false, false, false, false, false, false, false, false, false, false, false, false, false, false, false, false, false, false, false, false, false, true, false, false, false, false, false, false, false, false, false, false, false, false, false, false, false, false, false, false, false, false, false, false, false, false, false, false, false]
  | 19, 1 => [false, true, false, true, true, false, false, false, false, false, false, false, false, false, false, false, false, false, false, false, false, false, false, false, false, false, false, false, false, false, false, false, false, false, false, false, false, false, false, false, false, false, false, false, false, false, false, false, false, false, false, false, false, false, false, false, false, false, false, false, false, false, false, false, false, false, false, false, false, false, false, false, false, false, false, false, false, false, false, false, false, false, false, false, false, false, false, false, false, false, false, false, false, false, false, false, false, false, false, false, false, false, false, false, false, false, false, false, false, false, false, false, false]
  | 20, 0 => [false, false, true, true, true, true, false, false, false, false, false, false, false, false, false, false, false, false, false, false, false, false, false, false, false, false, false, false, false, false, false, false, false, false, false, false, false, false, false, false, false, false, false, false, false, false, false, false, false, false, false, false, false, false, false, false, false, false, false, false, false, true, false, false, false, false, true, false, false, false, false, false, false, false, false, false, false, false, false]
  | 20, 1 => [false, false, true, true, true, true, false, false, false, false, false, false, false, false, false, false, false, false, false, false, false, false, false, false, false, false, false, false, false, false, false, false, false, false, false, false, false, false, false, false, false, false, false, false, false, false, false, false, false, false, false, false, false, false, false, false, false, false, false, false, false, false, false, false, false, false, false, false, false, false, false, false, false, false, false, false, false, false, false, false]
  | 21, 0 => [true, false, true, true, true, true, true, true, true, true, false, false, false, false, false, false, false, false, false, false, false, false, false, false, false, false, false, false, false, false, false, false, false, false, false, false, false, false, false, false, false, false, false, false, false, false, true, false, false, false, false, false, false, false, false, false, false, false, false, false, false, false, false, false, false, false, false, false, false, false, false, false, false, false, false, false, false, false, false, false, false, false, false, false, false, false, false, false, false, false, false, false, false, false, false, false, false, false, false, false, false, false, false, false, false, false, false, false, true, false, false]
  | 21, 1 => [false, false, true, false, true, true, true, true, false, false, false, false, false, false, false, false, false, false, false, false, false, false, false, false, false, false, false, false, false, false, false, false, false, false, false, false, false, false, false, false, false, false, false, false, false, false, false, false, false, false, false, false, false, false, false, false, false, false, false, false, false, false, false, false, false, false, false, false, false, false, false, false, false, false, false, false, false, false, false, false, false, false, false, false, false, false, false, false, false, false, false, false, false, false, false, false, false, false, false, false, false, false, false, false, false, false, false, false, false, false, false]
  | 25, 0 => [true, true, false, false, false, true, false, true, true, true, true, true, false, false, false, false, false, false, false, false, false, false, false, false, false, false, false, false, false, false]
  | 25, 1 => [true, false, false, false, false, false, false, false, true, true, true, false, false, false, false, false, false, false, false, false, false, false, false, false, false, false, false, false, false, false]
  | 43, 0 => [true, false, false, false, false, true, true, true, true, true, false, false, false, false, false, false, false, false]
  | 43, 1 => [true, false, false, false, false, false, true, true, true, false, false, false, false, false, false, false, false, false]
  | 49, 0 => [true, true, false, false, false, true, false, true, true, true, true, true, false, false, false, false, false, false, false, false, false, false, false, false, false]
  | 49, 1 => [true, false, false, false, false, false, false, false, true, true, true, false, false, false, false, false, false, false, false, false, false, false, false, false, false]
  | 50, 0 => [true, false, true, true, false, true, false, false, false, false, false, false, false, false, false, false, false, false, false, false, false, false]
  | 50, 1 => [true, false, false, true, false, false, false, false, false, false, false, false, false, false, false, false, false, false, false, false, false, false]
  | 53, 0 => [true, false, true, true, true, false, false, false, true, false, false, false, false, false, false, false, false, false, false, false, false, false, false, false, false, false, false, false, false, false, false, false, false, false, false, false, false, false, false, true, false, false, false, false, false, false, false, false]
  | 53, 1 => [true, false, true, true, false, false, false, false, false, false, false, false, false, false, false, false, false, false, false, false, false, false, false, false, false, false, false, false, false, false, false, false, false, false, false, false, false, false, false, false, false, false, false, false, false, false, false, false]
  | 55, 0 => [true, false, true, true, true, true, true, false, false, false, false, false, false, false, false, false, false, false, false, false, true, false, false, false, false, false, false, false, false, false, true, false, false, true, false, false, false, false, false, false, false, false, false, false, false, false, false, false, false, false, true, false, false, false]
  | 55, 1 => [true, false, false, false, true, false, false, false, false, false, false, false, false, false, false, false, false, false, false, false, false, false, false, false, false, false, false, false, false, false, false, false, false, false, false, false, false, false, false, false, false, false, false, false, false, false, false, false, false, false, false, false, false, false]
  | 55, 3 => [true, false, false, false, true, true, true, false, false, false, false, false, false, false, false, false, false, false, false, false, false, false, false, false, false, false, false, false, false, false, false, false, false, false, false, false, false, false, false, false, false, false, false, false, false, false, false, false, false, false, false, false, false, false]
  | 58, 0 => [true, false, true, true, true, true, true, false, false, true, true, true, false, false, false, false, false, false, false, false, false, false, false, false, false, false, false, false, false, true, false, false, false, false, false, false, false, false, false, true, false, false, false, false]
  | 58, 1 => [true, false, true, true, true, false, false, false, false, true, true, false, false, false, false, false, false, false, false, false, false, false, false, false, false, false, false, false, false, false, false, false, false, false, false, false, false, false, false, false, false, false, false, false]
  | 61, 0 => [true, false, true, true, false, true, false, false, false, false, false, false, false, false, false, false, false, false, false, false]
  | 61, 1 => [true, false, false, true, false, false, false, false, false, false, false, false, false, false, false, false, false, false, false, false]
  | 65, 0 => [true, true, false, false, true, false, false, false, false, false, false, false, false, true, false, false, false]
  | 65, 1 => [true, true, false, false, false, false, false, false, false, false, false, false, false, false, false, false, false]
  | 66, 0 => [true, true, false, false, true, false, false, false, false, false, false, false, false, false, false, false, true, false, false, false, false, false, false]
  | 66, 1 => [true, true, false, false, false, false, false, false, false, false, false, false, false, false, false, false, false, false, false, false, false, false, false]
  | 67, 0 => [true, false, true, true, true, true, false, false, false, true, false, false, false, false, false, false, true, false, false, false, false]
  | 67, 1 => [true, false, true, true, true, false, false, false, false, false, false, false, false, false, false, false, false, false, false, false, false]
  | 68, 0 => [true, true, false, false, true, false, false, true, false, false, false, false, true, false, false, false]
  | 68, 1 => [true, true, false, false, false, false, false, false, false, false, false, false, false, false, false, false]
  | 69, 0 => [true, true, false, false, true, false, false, true, false, false, false, false, false, false, false, true, false, false, false, false, false, false]
  | 69, 1 => [true, true, false, false, false, false, false, false, false, false, false, false, false, false, false, false, false, false, false, false, false, false]
  | 70, 0 => [true, true, false, false, true, true, true, false, false, true, false, false, false, false, false, false, false, false, true, false, false, false, false]
  | 70, 1 => [true, true, false, false, false, false, false, false, false, false, false, false, false, false, false, false, false, false, false, false, false, false, false]
  | 71, 0 => [true, true, false, false, true, true, true, false, false, true, false, false, false, false, false, false, false, true, false, false, false, false, false, false, false, false, true, false, false, false, false, false, false, false]
  | 71, 1 => [true, true, false, false, false, false, false, false, false, false, false, false, false, false, false, false, false, false, false, false, false, false, false, false, false, false, false, false, false, false, false, false, false, false]
  | 75, 0 => [true, false, true, true, true, true, true, false, false, false, true, false, false, false, false, false, false, false, true, false, false, false, false, false, false, false, false, true, false, false, false, false, false, true, false, true, false, false, false, false, false, false, false, false, false, false, false, false, true, false, false]
  | 75, 1 => [true, false, false, false, true, true, true, false, false, false, false, false, false, false, false, false, false, false, false, false, false, false, false, false, false, false, false, false, false, false, false, false, false, false, false, false, false, false, false, false, false, false, false, false, false, false, false, false, false, false, false]
  | 18, 100002 => [true]
  | 18, 100003 => [true]
  | 18, 100008 => [true]
  | 18, 100014 => [true]
  | 36, 100002 => [true]
  | 18, 200002 => [true, true, true, true, true, true, true, true, true, true, false, false, true, false, true, true, false, true, true, true, false, true, true, true, true, false, true, true, true, true, true, false, true, true, true, true, true, true, false, true, true, true, true, true, true, true, false, true, true, true, true, true, true, true, true, false, true, true, true, true, true, true, true, true, true, false, true, true, true, true, true, true, true, true, true, true, true, false]
  | 18, 300002 => [true]
  | 18, 1002001 => [false]
  | 18, 1002002 => [false]
  | 18, 1002004 => [false]
  | 18, 1002005 => [false]
  | 18, 1002007 => [false]
  | 18, 1002008 => [false]
  | 18, 200003 => [false, true, false, true, true, false, true, true, true, false, true, true, true, true, false, true, true, true, true, true, false, true, true, true, true, true, true, false, true, true, true, true, true, true, true, false, true, true, true, true, true, true, true, true, false, true, true, true, true, true, true, true, true, true, false, true, true, true, true, true, true, true, true, true, true, false, true, true, true, true, true, true, true, true, true, true, true, false]
  | 18, 200008 => [false, true, false, true, true, false, true, true, true, false, true, true, true, true, false, true, true, true, true, true, false, true, true, true, true, true, true, false, true, true, true, true, true, true, true, false, true, true, true, true, true, true, true, true, false, true, true, true, true, true, true, true, true, true, false, true, true, true, true, true, true, true, true, true, true, false, true, true, true, true, true, true, true, true, true, true, true, false, true, true, true, true, true, true, true, true, true, true, true, true, false, true, true, true, true, true, true, true, true, true, true, true, true, true, false, true, true, true, true, true, true, true, true, true, true, true, true, true, true, false, true, true, true, true, true, true, true, true, true, true, true, true, true, true, true, false, true, true, true, true, true, true, true, true, true, true, true, true, true, true, true, true, false, true, true, true, true, true, true, true, true, true, true, true, true, true, true, true, true, true, false]
  | 18, 200014 => [false, true, false, true, true, false, true, true, true, false, true, true, true, true, false, true, true, true, true, true, false, true, true, true, true, true, true, false, true, true, true, true, true, true, true, false, true, true, true, true, true, true, true, true, false, true, true, true, true, true, true, true, true, true, false, true, true, true, true, true, true, true, true, true, true, false, true, true, true, true, true, true, true, true, true, true, true, false, true, true, true, true, true, true, true, true, true, true, true, true, false, true, true, true, true, true, true, true, true, true, true, true, true, true, false, true, true, true, true, true, true, true, true, true, true, true, true, true, true, false]
  | 36, 200002 => [false, true, false, true, true, false, true, true, true, false, true, true, true, true, false, true, true, true, true, true, false, true, true, true, true, true, true, false, true, true, true, true, true, true, true, false, true, true, true, true, true, true, true, true, false, true, true, true, true, true, true, true, true, true, false, true, true, true, true, true, true, true, true, true, true, false, true, true, true, true, true, true, true, true, true, true, true, false, true, true, true, true, true, true, true, true, true, true, true, true, false, true, true, true, true, true, true, true, true, true, true, true, true, true, false, true, true, true, true, true, true, true, true, true, true, true, true, true, true, false]
  | _, _ => []
theorem fg_3_0 (e : Env) : mask (fg 3 0) e = mask [] e := rfl
theorem fg_4_0 (e : Env) : mask (fg 4 0) e = mask [] e := rfl
theorem fg_5_0 (e : Env) : mask (fg 5 0) e = mask [false, true, true, true, true, true, true, true, false, false, false, false, false, false, false, false, false, false, false, false, false, false, false, false, false, false, false, false, false, false, false, false, true, false, false, false, false, false, false, false, false, false, false, false, false, false, false, false, false, false, false, false, true, false, false, false, false, false, false, false, false, false, false, false, false, false, false, false, false, false, false, false, false, false, false, false, false, false] e := rfl
theorem fg_5_1 (e : Env) : mask (fg 5 1) e = mask [false, true, false, true, true, false, false, false, false, false, false, false, false, false, false, false, false, false, false, false, false, false, false, false, false, false, false, false, false, false, false, false, false, false, false, false, false, false, false, false, false, false, false, false, false, false, false, false, false, false, false, false, false, false, false, false, false, false, false, false, false, false, false, false, false, false, false, false, false, false, false, false, false, false, false, false, false, false] e := rfl
theorem fg_5_2 (e : Env) : mask (fg 5 2) e = mask [] e := rfl
theorem fg_6_0 (e : Env) : mask (fg 6 0) e = mask [] e := rfl
theorem fg_7_0 (e : Env) : mask (fg 7 0) e = mask [] e := rfl
theorem fg_8_0 (e : Env) : mask (fg 8 0) e = mask [] e := rfl
theorem fg_9_0 (e : Env) : mask (fg 9 0) e = mask [] e := rfl
theorem fg_10_0 (e : Env) : mask (fg 10 0) e = mask [] e := rfl
theorem fg_11_0 (e : Env) : mask (fg 11 0) e = mask [] e := rfl
theorem fg_12_0 (e : Env) : mask (fg 12 0) e = mask [] e := rfl
theorem fg_13_0 (e : Env) : mask (fg 13 0) e = mask [] e := rfl
theorem fg_13_1 (e : Env) : mask (fg 13 1) e = mask [] e := rfl
theorem fg_13_2 (e : Env) : mask (fg 13 2) e = mask [] e := rfl
theorem fg_13_3 (e : Env) : mask (fg 13 3) e = mask [] e := rfl
theorem fg_14_0 (e : Env) : mask (fg 14 0) e = mask [] e := rfl
theorem fg_15_0 (e : Env) : mask (fg 15 0) e = mask [] e := rfl
theorem fg_16_0 (e : Env) : mask (fg 16 0) e = mask [] e := rfl
theorem fg_17_0 (e : Env) : mask (fg 17 0) e = mask [false, true, true, true, false, true, true, false, false, false, false, false, false, false, false, false, false, false, false, false, false, false, false, false, false, false, false, false, false, false, false, false, false, false, false, false, false, false, false, false, true, true, true, true, false, false, false, false, false, false, false, false, false, false, false, false, false, false, false, false, false, false, false, false, false, false, false, false, false, false, false, false, false, false, false, false, true, false, false, false, false, false, false, false, false, false, false, false, false, false, false, false, false, false, false, false, false, false, false, false, false] e := rfl
theorem fg_17_1 (e : Env) : mask (fg 17 1) e = mask [false, true, false, true, false, false, false, false, false, false, false, false, false, false, false, false, false, false, false, false, false, false, false, false, false, false, false, false, false, false, false, false, false, false, false, false, false, false, false, false, true, true, true, false, false, false, false, false, false, false, false, false, false, false, false, false, false, false, false, false, false, false, false, false, false, false, false, false, false, false, false, false, false, false, false, false, false, false, false, false, false, false, false, false, false, false, false, false, false, false, false, false, false, false, false, false, false, false, false, false, false] e := rfl
theorem fg_17_2 (e : Env) : mask (fg 17 2) e = mask [] e := rfl
theorem fg_18_0 (e : Env) : mask (fg 18 0) e = mask [true, false, true, true, true, true, true, true, false, false, false, false, false, false, false, false, false, false, false, false, false, false, false, false, false, false, false, false, false, false, false, false, false, false, false, false, false, false, true, true, true, false, false, true, false, false, false, false, false, false, false, false, false, false, false, false, false, false, false, false, false, false, false, false, false, false, false, false, false, false, false, false, false, false, false, false, false, false, false, false, false, false, false, false, false, false, false, false, false, false, false, false, false, false, false, false, false, false, false, false, false, false, false, false, false, false, false, true, false, false] e := rfl
theorem fg_18_1 (e : Env) : mask (fg 18 1) e = mask [true, false, true, false, true, true, false, false, false, false, false, false, false, false, false, false, false, false, false, false, false, false, false, false, false, false, false, false, false, false, false, false, false, false, false, false, false, false, true, true, false, false, false, false, false, false, false, false, false, false, false, false, false, false, false, false, false, false, false, false, false, false, false, false, false, false, false, false, false, false, false, false, false, false, false, false, false, false, false, false, false, false, false, false, false, false, false, false, false, false, false, false, false, false, false, false, false, false, false, false, false, false, false, false, false, false, false, false, false, false] e := rfl
theorem fg_18_2 (e : Env) : mask (fg 18 2) e = mask [] e := rfl
theorem fg_19_0 (e : Env) : mask (fg 19 0) e = mask [false, true, true, true, true, false, false, false, false, false, false, false, false, false, false, false, false, false, false, false, false, false, false, false, false, false, false, false, false, false, false, false, false, false, false, false, false, false, false, false, true, false, false, false, false, false, false, false, false, false, false, false, false, false, false, false, false, false, false, false, false, false, false, false, false, false, false, false, false, false, false, false, false, false, false, false, false, false, false, false, false, false, false, false, false, true, false, false, false, false, false, false, false, false, false, false, false, false, false, false, false, false, false, false, false, false, false, false, false, false, false, false, false] e := rfl
theorem fg_19_1 (e : Env) : mask (fg 19 1) e = mask [false, true, false, true, true, false, false, false, false, false, false, false, false, false, false, false, false, false, false, false, false, false, false, false, false, false, false, false, false, false, false, false, false, false, false, false, false, false, false, false, false, false, false, false, false, false, false, false, false, false, false, false, false, false, false, false, false, false, false, false, false, false, false, false, false, false, false, false, false, false, false, false, false, false, false, false, false, false, false, false, false, false, false, false, false, false, false, false, false, false, false, false, false, false, false, false, false, false, false, false, false, false, false, false, false, false, false, false, false, false, false, false, false] e := rfl
theorem fg_19_2 (e : Env) : mask (fg 19 2) e = mask [] e := rfl
theorem fg_20_0 (e : Env) : mask (fg 20 0) e = mask [false, false, true, true, true, true, false, false, false, false, false, false, false, false, false, false, false, false, false, false, false, false, false, false, false, false, false, false, false, false, false, false, false, false, false, false, false, false, false, false, false, false, false, false, false, false, false, false, false, false, false, false, false, false, false, false, false, false, false, false, false, true, false, false, false, false, true, false, false, false, false, false, false, false, false, false, false, false, false] e := rfl
theorem fg_20_1 (e : Env) : mask (fg 20 1) e = mask [false, false, true, true, true, true, false, false, false, false, false, false, false, false, false, false, false, false, false, false, false, false, false, false, false, false, false, false, false, false, false, false, false, false, false, false, false, false, false, false, false, false, false, false, false, false, false, false, false, false, false, false, false, false, false, false, false, false, false, false, false, false, false, false, false, false, false, false, false, false, false, false, false, false, false, false, false, false, false, false] e := rfl
theorem fg_20_2 (e : Env) : mask (fg 20 2) e = mask [] e := rfl
theorem fg_21_0 (e : Env) : mask (fg 21 0) e = mask [true, false, true, true, true, true, true, true, true, true, false, false, false, false, false, false, false, false, false, false, false, false, false, false, false, false, false, false, false, false, false, false, false, false, false, false, false, false, false, false, false, false, false, false, false, false, true, false, false, false, false, false, false, false, false, false, false, false, false, false, false, false, false, false, false, false, false, false, false, false, false, false, false, false, false, false, false, false, false, false, false, false, false, false, false, false, false, false, false, false, false, false, false, false, false, false, false, false, false, false, false, false, false, false, false, false, false, false, true, false, false] e := rfl
theorem fg_21_1 (e : Env) : mask (fg 21 1) e = mask [false, false, true, false, true, true, true, true, false, false, false, false, false, false, false, false, false, false, false, false, false, false, false, false, false, false, false, false, false, false, false, false, false, false, false, false, false, false, false, false, false, false, false, false, false, false, false, false, false, false, false, false, false, false, false, false, false, false, false, false, false, false, false, false, false, false, false, false, false, false, false, false, false, false, false, false, false, false, false, false, false, false, false, false, false, false, false, false, false, false, false, false, false, false, false, false, false, false, false, false, false, false, false, false, false, false, false, false, false, false, false] e := rfl
theorem fg_21_2 (e : Env) : mask (fg 21 2) e = mask [] e := rfl
theorem fg_22_0 (e : Env) : mask (fg 22 0) e = mask [] e := rfl
theorem fg_23_0 (e : Env) : mask (fg 23 0) e = mask [] e := rfl
theorem fg_23_1 (e : Env) : mask (fg 23 1) e = mask [] e := rfl
theorem fg_23_2 (e : Env) : mask (fg 23 2) e = mask [] e := rfl
theorem fg_23_3 (e : Env) : mask (fg 23 3) e = mask [] e := rfl
theorem fg_23_4 (e : Env) : mask (fg 23 4) e = mask [] e := rfl
theorem fg_23_5 (e : Env) : mask (fg 23 5) e = mask [] e := rfl
theorem fg_23_6 (e : Env) : mask (fg 23 6) e = mask [] e := rfl
theorem fg_23_7 (e : Env) : mask (fg 23 7) e = mask [] e := rfl
theorem fg_24_0 (e : Env) : mask (fg 24 0) e = mask [] e := rfl
theorem fg_25_0 (e : Env) : mask (fg 25 0) e = mask [true, true, false, false, false, true, false, true, true, true, true, true, false, false, false, false, false, false, false, false, false, false, false, false, false, false, false, false, false, false] e := rfl
theorem fg_25_1 (e : Env) : mask (fg 25 1) e = mask [true, false, false, false, false, false, false, false, true, true, true, false, false, false, false, false, false, false, false, false, false, false, false, false, false, false, false, false, false, false] e := rfl
theorem fg_25_2 (e : Env) : mask (fg 25 2) e = mask [] e := rfl
theorem fg_26_0 (e : Env) : mask (fg 26 0) e = mask [] e := rfl
theorem fg_27_0 (e : Env) : mask (fg 27 0) e = mask [] e := rfl
theorem fg_28_0 (e : Env) : mask (fg 28 0) e = mask [] e := rfl
theorem fg_29_0 (e : Env) : mask (fg 29 0) e = mask [] e := rfl
theorem fg_30_0 (e : Env) : mask (fg 30 0) e = mask [] e := rfl
theorem fg_31_0 (e : Env) : mask (fg 31 0) e = mask [] e := rfl
theorem fg_32_0 (e : Env) : mask (fg 32 0) e = mask [] e := rfl
theorem fg_33_0 (e : Env) : mask (fg 33 0) e = mask [] e := rfl
theorem fg_34_0 (e : Env) : mask (fg 34 0) e = mask [] e := rfl
theorem fg_35_0 (e : Env) : mask (fg 35 0) e = mask [] e := rfl
theorem fg_36_0 (e : Env) : mask (fg 36 0) e = mask [] e := rfl
theorem fg_37_0 (e : Env) : mask (fg 37 0) e = mask [] e := rfl
theorem fg_38_0 (e : Env) : mask (fg 38 0) e = mask [] e := rfl
theorem fg_39_0 (e : Env) : mask (fg 39 0) e = mask [] e := rfl
theorem fg_40_0 (e : Env) : mask (fg 40 0) e = mask [] e := rfl
theorem fg_41_0 (e : Env) : mask (fg 41 0) e = mask [] e := rfl
theorem fg_42_0 (e : Env) : mask (fg 42 0) e = mask [] e := rfl
theorem fg_43_0 (e : Env) : mask (fg 43 0) e = mask [true, false, false, false, false, true, true, true, true, true, false, false, false, false, false, false, false, false] e := rfl
theorem fg_43_1 (e : Env) : mask (fg 43 1) e = mask [true, false, false, false, false, false, true, true, true, false, false, false, false, false, false, false, false, false] e := rfl
theorem fg_43_2 (e : Env) : mask (fg 43 2) e = mask [] e := rfl
theorem fg_44_0 (e : Env) : mask (fg 44 0) e = mask [] e := rfl
theorem fg_45_0 (e : Env) : mask (fg 45 0) e = mask [] e := rfl
theorem fg_46_0 (e : Env) : mask (fg 46 0) e = mask [] e := rfl
theorem fg_47_0 (e : Env) : mask (fg 47 0) e = mask [] e := rfl
theorem fg_48_0 (e : Env) : mask (fg 48 0) e = mask [] e := rfl
theorem fg_49_0 (e : Env) : mask (fg 49 0) e = mask [true, true, false, false, false, true, false, true, true, true, true, true, false, false, false, false, false, false, false, false, false, false, false, false, false] e := rfl
theorem fg_49_1 (e : Env) : mask (fg 49 1) e = mask [true, false, false, false, false, false, false, false, true, true, true, false, false, false, false, false, false, false, false, false, false, false, false, false, false] e := rfl
theorem fg_49_2 (e : Env) : mask (fg 49 2) e = mask [] e := rfl
theorem fg_50_0 (e : Env) : mask (fg 50 0) e = mask [true, false, true, true, false, true, false, false, false, false, false, false, false, false, false, false, false, false, false, false, false, false] e := rfl
theorem fg_50_1 (e : Env) : mask (fg 50 1) e = mask [true, false, false, true, false, false, false, false, false, false, false, false, false, false, false, false, false, false, false, false, false, false] e := rfl
theorem fg_50_2 (e : Env) : mask (fg 50 2) e = mask [] e := rfl
theorem fg_51_0 (e : Env) : mask (fg 51 0) e = mask [] e := rfl
theorem fg_52_0 (e : Env) : mask (fg 52 0) e = mask [] e := rfl
theorem fg_53_0 (e : Env) : mask (fg 53 0) e = mask [true, false, true, true, true, false, false, false, true, false, false, false, false, false, false, false, false, false, false, false, false, false, false, false, false, false, false, false, false, false, false, false, false, false, false, false, false, false, false, true, false, false, false, false, false, false, false, false] e := rfl
theorem fg_53_1 (e : Env) : mask (fg 53 1) e = mask [true, false, true, true, false, false, false, false, false, false, false, false, false, false, false, false, false, false, false, false, false, false, false, false, false, false, false, false, false, false, false, false, false, false, false, false, false, false, false, false, false, false, false, false, false, false, false, false] e := rfl
theorem fg_53_2 (e : Env) : mask (fg 53 2) e = mask [] e := rfl
theorem fg_54_0 (e : Env) : mask (fg 54 0) e = mask [] e := rfl
theorem fg_55_0 (e : Env) : mask (fg 55 0) e = mask [true, false, true, true, true, true, true, false, false, false, false, false, false, false, false, false, false, false, false, false, true, false, false, false, false, false, false, false, false, false, true, false, false, true, false, false, false, false, false, false, false, false, false, false, false, false, false, false, false, false, true, false, false, false] e := rfl
theorem fg_55_1 (e : Env) : mask (fg 55 1) e = mask [true, false, false, false, true, false, false, false, false, false, false, false, false, false, false, false, false, false, false, false, false, false, false, false, false, false, false, false, false, false, false, false, false, false, false, false, false, false, false, false, false, false, false, false, false, false, false, false, false, false, false, false, false, false] e := rfl
theorem fg_55_2 (e : Env) : mask (fg 55 2) e = mask [] e := rfl
theorem fg_55_3 (e : Env) : mask (fg 55 3) e = mask [true, false, false, false, true, true, true, false, false, false, false, false, false, false, false, false, false, false, false, false, false, false, false, false, false, false, false, false, false, false, false, false, false, false, false, false, false, false, false, false, false, false, false, false, false, false, false, false, false, false, false, false, false, false] e := rfl
theorem fg_55_4 (e : Env) : mask (fg 55 4) e = mask [] e := rfl
theorem fg_56_0 (e : Env) : mask (fg 56 0) e = mask [] e := rfl
theorem fg_57_0 (e : Env) : mask (fg 57 0) e = mask [] e := rfl
theorem fg_58_0 (e : Env) : mask (fg 58 0) e = mask [true, false, true, true, true, true, true, false, false, true, true, true, false, false, false, false, false, false, false, false, false, false, false, false, false, false, false, false, false, true, false, false, false, false, false, false, false, false, false, true, false, false, false, false] e := rfl
theorem fg_58_1 (e : Env) : mask (fg 58 1) e = mask [true, false, true, true, true, false, false, false, false, true, true, false, false, false, false, false, false, false, false, false, false, false, false, false, false, false, false, false, false, false, false, false, false, false, false, false, false, false, false, false, false, false, false, false] e := rfl
theorem fg_58_2 (e : Env) : mask (fg 58 2) e = mask [] e := rfl
theorem fg_59_0 (e : Env) : mask (fg 59 0) e = mask [] e := rfl
theorem fg_60_0 (e : Env) : mask (fg 60 0) e = mask [] e := rfl
theorem fg_61_0 (e : Env) : mask (fg 61 0) e = mask [true, false, true, true, false, true, false, false, false, false, false, false, false, false, false, false, false, false, false, false] e := rfl
theorem fg_61_1 (e : Env) : mask (fg 61 1) e = mask [true, false, false, true, false, false, false, false, false, false, false, false, false, false, false, false, false, false, false, false] e := rfl
theorem fg_61_2 (e : Env) : mask (fg 61 2) e = mask [] e := rfl
theorem fg_62_0 (e : Env) : mask (fg 62 0) e = mask [] e := rfl
theorem fg_63_0 (e : Env) : mask (fg 63 0) e = mask [] e := rfl
theorem fg_64_0 (e : Env) : mask (fg 64 0) e = mask [] e := rfl
theorem fg_65_0 (e : Env) : mask (fg 65 0) e = mask [true, true, false, false, true, false, false, false, false, false, false, false, false, true, false, false, false] e := rfl
theorem fg_65_1 (e : Env) : mask (fg 65 1) e = mask [true, true, false, false, false, false, false, false, false, false, false, false, false, false, false, false, false] e := rfl
theorem fg_65_2 (e : Env) : mask (fg 65 2) e = mask [] e := rfl
theorem fg_66_0 (e : Env) : mask (fg 66 0) e = mask [true, true, false, false, true, false, false, false, false, false, false, false, false, false, false, false, true, false, false, false, false, false, false] e := rfl
theorem fg_66_1 (e : Env) : mask (fg 66 1) e = mask [true, true, false, false, false, false, false, false, false, false, false, false, false, false, false, false, false, false, false, false, false, false, false] e := rfl
theorem fg_66_2 (e : Env) : mask (fg 66 2) e = mask [] e := rfl
theorem fg_67_0 (e : Env) : mask (fg 67 0) e = mask [true, false, true, true, true, true, false, false, false, true, false, false, false, false, false, false, true, false, false, false, false] e := rfl
theorem fg_67_1 (e : Env) : mask (fg 67 1) e = mask [true, false, true, true, true, false, false, false, false, false, false, false, false, false, false, false, false, false, false, false, false] e := rfl
theorem fg_67_2 (e : Env) : mask (fg 67 2) e = mask [] e := rfl
theorem fg_68_0 (e : Env) : mask (fg 68 0) e = mask [true, true, false, false, true, false, false, true, false, false, false, false, true, false, false, false] e := rfl
theorem fg_68_1 (e : Env) : mask (fg 68 1) e = mask [true, true, false, false, false, false, false, false, false, false, false, false, false, false, false, false] e := rfl
theorem fg_68_2 (e : Env) : mask (fg 68 2) e = mask [] e := rfl
theorem fg_69_0 (e : Env) : mask (fg 69 0) e = mask [true, true, false, false, true, false, false, true, false, false, false, false, false, false, false, true, false, false, false, false, false, false] e := rfl
theorem fg_69_1 (e : Env) : mask (fg 69 1) e = mask [true, true, false, false, false, false, false, false, false, false, false, false, false, false, false, false, false, false, false, false, false, false] e := rfl
theorem fg_69_2 (e : Env) : mask (fg 69 2) e = mask [] e := rfl
theorem fg_70_0 (e : Env) : mask (fg 70 0) e = mask [true, true, false, false, true, true, true, false, false, true, false, false, false, false, false, false, false, false, true, false, false, false, false] e := rfl
theorem fg_70_1 (e : Env) : mask (fg 70 1) e = mask [true, true, false, false, false, false, false, false, false, false, false, false, false, false, false, false, false, false, false, false, false, false, false] e := rfl
theorem fg_70_2 (e : Env) : mask (fg 70 2) e = mask [] e := rfl
theorem fg_71_0 (e : Env) : mask (fg 71 0) e = mask [true, true, false, false, true, true, true, false, false, true, false, false, false, false, false, false, false, true, false, false, false, false, false, false, false, false, true, false, false, false, false, false, false, false] e := rfl
theorem fg_71_1 (e : Env) : mask (fg 71 1) e = mask [true, true, false, false, false, false, false, false, false, false, false, false, false, false, false, false, false, false, false, false, false, false, false, false, false, false, false, false, false, false, false, false, false, false] e := rfl
theorem fg_71_2 (e : Env) : mask (fg 71 2) e = mask [] e := rfl
theorem fg_72_0 (e : Env) : mask (fg 72 0) e = mask [] e := rfl
theorem fg_73_0 (e : Env) : mask (fg 73 0) e = mask [] e := rfl
theorem fg_74_0 (e : Env) : mask (fg 74 0) e = mask [] e := rfl
theorem fg_75_0 (e : Env) : mask (fg 75 0) e = mask [true, false, true, true, true, true, true, false, false, false, true, false, false, false, false, false, false, false, true, false, false, false, false, false, false, false, false, true, false, false, false, false, false, true, false, true, false, false, false, false, false, false, false, false, false, false, false, false, true, false, false] e := rfl
theorem fg_75_1 (e : Env) : mask (fg 75 1) e = mask [true, false, false, false, true, true, true, false, false, false, false, false, false, false, false, false, false, false, false, false, false, false, false, false, false, false, false, false, false, false, false, false, false, false, false, false, false, false, false, false, false, false, false, false, false, false, false, false, false, false, false] e := rfl
theorem fg_75_2 (e : Env) : mask (fg 75 2) e = mask [] e := rfl
theorem fg_76_0 (e : Env) : mask (fg 76 0) e = mask [] e := rfl
theorem fg_78_0 (e : Env) : mask (fg 78 0) e = mask [] e := rfl
theorem fg_79_0 (e : Env) : mask (fg 79 0) e = mask [] e := rfl
theorem fg_80_0 (e : Env) : mask (fg 80 0) e = mask [] e := rfl
theorem fg_80_1 (e : Env) : mask (fg 80 1) e = mask [] e := rfl
theorem fg_81_0 (e : Env) : mask (fg 81 0) e = mask [] e := rfl
theorem fg_83_0 (e : Env) : mask (fg 83 0) e = mask [] e := rfl
theorem fg_106_0 (e : Env) : mask (fg 106 0) e = mask [] e := rfl
theorem la_3_5 : looseAt (fg 3) 5 = false := rfl
theorem la_8_11 : looseAt (fg 8) 11 = false := rfl
theorem la_17_2 : looseAt (fg 17) 2 = false := rfl
theorem la_17_3 : looseAt (fg 17) 3 = false := rfl
theorem la_17_8 : looseAt (fg 17) 8 = false := rfl
theorem la_17_9 : looseAt (fg 17) 9 = false := rfl
theorem la_17_11 : looseAt (fg 17) 11 = false := rfl
theorem la_17_16 : looseAt (fg 17) 16 = false := rfl
theorem la_18_2 : looseAt (fg 18) 2 = true := rfl
theorem sq_18_2 : seqAt (fg 18) 2 = [10, 0, 1, 2, 3, 4, 5, 6, 7, 8, 9, 11] := rfl
theorem am_18_2 : allocsAt (fg 18) 2 = 1 := rfl
theorem un_18_2_0 : unordAt (fg 18) 2 0 = [] := rfl
theorem un_18_2_1 : unordAt (fg 18) 2 1 = [0] := rfl
theorem un_18_2_2 : unordAt (fg 18) 2 2 = [0] := rfl
theorem un_18_2_3 : unordAt (fg 18) 2 3 = [] := rfl
theorem un_18_2_4 : unordAt (fg 18) 2 4 = [0] := rfl
theorem un_18_2_5 : unordAt (fg 18) 2 5 = [0] := rfl
theorem un_18_2_6 : unordAt (fg 18) 2 6 = [] := rfl
theorem un_18_2_7 : unordAt (fg 18) 2 7 = [0] := rfl
theorem un_18_2_8 : unordAt (fg 18) 2 8 = [0] := rfl
theorem un_18_2_9 : unordAt (fg 18) 2 9 = [] := rfl
theorem un_18_2_11 : unordAt (fg 18) 2 11 = [] := rfl
theorem la_18_3 : looseAt (fg 18) 3 = true := rfl
theorem sq_18_3 : seqAt (fg 18) 3 = [0, 1, 2, 3, 4, 5, 6, 7, 8, 9, 10, 11] := rfl
theorem am_18_3 : allocsAt (fg 18) 3 = 0 := rfl
theorem un_18_3_0 : unordAt (fg 18) 3 0 = [] := rfl
theorem un_18_3_1 : unordAt (fg 18) 3 1 = [] := rfl
theorem un_18_3_2 : unordAt (fg 18) 3 2 = [] := rfl
theorem un_18_3_3 : unordAt (fg 18) 3 3 = [] := rfl
theorem un_18_3_4 : unordAt (fg 18) 3 4 = [] := rfl
theorem un_18_3_5 : unordAt (fg 18) 3 5 = [] := rfl
theorem un_18_3_6 : unordAt (fg 18) 3 6 = [] := rfl
theorem un_18_3_7 : unordAt (fg 18) 3 7 = [] := rfl
theorem un_18_3_8 : unordAt (fg 18) 3 8 = [] := rfl
theorem un_18_3_9 : unordAt (fg 18) 3 9 = [] := rfl
theorem un_18_3_10 : unordAt (fg 18) 3 10 = [] := rfl
theorem un_18_3_11 : unordAt (fg 18) 3 11 = [] := rfl
theorem la_18_8 : looseAt (fg 18) 8 = true := rfl
theorem sq_18_8 : seqAt (fg 18) 8 = [0, 1, 2, 3, 4, 5, 6, 7, 8, 9, 10, 11, 12, 13, 14, 15, 16, 17] := rfl
theorem am_18_8 : allocsAt (fg 18) 8 = 0 := rfl
theorem un_18_8_0 : unordAt (fg 18) 8 0 = [] := rfl
theorem un_18_8_1 : unordAt (fg 18) 8 1 = [] := rfl
theorem un_18_8_2 : unordAt (fg 18) 8 2 = [] := rfl
theorem un_18_8_3 : unordAt (fg 18) 8 3 = [] := rfl
theorem un_18_8_4 : unordAt (fg 18) 8 4 = [] := rfl
theorem un_18_8_5 : unordAt (fg 18) 8 5 = [] := rfl
theorem un_18_8_6 : unordAt (fg 18) 8 6 = [] := rfl
theorem un_18_8_7 : unordAt (fg 18) 8 7 = [] := rfl
theorem un_18_8_8 : unordAt (fg 18) 8 8 = [] := rfl
theorem un_18_8_9 : unordAt (fg 18) 8 9 = [] := rfl
theorem un_18_8_10 : unordAt (fg 18) 8 10 = [] := rfl
theorem un_18_8_11 : unordAt (fg 18) 8 11 = [] := rfl
theorem un_18_8_12 : unordAt (fg 18) 8 12 = [] := rfl
theorem un_18_8_13 : unordAt (fg 18) 8 13 = [] := rfl
theorem un_18_8_14 : unordAt (fg 18) 8 14 = [] := rfl
theorem un_18_8_15 : unordAt (fg 18) 8 15 = [] := rfl
theorem un_18_8_16 : unordAt (fg 18) 8 16 = [] := rfl
theorem un_18_8_17 : unordAt (fg 18) 8 17 = [] := rfl
theorem la_18_14 : looseAt (fg 18) 14 = true := rfl
theorem sq_18_14 : seqAt (fg 18) 14 = [0, 1, 2, 3, 4, 5, 6, 7, 8, 9, 10, 11, 12, 13, 14] := rfl
theorem am_18_14 : allocsAt (fg 18) 14 = 0 := rfl
theorem un_18_14_0 : unordAt (fg 18) 14 0 = [] := rfl
theorem un_18_14_1 : unordAt (fg 18) 14 1 = [] := rfl
theorem un_18_14_2 : unordAt (fg 18) 14 2 = [] := rfl
theorem un_18_14_3 : unordAt (fg 18) 14 3 = [] := rfl
theorem un_18_14_4 : unordAt (fg 18) 14 4 = [] := rfl
theorem un_18_14_5 : unordAt (fg 18) 14 5 = [] := rfl
theorem un_18_14_6 : unordAt (fg 18) 14 6 = [] := rfl
theorem un_18_14_7 : unordAt (fg 18) 14 7 = [] := rfl
theorem un_18_14_8 : unordAt (fg 18) 14 8 = [] := rfl
theorem un_18_14_9 : unordAt (fg 18) 14 9 = [] := rfl
theorem un_18_14_10 : unordAt (fg 18) 14 10 = [] := rfl
theorem un_18_14_11 : unordAt (fg 18) 14 11 = [] := rfl
theorem un_18_14_12 : unordAt (fg 18) 14 12 = [] := rfl
theorem un_18_14_13 : unordAt (fg 18) 14 13 = [] := rfl
theorem un_18_14_14 : unordAt (fg 18) 14 14 = [] := rfl
theorem la_19_1 : looseAt (fg 19) 1 = false := rfl
theorem la_19_5 : looseAt (fg 19) 5 = false := rfl
theorem la_19_10 : looseAt (fg 19) 10 = false := rfl
theorem la_20_6 : looseAt (fg 20) 6 = false := rfl
theorem la_24_1 : looseAt (fg 24) 1 = false := rfl
theorem la_24_2 : looseAt (fg 24) 2 = false := rfl
theorem la_29_1 : looseAt (fg 29) 1 = false := rfl
theorem la_36_2 : looseAt (fg 36) 2 = true := rfl
theorem sq_36_2 : seqAt (fg 36) 2 = [0, 1, 2, 3, 4, 5, 6, 7, 8, 9, 10, 11, 12, 13, 14] := rfl
theorem am_36_2 : allocsAt (fg 36) 2 = 0 := rfl
theorem un_36_2_0 : unordAt (fg 36) 2 0 = [] := rfl
theorem un_36_2_1 : unordAt (fg 36) 2 1 = [] := rfl
theorem un_36_2_2 : unordAt (fg 36) 2 2 = [] := rfl
theorem un_36_2_3 : unordAt (fg 36) 2 3 = [] := rfl
theorem un_36_2_4 : unordAt (fg 36) 2 4 = [] := rfl
theorem un_36_2_5 : unordAt (fg 36) 2 5 = [] := rfl
theorem un_36_2_6 : unordAt (fg 36) 2 6 = [] := rfl
theorem un_36_2_7 : unordAt (fg 36) 2 7 = [] := rfl
theorem un_36_2_8 : unordAt (fg 36) 2 8 = [] := rfl
theorem un_36_2_9 : unordAt (fg 36) 2 9 = [] := rfl
theorem un_36_2_10 : unordAt (fg 36) 2 10 = [] := rfl
theorem un_36_2_11 : unordAt (fg 36) 2 11 = [] := rfl
theorem un_36_2_12 : unordAt (fg 36) 2 12 = [] := rfl
theorem un_36_2_13 : unordAt (fg 36) 2 13 = [] := rfl
theorem un_36_2_14 : unordAt (fg 36) 2 14 = [] := rfl
theorem la_49_4 : looseAt (fg 49) 4 = false := rfl
theorem la_55_11 : looseAt (fg 55) 11 = false := rfl
theorem la_62_4 : looseAt (fg 62) 4 = false := rfl
theorem tsize_3 : tsize Tryd.prog 3 = 1 := by kernel_rfl
theorem tsize_4 : tsize Tryd.prog 4 = 1 := by kernel_rfl
theorem tsize_5 : tsize Tryd.prog 5 = 1 := by kernel_rfl
theorem tsize_9 : tsize Tryd.prog 9 = 1 := by kernel_rfl
theorem tsize_23 : tsize Tryd.prog 23 = 3 := by kernel_rfl
theorem tsize_25 : tsize Tryd.prog 25 = 4 := by kernel_rfl
theorem tsize_27 : tsize Tryd.prog 27 = 10 := by kernel_rfl
theorem tsize_29 : tsize Tryd.prog 29 = 1 := by kernel_rfl
theorem tsize_44 : tsize Tryd.prog 44 = 3 := by kernel_rfl
theorem tsize_45 : tsize Tryd.prog 45 = 1 := by kernel_rfl
theorem tsize_47 : tsize Tryd.prog 47 = 4 := by kernel_rfl
theorem tsize_49 : tsize Tryd.prog 49 = 13 := by kernel_rfl
theorem tsize_58 : tsize Tryd.prog 58 = 1 := by kernel_rfl
theorem tsize_65 : tsize Tryd.prog 65 = 3 := by kernel_rfl
theorem tsize_76 : tsize Tryd.prog 76 = 1 := by kernel_rfl
theorem tsize_79 : tsize Tryd.prog 79 = 1 := by kernel_rfl
theorem tsize_86 : tsize Tryd.prog 86 = 1 := by kernel_rfl
theorem tsize_108 : tsize Tryd.prog 108 = 256 := by kernel_rfl
theorem tsize_120 : tsize Tryd.prog 120 = 2 := by kernel_rfl
theorem tsize_121 : tsize Tryd.prog 121 = 32 := by kernel_rfl
theorem tagg_3 : tagg Tryd.prog 3 = some false := by kernel_rfl
theorem tagg_4 : tagg Tryd.prog 4 = some false := by kernel_rfl
theorem tagg_5 : tagg Tryd.prog 5 = some false := by kernel_rfl
theorem tagg_9 : tagg Tryd.prog 9 = some false := by kernel_rfl
theorem tagg_23 : tagg Tryd.prog 23 = some true := by kernel_rfl
theorem tagg_25 : tagg Tryd.prog 25 = some true := by kernel_rfl
theorem tagg_27 : tagg Tryd.prog 27 = some true := by kernel_rfl
theorem tagg_29 : tagg Tryd.prog 29 = some false := by kernel_rfl
theorem tagg_44 : tagg Tryd.prog 44 = some true := by kernel_rfl
theorem tagg_45 : tagg Tryd.prog 45 = some false := by kernel_rfl
theorem tagg_47 : tagg Tryd.prog 47 = some true := by kernel_rfl
theorem tagg_49 : tagg Tryd.prog 49 = some true := by kernel_rfl
theorem tagg_58 : tagg Tryd.prog 58 = some false := by kernel_rfl
theorem tagg_65 : tagg Tryd.prog 65 = some true := by kernel_rfl
theorem tagg_76 : tagg Tryd.prog 76 = some false := by kernel_rfl
theorem tagg_79 : tagg Tryd.prog 79 = some true := by kernel_rfl
theorem tagg_86 : tagg Tryd.prog 86 = some false := by kernel_rfl
theorem tagg_108 : tagg Tryd.prog 108 = some true := by kernel_rfl
theorem tagg_120 : tagg Tryd.prog 120 = some true := by kernel_rfl
theorem tagg_121 : tagg Tryd.prog 121 = some true := by kernel_rfl
theorem tslice_9 : tslice Tryd.prog 9 = none := by kernel_rfl
theorem tslice_45 : tslice Tryd.prog 45 = some (4, 40, .agg [.val (.string ⟨#[]⟩), .val (.int .i64 0), .val (.int .i64 0), .val (.int .i64 0)]) := by kernel_rfl
theorem tslice_58 : tslice Tryd.prog 58 = some (1, 1, .val (.int .u8 0)) := by kernel_rfl
theorem tslice_93 : tslice Tryd.prog 93 = some (1, 16, .val (.string ⟨#[]⟩)) := by kernel_rfl
theorem tslice_100 : tslice Tryd.prog 100 = some (1, 8, .val (.int .i64 0)) := by kernel_rfl
theorem tslice_103 : tslice Tryd.prog 103 = some (1, 8, .val (.int .u64 0)) := by kernel_rfl
theorem tslice_108 : tslice Tryd.prog 108 = none := by kernel_rfl
theorem tslice_118 : tslice Tryd.prog 118 = none := by kernel_rfl
theorem tslice_121 : tslice Tryd.prog 121 = none := by kernel_rfl
theorem tarr_9 : tarr Tryd.prog 9 = none := by kernel_rfl
theorem tarr_23 : tarr Tryd.prog 23 = none := by kernel_rfl
theorem tarr_25 : tarr Tryd.prog 25 = none := by kernel_rfl
theorem tarr_27 : tarr Tryd.prog 27 = none := by kernel_rfl
theorem tarr_44 : tarr Tryd.prog 44 = none := by kernel_rfl
theorem tarr_45 : tarr Tryd.prog 45 = none := by kernel_rfl
theorem tarr_47 : tarr Tryd.prog 47 = none := by kernel_rfl
theorem tarr_49 : tarr Tryd.prog 49 = none := by kernel_rfl
theorem tarr_62 : tarr Tryd.prog 62 = none := by kernel_rfl
theorem tarr_65 : tarr Tryd.prog 65 = none := by kernel_rfl
theorem tarr_79 : tarr Tryd.prog 79 = none := by kernel_rfl
theorem tarr_84 : tarr Tryd.prog 84 = none := by kernel_rfl
theorem tarr_93 : tarr Tryd.prog 93 = none := by kernel_rfl
theorem tarr_97 : tarr Tryd.prog 97 = none := by kernel_rfl
theorem tarr_100 : tarr Tryd.prog 100 = none := by kernel_rfl
theorem tarr_103 : tarr Tryd.prog 103 = none := by kernel_rfl
theorem tarr_108 : tarr Tryd.prog 108 = some (256, 4) := by kernel_rfl
theorem tarr_118 : tarr Tryd.prog 118 = some (256, 5) := by kernel_rfl
theorem tarr_120 : tarr Tryd.prog 120 = none := by kernel_rfl
theorem tarr_121 : tarr Tryd.prog 121 = some (16, 120) := by kernel_rfl
theorem tzero_23 : tzero Tryd.prog 23 = some (.agg [.val (.int .i64 0), .val (.int .i64 0), .val (.int .i64 0)]) := by kernel_rfl
theorem tzero_25 : tzero Tryd.prog 25 = some (.agg [.val (.string ⟨#[]⟩), .val (.int .i64 0), .val (.int .i64 0), .val (.int .i64 0)]) := by kernel_rfl
theorem tzero_27 : tzero Tryd.prog 27 = some (.agg [.val (.int .i64 0), .val (.string ⟨#[]⟩), .val (.int .i64 0), .val (.int .i64 0), .val (.int .i64 0), .val (.string ⟨#[]⟩), .val (.int .i64 0), .val (.int .i64 0), .val (.int .i64 0), .val (.string ⟨#[]⟩)]) := by kernel_rfl
theorem tzero_44 : tzero Tryd.prog 44 = some (.agg [.val (.int .i64 0), .val (.string ⟨#[]⟩), .val (.string ⟨#[]⟩)]) := by kernel_rfl
theorem tzero_47 : tzero Tryd.prog 47 = some (.agg [.val (.int .i64 0), .val (.int .i64 0), .val (.int .i64 0), .val (.int .i64 0)]) := by kernel_rfl
theorem tzero_49 : tzero Tryd.prog 49 = some (.agg [.val (.int .i64 0), .val (.int .i64 0), .val (.int .i64 0), .val (.int .i64 0), .val (.string ⟨#[]⟩), .val (.string ⟨#[]⟩), .slc true [], .val (.string ⟨#[]⟩), .val (.bool .false), .val (.int .i64 0), .val (.int .i64 0), .val (.int .i64 0), .val (.int .i64 0)]) := by kernel_rfl
theorem tzero_62 : tzero Tryd.prog 62 = some (.agg [.slc true []]) := by kernel_rfl
theorem tzero_65 : tzero Tryd.prog 65 = some (.agg [.val (.bool .false), .val (.bool .false), .val (.bool .false)]) := by kernel_rfl
theorem tzero_79 : tzero Tryd.prog 79 = some (.agg [.val (.pointer .none)]) := by kernel_rfl
theorem tzero_84 : tzero Tryd.prog 84 = some (.agg [.val (.string ⟨#[]⟩), .val (.bool .false)]) := by kernel_rfl
theorem tzero_97 : tzero Tryd.prog 97 = some (.agg [.val (.string ⟨#[]⟩), .val (.bool .false)]) := by kernel_rfl
theorem tzero_108 : tzero Tryd.prog 108 = some (.agg [.val (.bool .false), .val (.bool .false), .val (.bool .false), .val (.bool .false), .val (.bool .false), .val (.bool .false), .val (.bool .false), .val (.bool .false), .val (.bool .false), .val (.bool .false), .val (.bool .false), .val (.bool .false), .val (.bool .false), .val (.bool .false), .val (.bool .false), .val (.bool .false), .val (.bool .false), .val (.bool .false), .val (.bool .false), .val (.bool .false), .val (.bool .false), .val (.bool .false), .val (.bool .false), .val (.bool .false), .val (.bool .false), .val (.bool .false), .val (.bool .false), .val (.bool .false), .val (.bool .false), .val (.bool .false), .val (.bool .false), .val (.bool .false), .val (.bool .false), .val (.bool .false), .val (.bool .false), .val (.bool .false), .val (.bool .false), .val (.bool .false), .val (.bool .false), .val (.bool .false), .val (.bool .false), .val (.bool .false), .val (.bool .false), .val (.bool .false), .val (.bool .false), .val (.bool .false), .val (.bool .false), .val (.bool .false), .val (.bool .false), .val (.bool .false), .val (.bool .false), .val (.bool .false), .val (.bool .false), .val (.bool .false), .val (.bool .false), .val (.bool .false), .val (.bool .false), .val (.bool .false), .val (.bool .false), .val (.bool .false), .val (.bool .false), .val (.bool .false), .val (.bool .false), .val (.bool .false), .val (.bool .false), .val (.bool .false), .val (.bool .false), .val (.bool .false), .val (.bool .false), .val (.bool .false), .val (.bool .false), .val (.bool .false), .val (.bool .false), .val (.bool .false), .val (.bool .false), .val (.bool .false), .val (.bool .false), .val (.bool .false), .val (.bool .false), .val (.bool .false), .val (.bool .false), .val (.bool .false), .val (.bool .false), .val (.bool .false), .val (.bool .false), .val (.bool .false), .val (.bool .false), .val (.bool .false), .val (.bool .false), .val (.bool .false), .val (.bool .false), .val (.bool .false), .val (.bool .false), .val (.bool .false), .val (.bool .false), .val (.bool .false), .val (.bool .false), .val (.bool .false), .val (.bool .false), .val (.bool .false), .val (.bool .false), .val (.bool .false), .val (.bool .false), .val (.bool .false), .val (.bool .false), .val (.bool .false), .val (.bool .false), .val (.bool .false), .val (.bool .false), .val (.bool .false), .val (.bool .false), .val (.bool .false), .val (.bool .false), .val (.bool .false), .val (.bool .false), .val (.bool .false), .val (.bool .false), .val (.bool .false), .val (.bool .false), .val (.bool .false), .val (.bool .false), .val (.bool .false), .val (.bool .false), .val (.bool .false), .val (.bool .false), .val (.bool .false), .val (.bool .false), .val (.bool .false), .val (.bool .false), .val (.bool .false), .val (.bool .false), .val (.bool .false), .val (.bool .false), .val (.bool .false), .val (.bool .false), .val (.bool .false), .val (.bool .false), .val (.bool .false), .val (.bool .false), .val (.bool .false), .val (.bool .false), .val (.bool .false), .val (.bool .false), .val (.bool .false), .val (.bool .false), .val (.bool .false), .val (.bool .false), .val (.bool .false), .val (.bool .false), .val (.bool .false), .val (.bool .false), .val (.bool .false), .val (.bool .false), .val (.bool .false), .val (.bool .false), .val (.bool .false), .val (.bool .false), .val (.bool .false), .val (.bool .false), .val (.bool .false), .val (.bool .false), .val (.bool .false), .val (.bool .false), .val (.bool .false), .val (.bool .false), .val (.bool .false), .val (.bool .false), .val (.bool .false), .val (.bool .false), .val (.bool .false), .val (.bool .false), .val (.bool .false), .val (.bool .false), .val (.bool .false), .val (.bool .false), .val (.bool .false), .val (.bool .false), .val (.bool .false), .val (.bool .false), .val (.bool .false), .val (.bool .false), .val (.bool .false), .val (.bool .false), .val (.bool .false), .val (.bool .false), .val (.bool .false), .val (.bool .false), .val (.bool .false), .val (.bool .false), .val (.bool .false), .val (.bool .false), .val (.bool .false), .val (.bool .false), .val (.bool .false), .val (.bool .false), .val (.bool .false), .val (.bool .false), .val (.bool .false), .val (.bool .false), .val (.bool .false), .val (.bool .false), .val (.bool .false), .val (.bool .false), .val (.bool .false), .val (.bool .false), .val (.bool .false), .val (.bool .false), .val (.bool .false), .val (.bool .false), .val (.bool .false), .val (.bool .false), .val (.bool .false), .val (.bool .false), .val (.bool .false), .val (.bool .false), .val (.bool .false), .val (.bool .false), .val (.bool .false), .val (.bool .false), .val (.bool .false), .val (.bool .false), .val (.bool .false), .val (.bool .false), .val (.bool .false), .val (.bool .false), .val (.bool .false), .val (.bool .false), .val (.bool .false), .val (.bool .false), .val (.bool .false), .val (.bool .false), .val (.bool .false), .val (.bool .false), .val (.bool .false), .val (.bool .false), .val (.bool .false), .val (.bool .false), .val (.bool .false), .val (.bool .false), .val (.bool .false), .val (.bool .false), .val (.bool .false), .val (.bool .false), .val (.bool .false), .val (.bool .false), .val (.bool .false), .val (.bool .false), .val (.bool .false), .val (.bool .false), .val (.bool .false), .val (.bool .false), .val (.bool .false), .val (.bool .false), .val (.bool .false), .val (.bool .false), .val (.bool .false)]) := by kernel_rfl
theorem tzero_120 : tzero Tryd.prog 120 = some (.agg [.val (.int .u8 0), .val (.int .u8 0)]) := by kernel_rfl
theorem tzero_121 : tzero Tryd.prog 121 = some (.agg [.val (.int .u8 0), .val (.int .u8 0), .val (.int .u8 0), .val (.int .u8 0), .val (.int .u8 0), .val (.int .u8 0), .val (.int .u8 0), .val (.int .u8 0), .val (.int .u8 0), .val (.int .u8 0), .val (.int .u8 0), .val (.int .u8 0), .val (.int .u8 0), .val (.int .u8 0), .val (.int .u8 0), .val (.int .u8 0), .val (.int .u8 0), .val (.int .u8 0), .val (.int .u8 0), .val (.int .u8 0), .val (.int .u8 0), .val (.int .u8 0), .val (.int .u8 0), .val (.int .u8 0), .val (.int .u8 0), .val (.int .u8 0), .val (.int .u8 0), .val (.int .u8 0), .val (.int .u8 0), .val (.int .u8 0), .val (.int .u8 0), .val (.int .u8 0)]) := by kernel_rfl
theorem isStrT_9 : isStrT Tryd.prog 9 = true := by kernel_rfl
theorem isStrT_45 : isStrT Tryd.prog 45 = false := by kernel_rfl
theorem isStrT_93 : isStrT Tryd.prog 93 = false := by kernel_rfl
theorem isStrT_100 : isStrT Tryd.prog 100 = false := by kernel_rfl
theorem isStrT_103 : isStrT Tryd.prog 103 = false := by kernel_rfl
theorem isStrT_108 : isStrT Tryd.prog 108 = false := by kernel_rfl
theorem isStrT_118 : isStrT Tryd.prog 118 = false := by kernel_rfl
theorem isStrT_121 : isStrT Tryd.prog 121 = false := by kernel_rfl
theorem isSeqT_9 : isSeqT Tryd.prog 9 = true := by kernel_rfl
theorem isSeqT_45 : isSeqT Tryd.prog 45 = true := by kernel_rfl
theorem isSeqT_58 : isSeqT Tryd.prog 58 = true := by kernel_rfl
theorem isPtrT_76 : isPtrT Tryd.prog 76 = true := by kernel_rfl
theorem isPtrT_92 : isPtrT Tryd.prog 92 = true := by kernel_rfl
theorem isBoolT_4 : isBoolT Tryd.prog 4 = true := by kernel_rfl
theorem tfield_23_0 : tfield Tryd.prog 23 0 = some (0, 1, false) := by kernel_rfl
theorem tfield_23_1 : tfield Tryd.prog 23 1 = some (1, 1, false) := by kernel_rfl
theorem tfield_23_2 : tfield Tryd.prog 23 2 = some (2, 1, false) := by kernel_rfl
theorem tfield_25_0 : tfield Tryd.prog 25 0 = some (0, 1, false) := by kernel_rfl
theorem tfield_25_1 : tfield Tryd.prog 25 1 = some (1, 3, true) := by kernel_rfl
theorem tfield_27_0 : tfield Tryd.prog 27 0 = some (0, 1, false) := by kernel_rfl
theorem tfield_27_1 : tfield Tryd.prog 27 1 = some (1, 4, true) := by kernel_rfl
theorem tfield_27_2 : tfield Tryd.prog 27 2 = some (5, 4, true) := by kernel_rfl
theorem tfield_27_3 : tfield Tryd.prog 27 3 = some (9, 1, false) := by kernel_rfl
theorem tfield_44_0 : tfield Tryd.prog 44 0 = some (0, 1, false) := by kernel_rfl
theorem tfield_44_1 : tfield Tryd.prog 44 1 = some (1, 1, false) := by kernel_rfl
theorem tfield_44_2 : tfield Tryd.prog 44 2 = some (2, 1, false) := by kernel_rfl
theorem tfield_47_0 : tfield Tryd.prog 47 0 = some (0, 1, false) := by kernel_rfl
theorem tfield_47_1 : tfield Tryd.prog 47 1 = some (1, 1, false) := by kernel_rfl
theorem tfield_47_2 : tfield Tryd.prog 47 2 = some (2, 1, false) := by kernel_rfl
theorem tfield_47_3 : tfield Tryd.prog 47 3 = some (3, 1, false) := by kernel_rfl
theorem tfield_49_0 : tfield Tryd.prog 49 0 = some (0, 1, false) := by kernel_rfl
theorem tfield_49_1 : tfield Tryd.prog 49 1 = some (1, 1, false) := by kernel_rfl
theorem tfield_49_2 : tfield Tryd.prog 49 2 = some (2, 1, false) := by kernel_rfl
theorem tfield_49_3 : tfield Tryd.prog 49 3 = some (3, 3, true) := by kernel_rfl
theorem tfield_49_4 : tfield Tryd.prog 49 4 = some (6, 1, false) := by kernel_rfl
theorem tfield_49_5 : tfield Tryd.prog 49 5 = some (7, 1, false) := by kernel_rfl
theorem tfield_49_6 : tfield Tryd.prog 49 6 = some (8, 1, false) := by kernel_rfl
theorem tfield_49_7 : tfield Tryd.prog 49 7 = some (9, 4, true) := by kernel_rfl
theorem tfield_60_0 : tfield Tryd.prog 60 0 = some (0, 1, false) := by kernel_rfl
theorem tfield_62_0 : tfield Tryd.prog 62 0 = some (0, 1, true) := by kernel_rfl
theorem tfield_65_0 : tfield Tryd.prog 65 0 = some (0, 1, false) := by kernel_rfl
theorem tfield_65_1 : tfield Tryd.prog 65 1 = some (1, 1, false) := by kernel_rfl
theorem tfield_65_2 : tfield Tryd.prog 65 2 = some (2, 1, false) := by kernel_rfl
theorem tfield_79_0 : tfield Tryd.prog 79 0 = some (0, 1, false) := by kernel_rfl
theorem tfield_84_0 : tfield Tryd.prog 84 0 = some (0, 1, false) := by kernel_rfl
theorem tfield_84_1 : tfield Tryd.prog 84 1 = some (1, 1, false) := by kernel_rfl
theorem tfield_97_0 : tfield Tryd.prog 97 0 = some (0, 1, false) := by kernel_rfl
theorem tfield_97_1 : tfield Tryd.prog 97 1 = some (1, 1, false) := by kernel_rfl
theorem tfield_120_0 : tfield Tryd.prog 120 0 = some (0, 1, false) := by kernel_rfl
theorem tfield_120_1 : tfield Tryd.prog 120 1 = some (1, 1, false) := by kernel_rfl
theorem tplaces_23 : tplaces Tryd.prog 23 = some [(0, 1), (1, 1), (2, 1)] := by kernel_rfl
theorem abuild_23 (ps : List (Nat × AV)) : abuild Tryd.prog 23 ps = bT (tzero Tryd.prog 23) (some [(0, 1), (1, 1), (2, 1)]) ps := abuild_struct _ _ tplaces_23
theorem tplaces_25 : tplaces Tryd.prog 25 = some [(0, 1), (1, 3)] := by kernel_rfl
theorem abuild_25 (ps : List (Nat × AV)) : abuild Tryd.prog 25 ps = bT (tzero Tryd.prog 25) (some [(0, 1), (1, 3)]) ps := abuild_struct _ _ tplaces_25
theorem tplaces_27 : tplaces Tryd.prog 27 = some [(0, 1), (1, 4), (5, 4), (9, 1)] := by kernel_rfl
theorem abuild_27 (ps : List (Nat × AV)) : abuild Tryd.prog 27 ps = bT (tzero Tryd.prog 27) (some [(0, 1), (1, 4), (5, 4), (9, 1)]) ps := abuild_struct _ _ tplaces_27
theorem tplaces_44 : tplaces Tryd.prog 44 = some [(0, 1), (1, 1), (2, 1)] := by kernel_rfl
theorem abuild_44 (ps : List (Nat × AV)) : abuild Tryd.prog 44 ps = bT (tzero Tryd.prog 44) (some [(0, 1), (1, 1), (2, 1)]) ps := abuild_struct _ _ tplaces_44
theorem tplaces_47 : tplaces Tryd.prog 47 = some [(0, 1), (1, 1), (2, 1), (3, 1)] := by kernel_rfl
theorem abuild_47 (ps : List (Nat × AV)) : abuild Tryd.prog 47 ps = bT (tzero Tryd.prog 47) (some [(0, 1), (1, 1), (2, 1), (3, 1)]) ps := abuild_struct _ _ tplaces_47
theorem tplaces_49 : tplaces Tryd.prog 49 = some [(0, 1), (1, 1), (2, 1), (3, 3), (6, 1), (7, 1), (8, 1), (9, 4)] := by kernel_rfl
theorem abuild_49 (ps : List (Nat × AV)) : abuild Tryd.prog 49 ps = bT (tzero Tryd.prog 49) (some [(0, 1), (1, 1), (2, 1), (3, 3), (6, 1), (7, 1), (8, 1), (9, 4)]) ps := abuild_struct _ _ tplaces_49
theorem tplaces_62 : tplaces Tryd.prog 62 = some [(0, 1)] := by kernel_rfl
theorem abuild_62 (ps : List (Nat × AV)) : abuild Tryd.prog 62 ps = bT (tzero Tryd.prog 62) (some [(0, 1)]) ps := abuild_struct _ _ tplaces_62
theorem tplaces_65 : tplaces Tryd.prog 65 = some [(0, 1), (1, 1), (2, 1)] := by kernel_rfl
theorem abuild_65 (ps : List (Nat × AV)) : abuild Tryd.prog 65 ps = bT (tzero Tryd.prog 65) (some [(0, 1), (1, 1), (2, 1)]) ps := abuild_struct _ _ tplaces_65
theorem tplaces_79 : tplaces Tryd.prog 79 = some [(0, 1)] := by kernel_rfl
theorem abuild_79 (ps : List (Nat × AV)) : abuild Tryd.prog 79 ps = bT (tzero Tryd.prog 79) (some [(0, 1)]) ps := abuild_struct _ _ tplaces_79
theorem tplaces_84 : tplaces Tryd.prog 84 = some [(0, 1), (1, 1)] := by kernel_rfl
theorem abuild_84 (ps : List (Nat × AV)) : abuild Tryd.prog 84 ps = bT (tzero Tryd.prog 84) (some [(0, 1), (1, 1)]) ps := abuild_struct _ _ tplaces_84
theorem tplaces_97 : tplaces Tryd.prog 97 = some [(0, 1), (1, 1)] := by kernel_rfl
theorem abuild_97 (ps : List (Nat × AV)) : abuild Tryd.prog 97 ps = bT (tzero Tryd.prog 97) (some [(0, 1), (1, 1)]) ps := abuild_struct _ _ tplaces_97
theorem tplaces_120 : tplaces Tryd.prog 120 = some [(0, 1), (1, 1)] := by kernel_rfl
theorem abuild_120 (ps : List (Nat × AV)) : abuild Tryd.prog 120 ps = bT (tzero Tryd.prog 120) (some [(0, 1), (1, 1)]) ps := abuild_struct _ _ tplaces_120
theorem tplaces_121 : tplaces Tryd.prog 121 = none := by kernel_rfl
theorem und_2 : Tryd.prog.underlying 2 = some (.int .i64) := by kernel_rfl
theorem und_3 : Tryd.prog.underlying 3 = some (.int .i64) := by kernel_rfl
theorem und_5 : Tryd.prog.underlying 5 = some (.int .u8) := by kernel_rfl
theorem und_9 : Tryd.prog.underlying 9 = some .string := by kernel_rfl
theorem und_21 : Tryd.prog.underlying 21 = some (.int .i32) := by kernel_rfl
theorem und_58 : Tryd.prog.underlying 58 = some (.slice 5) := by kernel_rfl
theorem und_86 : Tryd.prog.underlying 86 = some (.int .u64) := by kernel_rfl
theorem cv_2_86 (h : AHeap) (k : IntKind) (n : Int) : aconvert Tryd.prog 2 86 h (.val (.int k n)) = some (.val (.int .u64 (IntKind.u64.wrap n)), h) := aconvert_int _ _ _ _ und_2 und_86
theorem cv_3_86 (h : AHeap) (k : IntKind) (n : Int) : aconvert Tryd.prog 3 86 h (.val (.int k n)) = some (.val (.int .u64 (IntKind.u64.wrap n)), h) := aconvert_int _ _ _ _ und_3 und_86
theorem cv_5_3 (h : AHeap) (k : IntKind) (n : Int) : aconvert Tryd.prog 5 3 h (.val (.int k n)) = some (.val (.int .i64 (IntKind.i64.wrap n)), h) := aconvert_int _ _ _ _ und_5 und_3
theorem cv_5_21 (h : AHeap) (k : IntKind) (n : Int) : aconvert Tryd.prog 5 21 h (.val (.int k n)) = some (.val (.int .i32 (IntKind.i32.wrap n)), h) := aconvert_int _ _ _ _ und_5 und_21
theorem cv_5_86 (h : AHeap) (k : IntKind) (n : Int) : aconvert Tryd.prog 5 86 h (.val (.int k n)) = some (.val (.int .u64 (IntKind.u64.wrap n)), h) := aconvert_int _ _ _ _ und_5 und_86
theorem cv_58_9 (h : AHeap) (x : AV) : aconvert Tryd.prog 58 9 h x = textK (sview h x) h := aconvert_textK und_58 und_9 und_5
theorem cv_86_2 (h : AHeap) (k : IntKind) (n : Int) : aconvert Tryd.prog 86 2 h (.val (.int k n)) = some (.val (.int .i64 (IntKind.i64.wrap n)), h) := aconvert_int _ _ _ _ und_86 und_2
theorem cv_86_3 (h : AHeap) (k : IntKind) (n : Int) : aconvert Tryd.prog 86 3 h (.val (.int k n)) = some (.val (.int .i64 (IntKind.i64.wrap n)), h) := aconvert_int _ _ _ _ und_86 und_3
theorem cv_86_5 (h : AHeap) (k : IntKind) (n : Int) : aconvert Tryd.prog 86 5 h (.val (.int k n)) = some (.val (.int .u8 (IntKind.u8.wrap n)), h) := aconvert_int _ _ _ _ und_86 und_5
theorem callable_7 : callable Tryd.prog 7 = true := by kernel_rfl
theorem callable_8 : callable Tryd.prog 8 = true := by kernel_rfl
theorem callable_9 : callable Tryd.prog 9 = true := by kernel_rfl
theorem callable_10 : callable Tryd.prog 10 = true := by kernel_rfl
theorem callable_11 : callable Tryd.prog 11 = true := by kernel_rfl
theorem callable_12 : callable Tryd.prog 12 = true := by kernel_rfl
theorem callable_13 : callable Tryd.prog 13 = true := by kernel_rfl
theorem callable_14 : callable Tryd.prog 14 = true := by kernel_rfl
theorem callable_15 : callable Tryd.prog 15 = true := by kernel_rfl
theorem callable_16 : callable Tryd.prog 16 = true := by kernel_rfl
theorem callable_17 : callable Tryd.prog 17 = true := by kernel_rfl
theorem callable_18 : callable Tryd.prog 18 = true := by kernel_rfl
theorem callable_19 : callable Tryd.prog 19 = true := by kernel_rfl
theorem callable_20 : callable Tryd.prog 20 = true := by kernel_rfl
theorem callable_21 : callable Tryd.prog 21 = true := by kernel_rfl
theorem callable_22 : callable Tryd.prog 22 = true := by kernel_rfl
theorem callable_23 : callable Tryd.prog 23 = true := by kernel_rfl
theorem callable_24 : callable Tryd.prog 24 = true := by kernel_rfl
theorem callable_25 : callable Tryd.prog 25 = true := by kernel_rfl
theorem callable_26 : callable Tryd.prog 26 = true := by kernel_rfl
theorem callable_27 : callable Tryd.prog 27 = true := by kernel_rfl
theorem callable_28 : callable Tryd.prog 28 = true := by kernel_rfl
theorem callable_29 : callable Tryd.prog 29 = true := by kernel_rfl
theorem callable_30 : callable Tryd.prog 30 = true := by kernel_rfl
theorem callable_31 : callable Tryd.prog 31 = true := by kernel_rfl
theorem callable_32 : callable Tryd.prog 32 = true := by kernel_rfl
theorem callable_33 : callable Tryd.prog 33 = true := by kernel_rfl
theorem callable_34 : callable Tryd.prog 34 = true := by kernel_rfl
theorem callable_35 : callable Tryd.prog 35 = true := by kernel_rfl
theorem callable_36 : callable Tryd.prog 36 = true := by kernel_rfl
theorem callable_37 : callable Tryd.prog 37 = true := by kernel_rfl
theorem callable_38 : callable Tryd.prog 38 = true := by kernel_rfl
theorem callable_39 : callable Tryd.prog 39 = true := by kernel_rfl
theorem callable_40 : callable Tryd.prog 40 = true := by kernel_rfl
theorem callable_41 : callable Tryd.prog 41 = true := by kernel_rfl
theorem callable_42 : callable Tryd.prog 42 = true := by kernel_rfl
theorem callable_43 : callable Tryd.prog 43 = true := by kernel_rfl
theorem callable_44 : callable Tryd.prog 44 = true := by kernel_rfl
theorem callable_45 : callable Tryd.prog 45 = true := by kernel_rfl
theorem callable_46 : callable Tryd.prog 46 = true := by kernel_rfl
theorem callable_47 : callable Tryd.prog 47 = true := by kernel_rfl
theorem callable_48 : callable Tryd.prog 48 = true := by kernel_rfl
theorem callable_49 : callable Tryd.prog 49 = true := by kernel_rfl
theorem callable_50 : callable Tryd.prog 50 = true := by kernel_rfl
theorem callable_51 : callable Tryd.prog 51 = true := by kernel_rfl
theorem callable_52 : callable Tryd.prog 52 = true := by kernel_rfl
theorem callable_53 : callable Tryd.prog 53 = true := by kernel_rfl
theorem callable_54 : callable Tryd.prog 54 = true := by kernel_rfl
theorem callable_55 : callable Tryd.prog 55 = true := by kernel_rfl
theorem callable_56 : callable Tryd.prog 56 = true := by kernel_rfl
theorem callable_57 : callable Tryd.prog 57 = true := by kernel_rfl
theorem callable_58 : callable Tryd.prog 58 = true := by kernel_rfl
theorem callable_59 : callable Tryd.prog 59 = true := by kernel_rfl
theorem callable_60 : callable Tryd.prog 60 = true := by kernel_rfl
theorem callable_61 : callable Tryd.prog 61 = true := by kernel_rfl
theorem callable_62 : callable Tryd.prog 62 = true := by kernel_rfl
theorem callable_63 : callable Tryd.prog 63 = true := by kernel_rfl
theorem callable_64 : callable Tryd.prog 64 = true := by kernel_rfl
theorem callable_65 : callable Tryd.prog 65 = true := by kernel_rfl
theorem callable_66 : callable Tryd.prog 66 = true := by kernel_rfl
theorem callable_67 : callable Tryd.prog 67 = true := by kernel_rfl
theorem callable_68 : callable Tryd.prog 68 = true := by kernel_rfl
theorem callable_69 : callable Tryd.prog 69 = true := by kernel_rfl
theorem callable_70 : callable Tryd.prog 70 = true := by kernel_rfl
theorem callable_71 : callable Tryd.prog 71 = true := by kernel_rfl
theorem callable_72 : callable Tryd.prog 72 = true := by kernel_rfl
theorem callable_73 : callable Tryd.prog 73 = true := by kernel_rfl
theorem callable_74 : callable Tryd.prog 74 = true := by kernel_rfl
theorem callable_75 : callable Tryd.prog 75 = true := by kernel_rfl
theorem callable_76 : callable Tryd.prog 76 = true := by kernel_rfl
theorem callable_77 : callable Tryd.prog 77 = true := by kernel_rfl
theorem callable_78 : callable Tryd.prog 78 = true := by kernel_rfl
theorem callable_83 : callable Tryd.prog 83 = true := by kernel_rfl
attribute [go_sem] tsize_3 tsize_4 tsize_5 tsize_9 tsize_23 tsize_25 tsize_27 tsize_29 tsize_44 tsize_45 tsize_47 tsize_49 tsize_58 tsize_65 tsize_76 tsize_79 tsize_86 tsize_108 tsize_120 tsize_121 tagg_3 tagg_4 tagg_5 tagg_9 tagg_23 tagg_25 tagg_27 tagg_29 tagg_44 tagg_45 tagg_47 tagg_49 tagg_58 tagg_65 tagg_76 tagg_79 tagg_86 tagg_108 tagg_120 tagg_121 tslice_9 tslice_45 tslice_58 tslice_93 tslice_100 tslice_103 tslice_108 tslice_118 tslice_121 tarr_9 tarr_23 tarr_25 tarr_27 tarr_44 tarr_45 tarr_47 tarr_49 tarr_62 tarr_65 tarr_79 tarr_84 tarr_93 tarr_97 tarr_100 tarr_103 tarr_108 tarr_118 tarr_120 tarr_121 tzero_23 tzero_25 tzero_27 tzero_44 tzero_47 tzero_49 tzero_62 tzero_65 tzero_79 tzero_84 tzero_97 tzero_108 tzero_120 tzero_121 isStrT_9 isStrT_45 isStrT_93 isStrT_100 isStrT_103 isStrT_108 isStrT_118 isStrT_121 isSeqT_9 isSeqT_45 isSeqT_58 isPtrT_76 isPtrT_92 isBoolT_4 tfield_23_0 tfield_23_1 tfield_23_2 tfield_25_0 tfield_25_1 tfield_27_0 tfield_27_1 tfield_27_2 tfield_27_3 tfield_44_0 tfield_44_1 tfield_44_2 tfield_47_0 tfield_47_1 tfield_47_2 tfield_47_3 tfield_49_0 tfield_49_1 tfield_49_2 tfield_49_3 tfield_49_4 tfield_49_5 tfield_49_6 tfield_49_7 tfield_60_0 tfield_62_0 tfield_65_0 tfield_65_1 tfield_65_2 tfield_79_0 tfield_84_0 tfield_84_1 tfield_97_0 tfield_97_1 tfield_120_0 tfield_120_1 tplaces_23 abuild_23 tplaces_25 abuild_25 tplaces_27 abuild_27 tplaces_44 abuild_44 tplaces_47 abuild_47 tplaces_49 abuild_49 tplaces_62 abuild_62 tplaces_65 abuild_65 tplaces_79 abuild_79 tplaces_84 abuild_84 tplaces_97 abuild_97 tplaces_120 abuild_120 tplaces_121 und_2 und_3 und_5 und_9 und_21 und_58 und_86 cv_2_86 cv_3_86 cv_5_3 cv_5_21 cv_5_86 cv_58_9 cv_86_2 cv_86_3 cv_86_5 callable_7 callable_8 callable_9 callable_10 callable_11 callable_12 callable_13 callable_14 callable_15 callable_16 callable_17 callable_18 callable_19 callable_20 callable_21 callable_22 callable_23 callable_24 callable_25 callable_26 callable_27 callable_28 callable_29 callable_30 callable_31 callable_32 callable_33 callable_34 callable_35 callable_36 callable_37 callable_38 callable_39 callable_40 callable_41 callable_42 callable_43 callable_44 callable_45 callable_46 callable_47 callable_48 callable_49 callable_50 callable_51 callable_52 callable_53 callable_54 callable_55 callable_56 callable_57 callable_58 callable_59 callable_60 callable_61 callable_62 callable_63 callable_64 callable_65 callable_66 callable_67 callable_68 callable_69 callable_70 callable_71 callable_72 callable_73 callable_74 callable_75 callable_76 callable_77 callable_78 callable_83 fg_3_0 fg_4_0 fg_5_0 fg_5_1 fg_5_2 fg_6_0 fg_7_0 fg_8_0 fg_9_0 fg_10_0 fg_11_0 fg_12_0 fg_13_0 fg_13_1 fg_13_2 fg_13_3 fg_14_0 fg_15_0 fg_16_0 fg_17_0 fg_17_1 fg_17_2 fg_18_0 fg_18_1 fg_18_2 fg_19_0 fg_19_1 fg_19_2 fg_20_0 fg_20_1 fg_20_2 fg_21_0 fg_21_1 fg_21_2 fg_22_0 fg_23_0 fg_23_1 fg_23_2 fg_23_3 fg_23_4 fg_23_5 fg_23_6 fg_23_7 fg_24_0 fg_25_0 fg_25_1 fg_25_2 fg_26_0 fg_27_0 fg_28_0 fg_29_0 fg_30_0 fg_31_0 fg_32_0 fg_33_0 fg_34_0 fg_35_0 fg_36_0 fg_37_0 fg_38_0 fg_39_0 fg_40_0 fg_41_0 fg_42_0 fg_43_0 fg_43_1 fg_43_2 fg_44_0 fg_45_0 fg_46_0 fg_47_0 fg_48_0 fg_49_0 fg_49_1 fg_49_2 fg_50_0 fg_50_1 fg_50_2 fg_51_0 fg_52_0 fg_53_0 fg_53_1 fg_53_2 fg_54_0 fg_55_0 fg_55_1 fg_55_2 fg_55_3 fg_55_4 fg_56_0 fg_57_0 fg_58_0 fg_58_1 fg_58_2 fg_59_0 fg_60_0 fg_61_0 fg_61_1 fg_61_2 fg_62_0 fg_63_0 fg_64_0 fg_65_0 fg_65_1 fg_65_2 fg_66_0 fg_66_1 fg_66_2 fg_67_0 fg_67_1 fg_67_2 fg_68_0 fg_68_1 fg_68_2 fg_69_0 fg_69_1 fg_69_2 fg_70_0 fg_70_1 fg_70_2 fg_71_0 fg_71_1 fg_71_2 fg_72_0 fg_73_0 fg_74_0 fg_75_0 fg_75_1 fg_75_2 fg_76_0 fg_78_0 fg_79_0 fg_80_0 fg_80_1 fg_81_0 fg_83_0 fg_106_0 la_3_5 la_8_11 la_17_2 la_17_3 la_17_8 la_17_9 la_17_11 la_17_16 la_18_2 sq_18_2 am_18_2 un_18_2_0 un_18_2_1 un_18_2_2 un_18_2_3 un_18_2_4 un_18_2_5 un_18_2_6 un_18_2_7 un_18_2_8 un_18_2_9 un_18_2_11 la_18_3 sq_18_3 am_18_3 un_18_3_0 un_18_3_1 un_18_3_2 un_18_3_3 un_18_3_4 un_18_3_5 un_18_3_6 un_18_3_7 un_18_3_8 un_18_3_9 un_18_3_10 un_18_3_11 la_18_8 sq_18_8 am_18_8 un_18_8_0 un_18_8_1 un_18_8_2 un_18_8_3 un_18_8_4 un_18_8_5 un_18_8_6 un_18_8_7 un_18_8_8 un_18_8_9 un_18_8_10 un_18_8_11 un_18_8_12 un_18_8_13 un_18_8_14 un_18_8_15 un_18_8_16 un_18_8_17 la_18_14 sq_18_14 am_18_14 un_18_14_0 un_18_14_1 un_18_14_2 un_18_14_3 un_18_14_4 un_18_14_5 un_18_14_6 un_18_14_7 un_18_14_8 un_18_14_9 un_18_14_10 un_18_14_11 un_18_14_12 un_18_14_13 un_18_14_14 la_19_1 la_19_5 la_19_10 la_20_6 la_24_1 la_24_2 la_29_1 la_36_2 sq_36_2 am_36_2 un_36_2_0 un_36_2_1 un_36_2_2 un_36_2_3 un_36_2_4 un_36_2_5 un_36_2_6 un_36_2_7 un_36_2_8 un_36_2_9 un_36_2_10 un_36_2_11 un_36_2_12 un_36_2_13 un_36_2_14 la_49_4 la_55_11 la_62_4
theorem body3 : Tryd.f3.body = some (.seq (regOf Tryd.f3 0) (.seq (.seq (regOf Tryd.f3 1) (.cond (.tmp 26) (.seq (regOf Tryd.f3 2) .ret) .skip)) (.seq (regOf Tryd.f3 3) (.seq (regOf Tryd.f3 4) (.seq (.seq (regOf Tryd.f3 5) (.cond (.tmp 60) (.seq (regOf Tryd.f3 6) .ret) .skip)) (.seq (.seq (regOf Tryd.f3 7) (.cond (.tmp 62) (.seq (regOf Tryd.f3 8) .ret) .skip)) (.seq (regOf Tryd.f3 9) (.seq (regOf Tryd.f3 10) .ret)))))))) := by kernel_rfl
theorem body4 : Tryd.f4.body = some (.seq (regOf Tryd.f4 0) (.seq (.seq (regOf Tryd.f4 1) (.cond (.tmp 11) (.seq (regOf Tryd.f4 2) .ret) .skip)) (.seq (regOf Tryd.f4 3) (.seq (regOf Tryd.f4 4) (.seq (.seq (regOf Tryd.f4 5) (.cond (.tmp 31) (.seq (regOf Tryd.f4 6) .ret) .skip)) (.seq (.seq (regOf Tryd.f4 7) (.cond (.tmp 33) (.seq (regOf Tryd.f4 8) .ret) .skip)) (.seq (regOf Tryd.f4 9) (.seq (regOf Tryd.f4 10) .ret)))))))) := by kernel_rfl
theorem body5 : Tryd.f5.body = some (.seq (regOf Tryd.f5 0) (.seq (regOf Tryd.f5 1) (.seq (.seq (regOf Tryd.f5 2) (.block 0 (.loop (loopOf Tryd.f5 0)))) (.seq (.seq (regOf Tryd.f5 6) (.cond (.tmp 52) (.seq (regOf Tryd.f5 7) .ret) .skip)) (.seq (regOf Tryd.f5 8) (.seq (regOf Tryd.f5 9) (.seq (regOf Tryd.f5 10) .ret))))))) := by kernel_rfl
theorem loop5_0 : loopOf Tryd.f5 0 = (.seq (.seq (regOf Tryd.f5 3) (.cond (.tmp 32) .skip (.exit 0))) (.seq (.block 1 (regOf Tryd.f5 5)) (regOf Tryd.f5 4))) := by kernel_rfl
theorem body6 : Tryd.f6.body = some (.seq (regOf Tryd.f6 0) (.seq (.seq (regOf Tryd.f6 1) (.cond (.tmp 9) (.seq (regOf Tryd.f6 2) .ret) .skip)) (.seq (regOf Tryd.f6 3) (.seq (regOf Tryd.f6 4) (.seq (regOf Tryd.f6 5) .ret))))) := by kernel_rfl
theorem body7 : Tryd.f7.body = some (.seq (regOf Tryd.f7 0) (.seq (regOf Tryd.f7 1) (.seq (regOf Tryd.f7 2) (.seq (regOf Tryd.f7 3) (.seq (regOf Tryd.f7 4) .ret))))) := by kernel_rfl
theorem body8 : Tryd.f8.body = some (.seq (regOf Tryd.f8 0) (.seq (.seq (regOf Tryd.f8 1) (.cond (.tmp 9) (.seq (regOf Tryd.f8 2) .ret) .skip)) (.seq (regOf Tryd.f8 3) (.seq (regOf Tryd.f8 4) (.seq (regOf Tryd.f8 5) (.seq (.seq (regOf Tryd.f8 6) (.cond (.tmp 23) (regOf Tryd.f8 7) .skip)) (.seq (.seq (regOf Tryd.f8 8) (.cond (.tmp 29) (regOf Tryd.f8 9) .skip)) (.seq (.seq (regOf Tryd.f8 10) (.cond (.tmp 35) (regOf Tryd.f8 11) .skip)) (.seq (regOf Tryd.f8 12) .ret))))))))) := by kernel_rfl
theorem body9 : Tryd.f9.body = some (.seq (regOf Tryd.f9 0) (.seq (.seq (regOf Tryd.f9 1) (.cond (.tmp 7) (.seq (regOf Tryd.f9 2) .ret) .skip)) (.seq (regOf Tryd.f9 3) (.seq (.seq (regOf Tryd.f9 4) (.cond (.tmp 13) (regOf Tryd.f9 5) .skip)) (.seq (.seq (regOf Tryd.f9 6) (.cond (.tmp 21) (regOf Tryd.f9 7) .skip)) (.seq (.seq (regOf Tryd.f9 8) (.cond (.tmp 29) (regOf Tryd.f9 9) .skip)) (.seq (regOf Tryd.f9 10) .ret))))))) := by kernel_rfl
theorem body10 : Tryd.f10.body = some (.seq (regOf Tryd.f10 0) (.seq (regOf Tryd.f10 1) .ret)) := by kernel_rfl
theorem body11 : Tryd.f11.body = some (.seq (regOf Tryd.f11 0) (.seq (regOf Tryd.f11 1) (.seq (.seq (regOf Tryd.f11 2) (.cond (.tmp 31) (.seq (regOf Tryd.f11 3) .ret) .skip)) (.seq (regOf Tryd.f11 4) .ret)))) := by kernel_rfl
theorem body12 : Tryd.f12.body = some (.seq (regOf Tryd.f12 0) (.seq (regOf Tryd.f12 1) (.seq (.seq (regOf Tryd.f12 2) (.cond (.tmp 35) (.seq (regOf Tryd.f12 3) .ret) .skip)) (.seq (.seq (regOf Tryd.f12 4) (.cond (.tmp 68) (.seq (regOf Tryd.f12 5) .ret) .skip)) (.seq (regOf Tryd.f12 6) .ret))))) := by kernel_rfl
theorem body13 : Tryd.f13.body = some (.seq (regOf Tryd.f13 0) (.seq (.seq (regOf Tryd.f13 1) (.block 0 (.seq (.block 2 (.block 1 (.seq (.seq (.seq (.seq (regOf Tryd.f13 2) (.cond (.tmp 4) .skip (regOf Tryd.f13 3))) (.cond (.tmp 4) (.exit 1) .skip)) (.seq (regOf Tryd.f13 4) (.cond (.tmp 7) (.exit 2) .skip))) (.exit 0)))) (.seq (.seq (regOf Tryd.f13 5) .ret) (.exit 0))))) (.seq (regOf Tryd.f13 6) .ret))) := by kernel_rfl
theorem body14 : Tryd.f14.body = some (.seq (regOf Tryd.f14 0) (.seq (regOf Tryd.f14 1) .ret)) := by kernel_rfl
theorem body15 : Tryd.f15.body = some (.seq (regOf Tryd.f15 0) (.seq (regOf Tryd.f15 1) (.seq (regOf Tryd.f15 2) (.seq (regOf Tryd.f15 3) (.seq (.seq (regOf Tryd.f15 4) (.cond (.tmp 21) (regOf Tryd.f15 5) .skip)) (.seq (.seq (regOf Tryd.f15 6) (.cond (.tmp 26) (regOf Tryd.f15 7) .skip)) (.seq (.seq (regOf Tryd.f15 8) (.cond (.tmp 31) (regOf Tryd.f15 9) .skip)) (.seq (.seq (regOf Tryd.f15 10) (.cond (.tmp 48) (.seq (regOf Tryd.f15 11) .ret) .skip)) (.seq (regOf Tryd.f15 12) .ret))))))))) := by kernel_rfl
theorem body16 : Tryd.f16.body = some (.seq (regOf Tryd.f16 0) (.seq (regOf Tryd.f16 1) (.seq (regOf Tryd.f16 2) (.seq (.seq (regOf Tryd.f16 3) (.cond (.tmp 15) (regOf Tryd.f16 4) .skip)) (.seq (.seq (regOf Tryd.f16 5) (.cond (.tmp 21) (regOf Tryd.f16 6) .skip)) (.seq (.seq (regOf Tryd.f16 7) (.cond (.tmp 27) (regOf Tryd.f16 8) .skip)) (.seq (.seq (regOf Tryd.f16 9) (.cond (.tmp 46) (.seq (regOf Tryd.f16 10) .ret) .skip)) (.seq (regOf Tryd.f16 11) .ret)))))))) := by kernel_rfl
theorem body17 : Tryd.f17.body = some (.seq (regOf Tryd.f17 0) (.seq (regOf Tryd.f17 1) (.seq (regOf Tryd.f17 2) (.seq (regOf Tryd.f17 3) (.seq (regOf Tryd.f17 4) (.seq (.seq (regOf Tryd.f17 5) (.block 0 (.loop (loopOf Tryd.f17 0)))) (.seq (regOf Tryd.f17 11) (.seq (regOf Tryd.f17 12) (.seq (.seq (regOf Tryd.f17 13) (.cond (.tmp 76) (regOf Tryd.f17 14) .skip)) (.seq (regOf Tryd.f17 15) (.seq (regOf Tryd.f17 16) (.seq (regOf Tryd.f17 17) .ret)))))))))))) := by kernel_rfl
theorem loop17_0 : loopOf Tryd.f17 0 = (.seq (regOf Tryd.f17 6) (.seq (.cond (.tmp 43) .skip (.exit 0)) (.seq (.block 1 (.seq (regOf Tryd.f17 7) (.seq (regOf Tryd.f17 8) (regOf Tryd.f17 9)))) (regOf Tryd.f17 10)))) := by kernel_rfl
theorem body18 : Tryd.f18.body = some (.seq (regOf Tryd.f18 0) (.seq (regOf Tryd.f18 1) (.seq (regOf Tryd.f18 2) (.seq (regOf Tryd.f18 3) (.seq (.seq (regOf Tryd.f18 4) (.block 0 (.loop (loopOf Tryd.f18 0)))) (.seq (regOf Tryd.f18 11) (.seq (regOf Tryd.f18 12) (.seq (regOf Tryd.f18 13) (.seq (regOf Tryd.f18 14) (.seq (.seq (regOf Tryd.f18 15) (.cond (.tmp 107) (.seq (regOf Tryd.f18 16) .ret) .skip)) (.seq (regOf Tryd.f18 17) .ret))))))))))) := by kernel_rfl
theorem loop18_0 : loopOf Tryd.f18 0 = (.seq (regOf Tryd.f18 5) (.seq (.cond (.tmp 40) .skip (.exit 0)) (.seq (.block 1 (.seq (.seq (regOf Tryd.f18 6) (.cond (.tmp 43) (.exit 0) .skip)) (.seq (regOf Tryd.f18 7) (.seq (regOf Tryd.f18 8) (regOf Tryd.f18 9))))) (regOf Tryd.f18 10)))) := by kernel_rfl
theorem body19 : Tryd.f19.body = some (.seq (regOf Tryd.f19 0) (.seq (regOf Tryd.f19 1) (.seq (.seq (regOf Tryd.f19 2) (.block 0 (.loop (loopOf Tryd.f19 0)))) (.seq (regOf Tryd.f19 6) (.seq (.seq (regOf Tryd.f19 7) (.cond (.tmp 85) (regOf Tryd.f19 8) (regOf Tryd.f19 9))) (.seq (regOf Tryd.f19 10) .ret)))))) := by kernel_rfl
theorem loop19_0 : loopOf Tryd.f19 0 = (.seq (.seq (regOf Tryd.f19 3) (.cond (.tmp 40) .skip (.exit 0))) (.seq (.block 1 (regOf Tryd.f19 5)) (regOf Tryd.f19 4))) := by kernel_rfl
theorem body20 : Tryd.f20.body = some (.seq (regOf Tryd.f20 0) (.seq (.seq (regOf Tryd.f20 1) (.cond (.tmp 61) (.seq (regOf Tryd.f20 2) .ret) .skip)) (.seq (.seq (regOf Tryd.f20 3) (.block 0 (.loop (loopOf Tryd.f20 0)))) (.seq (regOf Tryd.f20 8) .ret)))) := by kernel_rfl
theorem loop20_0 : loopOf Tryd.f20 0 = (.seq (.seq (regOf Tryd.f20 4) (.cond (.tmp 66) .skip (.exit 0))) (.seq (.block 1 (.seq (regOf Tryd.f20 6) (.cond (.tmp 79) (.seq (regOf Tryd.f20 7) .ret) .skip))) (regOf Tryd.f20 5))) := by kernel_rfl
theorem body21 : Tryd.f21.body = some (.seq (regOf Tryd.f21 0) (.seq (regOf Tryd.f21 1) (.seq (regOf Tryd.f21 2) (.seq (regOf Tryd.f21 3) (.seq (regOf Tryd.f21 4) (.seq (regOf Tryd.f21 5) (.seq (regOf Tryd.f21 6) (.seq (regOf Tryd.f21 7) (.seq (regOf Tryd.f21 8) (.seq (regOf Tryd.f21 9) (.seq (.seq (regOf Tryd.f21 10) (.block 0 (.loop (loopOf Tryd.f21 0)))) (.seq (regOf Tryd.f21 18) (.seq (regOf Tryd.f21 19) (.seq (regOf Tryd.f21 20) (.seq (regOf Tryd.f21 21) (.seq (regOf Tryd.f21 22) (.seq (regOf Tryd.f21 23) (.seq (regOf Tryd.f21 24) (.seq (.seq (regOf Tryd.f21 25) (.cond (.tmp 108) (.seq (regOf Tryd.f21 26) .ret) .skip)) (.seq (regOf Tryd.f21 27) .ret)))))))))))))))))))) := by kernel_rfl
theorem loop21_0 : loopOf Tryd.f21 0 = (.seq (.seq (regOf Tryd.f21 11) (.cond (.tmp 46) .skip (.exit 0))) (.seq (.block 1 (.seq (regOf Tryd.f21 13) (.seq (regOf Tryd.f21 14) (.seq (regOf Tryd.f21 15) (.seq (regOf Tryd.f21 16) (regOf Tryd.f21 17)))))) (regOf Tryd.f21 12))) := by kernel_rfl
theorem body22 : Tryd.f22.body = some (regOf Tryd.f22 0) := by kernel_rfl
theorem body23 : Tryd.f23.body = some (.seq (regOf Tryd.f23 0) (.seq (.seq (regOf Tryd.f23 1) (.block 0 (.seq (.block 6 (.seq (.block 5 (.seq (.block 4 (.seq (.block 3 (.block 2 (.seq (.block 1 (.seq (.seq (.seq (regOf Tryd.f23 2) (.cond (.tmp 5) (.exit 1) .skip)) (.seq (.seq (.seq (regOf Tryd.f23 3) (.cond (.tmp 7) .skip (regOf Tryd.f23 4))) (.cond (.tmp 7) (.exit 2) .skip)) (.seq (.seq (.seq (regOf Tryd.f23 5) (.cond (.tmp 10) .skip (.seq (regOf Tryd.f23 6) (.cond (.tmp 10) .skip (regOf Tryd.f23 7))))) (.cond (.tmp 10) (.exit 3) .skip)) (.seq (.seq (regOf Tryd.f23 8) (.cond (.tmp 14) (.exit 4) .skip)) (.seq (.seq (regOf Tryd.f23 9) (.cond (.tmp 16) (.exit 5) .skip)) (.seq (.seq (regOf Tryd.f23 10) (.cond (.tmp 18) .skip (regOf Tryd.f23 11))) (.cond (.tmp 18) (.exit 6) .skip))))))) (.exit 0))) (.seq (.seq (regOf Tryd.f23 12) .ret) (.exit 0))))) (.seq (.seq (regOf Tryd.f23 13) .ret) (.exit 0)))) (.seq (.seq (regOf Tryd.f23 14) .ret) (.exit 0)))) (.seq (.seq (regOf Tryd.f23 15) .ret) (.exit 0)))) (.seq (.seq (regOf Tryd.f23 16) .ret) (.exit 0))))) (.seq (regOf Tryd.f23 17) .ret))) := by kernel_rfl
theorem body24 : Tryd.f24.body = some (.seq (regOf Tryd.f24 0) (.seq (regOf Tryd.f24 1) (regOf Tryd.f24 2))) := by kernel_rfl
theorem body25 : Tryd.f25.body = some (.seq (.seq (regOf Tryd.f25 0) (.cond (.tmp 7) .ret .skip)) (.seq (regOf Tryd.f25 1) (.block 0 (.loop (loopOf Tryd.f25 0))))) := by kernel_rfl
theorem loop25_0 : loopOf Tryd.f25 0 = (.seq (regOf Tryd.f25 2) (.seq (.cond (.tmp 11) .skip (.exit 0)) (.seq (.block 1 (.seq (regOf Tryd.f25 3) (.seq (regOf Tryd.f25 4) (regOf Tryd.f25 5)))) (regOf Tryd.f25 6)))) := by kernel_rfl
theorem body26 : Tryd.f26.body = some (.seq (regOf Tryd.f26 0) (.seq (.seq (regOf Tryd.f26 1) (.cond (.tmp 4) (.seq (regOf Tryd.f26 2) .ret) .skip)) (.seq (regOf Tryd.f26 3) .ret))) := by kernel_rfl
theorem body27 : Tryd.f27.body = some (.seq (regOf Tryd.f27 0) (.seq (regOf Tryd.f27 1) .ret)) := by kernel_rfl
theorem body28 : Tryd.f28.body = some (.seq (regOf Tryd.f28 0) (.seq (regOf Tryd.f28 1) .ret)) := by kernel_rfl
theorem body29 : Tryd.f29.body = some (.seq (regOf Tryd.f29 0) (.seq (regOf Tryd.f29 1) .ret)) := by kernel_rfl
theorem body30 : Tryd.f30.body = some (.seq (regOf Tryd.f30 0) (.seq (regOf Tryd.f30 1) .ret)) := by kernel_rfl
theorem body31 : Tryd.f31.body = some (.seq (regOf Tryd.f31 0) (.seq (regOf Tryd.f31 1) .ret)) := by kernel_rfl
theorem body32 : Tryd.f32.body = some (.seq (regOf Tryd.f32 0) (.seq (.seq (regOf Tryd.f32 1) (.cond (.tmp 8) (.seq (regOf Tryd.f32 2) .ret) .skip)) (.seq (regOf Tryd.f32 3) .ret))) := by kernel_rfl
theorem body33 : Tryd.f33.body = some (.seq (regOf Tryd.f33 0) (.seq (regOf Tryd.f33 1) .ret)) := by kernel_rfl
theorem body34 : Tryd.f34.body = some (.seq (regOf Tryd.f34 0) (.seq (regOf Tryd.f34 1) .ret)) := by kernel_rfl
theorem body35 : Tryd.f35.body = some (.seq (regOf Tryd.f35 0) (.seq (regOf Tryd.f35 1) .ret)) := by kernel_rfl
theorem body36 : Tryd.f36.body = some (.seq (regOf Tryd.f36 0) (.seq (regOf Tryd.f36 1) (.seq (regOf Tryd.f36 2) (.seq (regOf Tryd.f36 3) .ret)))) := by kernel_rfl
theorem body37 : Tryd.f37.body = some (.seq (regOf Tryd.f37 0) (.seq (regOf Tryd.f37 1) (.seq (.seq (regOf Tryd.f37 2) (.cond (.tmp 8) (.seq (regOf Tryd.f37 3) .ret) .skip)) (.seq (.seq (regOf Tryd.f37 4) (.cond (.tmp 16) (.seq (regOf Tryd.f37 5) (.seq (regOf Tryd.f37 6) .ret)) .skip)) (.seq (regOf Tryd.f37 7) (.seq (regOf Tryd.f37 8) (.seq (regOf Tryd.f37 9) .ret))))))) := by kernel_rfl
theorem body38 : Tryd.f38.body = some (.seq (regOf Tryd.f38 0) (.seq (regOf Tryd.f38 1) .ret)) := by kernel_rfl
theorem body39 : Tryd.f39.body = some (.seq (regOf Tryd.f39 0) (.seq (.seq (regOf Tryd.f39 1) (.cond (.tmp 4) (.seq (regOf Tryd.f39 2) .ret) .skip)) (.seq (regOf Tryd.f39 3) .ret))) := by kernel_rfl
theorem body40 : Tryd.f40.body = some (.seq (regOf Tryd.f40 0) (.seq (.seq (regOf Tryd.f40 1) (.cond (.tmp 8) (.seq (regOf Tryd.f40 2) .ret) .skip)) (.seq (regOf Tryd.f40 3) (.seq (.seq (regOf Tryd.f40 4) (.cond (.tmp 18) (.seq (regOf Tryd.f40 5) (.seq (regOf Tryd.f40 6) .ret)) .skip)) (.seq (regOf Tryd.f40 7) (.seq (regOf Tryd.f40 8) .ret)))))) := by kernel_rfl
theorem body41 : Tryd.f41.body = some (.seq (regOf Tryd.f41 0) (.seq (regOf Tryd.f41 1) (.seq (regOf Tryd.f41 2) (.seq (regOf Tryd.f41 3) (.seq (regOf Tryd.f41 4) (.seq (regOf Tryd.f41 5) .ret)))))) := by kernel_rfl
theorem body42 : Tryd.f42.body = some (.seq (regOf Tryd.f42 0) (.seq (regOf Tryd.f42 1) (.seq (.seq (regOf Tryd.f42 2) (.cond (.tmp 20) (.seq (regOf Tryd.f42 3) (.seq (regOf Tryd.f42 4) .ret)) .skip)) (.seq (regOf Tryd.f42 5) (.seq (regOf Tryd.f42 6) (.seq (regOf Tryd.f42 7) .ret)))))) := by kernel_rfl
theorem body43 : Tryd.f43.body = some (.seq (regOf Tryd.f43 0) (.block 0 (.loop (loopOf Tryd.f43 0)))) := by kernel_rfl
theorem loop43_0 : loopOf Tryd.f43 0 = (.seq (regOf Tryd.f43 1) (.seq (.cond (.tmp 9) .skip (.exit 0)) (.seq (.block 1 (.seq (regOf Tryd.f43 2) (regOf Tryd.f43 3))) (regOf Tryd.f43 4)))) := by kernel_rfl
theorem body44 : Tryd.f44.body = some (.seq (regOf Tryd.f44 0) (.seq (regOf Tryd.f44 1) .ret)) := by kernel_rfl
theorem body45 : Tryd.f45.body = some (.seq (regOf Tryd.f45 0) (.seq (.seq (regOf Tryd.f45 1) (.cond (.tmp 6) (.seq (regOf Tryd.f45 2) .ret) .skip)) (.seq (regOf Tryd.f45 3) (.seq (.seq (regOf Tryd.f45 4) (.cond (.tmp 16) (.seq (regOf Tryd.f45 5) (.seq (regOf Tryd.f45 6) .ret)) .skip)) (.seq (regOf Tryd.f45 7) (.seq (regOf Tryd.f45 8) .ret)))))) := by kernel_rfl
theorem body46 : Tryd.f46.body = some (.seq (regOf Tryd.f46 0) (.seq (regOf Tryd.f46 1) .ret)) := by kernel_rfl
theorem body47 : Tryd.f47.body = some (.seq (regOf Tryd.f47 0) (.seq (regOf Tryd.f47 1) .ret)) := by kernel_rfl
theorem body48 : Tryd.f48.body = some (.seq (regOf Tryd.f48 0) (.seq (regOf Tryd.f48 1) .ret)) := by kernel_rfl
theorem body49 : Tryd.f49.body = some (.seq (.seq (regOf Tryd.f49 0) (.cond (.tmp 7) .ret .skip)) (.seq (regOf Tryd.f49 1) (.block 0 (.loop (loopOf Tryd.f49 0))))) := by kernel_rfl
theorem loop49_0 : loopOf Tryd.f49 0 = (.seq (regOf Tryd.f49 2) (.seq (.cond (.tmp 11) .skip (.exit 0)) (.seq (.block 1 (.seq (regOf Tryd.f49 3) (regOf Tryd.f49 4))) (regOf Tryd.f49 5)))) := by kernel_rfl
theorem body50 : Tryd.f50.body = some (.seq (regOf Tryd.f50 0) (.seq (regOf Tryd.f50 1) (.seq (.block 0 (.loop (loopOf Tryd.f50 0))) (.seq (regOf Tryd.f50 5) .ret)))) := by kernel_rfl
theorem loop50_0 : loopOf Tryd.f50 0 = (.seq (.seq (regOf Tryd.f50 2) (.cond (.tmp 5) .skip (.exit 0))) (.block 1 (.seq (regOf Tryd.f50 3) (regOf Tryd.f50 4)))) := by kernel_rfl
theorem body51 : Tryd.f51.body = some (.seq (regOf Tryd.f51 0) (.seq (regOf Tryd.f51 1) .ret)) := by kernel_rfl
theorem body52 : Tryd.f52.body = some (.seq (regOf Tryd.f52 0) (.seq (regOf Tryd.f52 1) .ret)) := by kernel_rfl
theorem body53 : Tryd.f53.body = some (.seq (regOf Tryd.f53 0) (.seq (.seq (regOf Tryd.f53 1) (.block 0 (.loop (loopOf Tryd.f53 0)))) (.seq (regOf Tryd.f53 7) .ret))) := by kernel_rfl
theorem loop53_0 : loopOf Tryd.f53 0 = (.seq (.seq (regOf Tryd.f53 2) (.cond (.tmp 8) .skip (.exit 0))) (.seq (.block 1 (.seq (regOf Tryd.f53 4) (.seq (regOf Tryd.f53 5) (.cond (.tmp 39) (.seq (regOf Tryd.f53 6) .ret) .skip)))) (regOf Tryd.f53 3))) := by kernel_rfl
theorem body54 : Tryd.f54.body = some (.seq (regOf Tryd.f54 0) (.seq (regOf Tryd.f54 1) .ret)) := by kernel_rfl
theorem body55 : Tryd.f55.body = some (.seq (regOf Tryd.f55 0) (.seq (regOf Tryd.f55 1) (.seq (.block 0 (.loop (loopOf Tryd.f55 0))) (.seq (.seq (regOf Tryd.f55 4) (.cond (.tmp 30) (.seq (regOf Tryd.f55 5) .ret) .skip)) (.seq (regOf Tryd.f55 6) (.seq (.seq (regOf Tryd.f55 7) (.block 2 (.loop (loopOf Tryd.f55 2)))) (.seq (.seq (regOf Tryd.f55 11) (.cond (.tmp 50) (.seq (regOf Tryd.f55 12) .ret) .skip)) (.seq (regOf Tryd.f55 13) .ret)))))))) := by kernel_rfl
theorem loop55_0 : loopOf Tryd.f55 0 = (.seq (.seq (regOf Tryd.f55 2) (.cond (.tmp 20) .skip (.exit 0))) (.block 1 (regOf Tryd.f55 3))) := by kernel_rfl
theorem loop55_2 : loopOf Tryd.f55 2 = (.seq (.seq (regOf Tryd.f55 8) (.cond (.tmp 33) .skip (.exit 2))) (.seq (.block 3 (regOf Tryd.f55 10)) (regOf Tryd.f55 9))) := by kernel_rfl
theorem body56 : Tryd.f56.body = some (.seq (regOf Tryd.f56 0) (.seq (regOf Tryd.f56 1) .ret)) := by kernel_rfl
theorem body57 : Tryd.f57.body = some (.seq (regOf Tryd.f57 0) (.seq (regOf Tryd.f57 1) .ret)) := by kernel_rfl
theorem body58 : Tryd.f58.body = some (.seq (regOf Tryd.f58 0) (.seq (regOf Tryd.f58 1) (.seq (.seq (regOf Tryd.f58 2) (.block 0 (.loop (loopOf Tryd.f58 0)))) (.seq (regOf Tryd.f58 12) .ret)))) := by kernel_rfl
theorem loop58_0 : loopOf Tryd.f58 0 = (.seq (regOf Tryd.f58 3) (.seq (.cond (.tmp 11) .skip (.exit 0)) (.seq (.block 1 (.seq (regOf Tryd.f58 4) (.seq (regOf Tryd.f58 5) (.seq (.seq (regOf Tryd.f58 6) (.cond (.tmp 29) (.seq (regOf Tryd.f58 7) .ret) .skip)) (.seq (regOf Tryd.f58 8) (.seq (regOf Tryd.f58 9) (.cond (.tmp 39) (.seq (regOf Tryd.f58 10) .ret) .skip))))))) (regOf Tryd.f58 11)))) := by kernel_rfl
theorem body59 : Tryd.f59.body = some (.seq (regOf Tryd.f59 0) (.seq (.seq (regOf Tryd.f59 1) (.cond (.tmp 4) (.seq (regOf Tryd.f59 2) .ret) .skip)) (.seq (regOf Tryd.f59 3) .ret))) := by kernel_rfl
theorem body60 : Tryd.f60.body = some (.seq (regOf Tryd.f60 0) (.seq (.seq (regOf Tryd.f60 1) (.cond (.tmp 5) (.seq (regOf Tryd.f60 2) .ret) .skip)) (.seq (regOf Tryd.f60 3) .ret))) := by kernel_rfl
theorem body61 : Tryd.f61.body = some (.seq (regOf Tryd.f61 0) (.seq (regOf Tryd.f61 1) (.seq (.block 0 (.loop (loopOf Tryd.f61 0))) (.seq (regOf Tryd.f61 5) .ret)))) := by kernel_rfl
theorem loop61_0 : loopOf Tryd.f61 0 = (.seq (.seq (regOf Tryd.f61 2) (.cond (.tmp 5) .skip (.exit 0))) (.block 1 (.seq (regOf Tryd.f61 3) (regOf Tryd.f61 4)))) := by kernel_rfl
theorem body62 : Tryd.f62.body = some (.seq (regOf Tryd.f62 0) (.seq (.seq (regOf Tryd.f62 1) (.cond (.tmp 12) (.seq (regOf Tryd.f62 2) .ret) .skip)) (.seq (.seq (regOf Tryd.f62 3) (.cond (.tmp 21) (.seq (regOf Tryd.f62 4) .ret) .skip)) (.seq (.seq (regOf Tryd.f62 5) (.seq (regOf Tryd.f62 6) (.cond (.tmp 34) (.seq (regOf Tryd.f62 7) .ret) .skip))) (.seq (regOf Tryd.f62 8) .ret))))) := by kernel_rfl
theorem body63 : Tryd.f63.body = some (.seq (regOf Tryd.f63 0) (.seq (regOf Tryd.f63 1) .ret)) := by kernel_rfl
theorem body64 : Tryd.f64.body = some (.seq (regOf Tryd.f64 0) (.seq (regOf Tryd.f64 1) .ret)) := by kernel_rfl
theorem body65 : Tryd.f65.body = some (.seq (regOf Tryd.f65 0) (.seq (.block 0 (.loop (loopOf Tryd.f65 0))) (.seq (regOf Tryd.f65 3) .ret))) := by kernel_rfl
theorem loop65_0 : loopOf Tryd.f65 0 = (.seq (.seq (regOf Tryd.f65 1) (.cond (.tmp 13) .skip (.exit 0))) (.block 1 (regOf Tryd.f65 2))) := by kernel_rfl
theorem body66 : Tryd.f66.body = some (.seq (regOf Tryd.f66 0) (.seq (.block 0 (.loop (loopOf Tryd.f66 0))) (.seq (regOf Tryd.f66 3) .ret))) := by kernel_rfl
theorem loop66_0 : loopOf Tryd.f66 0 = (.seq (.seq (regOf Tryd.f66 1) (.cond (.tmp 16) .skip (.exit 0))) (.block 1 (regOf Tryd.f66 2))) := by kernel_rfl
theorem body67 : Tryd.f67.body = some (.seq (regOf Tryd.f67 0) (.seq (.seq (regOf Tryd.f67 1) (.block 0 (.loop (loopOf Tryd.f67 0)))) (.seq (regOf Tryd.f67 8) .ret))) := by kernel_rfl
theorem loop67_0 : loopOf Tryd.f67 0 = (.seq (.seq (regOf Tryd.f67 2) (.cond (.tmp 9) .skip (.exit 0))) (.seq (.block 1 (.seq (regOf Tryd.f67 4) (.seq (.seq (regOf Tryd.f67 5) (.cond (.tmp 16) (.seq (regOf Tryd.f67 6) .ret) .skip)) (regOf Tryd.f67 7)))) (regOf Tryd.f67 3))) := by kernel_rfl
theorem body68 : Tryd.f68.body = some (.seq (regOf Tryd.f68 0) (.seq (.block 0 (.loop (loopOf Tryd.f68 0))) (.seq (regOf Tryd.f68 4) .ret))) := by kernel_rfl
theorem loop68_0 : loopOf Tryd.f68 0 = (.seq (.seq (regOf Tryd.f68 1) (.cond (.tmp 7) .skip (.exit 0))) (.block 1 (.seq (.seq (regOf Tryd.f68 2) (.cond (.tmp 12) (.exit 0) .skip)) (regOf Tryd.f68 3)))) := by kernel_rfl
theorem body69 : Tryd.f69.body = some (.seq (regOf Tryd.f69 0) (.seq (.block 0 (.loop (loopOf Tryd.f69 0))) (.seq (regOf Tryd.f69 4) .ret))) := by kernel_rfl
theorem loop69_0 : loopOf Tryd.f69 0 = (.seq (.seq (regOf Tryd.f69 1) (.cond (.tmp 7) .skip (.exit 0))) (.block 1 (.seq (.seq (regOf Tryd.f69 2) (.cond (.tmp 15) (.exit 0) .skip)) (regOf Tryd.f69 3)))) := by kernel_rfl
theorem body70 : Tryd.f70.body = some (.seq (regOf Tryd.f70 0) (.seq (.block 0 (.loop (loopOf Tryd.f70 0))) (.seq (regOf Tryd.f70 5) .ret))) := by kernel_rfl
theorem loop70_0 : loopOf Tryd.f70 0 = (.seq (.seq (regOf Tryd.f70 1) (.cond (.tmp 9) .skip (.exit 0))) (.block 1 (.seq (regOf Tryd.f70 2) (.seq (.seq (regOf Tryd.f70 3) (.cond (.tmp 18) (.exit 0) .skip)) (regOf Tryd.f70 4))))) := by kernel_rfl
theorem body71 : Tryd.f71.body = some (.seq (regOf Tryd.f71 0) (.seq (.block 0 (.loop (loopOf Tryd.f71 0))) (.seq (regOf Tryd.f71 7) .ret))) := by kernel_rfl
theorem loop71_0 : loopOf Tryd.f71 0 = (.seq (.seq (regOf Tryd.f71 1) (.cond (.tmp 9) .skip (.exit 0))) (.block 1 (.seq (regOf Tryd.f71 2) (.seq (.seq (regOf Tryd.f71 3) (.cond (.tmp 17) (regOf Tryd.f71 4) .skip)) (.seq (.seq (regOf Tryd.f71 5) (.cond (.tmp 26) (.exit 0) .skip)) (regOf Tryd.f71 6)))))) := by kernel_rfl
theorem body72 : Tryd.f72.body = some (.seq (regOf Tryd.f72 0) (.seq (regOf Tryd.f72 1) .ret)) := by kernel_rfl
theorem body73 : Tryd.f73.body = some (.seq (regOf Tryd.f73 0) (.seq (.seq (regOf Tryd.f73 1) (.cond (.tmp 10) (.seq (regOf Tryd.f73 2) .ret) (regOf Tryd.f73 3))) .ret)) := by kernel_rfl
theorem body74 : Tryd.f74.body = some (.seq (regOf Tryd.f74 0) (.seq (regOf Tryd.f74 1) .ret)) := by kernel_rfl
theorem body75 : Tryd.f75.body = some (.seq (regOf Tryd.f75 0) (.seq (regOf Tryd.f75 1) (.seq (.seq (regOf Tryd.f75 2) (.cond (.tmp 10) (.seq (regOf Tryd.f75 3) .ret) .skip)) (.seq (regOf Tryd.f75 4) (.seq (regOf Tryd.f75 5) (.seq (.seq (regOf Tryd.f75 6) (.cond (.tmp 18) (.seq (regOf Tryd.f75 7) .ret) .skip)) (.seq (regOf Tryd.f75 8) (.seq (.seq (regOf Tryd.f75 9) (.block 0 (.loop (loopOf Tryd.f75 0)))) (.seq (.seq (regOf Tryd.f75 13) (.cond (.tmp 35) (regOf Tryd.f75 14) .skip)) (.seq (regOf Tryd.f75 15) (.seq (.seq (regOf Tryd.f75 16) (.cond (.tmp 48) (.seq (regOf Tryd.f75 17) .ret) .skip)) (.seq (regOf Tryd.f75 18) .ret)))))))))))) := by kernel_rfl
theorem loop75_0 : loopOf Tryd.f75 0 = (.seq (.seq (regOf Tryd.f75 10) (.cond (.tmp 27) .skip (.exit 0))) (.seq (.block 1 (.seq (regOf Tryd.f75 12) (.cond (.tmp 33) (.exit 0) .skip))) (regOf Tryd.f75 11))) := by kernel_rfl
theorem body76 : Tryd.f76.body = some (.seq (regOf Tryd.f76 0) (.seq (regOf Tryd.f76 1) (.seq (.seq (regOf Tryd.f76 2) (.cond (.tmp 16) (.seq (regOf Tryd.f76 3) .ret) .skip)) (.seq (regOf Tryd.f76 4) (.seq (regOf Tryd.f76 5) (.seq (.seq (regOf Tryd.f76 6) (.cond (.tmp 23) (.seq (regOf Tryd.f76 7) (.seq (regOf Tryd.f76 8) .ret)) .skip)) (.seq (regOf Tryd.f76 9) (.seq (regOf Tryd.f76 10) (.seq (.seq (regOf Tryd.f76 11) (.cond (.tmp 45) (.seq (regOf Tryd.f76 12) .ret) .skip)) (.seq (regOf Tryd.f76 13) (.seq (.seq (regOf Tryd.f76 14) (.cond (.tmp 57) (.seq (regOf Tryd.f76 15) .ret) .skip)) (.seq (.seq (regOf Tryd.f76 16) (.cond (.tmp 59) (.seq (regOf Tryd.f76 17) .ret) .skip)) (.seq (regOf Tryd.f76 18) (.seq (.seq (regOf Tryd.f76 19) (.cond (.tmp 75) (.seq (regOf Tryd.f76 20) .ret) .skip)) (.seq (.seq (regOf Tryd.f76 21) (.cond (.tmp 77) (.seq (regOf Tryd.f76 22) .ret) .skip)) (.seq (regOf Tryd.f76 23) (.seq (.seq (regOf Tryd.f76 24) (.cond (.tmp 98) (.seq (regOf Tryd.f76 25) .ret) .skip)) (.seq (regOf Tryd.f76 26) .ret)))))))))))))))))) := by kernel_rfl
theorem body78 : Tryd.f78.body = some (.seq (regOf Tryd.f78 0) (.seq (regOf Tryd.f78 1) .ret)) := by kernel_rfl
theorem body79 : Tryd.f79.body = some (.seq (regOf Tryd.f79 0) (.seq (regOf Tryd.f79 1) .ret)) := by kernel_rfl
theorem body80 : Tryd.f80.body = some (.seq (regOf Tryd.f80 0) (.seq (.block 0 (.seq (regOf Tryd.f80 1) (.cond (.tmp 3) (.seq (regOf Tryd.f80 2) .ret) (.seq (regOf Tryd.f80 3) (.cond (.tmp 10) (.seq (regOf Tryd.f80 4) .ret) .skip))))) (.seq (regOf Tryd.f80 5) .ret))) := by kernel_rfl
theorem body81 : Tryd.f81.body = some (.seq (regOf Tryd.f81 0) (.seq (regOf Tryd.f81 1) .ret)) := by kernel_rfl
theorem body83 : Tryd.f83.body = some (.seq (regOf Tryd.f83 0) (.seq (regOf Tryd.f83 1) .ret)) := by kernel_rfl
theorem body106 : Tryd.f106.body = some (regOf Tryd.f106 0) := by kernel_rfl
theorem ok3 : fnOk Tryd.prog md fg 3 = true := by kernel_rfl
theorem ok4 : fnOk Tryd.prog md fg 4 = true := by kernel_rfl
theorem ok5 : fnOk Tryd.prog md fg 5 = true := by kernel_rfl
theorem ok6 : fnOk Tryd.prog md fg 6 = true := by kernel_rfl
theorem ok7 : fnOk Tryd.prog md fg 7 = true := by kernel_rfl
theorem ok8 : fnOk Tryd.prog md fg 8 = true := by kernel_rfl
theorem ok9 : fnOk Tryd.prog md fg 9 = true := by kernel_rfl
theorem ok10 : fnOk Tryd.prog md fg 10 = true := by kernel_rfl
theorem ok11 : fnOk Tryd.prog md fg 11 = true := by kernel_rfl
theorem ok12 : fnOk Tryd.prog md fg 12 = true := by kernel_rfl
theorem ok13 : fnOk Tryd.prog md fg 13 = true := by kernel_rfl
theorem ok14 : fnOk Tryd.prog md fg 14 = true := by kernel_rfl
theorem ok15 : fnOk Tryd.prog md fg 15 = true := by kernel_rfl
theorem ok16 : fnOk Tryd.prog md fg 16 = true := by kernel_rfl
theorem ok17 : fnOk Tryd.prog md fg 17 = true := by kernel_rfl
theorem ok18 : fnOk Tryd.prog md fg 18 = true := by kernel_rfl
theorem ok19 : fnOk Tryd.prog md fg 19 = true := by kernel_rfl
theorem ok20 : fnOk Tryd.prog md fg 20 = true := by kernel_rfl
theorem ok21 : fnOk Tryd.prog md fg 21 = true := by kernel_rfl
theorem ok22 : fnOk Tryd.prog md fg 22 = true := by kernel_rfl
theorem ok23 : fnOk Tryd.prog md fg 23 = true := by kernel_rfl
theorem ok24 : fnOk Tryd.prog md fg 24 = true := by kernel_rfl
theorem ok25 : fnOk Tryd.prog md fg 25 = true := by kernel_rfl
theorem ok26 : fnOk Tryd.prog md fg 26 = true := by kernel_rfl
theorem ok27 : fnOk Tryd.prog md fg 27 = true := by kernel_rfl
theorem ok28 : fnOk Tryd.prog md fg 28 = true := by kernel_rfl
theorem ok29 : fnOk Tryd.prog md fg 29 = true := by kernel_rfl
theorem ok30 : fnOk Tryd.prog md fg 30 = true := by kernel_rfl
theorem ok31 : fnOk Tryd.prog md fg 31 = true := by kernel_rfl
theorem ok32 : fnOk Tryd.prog md fg 32 = true := by kernel_rfl
theorem ok33 : fnOk Tryd.prog md fg 33 = true := by kernel_rfl
theorem ok34 : fnOk Tryd.prog md fg 34 = true := by kernel_rfl
theorem ok35 : fnOk Tryd.prog md fg 35 = true := by kernel_rfl
theorem ok36 : fnOk Tryd.prog md fg 36 = true := by kernel_rfl
theorem ok37 : fnOk Tryd.prog md fg 37 = true := by kernel_rfl
theorem ok38 : fnOk Tryd.prog md fg 38 = true := by kernel_rfl
theorem ok39 : fnOk Tryd.prog md fg 39 = true := by kernel_rfl
theorem ok40 : fnOk Tryd.prog md fg 40 = true := by kernel_rfl
theorem ok41 : fnOk Tryd.prog md fg 41 = true := by kernel_rfl
theorem ok42 : fnOk Tryd.prog md fg 42 = true := by kernel_rfl
theorem ok43 : fnOk Tryd.prog md fg 43 = true := by kernel_rfl
theorem ok44 : fnOk Tryd.prog md fg 44 = true := by kernel_rfl
theorem ok45 : fnOk Tryd.prog md fg 45 = true := by kernel_rfl
theorem ok46 : fnOk Tryd.prog md fg 46 = true := by kernel_rfl
theorem ok47 : fnOk Tryd.prog md fg 47 = true := by kernel_rfl
theorem ok48 : fnOk Tryd.prog md fg 48 = true := by kernel_rfl
theorem ok49 : fnOk Tryd.prog md fg 49 = true := by kernel_rfl
theorem ok50 : fnOk Tryd.prog md fg 50 = true := by kernel_rfl
theorem ok51 : fnOk Tryd.prog md fg 51 = true := by kernel_rfl
theorem ok52 : fnOk Tryd.prog md fg 52 = true := by kernel_rfl
theorem ok53 : fnOk Tryd.prog md fg 53 = true := by kernel_rfl
theorem ok54 : fnOk Tryd.prog md fg 54 = true := by kernel_rfl
theorem ok55 : fnOk Tryd.prog md fg 55 = true := by kernel_rfl
theorem ok56 : fnOk Tryd.prog md fg 56 = true := by kernel_rfl
theorem ok57 : fnOk Tryd.prog md fg 57 = true := by kernel_rfl
theorem ok58 : fnOk Tryd.prog md fg 58 = true := by kernel_rfl
theorem ok59 : fnOk Tryd.prog md fg 59 = true := by kernel_rfl
theorem ok60 : fnOk Tryd.prog md fg 60 = true := by kernel_rfl
theorem ok61 : fnOk Tryd.prog md fg 61 = true := by kernel_rfl
theorem ok62 : fnOk Tryd.prog md fg 62 = true := by kernel_rfl
theorem ok63 : fnOk Tryd.prog md fg 63 = true := by kernel_rfl
theorem ok64 : fnOk Tryd.prog md fg 64 = true := by kernel_rfl
theorem ok65 : fnOk Tryd.prog md fg 65 = true := by kernel_rfl
theorem ok66 : fnOk Tryd.prog md fg 66 = true := by kernel_rfl
theorem ok67 : fnOk Tryd.prog md fg 67 = true := by kernel_rfl
theorem ok68 : fnOk Tryd.prog md fg 68 = true := by kernel_rfl
theorem ok69 : fnOk Tryd.prog md fg 69 = true := by kernel_rfl
theorem ok70 : fnOk Tryd.prog md fg 70 = true := by kernel_rfl
theorem ok71 : fnOk Tryd.prog md fg 71 = true := by kernel_rfl
theorem ok72 : fnOk Tryd.prog md fg 72 = true := by kernel_rfl
theorem ok73 : fnOk Tryd.prog md fg 73 = true := by kernel_rfl
theorem ok74 : fnOk Tryd.prog md fg 74 = true := by kernel_rfl
theorem ok75 : fnOk Tryd.prog md fg 75 = true := by kernel_rfl
theorem ok76 : fnOk Tryd.prog md fg 76 = true := by kernel_rfl
theorem ok78 : fnOk Tryd.prog md fg 78 = true := by kernel_rfl
theorem ok79 : fnOk Tryd.prog md fg 79 = true := by kernel_rfl
theorem ok80 : fnOk Tryd.prog md fg 80 = true := by kernel_rfl
theorem ok81 : fnOk Tryd.prog md fg 81 = true := by kernel_rfl
theorem ok83 : fnOk Tryd.prog md fg 83 = true := by kernel_rfl
theorem ok106 : fnOk Tryd.prog md fg 106 = true := by kernel_rfl
theorem aval_of {f : FuncId} {fn : Func} {c : Code} {rs : Array ResultVar} {nt : Nat} (hf : Tryd.prog.funcs[f]? = some fn) (hb : fn.body = some c) (hr : fn.results = rs) (hn : fn.ntmps = nt) (hok : fnOk Tryd.prog md fg f = true) (args : List AV) (h : AHeap) :
    aval Tryd.prog md fg f args h = finish Tryd.prog rs.toList (arun Tryd.prog md fg (fg f) c [] (env0 nt args) h) := aval_eq hf hb hr hn hok args h
/-- The functions that are reckoned. -/
def known : List FuncId := [3, 4, 5, 6, 7, 8, 9, 10, 11, 12, 13, 14, 15, 16, 17, 18, 19, 20, 21, 22, 23, 24, 25, 26, 27, 28, 29, 30, 31, 32, 33, 34, 35, 36, 37, 38, 39, 40, 41, 42, 43, 44, 45, 46, 47, 48, 49, 50, 51, 52, 53, 54, 55, 56, 57, 58, 59, 60, 61, 62, 63, 64, 65, 66, 67, 68, 69, 70, 71, 72, 73, 74, 75, 76, 78, 79, 80, 81, 83, 106]
def knows (f : FuncId) : Bool := known.contains f
theorem okKnown : okAll Tryd.prog md fg knows := by
  have h : known.all (fun f => fnOk Tryd.prog md fg f) = true := by kernel_rfl
  intro f hf
  exact List.all_eq_true.1 h f (by simpa [knows] using hf)
end Go.Proofs.YtfloombnadnmaaaDoor
