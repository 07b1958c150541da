/- What the engine must know of the functions of touchstonelaw02 and what they call: which slots outlive a region, bodies by the numbers of their regions, types. Printed by wip/tools. -/
import Derived.Test.YtlpkfeplbcadbaaChecked
import Derived.Test.YtlpkfeplbcadbaaAb23
namespace Go.Proofs.Ytlpkfeplbcadbaa
open Go Go.Ab Go.Proofs
/-- Functions that are handed addresses. -/
def md : FuncId → Nat
  | 28 => 1
  | 29 => 1
  | 30 => 1
  | 33 => 1
  | 34 => 1
  | 35 => 1
  | 36 => 1
  | 39 => 1
  | 40 => 1
  | 32 => 2
  | 37 => 2
  | 38 => 2
  | _ => 0
theorem md3 : md 3 = 0 := rfl
theorem md4 : md 4 = 0 := rfl
theorem md5 : md 5 = 0 := rfl
theorem md6 : md 6 = 0 := rfl
theorem md7 : md 7 = 0 := rfl
theorem md8 : md 8 = 0 := rfl
theorem md9 : md 9 = 0 := rfl
theorem md10 : md 10 = 0 := rfl
theorem md11 : md 11 = 0 := rfl
theorem md12 : md 12 = 0 := rfl
theorem md13 : md 13 = 0 := rfl
theorem md14 : md 14 = 0 := rfl
theorem md15 : md 15 = 0 := rfl
theorem md16 : md 16 = 0 := rfl
theorem md17 : md 17 = 0 := rfl
theorem md18 : md 18 = 0 := rfl
theorem md19 : md 19 = 0 := rfl
theorem md20 : md 20 = 0 := rfl
theorem md21 : md 21 = 0 := rfl
theorem md22 : md 22 = 0 := rfl
theorem md23 : md 23 = 0 := rfl
theorem md24 : md 24 = 0 := rfl
theorem md25 : md 25 = 0 := rfl
theorem md26 : md 26 = 0 := rfl
theorem md27 : md 27 = 0 := rfl
theorem md28 : md 28 = 1 := rfl
theorem md29 : md 29 = 1 := rfl
theorem md30 : md 30 = 1 := rfl
theorem md31 : md 31 = 0 := rfl
theorem md32 : md 32 = 2 := rfl
theorem md33 : md 33 = 1 := rfl
theorem md34 : md 34 = 1 := rfl
theorem md35 : md 35 = 1 := rfl
theorem md36 : md 36 = 1 := rfl
theorem md37 : md 37 = 2 := rfl
theorem md38 : md 38 = 2 := rfl
theorem md39 : md 39 = 1 := rfl
theorem md40 : md 40 = 1 := rfl
theorem md41 : md 41 = 0 := rfl
/-- Which slots outlive a region, and a round of a loop. -/
def fg : FuncId → Nat → List Bool
  | 3, 0 => [true, false, true, true, false, true, false, false, true, false, true, true, true, true, false, false, false, false, false, false, false, false, false, false, false, false, false, false, false, false, false, false, false, false, false, false]
  | 3, 1 => [true, false, false, true, false, false, false, false, false, false, true, true, true, false, false, false, false, false, false, false, false, false, false, false, false, false, false, false, false, false, false, false, false, false, false, false]
  | 4, 0 => [true, true, true, false, false, false, true, true, true, true, true, false, false, false, false, false, false, false, false, false, false, false, false, true, false, false, false, false, false, false, false, false, false, false, false, false, false, true, true, true, true, false, false, false, false, false, false, false, false, true, false, false, false, false, false, false, false, false, false, false, false, false, false, false, false, false, false, false, false, false, false, false, false, false, false, false, false, false, false, false, false, false]
  | 4, 1 => [true, true, false, false, false, false, false, true, true, false, false, false, false, false, false, false, false, false, false, false, false, false, false, false, false, false, false, false, false, false, false, false, false, false, false, false, false, true, true, true, false, false, false, false, false, false, false, false, false, false, false, false, false, false, false, false, false, false, false, false, false, false, false, false, false, false, false, false, false, false, false, false, false, false, false, false, false, false, false, false, false, false]
  | 8, 0 => [true, false, true, true, true, false, true, true, false, true, false, false, true, false, false, false, true, true, true, true, false, false, false, true, false, false, false, false, false, false, false, false, false, false, true, false, false, false, false, false, false, false, false, false, false, false, true, false, false, false, false, false, false, false, false, false, false, false, false, false, false, false, false, true, false, false, true, true, true, true, false, false, false, false, false, false, false, false, false, false, false, false, false, false, false, false, false, false, false, false, false, false, false, false, false, false, false, false, false, false, false, false, false, false, false, false, false, false, false, false, true, false, false, false, false, false, false, false, false, false, false, false]
  | 8, 1 => [true, false, false, true, true, false, false, false, false, false, false, false, false, false, false, false, true, true, true, false, false, false, false, false, false, false, false, false, false, false, false, false, false, false, false, false, false, false, false, false, false, false, false, false, false, false, false, false, false, false, false, false, false, false, false, false, false, false, false, false, false, false, false, false, false, false, false, false, false, false, false, false, false, false, false, false, false, false, false, false, false, false, false, false, false, false, false, false, false, false, false, false, false, false, false, false, false, false, false, false, false, false, false, false, false, false, false, false, false, false, false, false, false, false, false, false, false, false, false, false, false, false]
  | 8, 4 => [false, false, true, false, false, false, false, true, false, false, false, false, false, false, false, false, false, false, false, false, false, false, false, false, false, false, false, false, false, false, false, false, false, false, false, false, false, false, false, false, false, false, false, false, false, false, false, false, false, false, false, false, false, false, false, false, false, false, false, false, false, false, false, false, false, false, true, true, true, false, false, false, false, false, false, false, false, false, false, false, false, false, false, false, false, false, false, false, false, false, false, false, false, false, false, false, false, false, false, false, false, false, false, false, false, false, false, false, false, false, false, false, false, false, false, false, false, false, false, false, false, false]
  | 9, 0 => [true, true, false, false, true, true, true, true, false, true, true, true, true, false, false, false, false, false, false, false, true, false, false, false, false, false, false, false, false, true, true, true, true, false, false, true, false, false, false, false, false, true, false, false, false, false, true, false, false, false, false, false, false, true, false, false, false, false, true, false, false, false, false, false, false, false, true, false, false, false, false, false, false, false, false, false, false, true, false, false, false, false, false, false, false, false, false, false, false, false, false, false, false, true, false, false, false, false, false, false, false, false, false, false, false, false]
  | 9, 1 => [true, false, false, false, true, true, true, true, false, false, false, false, false, false, false, false, false, false, false, false, false, false, false, false, false, false, false, false, false, true, true, true, false, false, false, false, false, false, false, false, false, false, false, false, false, false, false, false, false, false, false, false, false, false, false, false, false, false, false, false, false, false, false, false, false, false, false, false, false, false, false, false, false, false, false, false, false, false, false, false, false, false, false, false, false, false, false, false, false, false, false, false, false, false, false, false, false, false, false, false, false, false, false, false, false, false]
  | 11, 0 => [true, false, true, true, true, false, false, false, false, false, false, false, true, false, false, false, false, false, false, false, false, false, false, false, false, false, false, false, false, false]
  | 11, 1 => [true, false, false, true, true, false, false, false, false, false, false, false, false, false, false, false, false, false, false, false, false, false, false, false, false, false, false, false, false, false]
  | 13, 0 => [true, false, true, true, true, false, true, true, false, true, true, true, true, false, false, false, true, true, true, false, false, false, false, false, false, false, false, false, false, false, false, false, false, false, false, false, false, false, false, false, false, false, false, false]
  | 13, 1 => [false, false, false, true, true, false, false, false, false, true, true, true, false, false, false, false, false, false, false, false, false, false, false, false, false, false, false, false, false, false, false, false, false, false, false, false, false, false, false, false, false, false, false, false]
  | 13, 3 => [false, false, false, true, true, false, true, false, false, true, true, true, false, false, false, false, true, true, false, false, false, false, false, false, false, false, false, false, false, false, false, false, false, false, false, false, false, false, false, false, false, false, false, false]
  | 14, 0 => [true, false, true, true, true, true, false, false, false, true, false, false, false, false, false, false, false, false, false, true, false, false, false, false, true, false, false, false, false, false, false, false]
  | 14, 1 => [true, false, false, true, true, false, false, false, false, false, false, false, false, false, false, false, false, false, false, false, false, false, false, false, false, false, false, false, false, false, false, false]
  | 14, 3 => [true, false, false, true, true, true, false, false, false, false, false, false, false, false, false, false, false, false, false, false, false, false, false, false, false, false, false, false, false, false, false, false]
  | 20, 0 => [true, false, true, true, true, true, false, false, true, false, true, false, false, false, false, false, false, false, false, false, false]
  | 20, 1 => [true, false, false, false, true, true, false, false, false, false, false, false, false, false, false, false, false, false, false, false, false]
  | 22, 0 => [true, false, true, true, true, false, true, false, false, false, false, false, false, false, false, false, false, false, false]
  | 22, 1 => [true, false, false, true, true, false, false, false, false, false, false, false, false, false, false, false, false, false, false]
  | 23, 0 => [true, false, true, true, false, true, false, false, false, false, false, false, false, false, false, false, false, false, false, false]
  | 23, 1 => [true, false, false, true, false, false, false, false, false, false, false, false, false, false, false, false, false, false, false, false]
  | 24, 0 => [true, false, true, true, true, true, true, false, false, true, true, true, false, false, false, false, false, false, false, false, false, false, false, false, false, false, false, false, false, true, false, false, false, false, false, false, false, false, false, true, false, false, false, false]
  | 24, 1 => [true, false, true, true, true, false, false, false, false, true, true, false, false, false, false, false, false, false, false, false, false, false, false, false, false, false, false, false, false, false, false, false, false, false, false, false, false, false, false, false, false, false, false, false]
  | 25, 0 => [true, false, true, true, true, true, true, false, false, false, false, false, false, false, false, false, false, false, false, false, true, false, false, false, false, false, false, false, false, false, true, false, false, true, false, false, false, false, false, false, false, false, false, false, false, false, false, false, false, false, true, false, false, false]
  | 25, 1 => [true, false, false, false, true, false, false, false, false, false, false, false, false, false, false, false, false, false, false, false, false, false, false, false, false, false, false, false, false, false, false, false, false, false, false, false, false, false, false, false, false, false, false, false, false, false, false, false, false, false, false, false, false, false]
  | 25, 3 => [true, false, false, false, true, true, true, false, false, false, false, false, false, false, false, false, false, false, false, false, false, false, false, false, false, false, false, false, false, false, false, false, false, false, false, false, false, false, false, false, false, false, false, false, false, false, false, false, false, false, false, false, false, false]
  | 26, 0 => [true, false, true, true, false, true, false, false, false, false, false, false, false, false, false, false, false, false, false, false, false, false]
  | 26, 1 => [true, false, false, true, false, false, false, false, false, false, false, false, false, false, false, false, false, false, false, false, false, false]
  | 27, 0 => [true, false, true, true, true, false, false, false, false, false, false, false, true, false, false, false, false, false, false, false, false, false, false, false, false, false, false, false, false, false, false]
  | 27, 1 => [true, false, false, true, true, false, false, false, false, false, false, false, false, false, false, false, false, false, false, false, false, false, false, false, false, false, false, false, false, false, false]
  | 28, 0 => [true, true, false, false, false, true, false, true, true, true, true, true, false, false, false, false, false, false, false, false, false, false, false, false, false]
  | 28, 1 => [true, false, false, false, false, false, false, false, true, true, true, false, false, false, false, false, false, false, false, false, false, false, false, false, false]
  | 29, 0 => [true, false, false, false, false, true, true, true, true, true, false, false, false, false, false, false, false, false]
  | 29, 1 => [true, false, false, false, false, false, true, true, true, false, false, false, false, false, false, false, false, false]
  | 30, 0 => [true, true, false, false, false, true, false, true, true, true, true, true, false, false, false, false, false, false, false, false, false, false, false, false, false, false, false, false, false, false]
  | 30, 1 => [true, false, false, false, false, false, false, false, true, true, true, false, false, false, false, false, false, false, false, false, false, false, false, false, false, false, false, false, false, false]
  | 41, 0 => [true, true, true, true, true, true, false, false, false, true, true, false, false, false, false, false, false, false, false, false, false, false, false]
  | 41, 1 => [true, true, false, false, true, false, false, false, false, false, false, false, false, false, false, false, false, false, false, false, false, false, false]
  | 41, 3 => [true, true, true, true, true, false, false, false, false, true, false, false, false, false, false, false, false, false, false, false, false, false, false]
  | 8, 100024 => [true]
  | _, _ => []
theorem fg_3_0 (e : Env) : mask (fg 3 0) e = mask [true, false, true, true, false, true, false, false, true, false, true, true, true, true, false, false, false, false, false, false, false, false, false, false, false, false, false, false, false, false, false, false, false, false, false, false] e := rfl
theorem fg_3_1 (e : Env) : mask (fg 3 1) e = mask [true, false, false, true, false, false, false, false, false, false, true, true, true, false, false, false, false, false, false, false, false, false, false, false, false, false, false, false, false, false, false, false, false, false, false, false] e := rfl
theorem fg_3_2 (e : Env) : mask (fg 3 2) e = mask [] e := rfl
theorem fg_4_0 (e : Env) : mask (fg 4 0) e = mask [true, true, true, false, false, false, true, true, true, true, true, false, false, false, false, false, false, false, false, false, false, false, false, true, false, false, false, false, false, false, false, false, false, false, false, false, false, true, true, true, true, false, false, false, false, false, false, false, false, true, false, false, false, false, false, false, false, false, false, false, false, false, false, false, false, false, false, false, false, false, false, false, false, false, false, false, false, false, false, false, false, false] e := rfl
theorem fg_4_1 (e : Env) : mask (fg 4 1) e = mask [true, true, false, false, false, false, false, true, true, false, false, false, false, false, false, false, false, false, false, false, false, false, false, false, false, false, false, false, false, false, false, false, false, false, false, false, false, true, true, true, false, false, false, false, false, false, false, false, false, false, false, false, false, false, false, false, false, false, false, false, false, false, false, false, false, false, false, false, false, false, false, false, false, false, false, false, false, false, false, false, false, false] e := rfl
theorem fg_4_2 (e : Env) : mask (fg 4 2) e = mask [] e := rfl
theorem fg_5_0 (e : Env) : mask (fg 5 0) e = mask [] e := rfl
theorem fg_6_0 (e : Env) : mask (fg 6 0) e = mask [] e := rfl
theorem fg_7_0 (e : Env) : mask (fg 7 0) e = mask [] e := rfl
theorem fg_8_0 (e : Env) : mask (fg 8 0) e = mask [true, false, true, true, true, false, true, true, false, true, false, false, true, false, false, false, true, true, true, true, false, false, false, true, false, false, false, false, false, false, false, false, false, false, true, false, false, false, false, false, false, false, false, false, false, false, true, false, false, false, false, false, false, false, false, false, false, false, false, false, false, false, false, true, false, false, true, true, true, true, false, false, false, false, false, false, false, false, false, false, false, false, false, false, false, false, false, false, false, false, false, false, false, false, false, false, false, false, false, false, false, false, false, false, false, false, false, false, false, false, true, false, false, false, false, false, false, false, false, false, false, false] e := rfl
theorem fg_8_1 (e : Env) : mask (fg 8 1) e = mask [true, false, false, true, true, false, false, false, false, false, false, false, false, false, false, false, true, true, true, false, false, false, false, false, false, false, false, false, false, false, false, false, false, false, false, false, false, false, false, false, false, false, false, false, false, false, false, false, false, false, false, false, false, false, false, false, false, false, false, false, false, false, false, false, false, false, false, false, false, false, false, false, false, false, false, false, false, false, false, false, false, false, false, false, false, false, false, false, false, false, false, false, false, false, false, false, false, false, false, false, false, false, false, false, false, false, false, false, false, false, false, false, false, false, false, false, false, false, false, false, false, false] e := rfl
theorem fg_8_2 (e : Env) : mask (fg 8 2) e = mask [] e := rfl
theorem fg_8_3 (e : Env) : mask (fg 8 3) e = mask [] e := rfl
theorem fg_8_4 (e : Env) : mask (fg 8 4) e = mask [false, false, true, false, false, false, false, true, false, false, false, false, false, false, false, false, false, false, false, false, false, false, false, false, false, false, false, false, false, false, false, false, false, false, false, false, false, false, false, false, false, false, false, false, false, false, false, false, false, false, false, false, false, false, false, false, false, false, false, false, false, false, false, false, false, false, true, true, true, false, false, false, false, false, false, false, false, false, false, false, false, false, false, false, false, false, false, false, false, false, false, false, false, false, false, false, false, false, false, false, false, false, false, false, false, false, false, false, false, false, false, false, false, false, false, false, false, false, false, false, false, false] e := rfl
theorem fg_8_5 (e : Env) : mask (fg 8 5) e = mask [] e := rfl
theorem fg_9_0 (e : Env) : mask (fg 9 0) e = mask [true, true, false, false, true, true, true, true, false, true, true, true, true, false, false, false, false, false, false, false, true, false, false, false, false, false, false, false, false, true, true, true, true, false, false, true, false, false, false, false, false, true, false, false, false, false, true, false, false, false, false, false, false, true, false, false, false, false, true, false, false, false, false, false, false, false, true, false, false, false, false, false, false, false, false, false, false, true, false, false, false, false, false, false, false, false, false, false, false, false, false, false, false, true, false, false, false, false, false, false, false, false, false, false, false, false] e := rfl
theorem fg_9_1 (e : Env) : mask (fg 9 1) e = mask [true, false, false, false, true, true, true, true, false, false, false, false, false, false, false, false, false, false, false, false, false, false, false, false, false, false, false, false, false, true, true, true, false, false, false, false, false, false, false, false, false, false, false, false, false, false, false, false, false, false, false, false, false, false, false, false, false, false, false, false, false, false, false, false, false, false, false, false, false, false, false, false, false, false, false, false, false, false, false, false, false, false, false, false, false, false, false, false, false, false, false, false, false, false, false, false, false, false, false, false, false, false, false, false, false, false] e := rfl
theorem fg_9_2 (e : Env) : mask (fg 9 2) e = mask [] e := rfl
theorem fg_9_3 (e : Env) : mask (fg 9 3) e = mask [] e := rfl
theorem fg_10_0 (e : Env) : mask (fg 10 0) e = mask [] e := rfl
theorem fg_11_0 (e : Env) : mask (fg 11 0) e = mask [true, false, true, true, true, false, false, false, false, false, false, false, true, false, false, false, false, false, false, false, false, false, false, false, false, false, false, false, false, false] e := rfl
theorem fg_11_1 (e : Env) : mask (fg 11 1) e = mask [true, false, false, true, true, false, false, false, false, false, false, false, false, false, false, false, false, false, false, false, false, false, false, false, false, false, false, false, false, false] e := rfl
theorem fg_11_2 (e : Env) : mask (fg 11 2) e = mask [] e := rfl
theorem fg_12_0 (e : Env) : mask (fg 12 0) e = mask [] e := rfl
theorem fg_13_0 (e : Env) : mask (fg 13 0) e = mask [true, false, true, true, true, false, true, true, false, true, true, true, true, false, false, false, true, true, true, false, false, false, false, false, false, false, false, false, false, false, false, false, false, false, false, false, false, false, false, false, false, false, false, false] e := rfl
theorem fg_13_1 (e : Env) : mask (fg 13 1) e = mask [false, false, false, true, true, false, false, false, false, true, true, true, false, false, false, false, false, false, false, false, false, false, false, false, false, false, false, false, false, false, false, false, false, false, false, false, false, false, false, false, false, false, false, false] e := rfl
theorem fg_13_2 (e : Env) : mask (fg 13 2) e = mask [] e := rfl
theorem fg_13_3 (e : Env) : mask (fg 13 3) e = mask [false, false, false, true, true, false, true, false, false, true, true, true, false, false, false, false, true, true, false, false, false, false, false, false, false, false, false, false, false, false, false, false, false, false, false, false, false, false, false, false, false, false, false, false] e := rfl
theorem fg_13_4 (e : Env) : mask (fg 13 4) e = mask [] e := rfl
theorem fg_14_0 (e : Env) : mask (fg 14 0) e = mask [true, false, true, true, true, true, false, false, false, true, false, false, false, false, false, false, false, false, false, true, false, false, false, false, true, false, false, false, false, false, false, false] e := rfl
theorem fg_14_1 (e : Env) : mask (fg 14 1) e = mask [true, false, false, true, true, false, false, false, false, false, false, false, false, false, false, false, false, false, false, false, false, false, false, false, false, false, false, false, false, false, false, false] e := rfl
theorem fg_14_2 (e : Env) : mask (fg 14 2) e = mask [] e := rfl
theorem fg_14_3 (e : Env) : mask (fg 14 3) e = mask [true, false, false, true, true, true, false, false, false, false, false, false, false, false, false, false, false, false, false, false, false, false, false, false, false, false, false, false, false, false, false, false] e := rfl
theorem fg_14_4 (e : Env) : mask (fg 14 4) e = mask [] e := rfl
theorem fg_15_0 (e : Env) : mask (fg 15 0) e = mask [] e := rfl
theorem fg_16_0 (e : Env) : mask (fg 16 0) e = mask [] e := rfl
theorem fg_17_0 (e : Env) : mask (fg 17 0) e = mask [] e := rfl
theorem fg_18_0 (e : Env) : mask (fg 18 0) e = mask [] e := rfl
theorem fg_19_0 (e : Env) : mask (fg 19 0) e = mask [] e := rfl
theorem fg_20_0 (e : Env) : mask (fg 20 0) e = mask [true, false, true, true, true, true, false, false, true, false, true, false, false, false, false, false, false, false, false, false, false] e := rfl
theorem fg_20_1 (e : Env) : mask (fg 20 1) e = mask [true, false, false, false, true, true, false, false, false, false, false, false, false, false, false, false, false, false, false, false, false] e := rfl
theorem fg_20_2 (e : Env) : mask (fg 20 2) e = mask [] e := rfl
theorem fg_21_0 (e : Env) : mask (fg 21 0) e = mask [] e := rfl
theorem fg_22_0 (e : Env) : mask (fg 22 0) e = mask [true, false, true, true, true, false, true, false, false, false, false, false, false, false, false, false, false, false, false] e := rfl
theorem fg_22_1 (e : Env) : mask (fg 22 1) e = mask [true, false, false, true, true, false, false, false, false, false, false, false, false, false, false, false, false, false, false] e := rfl
theorem fg_22_2 (e : Env) : mask (fg 22 2) e = mask [] e := rfl
theorem fg_23_0 (e : Env) : mask (fg 23 0) e = mask [true, false, true, true, false, true, false, false, false, false, false, false, false, false, false, false, false, false, false, false] e := rfl
theorem fg_23_1 (e : Env) : mask (fg 23 1) e = mask [true, false, false, true, false, false, false, false, false, false, false, false, false, false, false, false, false, false, false, false] e := rfl
theorem fg_23_2 (e : Env) : mask (fg 23 2) e = mask [] e := rfl
theorem fg_24_0 (e : Env) : mask (fg 24 0) e = mask [true, false, true, true, true, true, true, false, false, true, true, true, false, false, false, false, false, false, false, false, false, false, false, false, false, false, false, false, false, true, false, false, false, false, false, false, false, false, false, true, false, false, false, false] e := rfl
theorem fg_24_1 (e : Env) : mask (fg 24 1) e = mask [true, false, true, true, true, false, false, false, false, true, true, false, false, false, false, false, false, false, false, false, false, false, false, false, false, false, false, false, false, false, false, false, false, false, false, false, false, false, false, false, false, false, false, false] e := rfl
theorem fg_24_2 (e : Env) : mask (fg 24 2) e = mask [] e := rfl
theorem fg_25_0 (e : Env) : mask (fg 25 0) e = mask [true, false, true, true, true, true, true, false, false, false, false, false, false, false, false, false, false, false, false, false, true, false, false, false, false, false, false, false, false, false, true, false, false, true, false, false, false, false, false, false, false, false, false, false, false, false, false, false, false, false, true, false, false, false] e := rfl
theorem fg_25_1 (e : Env) : mask (fg 25 1) e = mask [true, false, false, false, true, false, false, false, false, false, false, false, false, false, false, false, false, false, false, false, false, false, false, false, false, false, false, false, false, false, false, false, false, false, false, false, false, false, false, false, false, false, false, false, false, false, false, false, false, false, false, false, false, false] e := rfl
theorem fg_25_2 (e : Env) : mask (fg 25 2) e = mask [] e := rfl
theorem fg_25_3 (e : Env) : mask (fg 25 3) e = mask [true, false, false, false, true, true, true, false, false, false, false, false, false, false, false, false, false, false, false, false, false, false, false, false, false, false, false, false, false, false, false, false, false, false, false, false, false, false, false, false, false, false, false, false, false, false, false, false, false, false, false, false, false, false] e := rfl
theorem fg_25_4 (e : Env) : mask (fg 25 4) e = mask [] e := rfl
theorem fg_26_0 (e : Env) : mask (fg 26 0) e = mask [true, false, true, true, false, true, false, false, false, false, false, false, false, false, false, false, false, false, false, false, false, false] e := rfl
theorem fg_26_1 (e : Env) : mask (fg 26 1) e = mask [true, false, false, true, false, false, false, false, false, false, false, false, false, false, false, false, false, false, false, false, false, false] e := rfl
theorem fg_26_2 (e : Env) : mask (fg 26 2) e = mask [] e := rfl
theorem fg_27_0 (e : Env) : mask (fg 27 0) e = mask [true, false, true, true, true, false, false, false, false, false, false, false, true, false, false, false, false, false, false, false, false, false, false, false, false, false, false, false, false, false, false] e := rfl
theorem fg_27_1 (e : Env) : mask (fg 27 1) e = mask [true, false, false, true, true, false, false, false, false, false, false, false, false, false, false, false, false, false, false, false, false, false, false, false, false, false, false, false, false, false, false] e := rfl
theorem fg_27_2 (e : Env) : mask (fg 27 2) e = mask [] e := rfl
theorem fg_28_0 (e : Env) : mask (fg 28 0) e = mask [true, true, false, false, false, true, false, true, true, true, true, true, false, false, false, false, false, false, false, false, false, false, false, false, false] e := rfl
theorem fg_28_1 (e : Env) : mask (fg 28 1) e = mask [true, false, false, false, false, false, false, false, true, true, true, false, false, false, false, false, false, false, false, false, false, false, false, false, false] e := rfl
theorem fg_28_2 (e : Env) : mask (fg 28 2) e = mask [] e := rfl
theorem fg_29_0 (e : Env) : mask (fg 29 0) e = mask [true, false, false, false, false, true, true, true, true, true, false, false, false, false, false, false, false, false] e := rfl
theorem fg_29_1 (e : Env) : mask (fg 29 1) e = mask [true, false, false, false, false, false, true, true, true, false, false, false, false, false, false, false, false, false] e := rfl
theorem fg_29_2 (e : Env) : mask (fg 29 2) e = mask [] e := rfl
theorem fg_30_0 (e : Env) : mask (fg 30 0) e = mask [true, true, false, false, false, true, false, true, true, true, true, true, false, false, false, false, false, false, false, false, false, false, false, false, false, false, false, false, false, false] e := rfl
theorem fg_30_1 (e : Env) : mask (fg 30 1) e = mask [true, false, false, false, false, false, false, false, true, true, true, false, false, false, false, false, false, false, false, false, false, false, false, false, false, false, false, false, false, false] e := rfl
theorem fg_30_2 (e : Env) : mask (fg 30 2) e = mask [] e := rfl
theorem fg_31_0 (e : Env) : mask (fg 31 0) e = mask [] e := rfl
theorem fg_32_0 (e : Env) : mask (fg 32 0) e = mask [] e := rfl
theorem fg_33_0 (e : Env) : mask (fg 33 0) e = mask [] e := rfl
theorem fg_34_0 (e : Env) : mask (fg 34 0) e = mask [] e := rfl
theorem fg_35_0 (e : Env) : mask (fg 35 0) e = mask [] e := rfl
theorem fg_36_0 (e : Env) : mask (fg 36 0) e = mask [] e := rfl
theorem fg_37_0 (e : Env) : mask (fg 37 0) e = mask [] e := rfl
theorem fg_38_0 (e : Env) : mask (fg 38 0) e = mask [] e := rfl
theorem fg_39_0 (e : Env) : mask (fg 39 0) e = mask [] e := rfl
theorem fg_40_0 (e : Env) : mask (fg 40 0) e = mask [] e := rfl
theorem fg_41_0 (e : Env) : mask (fg 41 0) e = mask [true, true, true, true, true, true, false, false, false, true, true, false, false, false, false, false, false, false, false, false, false, false, false] e := rfl
theorem fg_41_1 (e : Env) : mask (fg 41 1) e = mask [true, true, false, false, true, false, false, false, false, false, false, false, false, false, false, false, false, false, false, false, false, false, false] e := rfl
theorem fg_41_2 (e : Env) : mask (fg 41 2) e = mask [] e := rfl
theorem fg_41_3 (e : Env) : mask (fg 41 3) e = mask [true, true, true, true, true, false, false, false, false, true, false, false, false, false, false, false, false, false, false, false, false, false, false] e := rfl
theorem fg_41_4 (e : Env) : mask (fg 41 4) e = mask [] e := rfl
theorem la_6_6 : looseAt (fg 6) 6 = false := rfl
theorem la_8_24 : looseAt (fg 8) 24 = true := rfl
theorem la_9_24 : looseAt (fg 9) 24 = false := rfl
theorem la_9_27 : looseAt (fg 9) 27 = false := rfl
theorem la_19_3 : looseAt (fg 19) 3 = false := rfl
theorem la_25_11 : looseAt (fg 25) 11 = false := rfl
theorem la_28_4 : looseAt (fg 28) 4 = false := rfl
theorem tsize_3 : tsize Try.prog 3 = 1 := by kernel_rfl
theorem tsize_4 : tsize Try.prog 4 = 1 := by kernel_rfl
theorem tsize_5 : tsize Try.prog 5 = 1 := by kernel_rfl
theorem tsize_9 : tsize Try.prog 9 = 1 := by kernel_rfl
theorem tsize_25 : tsize Try.prog 25 = 1 := by kernel_rfl
theorem tsize_28 : tsize Try.prog 28 = 1 := by kernel_rfl
theorem tsize_30 : tsize Try.prog 30 = 1 := by kernel_rfl
theorem tsize_48 : tsize Try.prog 48 = 4 := by kernel_rfl
theorem tsize_64 : tsize Try.prog 64 = 16 := by kernel_rfl
theorem tagg_3 : tagg Try.prog 3 = some false := by kernel_rfl
theorem tagg_4 : tagg Try.prog 4 = some false := by kernel_rfl
theorem tagg_5 : tagg Try.prog 5 = some false := by kernel_rfl
theorem tagg_9 : tagg Try.prog 9 = some false := by kernel_rfl
theorem tagg_25 : tagg Try.prog 25 = some false := by kernel_rfl
theorem tagg_28 : tagg Try.prog 28 = some false := by kernel_rfl
theorem tagg_30 : tagg Try.prog 30 = some false := by kernel_rfl
theorem tagg_48 : tagg Try.prog 48 = some true := by kernel_rfl
theorem tagg_64 : tagg Try.prog 64 = some true := by kernel_rfl
theorem tslice_9 : tslice Try.prog 9 = none := by kernel_rfl
theorem tslice_22 : tslice Try.prog 22 = some (1, 16, .val (.string ⟨#[]⟩)) := by kernel_rfl
theorem tslice_28 : tslice Try.prog 28 = some (1, 1, .val (.int .u8 0)) := by kernel_rfl
theorem tslice_42 : tslice Try.prog 42 = some (4, 40, .agg [.val (.int .i64 0), .val (.int .u64 0), .val (.int .i64 0), .val (.string ⟨#[]⟩)]) := by kernel_rfl
theorem tslice_58 : tslice Try.prog 58 = some (1, 8, .val (.int .i64 0)) := by kernel_rfl
theorem tslice_64 : tslice Try.prog 64 = none := by kernel_rfl
theorem tslice_67 : tslice Try.prog 67 = some (1, 8, .val (.int .u64 0)) := by kernel_rfl
theorem tarr_9 : tarr Try.prog 9 = none := by kernel_rfl
theorem tarr_22 : tarr Try.prog 22 = none := by kernel_rfl
theorem tarr_28 : tarr Try.prog 28 = none := by kernel_rfl
theorem tarr_42 : tarr Try.prog 42 = none := by kernel_rfl
theorem tarr_46 : tarr Try.prog 46 = none := by kernel_rfl
theorem tarr_58 : tarr Try.prog 58 = none := by kernel_rfl
theorem tarr_61 : tarr Try.prog 61 = none := by kernel_rfl
theorem tarr_64 : tarr Try.prog 64 = some (16, 25) := by kernel_rfl
theorem tarr_67 : tarr Try.prog 67 = none := by kernel_rfl
theorem tarr_69 : tarr Try.prog 69 = none := by kernel_rfl
theorem tzero_46 : tzero Try.prog 46 = some (.agg [.slc true []]) := by kernel_rfl
theorem tzero_48 : tzero Try.prog 48 = some (.agg [.val (.int .i64 0), .val (.int .u64 0), .val (.int .i64 0), .val (.string ⟨#[]⟩)]) := by kernel_rfl
theorem tzero_61 : tzero Try.prog 61 = some (.agg [.val (.string ⟨#[]⟩), .val (.bool .false)]) := by kernel_rfl
theorem tzero_64 : tzero Try.prog 64 = some (.agg [.val (.int .u32 0), .val (.int .u32 0), .val (.int .u32 0), .val (.int .u32 0), .val (.int .u32 0), .val (.int .u32 0), .val (.int .u32 0), .val (.int .u32 0), .val (.int .u32 0), .val (.int .u32 0), .val (.int .u32 0), .val (.int .u32 0), .val (.int .u32 0), .val (.int .u32 0), .val (.int .u32 0), .val (.int .u32 0)]) := by kernel_rfl
theorem tzero_69 : tzero Try.prog 69 = some (.agg [.val (.string ⟨#[]⟩), .val (.bool .false)]) := by kernel_rfl
theorem isStrT_9 : isStrT Try.prog 9 = true := by kernel_rfl
theorem isStrT_22 : isStrT Try.prog 22 = false := by kernel_rfl
theorem isStrT_28 : isStrT Try.prog 28 = false := by kernel_rfl
theorem isStrT_42 : isStrT Try.prog 42 = false := by kernel_rfl
theorem isStrT_58 : isStrT Try.prog 58 = false := by kernel_rfl
theorem isStrT_64 : isStrT Try.prog 64 = false := by kernel_rfl
theorem isStrT_67 : isStrT Try.prog 67 = false := by kernel_rfl
theorem isSeqT_9 : isSeqT Try.prog 9 = true := by kernel_rfl
theorem isSeqT_28 : isSeqT Try.prog 28 = true := by kernel_rfl
theorem isPtrT_44 : isPtrT Try.prog 44 = true := by kernel_rfl
theorem isPtrT_54 : isPtrT Try.prog 54 = true := by kernel_rfl
theorem isBoolT_4 : isBoolT Try.prog 4 = true := by kernel_rfl
theorem tfield_46_0 : tfield Try.prog 46 0 = some (0, 1, false) := by kernel_rfl
theorem tfield_48_0 : tfield Try.prog 48 0 = some (0, 1, false) := by kernel_rfl
theorem tfield_48_1 : tfield Try.prog 48 1 = some (1, 1, false) := by kernel_rfl
theorem tfield_48_2 : tfield Try.prog 48 2 = some (2, 1, false) := by kernel_rfl
theorem tfield_48_3 : tfield Try.prog 48 3 = some (3, 1, false) := by kernel_rfl
theorem tfield_61_0 : tfield Try.prog 61 0 = some (0, 1, false) := by kernel_rfl
theorem tfield_61_1 : tfield Try.prog 61 1 = some (1, 1, false) := by kernel_rfl
theorem tfield_69_0 : tfield Try.prog 69 0 = some (0, 1, false) := by kernel_rfl
theorem tfield_69_1 : tfield Try.prog 69 1 = some (1, 1, false) := by kernel_rfl
theorem tplaces_46 : tplaces Try.prog 46 = some [(0, 1)] := by kernel_rfl
theorem tplaces_61 : tplaces Try.prog 61 = some [(0, 1), (1, 1)] := by kernel_rfl
theorem tplaces_69 : tplaces Try.prog 69 = some [(0, 1), (1, 1)] := by kernel_rfl
theorem und_2 : Try.prog.underlying 2 = some (.int .i64) := by kernel_rfl
theorem und_3 : Try.prog.underlying 3 = some (.int .i64) := by kernel_rfl
theorem und_5 : Try.prog.underlying 5 = some (.int .u8) := by kernel_rfl
theorem und_9 : Try.prog.underlying 9 = some .string := by kernel_rfl
theorem und_25 : Try.prog.underlying 25 = some (.int .u32) := by kernel_rfl
theorem und_28 : Try.prog.underlying 28 = some (.slice 5) := by kernel_rfl
theorem und_30 : Try.prog.underlying 30 = some (.int .u64) := by kernel_rfl
theorem cv_2_30 (h : AHeap) (k : IntKind) (n : Int) : aconvert Try.prog 2 30 h (.val (.int k n)) = some (.val (.int .u64 (IntKind.u64.wrap n)), h) := aconvert_int _ _ _ _ und_2 und_30
theorem cv_3_25 (h : AHeap) (k : IntKind) (n : Int) : aconvert Try.prog 3 25 h (.val (.int k n)) = some (.val (.int .u32 (IntKind.u32.wrap n)), h) := aconvert_int _ _ _ _ und_3 und_25
theorem cv_3_30 (h : AHeap) (k : IntKind) (n : Int) : aconvert Try.prog 3 30 h (.val (.int k n)) = some (.val (.int .u64 (IntKind.u64.wrap n)), h) := aconvert_int _ _ _ _ und_3 und_30
theorem cv_5_25 (h : AHeap) (k : IntKind) (n : Int) : aconvert Try.prog 5 25 h (.val (.int k n)) = some (.val (.int .u32 (IntKind.u32.wrap n)), h) := aconvert_int _ _ _ _ und_5 und_25
theorem cv_5_30 (h : AHeap) (k : IntKind) (n : Int) : aconvert Try.prog 5 30 h (.val (.int k n)) = some (.val (.int .u64 (IntKind.u64.wrap n)), h) := aconvert_int _ _ _ _ und_5 und_30
theorem cv_9_28 (h : AHeap) (x : ByteArray) : aconvert Try.prog 9 28 h (.val (.string x)) = some (.arr h.length 0 x.size 0 1, h ++ [.arr 1 (x.data.toList.map byteVal) 0]) := aconvert_bytes und_9 und_28 und_5 x
theorem cv_25_5 (h : AHeap) (k : IntKind) (n : Int) : aconvert Try.prog 25 5 h (.val (.int k n)) = some (.val (.int .u8 (IntKind.u8.wrap n)), h) := aconvert_int _ _ _ _ und_25 und_5
theorem cv_28_9 (h : AHeap) (x : AV) : aconvert Try.prog 28 9 h x = textK (sview h x) h := aconvert_textK und_28 und_9 und_5
theorem cv_30_2 (h : AHeap) (k : IntKind) (n : Int) : aconvert Try.prog 30 2 h (.val (.int k n)) = some (.val (.int .i64 (IntKind.i64.wrap n)), h) := aconvert_int _ _ _ _ und_30 und_2
theorem cv_30_3 (h : AHeap) (k : IntKind) (n : Int) : aconvert Try.prog 30 3 h (.val (.int k n)) = some (.val (.int .i64 (IntKind.i64.wrap n)), h) := aconvert_int _ _ _ _ und_30 und_3
theorem cv_30_5 (h : AHeap) (k : IntKind) (n : Int) : aconvert Try.prog 30 5 h (.val (.int k n)) = some (.val (.int .u8 (IntKind.u8.wrap n)), h) := aconvert_int _ _ _ _ und_30 und_5
theorem callable_11 : callable Try.prog 11 = true := by kernel_rfl
theorem callable_12 : callable Try.prog 12 = true := by kernel_rfl
theorem callable_13 : callable Try.prog 13 = true := by kernel_rfl
theorem callable_14 : callable Try.prog 14 = true := by kernel_rfl
theorem callable_15 : callable Try.prog 15 = true := by kernel_rfl
theorem callable_16 : callable Try.prog 16 = true := by kernel_rfl
theorem callable_17 : callable Try.prog 17 = true := by kernel_rfl
theorem callable_18 : callable Try.prog 18 = true := by kernel_rfl
theorem callable_19 : callable Try.prog 19 = true := by kernel_rfl
theorem callable_20 : callable Try.prog 20 = true := by kernel_rfl
theorem callable_21 : callable Try.prog 21 = true := by kernel_rfl
theorem callable_22 : callable Try.prog 22 = true := by kernel_rfl
theorem callable_23 : callable Try.prog 23 = true := by kernel_rfl
theorem callable_24 : callable Try.prog 24 = true := by kernel_rfl
theorem callable_25 : callable Try.prog 25 = true := by kernel_rfl
theorem callable_26 : callable Try.prog 26 = true := by kernel_rfl
theorem callable_27 : callable Try.prog 27 = true := by kernel_rfl
theorem callable_28 : callable Try.prog 28 = true := by kernel_rfl
theorem callable_29 : callable Try.prog 29 = true := by kernel_rfl
theorem callable_30 : callable Try.prog 30 = true := by kernel_rfl
theorem callable_31 : callable Try.prog 31 = true := by kernel_rfl
theorem callable_32 : callable Try.prog 32 = true := by kernel_rfl
theorem callable_33 : callable Try.prog 33 = true := by kernel_rfl
theorem callable_34 : callable Try.prog 34 = true := by kernel_rfl
theorem callable_35 : callable Try.prog 35 = true := by kernel_rfl
theorem callable_36 : callable Try.prog 36 = true := by kernel_rfl
theorem callable_37 : callable Try.prog 37 = true := by kernel_rfl
theorem callable_38 : callable Try.prog 38 = true := by kernel_rfl
theorem callable_39 : callable Try.prog 39 = true := by kernel_rfl
theorem callable_40 : callable Try.prog 40 = true := by kernel_rfl
theorem callable_41 : callable Try.prog 41 = true := by kernel_rfl
attribute [go_sem] tsize_3 tsize_4 tsize_5 tsize_9 tsize_25 tsize_28 tsize_30 tsize_48 tsize_64 tagg_3 tagg_4 tagg_5 tagg_9 tagg_25 tagg_28 tagg_30 tagg_48 tagg_64 tslice_9 tslice_22 tslice_28 tslice_42 tslice_58 tslice_64 tslice_67 tarr_9 tarr_22 tarr_28 tarr_42 tarr_46 tarr_58 tarr_61 tarr_64 tarr_67 tarr_69 tzero_46 tzero_48 tzero_61 tzero_64 tzero_69 isStrT_9 isStrT_22 isStrT_28 isStrT_42 isStrT_58 isStrT_64 isStrT_67 isSeqT_9 isSeqT_28 isPtrT_44 isPtrT_54 isBoolT_4 tfield_46_0 tfield_48_0 tfield_48_1 tfield_48_2 tfield_48_3 tfield_61_0 tfield_61_1 tfield_69_0 tfield_69_1 tplaces_46 tplaces_61 tplaces_69 und_2 und_3 und_5 und_9 und_25 und_28 und_30 cv_2_30 cv_3_25 cv_3_30 cv_5_25 cv_5_30 cv_9_28 cv_25_5 cv_28_9 cv_30_2 cv_30_3 cv_30_5 callable_11 callable_12 callable_13 callable_14 callable_15 callable_16 callable_17 callable_18 callable_19 callable_20 callable_21 callable_22 callable_23 callable_24 callable_25 callable_26 callable_27 callable_28 callable_29 callable_30 callable_31 callable_32 callable_33 callable_34 callable_35 callable_36 callable_37 callable_38 callable_39 callable_40 callable_41 fg_3_0 fg_3_1 fg_3_2 fg_4_0 fg_4_1 fg_4_2 fg_5_0 fg_6_0 fg_7_0 fg_8_0 fg_8_1 fg_8_2 fg_8_3 fg_8_4 fg_8_5 fg_9_0 fg_9_1 fg_9_2 fg_9_3 fg_10_0 fg_11_0 fg_11_1 fg_11_2 fg_12_0 fg_13_0 fg_13_1 fg_13_2 fg_13_3 fg_13_4 fg_14_0 fg_14_1 fg_14_2 fg_14_3 fg_14_4 fg_15_0 fg_16_0 fg_17_0 fg_18_0 fg_19_0 fg_20_0 fg_20_1 fg_20_2 fg_21_0 fg_22_0 fg_22_1 fg_22_2 fg_23_0 fg_23_1 fg_23_2 fg_24_0 fg_24_1 fg_24_2 fg_25_0 fg_25_1 fg_25_2 fg_25_3 fg_25_4 fg_26_0 fg_26_1 fg_26_2 fg_27_0 fg_27_1 fg_27_2 fg_28_0 fg_28_1 fg_28_2 fg_29_0 fg_29_1 fg_29_2 fg_30_0 fg_30_1 fg_30_2 fg_31_0 fg_32_0 fg_33_0 fg_34_0 fg_35_0 fg_36_0 fg_37_0 fg_38_0 fg_39_0 fg_40_0 fg_41_0 fg_41_1 fg_41_2 fg_41_3 fg_41_4 la_6_6 la_8_24 la_9_24 la_9_27 la_19_3 la_25_11 la_28_4
theorem body3 : Try.f3.body = some (.seq (regOf Try.f3 0) (.seq (.seq (regOf Try.f3 1) (.cond (.tmp 8) (.seq (regOf Try.f3 2) .ret) .skip)) (.seq (regOf Try.f3 3) (.seq (.seq (regOf Try.f3 4) (.block 0 (.loop (loopOf Try.f3 0)))) (.seq (regOf Try.f3 9) .ret))))) := by kernel_rfl
theorem loop3_0 : loopOf Try.f3 0 = (.seq (regOf Try.f3 5) (.seq (.cond (.tmp 13) .skip (.exit 0)) (.seq (.block 1 (.seq (regOf Try.f3 6) (regOf Try.f3 7))) (regOf Try.f3 8)))) := by kernel_rfl
theorem body4 : Try.f4.body = some (.seq (regOf Try.f4 0) (.seq (.seq (regOf Try.f4 1) (.cond (.tmp 23) (.seq (regOf Try.f4 2) .ret) .skip)) (.seq (regOf Try.f4 3) (.seq (regOf Try.f4 4) (.seq (regOf Try.f4 5) (.seq (.seq (regOf Try.f4 6) (.block 0 (.loop (loopOf Try.f4 0)))) (.seq (regOf Try.f4 13) .ret))))))) := by kernel_rfl
theorem loop4_0 : loopOf Try.f4 0 = (.seq (regOf Try.f4 7) (.seq (.cond (.tmp 40) .skip (.exit 0)) (.seq (.block 1 (.seq (regOf Try.f4 8) (.seq (regOf Try.f4 9) (.cond (.tmp 49) (.seq (regOf Try.f4 10) (regOf Try.f4 11)) .skip)))) (regOf Try.f4 12)))) := by kernel_rfl
theorem body5 : Try.f5.body = some (.seq (regOf Try.f5 0) (.seq (regOf Try.f5 1) .ret)) := by kernel_rfl
theorem body6 : Try.f6.body = some (.seq (regOf Try.f6 0) (.seq (.seq (regOf Try.f6 1) (.cond (.tmp 13) (.seq (regOf Try.f6 2) .ret) .skip)) (.seq (regOf Try.f6 3) (.seq (regOf Try.f6 4) (.seq (regOf Try.f6 5) (.seq (regOf Try.f6 6) .ret)))))) := by kernel_rfl
theorem body7 : Try.f7.body = some (.seq (regOf Try.f7 0) (.seq (.seq (regOf Try.f7 1) (.cond (.tmp 14) (.seq (regOf Try.f7 2) .ret) .skip)) (.seq (regOf Try.f7 3) (.seq (regOf Try.f7 4) (.seq (regOf Try.f7 5) (.seq (regOf Try.f7 6) (.seq (regOf Try.f7 7) .ret))))))) := by kernel_rfl
theorem body8 : Try.f8.body = some (.seq (regOf Try.f8 0) (.seq (.seq (regOf Try.f8 1) (.cond (.tmp 12) (.seq (regOf Try.f8 2) .ret) .skip)) (.seq (regOf Try.f8 3) (.seq (regOf Try.f8 4) (.seq (.seq (regOf Try.f8 5) (.block 0 (.loop (loopOf Try.f8 0)))) (.seq (.seq (regOf Try.f8 18) (.cond (.tmp 63) (.seq (regOf Try.f8 19) .ret) .skip)) (.seq (regOf Try.f8 20) (.seq (.seq (regOf Try.f8 21) (.block 3 (.loop (loopOf Try.f8 3)))) (.seq (regOf Try.f8 27) .ret))))))))) := by kernel_rfl
theorem loop8_0 : loopOf Try.f8 0 = (.seq (regOf Try.f8 6) (.seq (.cond (.tmp 19) .skip (.exit 0)) (.seq (.block 1 (.seq (regOf Try.f8 7) (.seq (regOf Try.f8 8) (.block 2 (.seq (regOf Try.f8 11) (.cond (.tmp 34) (.seq (regOf Try.f8 12) (regOf Try.f8 13)) (.seq (regOf Try.f8 14) (.cond (.tmp 46) (.seq (regOf Try.f8 15) (regOf Try.f8 16)) (.seq (regOf Try.f8 9) (regOf Try.f8 10)))))))))) (regOf Try.f8 17)))) := by kernel_rfl
theorem loop8_3 : loopOf Try.f8 3 = (.seq (regOf Try.f8 22) (.seq (.cond (.tmp 69) .skip (.exit 3)) (.seq (.block 4 (.seq (regOf Try.f8 23) (.seq (regOf Try.f8 24) (.cond (.tmp 110) (.seq (regOf Try.f8 25) .ret) .skip)))) (regOf Try.f8 26)))) := by kernel_rfl
theorem body9 : Try.f9.body = some (.seq (regOf Try.f9 0) (.seq (.seq (regOf Try.f9 1) (.cond (.tmp 20) (.seq (regOf Try.f9 2) .ret) .skip)) (.seq (regOf Try.f9 3) (.seq (regOf Try.f9 4) (.seq (regOf Try.f9 5) (.seq (.seq (regOf Try.f9 6) (.block 0 (.loop (loopOf Try.f9 0)))) (.seq (.seq (regOf Try.f9 27) (.cond (.tmp 93) (.seq (regOf Try.f9 28) .ret) .skip)) (.seq (regOf Try.f9 29) .ret)))))))) := by kernel_rfl
theorem loop9_0 : loopOf Try.f9 0 = (.seq (regOf Try.f9 7) (.seq (.cond (.tmp 32) .skip (.exit 0)) (.seq (.block 1 (.seq (regOf Try.f9 8) (.seq (.seq (regOf Try.f9 9) (.block 2 (.seq (regOf Try.f9 14) (.cond (.tmp 46) (.seq (regOf Try.f9 15) (.seq (.seq (regOf Try.f9 16) (.cond (.tmp 53) (.seq (regOf Try.f9 17) .ret) .skip)) (regOf Try.f9 18))) (.seq (regOf Try.f9 19) (.cond (.tmp 58) (.seq (regOf Try.f9 20) (.seq (.seq (regOf Try.f9 21) (.cond (.tmp 66) (.seq (regOf Try.f9 22) .ret) .skip)) (regOf Try.f9 23))) (.seq (regOf Try.f9 10) (.seq (.seq (regOf Try.f9 11) (.cond (.tmp 41) (.seq (regOf Try.f9 12) .ret) .skip)) (regOf Try.f9 13))))))))) (.seq (regOf Try.f9 24) (.cond (.tmp 77) (.seq (regOf Try.f9 25) .ret) .skip))))) (regOf Try.f9 26)))) := by kernel_rfl
theorem body10 : Try.f10.body = some (.seq (regOf Try.f10 0) (.seq (regOf Try.f10 1) (.seq (regOf Try.f10 2) (.seq (regOf Try.f10 3) (.seq (regOf Try.f10 4) (.seq (regOf Try.f10 5) (.seq (regOf Try.f10 6) .ret))))))) := by kernel_rfl
theorem body11 : Try.f11.body = some (.seq (regOf Try.f11 0) (.seq (regOf Try.f11 1) (.seq (.seq (regOf Try.f11 2) (.block 0 (.loop (loopOf Try.f11 0)))) (.seq (regOf Try.f11 6) .ret)))) := by kernel_rfl
theorem loop11_0 : loopOf Try.f11 0 = (.seq (.seq (regOf Try.f11 3) (.cond (.tmp 12) .skip (.exit 0))) (.seq (.block 1 (regOf Try.f11 5)) (regOf Try.f11 4))) := by kernel_rfl
theorem body12 : Try.f12.body = some (.seq (regOf Try.f12 0) (.seq (regOf Try.f12 1) .ret)) := by kernel_rfl
theorem body13 : Try.f13.body = some (.seq (regOf Try.f13 0) (.seq (regOf Try.f13 1) (.seq (regOf Try.f13 2) (.seq (.seq (regOf Try.f13 3) (.block 0 (.loop (loopOf Try.f13 0)))) (.seq (regOf Try.f13 14) .ret))))) := by kernel_rfl
theorem loop13_0 : loopOf Try.f13 0 = (.seq (regOf Try.f13 4) (.seq (.cond (.tmp 12) .skip (.exit 0)) (.seq (.block 1 (.seq (regOf Try.f13 5) (.seq (regOf Try.f13 6) (.block 2 (.loop (loopOf Try.f13 2)))))) (regOf Try.f13 13)))) := by kernel_rfl
theorem loop13_2 : loopOf Try.f13 2 = (.seq (regOf Try.f13 7) (.seq (.cond (.tmp 18) .skip (.exit 2)) (.seq (.block 3 (.seq (regOf Try.f13 8) (.seq (regOf Try.f13 9) (.seq (regOf Try.f13 10) (regOf Try.f13 11))))) (regOf Try.f13 12)))) := by kernel_rfl
theorem body14 : Try.f14.body = some (.seq (regOf Try.f14 0) (.seq (regOf Try.f14 1) (.seq (.seq (regOf Try.f14 2) (.block 0 (.loop (loopOf Try.f14 0)))) (.seq (regOf Try.f14 12) .ret)))) := by kernel_rfl
theorem loop14_0 : loopOf Try.f14 0 = (.seq (.seq (regOf Try.f14 3) (.cond (.tmp 9) .skip (.exit 0))) (.seq (.block 1 (.seq (regOf Try.f14 5) (.seq (regOf Try.f14 6) (.block 2 (.loop (loopOf Try.f14 2)))))) (regOf Try.f14 4))) := by kernel_rfl
theorem loop14_2 : loopOf Try.f14 2 = (.seq (.seq (regOf Try.f14 7) (.cond (.tmp 19) .skip (.exit 2))) (.seq (.block 3 (.seq (regOf Try.f14 9) (.cond (.tmp 24) (regOf Try.f14 10) (regOf Try.f14 11)))) (regOf Try.f14 8))) := by kernel_rfl
theorem body15 : Try.f15.body = some (.seq (regOf Try.f15 0) (.seq (regOf Try.f15 1) .ret)) := by kernel_rfl
theorem body16 : Try.f16.body = some (.seq (regOf Try.f16 0) (.seq (.seq (regOf Try.f16 1) (.cond (.tmp 4) (.seq (regOf Try.f16 2) .ret) .skip)) (.seq (regOf Try.f16 3) .ret))) := by kernel_rfl
theorem body17 : Try.f17.body = some (.seq (regOf Try.f17 0) (.seq (regOf Try.f17 1) .ret)) := by kernel_rfl
theorem body18 : Try.f18.body = some (.seq (regOf Try.f18 0) (.seq (.seq (regOf Try.f18 1) (.cond (.tmp 5) (.seq (regOf Try.f18 2) .ret) .skip)) (.seq (regOf Try.f18 3) .ret))) := by kernel_rfl
theorem body19 : Try.f19.body = some (.seq (regOf Try.f19 0) (.seq (.seq (regOf Try.f19 1) (.cond (.tmp 6) (.seq (regOf Try.f19 2) .ret) .skip)) (.seq (regOf Try.f19 3) .ret))) := by kernel_rfl
theorem body20 : Try.f20.body = some (.seq (regOf Try.f20 0) (.seq (.seq (regOf Try.f20 1) (.cond (.tmp 8) (.seq (regOf Try.f20 2) .ret) .skip)) (.seq (regOf Try.f20 3) (.seq (.seq (regOf Try.f20 4) (.block 0 (.loop (loopOf Try.f20 0)))) (.seq (regOf Try.f20 8) .ret))))) := by kernel_rfl
theorem loop20_0 : loopOf Try.f20 0 = (.seq (.seq (regOf Try.f20 5) (.cond (.tmp 10) .skip (.exit 0))) (.seq (.block 1 (regOf Try.f20 7)) (regOf Try.f20 6))) := by kernel_rfl
theorem body21 : Try.f21.body = some (.seq (regOf Try.f21 0) (.seq (regOf Try.f21 1) .ret)) := by kernel_rfl
theorem body22 : Try.f22.body = some (.seq (regOf Try.f22 0) (.seq (regOf Try.f22 1) (.seq (.seq (regOf Try.f22 2) (.block 0 (.loop (loopOf Try.f22 0)))) (.seq (regOf Try.f22 7) .ret)))) := by kernel_rfl
theorem loop22_0 : loopOf Try.f22 0 = (.seq (.seq (regOf Try.f22 3) (.cond (.tmp 6) .skip (.exit 0))) (.seq (.block 1 (.seq (regOf Try.f22 5) (regOf Try.f22 6))) (regOf Try.f22 4))) := by kernel_rfl
theorem body23 : Try.f23.body = some (.seq (regOf Try.f23 0) (.seq (regOf Try.f23 1) (.seq (.block 0 (.loop (loopOf Try.f23 0))) (.seq (regOf Try.f23 5) .ret)))) := by kernel_rfl
theorem loop23_0 : loopOf Try.f23 0 = (.seq (.seq (regOf Try.f23 2) (.cond (.tmp 5) .skip (.exit 0))) (.block 1 (.seq (regOf Try.f23 3) (regOf Try.f23 4)))) := by kernel_rfl
theorem body24 : Try.f24.body = some (.seq (regOf Try.f24 0) (.seq (regOf Try.f24 1) (.seq (.seq (regOf Try.f24 2) (.block 0 (.loop (loopOf Try.f24 0)))) (.seq (regOf Try.f24 12) .ret)))) := by kernel_rfl
theorem loop24_0 : loopOf Try.f24 0 = (.seq (regOf Try.f24 3) (.seq (.cond (.tmp 11) .skip (.exit 0)) (.seq (.block 1 (.seq (regOf Try.f24 4) (.seq (regOf Try.f24 5) (.seq (.seq (regOf Try.f24 6) (.cond (.tmp 29) (.seq (regOf Try.f24 7) .ret) .skip)) (.seq (regOf Try.f24 8) (.seq (regOf Try.f24 9) (.cond (.tmp 39) (.seq (regOf Try.f24 10) .ret) .skip))))))) (regOf Try.f24 11)))) := by kernel_rfl
theorem body25 : Try.f25.body = some (.seq (regOf Try.f25 0) (.seq (regOf Try.f25 1) (.seq (.block 0 (.loop (loopOf Try.f25 0))) (.seq (.seq (regOf Try.f25 4) (.cond (.tmp 30) (.seq (regOf Try.f25 5) .ret) .skip)) (.seq (regOf Try.f25 6) (.seq (.seq (regOf Try.f25 7) (.block 2 (.loop (loopOf Try.f25 2)))) (.seq (.seq (regOf Try.f25 11) (.cond (.tmp 50) (.seq (regOf Try.f25 12) .ret) .skip)) (.seq (regOf Try.f25 13) .ret)))))))) := by kernel_rfl
theorem loop25_0 : loopOf Try.f25 0 = (.seq (.seq (regOf Try.f25 2) (.cond (.tmp 20) .skip (.exit 0))) (.block 1 (regOf Try.f25 3))) := by kernel_rfl
theorem loop25_2 : loopOf Try.f25 2 = (.seq (.seq (regOf Try.f25 8) (.cond (.tmp 33) .skip (.exit 2))) (.seq (.block 3 (regOf Try.f25 10)) (regOf Try.f25 9))) := by kernel_rfl
theorem body26 : Try.f26.body = some (.seq (regOf Try.f26 0) (.seq (regOf Try.f26 1) (.seq (.block 0 (.loop (loopOf Try.f26 0))) (.seq (regOf Try.f26 5) .ret)))) := by kernel_rfl
theorem loop26_0 : loopOf Try.f26 0 = (.seq (.seq (regOf Try.f26 2) (.cond (.tmp 5) .skip (.exit 0))) (.block 1 (.seq (regOf Try.f26 3) (regOf Try.f26 4)))) := by kernel_rfl
theorem body27 : Try.f27.body = some (.seq (regOf Try.f27 0) (.seq (regOf Try.f27 1) (.seq (.seq (regOf Try.f27 2) (.block 0 (.loop (loopOf Try.f27 0)))) (.seq (regOf Try.f27 6) .ret)))) := by kernel_rfl
theorem loop27_0 : loopOf Try.f27 0 = (.seq (.seq (regOf Try.f27 3) (.cond (.tmp 12) .skip (.exit 0))) (.seq (.block 1 (regOf Try.f27 5)) (regOf Try.f27 4))) := by kernel_rfl
theorem body28 : Try.f28.body = some (.seq (.seq (regOf Try.f28 0) (.cond (.tmp 7) .ret .skip)) (.seq (regOf Try.f28 1) (.block 0 (.loop (loopOf Try.f28 0))))) := by kernel_rfl
theorem loop28_0 : loopOf Try.f28 0 = (.seq (regOf Try.f28 2) (.seq (.cond (.tmp 11) .skip (.exit 0)) (.seq (.block 1 (.seq (regOf Try.f28 3) (regOf Try.f28 4))) (regOf Try.f28 5)))) := by kernel_rfl
theorem body29 : Try.f29.body = some (.seq (regOf Try.f29 0) (.block 0 (.loop (loopOf Try.f29 0)))) := by kernel_rfl
theorem loop29_0 : loopOf Try.f29 0 = (.seq (regOf Try.f29 1) (.seq (.cond (.tmp 9) .skip (.exit 0)) (.seq (.block 1 (.seq (regOf Try.f29 2) (regOf Try.f29 3))) (regOf Try.f29 4)))) := by kernel_rfl
theorem body30 : Try.f30.body = some (.seq (.seq (regOf Try.f30 0) (.cond (.tmp 7) .ret .skip)) (.seq (regOf Try.f30 1) (.block 0 (.loop (loopOf Try.f30 0))))) := by kernel_rfl
theorem loop30_0 : loopOf Try.f30 0 = (.seq (regOf Try.f30 2) (.seq (.cond (.tmp 11) .skip (.exit 0)) (.seq (.block 1 (.seq (regOf Try.f30 3) (.seq (regOf Try.f30 4) (regOf Try.f30 5)))) (regOf Try.f30 6)))) := by kernel_rfl
theorem body31 : Try.f31.body = some (.seq (regOf Try.f31 0) (.seq (regOf Try.f31 1) .ret)) := by kernel_rfl
theorem body32 : Try.f32.body = some (.seq (regOf Try.f32 0) (.seq (.seq (regOf Try.f32 1) (.cond (.tmp 4) (.seq (regOf Try.f32 2) .ret) .skip)) (.seq (regOf Try.f32 3) .ret))) := by kernel_rfl
theorem body33 : Try.f33.body = some (.seq (regOf Try.f33 0) (.seq (regOf Try.f33 1) .ret)) := by kernel_rfl
theorem body34 : Try.f34.body = some (.seq (regOf Try.f34 0) (.seq (.seq (regOf Try.f34 1) (.cond (.tmp 6) (.seq (regOf Try.f34 2) .ret) .skip)) (.seq (regOf Try.f34 3) (.seq (.seq (regOf Try.f34 4) (.cond (.tmp 16) (.seq (regOf Try.f34 5) (.seq (regOf Try.f34 6) .ret)) .skip)) (.seq (regOf Try.f34 7) (.seq (regOf Try.f34 8) .ret)))))) := by kernel_rfl
theorem body35 : Try.f35.body = some (.seq (regOf Try.f35 0) (.seq (regOf Try.f35 1) .ret)) := by kernel_rfl
theorem body36 : Try.f36.body = some (.seq (regOf Try.f36 0) (.seq (regOf Try.f36 1) (.seq (.seq (regOf Try.f36 2) (.cond (.tmp 8) (.seq (regOf Try.f36 3) .ret) .skip)) (.seq (.seq (regOf Try.f36 4) (.cond (.tmp 16) (.seq (regOf Try.f36 5) (.seq (regOf Try.f36 6) .ret)) .skip)) (.seq (regOf Try.f36 7) (.seq (regOf Try.f36 8) (.seq (regOf Try.f36 9) .ret))))))) := by kernel_rfl
theorem body37 : Try.f37.body = some (.seq (regOf Try.f37 0) (.seq (regOf Try.f37 1) .ret)) := by kernel_rfl
theorem body38 : Try.f38.body = some (.seq (regOf Try.f38 0) (.seq (regOf Try.f38 1) .ret)) := by kernel_rfl
theorem body39 : Try.f39.body = some (.seq (regOf Try.f39 0) (.seq (.seq (regOf Try.f39 1) (.cond (.tmp 8) (.seq (regOf Try.f39 2) .ret) .skip)) (.seq (regOf Try.f39 3) (.seq (.seq (regOf Try.f39 4) (.cond (.tmp 18) (.seq (regOf Try.f39 5) (.seq (regOf Try.f39 6) .ret)) .skip)) (.seq (regOf Try.f39 7) (.seq (regOf Try.f39 8) .ret)))))) := by kernel_rfl
theorem body40 : Try.f40.body = some (.seq (regOf Try.f40 0) (.seq (regOf Try.f40 1) (.seq (.seq (regOf Try.f40 2) (.cond (.tmp 20) (.seq (regOf Try.f40 3) (.seq (regOf Try.f40 4) .ret)) .skip)) (.seq (regOf Try.f40 5) (.seq (regOf Try.f40 6) (.seq (regOf Try.f40 7) .ret)))))) := by kernel_rfl
theorem body41 : Try.f41.body = some (.seq (regOf Try.f41 0) (.seq (regOf Try.f41 1) (.seq (.seq (regOf Try.f41 2) (.block 0 (.loop (loopOf Try.f41 0)))) (.seq (regOf Try.f41 12) .ret)))) := by kernel_rfl
theorem loop41_0 : loopOf Try.f41 0 = (.seq (regOf Try.f41 3) (.seq (.cond (.tmp 5) .skip (.exit 0)) (.seq (.block 1 (.seq (regOf Try.f41 4) (.seq (regOf Try.f41 5) (.seq (.seq (regOf Try.f41 6) (.block 2 (.loop (loopOf Try.f41 2)))) (regOf Try.f41 10))))) (regOf Try.f41 11)))) := by kernel_rfl
theorem loop41_2 : loopOf Try.f41 2 = (.seq (regOf Try.f41 7) (.seq (.cond (.tmp 10) .skip (.exit 2)) (.seq (.block 3 (regOf Try.f41 8)) (regOf Try.f41 9)))) := by kernel_rfl
theorem ok3 : fnOk Try.prog md fg 3 = true := by kernel_rfl
theorem ok4 : fnOk Try.prog md fg 4 = true := by kernel_rfl
theorem ok5 : fnOk Try.prog md fg 5 = true := by kernel_rfl
theorem ok6 : fnOk Try.prog md fg 6 = true := by kernel_rfl
theorem ok7 : fnOk Try.prog md fg 7 = true := by kernel_rfl
theorem ok8 : fnOk Try.prog md fg 8 = true := by kernel_rfl
theorem ok9 : fnOk Try.prog md fg 9 = true := by kernel_rfl
theorem ok10 : fnOk Try.prog md fg 10 = true := by kernel_rfl
theorem ok11 : fnOk Try.prog md fg 11 = true := by kernel_rfl
theorem ok12 : fnOk Try.prog md fg 12 = true := by kernel_rfl
theorem ok13 : fnOk Try.prog md fg 13 = true := by kernel_rfl
theorem ok14 : fnOk Try.prog md fg 14 = true := by kernel_rfl
theorem ok15 : fnOk Try.prog md fg 15 = true := by kernel_rfl
theorem ok16 : fnOk Try.prog md fg 16 = true := by kernel_rfl
theorem ok17 : fnOk Try.prog md fg 17 = true := by kernel_rfl
theorem ok18 : fnOk Try.prog md fg 18 = true := by kernel_rfl
theorem ok19 : fnOk Try.prog md fg 19 = true := by kernel_rfl
theorem ok20 : fnOk Try.prog md fg 20 = true := by kernel_rfl
theorem ok21 : fnOk Try.prog md fg 21 = true := by kernel_rfl
theorem ok22 : fnOk Try.prog md fg 22 = true := by kernel_rfl
theorem ok23 : fnOk Try.prog md fg 23 = true := by kernel_rfl
theorem ok24 : fnOk Try.prog md fg 24 = true := by kernel_rfl
theorem ok25 : fnOk Try.prog md fg 25 = true := by kernel_rfl
theorem ok26 : fnOk Try.prog md fg 26 = true := by kernel_rfl
theorem ok27 : fnOk Try.prog md fg 27 = true := by kernel_rfl
theorem ok28 : fnOk Try.prog md fg 28 = true := by kernel_rfl
theorem ok29 : fnOk Try.prog md fg 29 = true := by kernel_rfl
theorem ok30 : fnOk Try.prog md fg 30 = true := by kernel_rfl
theorem ok31 : fnOk Try.prog md fg 31 = true := by kernel_rfl
theorem ok32 : fnOk Try.prog md fg 32 = true := by kernel_rfl
theorem ok33 : fnOk Try.prog md fg 33 = true := by kernel_rfl
theorem ok34 : fnOk Try.prog md fg 34 = true := by kernel_rfl
theorem ok35 : fnOk Try.prog md fg 35 = true := by kernel_rfl
theorem ok36 : fnOk Try.prog md fg 36 = true := by kernel_rfl
theorem ok37 : fnOk Try.prog md fg 37 = true := by kernel_rfl
theorem ok38 : fnOk Try.prog md fg 38 = true := by kernel_rfl
theorem ok39 : fnOk Try.prog md fg 39 = true := by kernel_rfl
theorem ok40 : fnOk Try.prog md fg 40 = true := by kernel_rfl
theorem ok41 : fnOk Try.prog md fg 41 = true := by kernel_rfl
theorem aval_of {f : FuncId} {fn : Func} {c : Code} {rs : Array ResultVar} {nt : Nat} (hf : Try.prog.funcs[f]? = some fn) (hb : fn.body = some c) (hr : fn.results = rs) (hn : fn.ntmps = nt) (hok : fnOk Try.prog md fg f = true) (args : List AV) (h : AHeap) :
    aval Try.prog md fg f args h = finish Try.prog rs.toList (arun Try.prog md fg (fg f) c [] (env0 nt args) h) := aval_eq hf hb hr hn hok args h
end Go.Proofs.Ytlpkfeplbcadbaa
