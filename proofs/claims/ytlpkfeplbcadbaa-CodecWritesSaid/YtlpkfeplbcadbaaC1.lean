/- The plain functions of codec and its law, by rounds: few, table. -/
import Derived.Test.YtlpkfeplbcadbaaCFacts
namespace Go.Proofs.Ytlpkfeplbcadbaa
open Go Go.Ab Go.Proofs
set_option maxRecDepth 100000
set_option linter.unusedSimpArgs false
abbrev v8 (x : BitVec 8) : AV := .val (.int .u8 (x.toNat : Int))
abbrev v32 (x : BitVec 32) : AV := .val (.int .u32 (x.toNat : Int))
abbrev v64 (x : BitVec 64) : AV := .val (.int .u64 (x.toNat : Int))
/-- The bytes of some texts, none counted above 100000. -/
def fewN (l : List ByteArray) : Nat := (l.map fun s => min s.size 100000).sum
theorem few_round (l : List ByteArray) (i n : Nat) (hi : i < l.length) (hj : i ≤ 60) (hn : n ≤ i * 100000) :
    lrun Try.prog md fg (fg 11) (loopOf Try.f11 0) (fg 11 1) ([.slc false (l.map .str), .unk, .unk, .int n, .int i, .unk, .unk, .unk, .unk, .unk, .unk, .unk, .unk, .unk, .unk, .unk, .unk, .unk, .unk, .unk, .unk, .unk, .unk, .unk, .unk, .unk, .unk, .unk, .unk, .unk]) [] = lrun Try.prog md fg (fg 11) (loopOf Try.f11 0) (fg 11 1) ([.slc false (l.map .str), .unk, .unk, .int ((n + min l[i].size 100000 : Nat) : Int), .int ((i + 1 : Nat) : Int), .unk, .unk, .unk, .unk, .unk, .unk, .unk, .unk, .unk, .unk, .unk, .unk, .unk, .unk, .unk, .unk, .unk, .unk, .unk, .unk, .unk, .unk, .unk, .unk, .unk]) [] := by
  rw [lrun_atC loop11_0]
  simp (implicitDefEqProofs := false) (disch := omega) only [go_sem, Nat.reduceAdd, Nat.reduceSub, Nat.reduceMul, Nat.reduceLT, Nat.reduceLeDiff, Nat.reduceEqDiff, List.drop_zero, List.take_succ_cons, List.take_zero, List.drop_succ_cons, Bool.and_true, Bool.true_and, Bool.and_false, Bool.false_and, BitVec.reduceOfInt, Nat.zero_add, Nat.mul_one, Nat.add_zero, Int.zero_add, Int.reduceToNat, Nat.reducePow, ↓reduceIte, reduceCtorEq, Int.reduceLE, Int.reduceLT, Int.reduceEq, Int.reduceNe, Int.reduceAdd, Int.reduceSub, Int.reduceMul, Int.reduceNeg, Nat.reduceBEq, show regOf Try.f11 3 = Code.region _ _ _ from rfl, show regOf Try.f11 4 = Code.region _ _ _ from rfl, show regOf Try.f11 5 = Code.region _ _ _ from rfl, List.getElem?_map, List.length_map, List.getElem?_eq_getElem hi]
  all_goals (congr 1 <;> simp only [List.cons.injEq, AV.val.injEq, Value.int.injEq, Value.bool.injEq, true_and, and_true] <;> omega)
theorem few_end (l : List ByteArray) (i n : Nat) (hi : ¬ (i < l.length ∧ i ≤ 60)) :
    lrun Try.prog md fg (fg 11) (loopOf Try.f11 0) (fg 11 1) ([.slc false (l.map .str), .unk, .unk, .int n, .int i, .unk, .unk, .unk, .unk, .unk, .unk, .unk, .unk, .unk, .unk, .unk, .unk, .unk, .unk, .unk, .unk, .unk, .unk, .unk, .unk, .unk, .unk, .unk, .unk, .unk]) [] = some (.exit 0, [.slc false (l.map .str), .unk, .unk, .int n, .int i, .unk, .unk, .unk, .unk, .unk, .unk, .unk, .unk, .unk, .unk, .unk, .unk, .unk, .unk, .unk, .unk, .unk, .unk, .unk, .unk, .unk, .unk, .unk, .unk, .unk], []) := by
  rw [lrun_atC loop11_0]
  by_cases h1 : i < l.length
  · simp (implicitDefEqProofs := false) (disch := omega) only [go_sem, Nat.reduceAdd, Nat.reduceSub, Nat.reduceMul, Nat.reduceLT, Nat.reduceLeDiff, Nat.reduceEqDiff, List.drop_zero, List.take_succ_cons, List.take_zero, List.drop_succ_cons, Bool.and_true, Bool.true_and, Bool.and_false, Bool.false_and, BitVec.reduceOfInt, Nat.zero_add, Nat.mul_one, Nat.add_zero, Int.zero_add, Int.reduceToNat, Nat.reducePow, ↓reduceIte, reduceCtorEq, Int.reduceLE, Int.reduceLT, Int.reduceEq, Int.reduceNe, Int.reduceAdd, Int.reduceSub, Int.reduceMul, Int.reduceNeg, Nat.reduceBEq, show regOf Try.f11 3 = Code.region _ _ _ from rfl, show regOf Try.f11 4 = Code.region _ _ _ from rfl, show regOf Try.f11 5 = Code.region _ _ _ from rfl, List.getElem?_map, List.length_map]
  · simp (implicitDefEqProofs := false) (disch := omega) only [go_sem, Nat.reduceAdd, Nat.reduceSub, Nat.reduceMul, Nat.reduceLT, Nat.reduceLeDiff, Nat.reduceEqDiff, List.drop_zero, List.take_succ_cons, List.take_zero, List.drop_succ_cons, Bool.and_true, Bool.true_and, Bool.and_false, Bool.false_and, BitVec.reduceOfInt, Nat.zero_add, Nat.mul_one, Nat.add_zero, Int.zero_add, Int.reduceToNat, Nat.reducePow, ↓reduceIte, reduceCtorEq, Int.reduceLE, Int.reduceLT, Int.reduceEq, Int.reduceNe, Int.reduceAdd, Int.reduceSub, Int.reduceMul, Int.reduceNeg, Nat.reduceBEq, show regOf Try.f11 3 = Code.region _ _ _ from rfl, show regOf Try.f11 4 = Code.region _ _ _ from rfl, show regOf Try.f11 5 = Code.region _ _ _ from rfl, List.getElem?_map, List.length_map]
theorem few_loop (l : List ByteArray) : ∀ (k i n : Nat), i + k = min l.length 61 → n ≤ i * 100000 → ∃ j : Nat,
    lrun Try.prog md fg (fg 11) (loopOf Try.f11 0) (fg 11 1) ([.slc false (l.map .str), .unk, .unk, .int n, .int i, .unk, .unk, .unk, .unk, .unk, .unk, .unk, .unk, .unk, .unk, .unk, .unk, .unk, .unk, .unk, .unk, .unk, .unk, .unk, .unk, .unk, .unk, .unk, .unk, .unk]) [] = some (.exit 0, [.slc false (l.map .str), .unk, .unk, .int ((n + fewN ((l.drop i).take k) : Nat) : Int), .int j, .unk, .unk, .unk, .unk, .unk, .unk, .unk, .unk, .unk, .unk, .unk, .unk, .unk, .unk, .unk, .unk, .unk, .unk, .unk, .unk, .unk, .unk, .unk, .unk, .unk], [])
  | 0, i, n, hk, hn => ⟨i, by
      rw [few_end l i n (by omega)]
      simp only [List.take_zero, fewN, List.map_nil, List.sum_nil, Nat.add_zero]⟩
  | k + 1, i, n, hk, hn => by
    have hi : i < l.length := by omega
    obtain ⟨j, e⟩ := few_loop l k (i + 1) (n + min l[i].size 100000) (by omega) (by omega)
    refine ⟨j, ?_⟩
    rw [few_round l i n hi (by omega) hn, e]
    have : fewN ((l.drop i).take (k + 1)) = min l[i].size 100000 + fewN ((l.drop (i + 1)).take k) := by
      rw [List.drop_eq_getElem_cons hi]; simp only [List.take_succ_cons, fewN, List.map_cons, List.sum_cons]
    rw [this, Nat.add_assoc]
/-- few: at most 60 texts of 4000 bytes. -/
def fewB (l : List ByteArray) : Bool := decide (l.length ≤ 60) && decide (fewN l ≤ 4000)
theorem few (l : List ByteArray) : aval Try.prog md fg 11 [.slc false (l.map .str)] [] = some (.val (.bool (fewB l)), []) := by
  rw [aval_of Try.func11 body11 Try.results11 Try.ntmps11 ok11]
  obtain ⟨j, e⟩ := few_loop l (min l.length 61) 0 0 (by omega) (by omega)
  simp only [Int.natCast_zero, List.drop_zero, Nat.zero_add] at e
  by_cases h1 : l.length ≤ 60
  · have ht : l.take (min l.length 61) = l := List.take_of_length_le (by omega)
    rw [ht] at e
    by_cases h2 : fewN l ≤ 4000
    · simp (implicitDefEqProofs := false) (disch := omega) only [go_sem, Nat.reduceAdd, Nat.reduceSub, Nat.reduceMul, Nat.reduceLT, Nat.reduceLeDiff, Nat.reduceEqDiff, List.drop_zero, List.take_succ_cons, List.take_zero, List.drop_succ_cons, Bool.and_true, Bool.true_and, Bool.and_false, Bool.false_and, BitVec.reduceOfInt, Nat.zero_add, Nat.mul_one, Nat.add_zero, Int.zero_add, Int.reduceToNat, Nat.reducePow, ↓reduceIte, reduceCtorEq, Int.reduceLE, Int.reduceLT, Int.reduceEq, Int.reduceNe, Int.reduceAdd, Int.reduceSub, Int.reduceMul, Int.reduceNeg, Nat.reduceBEq, show regOf Try.f11 0 = Code.region _ _ _ from rfl, show regOf Try.f11 1 = Code.region _ _ _ from rfl, show regOf Try.f11 2 = Code.region _ _ _ from rfl, show regOf Try.f11 3 = Code.region _ _ _ from rfl, show regOf Try.f11 5 = Code.region _ _ _ from rfl, show regOf Try.f11 4 = Code.region _ _ _ from rfl, show regOf Try.f11 6 = Code.region _ _ _ from rfl, e, List.length_map]
      simp [fewB, h1, h2]
    · simp (implicitDefEqProofs := false) (disch := omega) only [go_sem, Nat.reduceAdd, Nat.reduceSub, Nat.reduceMul, Nat.reduceLT, Nat.reduceLeDiff, Nat.reduceEqDiff, List.drop_zero, List.take_succ_cons, List.take_zero, List.drop_succ_cons, Bool.and_true, Bool.true_and, Bool.and_false, Bool.false_and, BitVec.reduceOfInt, Nat.zero_add, Nat.mul_one, Nat.add_zero, Int.zero_add, Int.reduceToNat, Nat.reducePow, ↓reduceIte, reduceCtorEq, Int.reduceLE, Int.reduceLT, Int.reduceEq, Int.reduceNe, Int.reduceAdd, Int.reduceSub, Int.reduceMul, Int.reduceNeg, Nat.reduceBEq, show regOf Try.f11 0 = Code.region _ _ _ from rfl, show regOf Try.f11 1 = Code.region _ _ _ from rfl, show regOf Try.f11 2 = Code.region _ _ _ from rfl, show regOf Try.f11 3 = Code.region _ _ _ from rfl, show regOf Try.f11 5 = Code.region _ _ _ from rfl, show regOf Try.f11 4 = Code.region _ _ _ from rfl, show regOf Try.f11 6 = Code.region _ _ _ from rfl, e, List.length_map]
      simp [fewB, h1, h2]
  · simp (implicitDefEqProofs := false) (disch := omega) only [go_sem, Nat.reduceAdd, Nat.reduceSub, Nat.reduceMul, Nat.reduceLT, Nat.reduceLeDiff, Nat.reduceEqDiff, List.drop_zero, List.take_succ_cons, List.take_zero, List.drop_succ_cons, Bool.and_true, Bool.true_and, Bool.and_false, Bool.false_and, BitVec.reduceOfInt, Nat.zero_add, Nat.mul_one, Nat.add_zero, Int.zero_add, Int.reduceToNat, Nat.reducePow, ↓reduceIte, reduceCtorEq, Int.reduceLE, Int.reduceLT, Int.reduceEq, Int.reduceNe, Int.reduceAdd, Int.reduceSub, Int.reduceMul, Int.reduceNeg, Nat.reduceBEq, show regOf Try.f11 0 = Code.region _ _ _ from rfl, show regOf Try.f11 1 = Code.region _ _ _ from rfl, show regOf Try.f11 2 = Code.region _ _ _ from rfl, show regOf Try.f11 3 = Code.region _ _ _ from rfl, show regOf Try.f11 5 = Code.region _ _ _ from rfl, show regOf Try.f11 4 = Code.region _ _ _ from rfl, show regOf Try.f11 6 = Code.region _ _ _ from rfl, e, List.length_map]
    simp [fewB, h1]
theorem few_p (l : List ByteArray) : pcall Try.prog md fg 11 [.slc false (l.map .str)] = some (.val (.bool (fewB l))) := by
  rw [pcall_eq, few, pureRes_solid rfl]
end Go.Proofs.Ytlpkfeplbcadbaa
