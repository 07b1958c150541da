/- The plain functions of codec, by rounds: table, Sum, the reference's Sum. -/
import Derived.Test.YtlpkfeplbcadbaaC1
namespace Go.Proofs.Ytlpkfeplbcadbaa
open Go Go.Ab Go.Proofs
set_option maxRecDepth 100000
set_option linter.unusedSimpArgs false
/-- One bit of a sum, as the table is made. -/
def step1 (x : BitVec 32) : BitVec 32 := (x >>> 1) ^^^ (2197175160#32 * (x &&& 1#32))
theorem tab_in (h : AHeap) (i j : Nat) (x : BitVec 32) (hj : j < 4) :
    lrun Try.prog md fg (fg 41) (loopOf Try.f41 2) (fg 41 3) ([.ptr 0 0, .ptr 1 0, .int i, v32 x, .int i, .unk, .unk, .unk, .unk, .int j, .unk, .unk, .unk, .unk, .unk, .unk, .unk, .unk, .unk, .unk, .unk, .unk, .unk]) h = lrun Try.prog md fg (fg 41) (loopOf Try.f41 2) (fg 41 3) ([.ptr 0 0, .ptr 1 0, .int i, v32 (step1 x), .int i, .unk, .unk, .unk, .unk, .int ((j + 1 : Nat) : Int), .unk, .unk, .unk, .unk, .unk, .unk, .unk, .unk, .unk, .unk, .unk, .unk, .unk]) h := by
  rw [lrun_atC loop41_2]
  simp (implicitDefEqProofs := false) (disch := omega) only [go_sem, Nat.reduceAdd, Nat.reduceSub, Nat.reduceMul, Nat.reduceLT, Nat.reduceLeDiff, Nat.reduceEqDiff, List.drop_zero, List.take_succ_cons, List.take_zero, List.drop_succ_cons, Bool.and_true, Bool.true_and, Bool.and_false, Bool.false_and, BitVec.reduceOfInt, Nat.zero_add, Nat.mul_one, Nat.add_zero, Int.zero_add, Int.reduceToNat, Nat.reducePow, ↓reduceIte, reduceCtorEq, Int.reduceLE, Int.reduceLT, Int.reduceEq, Int.reduceNe, Int.reduceAdd, Int.reduceSub, Int.reduceMul, Int.reduceNeg, Nat.reduceBEq, show regOf Try.f41 7 = Code.region _ _ _ from rfl, show regOf Try.f41 8 = Code.region _ _ _ from rfl, show regOf Try.f41 9 = Code.region _ _ _ from rfl, step1]
  all_goals (congr 1 <;> simp only [List.cons.injEq, AV.val.injEq, Value.int.injEq, Value.bool.injEq, true_and, and_true] <;> omega)
theorem tab_in_end (h : AHeap) (i : Nat) (x : BitVec 32) :
    lrun Try.prog md fg (fg 41) (loopOf Try.f41 2) (fg 41 3) ([.ptr 0 0, .ptr 1 0, .int i, v32 x, .int i, .unk, .unk, .unk, .unk, .int (4 : Nat), .unk, .unk, .unk, .unk, .unk, .unk, .unk, .unk, .unk, .unk, .unk, .unk, .unk]) h = some (.exit 2, [.ptr 0 0, .ptr 1 0, .int i, v32 x, .int i, .unk, .unk, .unk, .unk, .int (4 : Nat), .unk, .unk, .unk, .unk, .unk, .unk, .unk, .unk, .unk, .unk, .unk, .unk, .unk], h) := by
  rw [lrun_atC loop41_2]
  simp (implicitDefEqProofs := false) (disch := omega) only [go_sem, Nat.reduceAdd, Nat.reduceSub, Nat.reduceMul, Nat.reduceLT, Nat.reduceLeDiff, Nat.reduceEqDiff, List.drop_zero, List.take_succ_cons, List.take_zero, List.drop_succ_cons, Bool.and_true, Bool.true_and, Bool.and_false, Bool.false_and, BitVec.reduceOfInt, Nat.zero_add, Nat.mul_one, Nat.add_zero, Int.zero_add, Int.reduceToNat, Nat.reducePow, ↓reduceIte, reduceCtorEq, Int.reduceLE, Int.reduceLT, Int.reduceEq, Int.reduceNe, Int.reduceAdd, Int.reduceSub, Int.reduceMul, Int.reduceNeg, Nat.reduceBEq, show regOf Try.f41 7 = Code.region _ _ _ from rfl, show regOf Try.f41 8 = Code.region _ _ _ from rfl, show regOf Try.f41 9 = Code.region _ _ _ from rfl]
/-- An entry of the table. -/
def tabE (i : Nat) : BitVec 32 := step1 (step1 (step1 (step1 (BitVec.ofNat 32 i))))
theorem tab_loop (h : AHeap) (i : Nat) :
    lrun Try.prog md fg (fg 41) (loopOf Try.f41 2) (fg 41 3) ([.ptr 0 0, .ptr 1 0, .int i, v32 (BitVec.ofNat 32 i), .int i, .unk, .unk, .unk, .unk, .int (0 : Int), .unk, .unk, .unk, .unk, .unk, .unk, .unk, .unk, .unk, .unk, .unk, .unk, .unk]) h = some (.exit 2, [.ptr 0 0, .ptr 1 0, .int i, v32 (tabE i), .int i, .unk, .unk, .unk, .unk, .int 4, .unk, .unk, .unk, .unk, .unk, .unk, .unk, .unk, .unk, .unk, .unk, .unk, .unk], h) := by
  have e := tab_in h i 0 (BitVec.ofNat 32 i) (by omega)
  rw [tab_in h i 1 _ (by omega), tab_in h i 2 _ (by omega), tab_in h i 3 _ (by omega), tab_in_end] at e
  exact e
theorem tab_round (z : AObj) (cs : List AV) (i : Nat) (hi : i < 16) (hc : cs.length = 16) :
    lrun Try.prog md fg (fg 41) (loopOf Try.f41 0) (fg 41 1) ([.ptr 0 0, .ptr 1 0, .unk, .unk, .int i, .unk, .unk, .unk, .unk, .unk, .unk, .unk, .unk, .unk, .unk, .unk, .unk, .unk, .unk, .unk, .unk, .unk, .unk]) [z, .vars cs] = lrun Try.prog md fg (fg 41) (loopOf Try.f41 0) (fg 41 1) ([.ptr 0 0, .ptr 1 0, .unk, .unk, .int ((i + 1 : Nat) : Int), .unk, .unk, .unk, .unk, .unk, .unk, .unk, .unk, .unk, .unk, .unk, .unk, .unk, .unk, .unk, .unk, .unk, .unk]) [z, .vars (cs.set i (v32 (tabE i)))] := by
  rw [lrun_atC loop41_0]
  have e := tab_loop [z, .vars cs] i
  simp (implicitDefEqProofs := false) (disch := omega) only [go_sem, Nat.reduceAdd, Nat.reduceSub, Nat.reduceMul, Nat.reduceLT, Nat.reduceLeDiff, Nat.reduceEqDiff, List.drop_zero, List.take_succ_cons, List.take_zero, List.drop_succ_cons, Bool.and_true, Bool.true_and, Bool.and_false, Bool.false_and, BitVec.reduceOfInt, Nat.zero_add, Nat.mul_one, Nat.add_zero, Int.zero_add, Int.reduceToNat, Nat.reducePow, ↓reduceIte, reduceCtorEq, Int.reduceLE, Int.reduceLT, Int.reduceEq, Int.reduceNe, Int.reduceAdd, Int.reduceSub, Int.reduceMul, Int.reduceNeg, Nat.reduceBEq, show regOf Try.f41 3 = Code.region _ _ _ from rfl, show regOf Try.f41 4 = Code.region _ _ _ from rfl, show regOf Try.f41 5 = Code.region _ _ _ from rfl, show regOf Try.f41 6 = Code.region _ _ _ from rfl, show regOf Try.f41 10 = Code.region _ _ _ from rfl, show regOf Try.f41 11 = Code.region _ _ _ from rfl, BitVec.ofInt_natCast, e]
  all_goals (congr 1 <;> simp only [List.cons.injEq, AV.val.injEq, Value.int.injEq, Value.bool.injEq, true_and, and_true] <;> omega)
theorem tab_end (h : AHeap) :
    lrun Try.prog md fg (fg 41) (loopOf Try.f41 0) (fg 41 1) ([.ptr 0 0, .ptr 1 0, .unk, .unk, .int (16 : Nat), .unk, .unk, .unk, .unk, .unk, .unk, .unk, .unk, .unk, .unk, .unk, .unk, .unk, .unk, .unk, .unk, .unk, .unk]) h = some (.exit 0, [.ptr 0 0, .ptr 1 0, .unk, .unk, .int (16 : Nat), .unk, .unk, .unk, .unk, .unk, .unk, .unk, .unk, .unk, .unk, .unk, .unk, .unk, .unk, .unk, .unk, .unk, .unk], h) := by
  rw [lrun_atC loop41_0]
  simp (implicitDefEqProofs := false) (disch := omega) only [go_sem, Nat.reduceAdd, Nat.reduceSub, Nat.reduceMul, Nat.reduceLT, Nat.reduceLeDiff, Nat.reduceEqDiff, List.drop_zero, List.take_succ_cons, List.take_zero, List.drop_succ_cons, Bool.and_true, Bool.true_and, Bool.and_false, Bool.false_and, BitVec.reduceOfInt, Nat.zero_add, Nat.mul_one, Nat.add_zero, Int.zero_add, Int.reduceToNat, Nat.reducePow, ↓reduceIte, reduceCtorEq, Int.reduceLE, Int.reduceLT, Int.reduceEq, Int.reduceNe, Int.reduceAdd, Int.reduceSub, Int.reduceMul, Int.reduceNeg, Nat.reduceBEq, show regOf Try.f41 3 = Code.region _ _ _ from rfl, show regOf Try.f41 4 = Code.region _ _ _ from rfl, show regOf Try.f41 5 = Code.region _ _ _ from rfl, show regOf Try.f41 6 = Code.region _ _ _ from rfl, show regOf Try.f41 10 = Code.region _ _ _ from rfl, show regOf Try.f41 11 = Code.region _ _ _ from rfl]
/-- The table. -/
def tabL : List AV := (List.range 16).map fun i => v32 (tabE i)
theorem table : aval Try.prog md fg 41 [] [] = some (.agg tabL, [.vars tabL, .vars tabL]) := by
  rw [aval_of Try.func41 body41 Try.results41 Try.ntmps41 ok41]
  simp (implicitDefEqProofs := false) (disch := omega) only [go_sem, Nat.reduceAdd, Nat.reduceSub, Nat.reduceMul, Nat.reduceLT, Nat.reduceLeDiff, Nat.reduceEqDiff, List.drop_zero, List.take_succ_cons, List.take_zero, List.drop_succ_cons, Bool.and_true, Bool.true_and, Bool.and_false, Bool.false_and, BitVec.reduceOfInt, Nat.zero_add, Nat.mul_one, Nat.add_zero, Int.zero_add, Int.reduceToNat, Nat.reducePow, ↓reduceIte, reduceCtorEq, Int.reduceLE, Int.reduceLT, Int.reduceEq, Int.reduceNe, Int.reduceAdd, Int.reduceSub, Int.reduceMul, Int.reduceNeg, Nat.reduceBEq, show regOf Try.f41 0 = Code.region _ _ _ from rfl, show regOf Try.f41 1 = Code.region _ _ _ from rfl, show regOf Try.f41 2 = Code.region _ _ _ from rfl]
  rw [show (Value.int IntKind.i64 0) = Value.int IntKind.i64 ((0 : Nat) : Int) from rfl]
  iterate 16 rw [tab_round _ _ _ (by omega) rfl]
  rw [tab_end]
  simp (implicitDefEqProofs := false) (disch := omega) only [go_sem, Nat.reduceAdd, Nat.reduceSub, Nat.reduceMul, Nat.reduceLT, Nat.reduceLeDiff, Nat.reduceEqDiff, List.drop_zero, List.take_succ_cons, List.take_zero, List.drop_succ_cons, Bool.and_true, Bool.true_and, Bool.and_false, Bool.false_and, BitVec.reduceOfInt, Nat.zero_add, Nat.mul_one, Nat.add_zero, Int.zero_add, Int.reduceToNat, Nat.reducePow, ↓reduceIte, reduceCtorEq, Int.reduceLE, Int.reduceLT, Int.reduceEq, Int.reduceNe, Int.reduceAdd, Int.reduceSub, Int.reduceMul, Int.reduceNeg, Nat.reduceBEq, show regOf Try.f41 12 = Code.region _ _ _ from rfl]
  rfl
theorem tabL_length : tabL.length = 16 := rfl
theorem tabL_get (i : Nat) (hi : i < 16) : tabL[i]? = some (v32 (tabE i)) := by
  simp [tabL, hi]
theorem table_p : pcall Try.prog md fg 41 [] = some (.agg tabL) := by
  rw [pcall_eq, table, pureRes_solid rfl]

/-! ### Sum -/
/-- One byte into a sum, by the table. -/
def byteT (x : BitVec 32) (b : UInt8) : BitVec 32 :=
  let y := x ^^^ b.toBitVec.setWidth 32
  let z := (y >>> 4) ^^^ tabE (y &&& 15#32).toNat
  (z >>> 4) ^^^ tabE (z &&& 15#32).toNat
theorem and15 (x : BitVec 32) : (x &&& 15#32).toNat < 16 := by
  rw [BitVec.toNat_and]; exact Nat.lt_of_le_of_lt Nat.and_le_right (by decide)
theorem sum_in (L : List AV) (n k j : Nat) (s : ByteArray) (x : BitVec 32) (b : UInt8) (hb : s.data.toList[j]? = some b) (hj : j < s.size) (hs : s.size < 2 ^ 62) :
    lrun Try.prog md fg (fg 13) (loopOf Try.f13 2) (fg 13 3) ([.unk, .unk, .unk, .ptr 0 0, v32 x, .unk, .str s, .unk, .unk, .slc false L, .int n, .int k, .unk, .unk, .unk, .unk, .int s.size, .int j, .unk, .unk, .unk, .unk, .unk, .unk, .unk, .unk, .unk, .unk, .unk, .unk, .unk, .unk, .unk, .unk, .unk, .unk, .unk, .unk, .unk, .unk, .unk, .unk, .unk, .unk]) [.vars tabL] = lrun Try.prog md fg (fg 13) (loopOf Try.f13 2) (fg 13 3) ([.unk, .unk, .unk, .ptr 0 0, v32 (byteT x b), .unk, .str s, .unk, .unk, .slc false L, .int n, .int k, .unk, .unk, .unk, .unk, .int s.size, .int ((j + 1 : Nat) : Int), .unk, .unk, .unk, .unk, .unk, .unk, .unk, .unk, .unk, .unk, .unk, .unk, .unk, .unk, .unk, .unk, .unk, .unk, .unk, .unk, .unk, .unk, .unk, .unk, .unk, .unk]) [.vars tabL] := by
  rw [lrun_atC loop13_2]
  have h1 := and15 (x ^^^ b.toBitVec.setWidth 32)
  have h2 := and15 (((x ^^^ b.toBitVec.setWidth 32) >>> 4) ^^^ tabE ((x ^^^ b.toBitVec.setWidth 32) &&& 15#32).toNat)
  simp (implicitDefEqProofs := false) (disch := omega) only [go_sem, Nat.reduceAdd, Nat.reduceSub, Nat.reduceMul, Nat.reduceLT, Nat.reduceLeDiff, Nat.reduceEqDiff, List.drop_zero, List.take_succ_cons, List.take_zero, List.drop_succ_cons, Bool.and_true, Bool.true_and, Bool.and_false, Bool.false_and, BitVec.reduceOfInt, Nat.zero_add, Nat.mul_one, Nat.add_zero, Int.zero_add, Int.reduceToNat, Nat.reducePow, ↓reduceIte, reduceCtorEq, Int.reduceLE, Int.reduceLT, Int.reduceEq, Int.reduceNe, Int.reduceAdd, Int.reduceSub, Int.reduceMul, Int.reduceNeg, Nat.reduceBEq, show regOf Try.f13 7 = Code.region _ _ _ from rfl, show regOf Try.f13 8 = Code.region _ _ _ from rfl, show regOf Try.f13 9 = Code.region _ _ _ from rfl, show regOf Try.f13 10 = Code.region _ _ _ from rfl, show regOf Try.f13 11 = Code.region _ _ _ from rfl, show regOf Try.f13 12 = Code.region _ _ _ from rfl, hb, tabL_get _ h1, tabL_get _ h2, byteT]
  all_goals (congr 1 <;> simp only [List.cons.injEq, AV.val.injEq, Value.int.injEq, Value.bool.injEq, true_and, and_true] <;> omega)
theorem sum_in_end (L : List AV) (n k : Nat) (s : ByteArray) (x : BitVec 32) :
    lrun Try.prog md fg (fg 13) (loopOf Try.f13 2) (fg 13 3) ([.unk, .unk, .unk, .ptr 0 0, v32 x, .unk, .str s, .unk, .unk, .slc false L, .int n, .int k, .unk, .unk, .unk, .unk, .int s.size, .int s.size, .unk, .unk, .unk, .unk, .unk, .unk, .unk, .unk, .unk, .unk, .unk, .unk, .unk, .unk, .unk, .unk, .unk, .unk, .unk, .unk, .unk, .unk, .unk, .unk, .unk, .unk]) [.vars tabL] = some (.exit 2, [.unk, .unk, .unk, .ptr 0 0, v32 x, .unk, .str s, .unk, .unk, .slc false L, .int n, .int k, .unk, .unk, .unk, .unk, .int s.size, .int s.size, .unk, .unk, .unk, .unk, .unk, .unk, .unk, .unk, .unk, .unk, .unk, .unk, .unk, .unk, .unk, .unk, .unk, .unk, .unk, .unk, .unk, .unk, .unk, .unk, .unk, .unk], [.vars tabL]) := by
  rw [lrun_atC loop13_2]
  simp (implicitDefEqProofs := false) (disch := omega) only [go_sem, Nat.reduceAdd, Nat.reduceSub, Nat.reduceMul, Nat.reduceLT, Nat.reduceLeDiff, Nat.reduceEqDiff, List.drop_zero, List.take_succ_cons, List.take_zero, List.drop_succ_cons, Bool.and_true, Bool.true_and, Bool.and_false, Bool.false_and, BitVec.reduceOfInt, Nat.zero_add, Nat.mul_one, Nat.add_zero, Int.zero_add, Int.reduceToNat, Nat.reducePow, ↓reduceIte, reduceCtorEq, Int.reduceLE, Int.reduceLT, Int.reduceEq, Int.reduceNe, Int.reduceAdd, Int.reduceSub, Int.reduceMul, Int.reduceNeg, Nat.reduceBEq, show regOf Try.f13 7 = Code.region _ _ _ from rfl, show regOf Try.f13 8 = Code.region _ _ _ from rfl, show regOf Try.f13 9 = Code.region _ _ _ from rfl, show regOf Try.f13 10 = Code.region _ _ _ from rfl, show regOf Try.f13 11 = Code.region _ _ _ from rfl, show regOf Try.f13 12 = Code.region _ _ _ from rfl]
end Go.Proofs.Ytlpkfeplbcadbaa
