/- Zig and Zag by rounds; CodecSigns. -/
import Derived.Test.YtlpkfeplbcadbaaC6
namespace Go.Proofs.Ytlpkfeplbcadbaa
open Go Go.Ab Go.Proofs
set_option maxRecDepth 100000
set_option linter.unusedSimpArgs false
/-- A number's zigzag, and back. -/
def zigN (n : Int) : Int := if 0 ≤ n then 2 * n else -2 * n - 1
def zagN (x : Int) : Int := if x % 2 = 0 then x / 2 else -(x / 2) - 1
theorem zigN_range {n : Int} (h1 : -9223372036854775808 ≤ n) (h2 : n ≤ 9223372036854775807) : 0 ≤ zigN n ∧ zigN n < 18446744073709551616 := by
  unfold zigN; split <;> omega
theorem zagN_range {x : Int} (h1 : 0 ≤ x) (h2 : x < 18446744073709551616) : -9223372036854775808 ≤ zagN x ∧ zagN x ≤ 9223372036854775807 := by
  unfold zagN; split <;> omega
theorem zag_zig (n : Int) : zagN (zigN n) = n := by
  unfold zigN zagN; split <;> split <;> omega
theorem zig_zag {x : Int} (h : 0 ≤ x) : zigN (zagN x) = x := by
  unfold zigN zagN; split <;> split <;> omega
theorem v64_of {x : Int} (h1 : 0 ≤ x) (h2 : x < 18446744073709551616) : x = ((BitVec.ofInt 64 x).toNat : Int) := by
  rw [toNat_ofInt']; exact (Int.emod_eq_of_lt h1 h2).symm
theorem zigT_eq {n : Int} (h1 : -9223372036854775808 ≤ n) (h2 : n ≤ 9223372036854775807) : ((zigT n).toNat : Int) = zigN n := by
  unfold zigT zigN
  have e : ((BitVec.ofInt 64 n <<< 1).toNat : Int) = (2 * n) % 18446744073709551616 := by
    have := ofInt_shl 64 n 1
    rw [← this, toNat_ofInt']
    show (n * 2 ^ 1) % _ = _
    rw [Int.mul_comm]; rfl
  by_cases h : 0 ≤ n
  · have hf : n.fdiv (2 ^ 63) = 0 := by
      rw [Int.fdiv_eq_ediv_of_nonneg _ (by decide)]
      exact Int.ediv_eq_zero_of_lt h (by show n < 9223372036854775808; omega)
    have hz : BitVec.ofInt 64 (0 : Int) = 0#64 := rfl
    rw [hf, if_pos h, hz, BitVec.xor_zero, e]; omega
  · have hf : n.fdiv (2 ^ 63) = -1 := by
      rw [Int.fdiv_eq_ediv_of_nonneg _ (by decide)]
      show n / 9223372036854775808 = -1
      omega
    have hz : BitVec.ofInt 64 (-1 : Int) = BitVec.allOnes 64 := rfl
    rw [hf, if_neg h, hz, BitVec.xor_allOnes, BitVec.toNat_not]
    have hl := (BitVec.ofInt 64 n <<< 1).isLt
    omega
theorem zigI_p {n : Int} (h1 : -9223372036854775808 ≤ n) (h2 : n ≤ 9223372036854775807) : pcall Try.prog md fg 15 [.int n] = some (.val (.int .u64 (zigN n))) := by
  rw [zig_p, ← zigT_eq h1 h2]
theorem refZig_p {n : Int} (h1 : -9223372036854775808 ≤ n) (h2 : n ≤ 9223372036854775807) : pcall Try.prog md fg 16 [.int n] = some (.val (.int .u64 (zigN n))) := by
  rw [pcall_eq]
  rw [aval_of Try.func16 body16 Try.results16 Try.ntmps16 ok16]
  by_cases h : 0 ≤ n
  · simp (implicitDefEqProofs := false) (disch := omega) only [go_sem, Nat.reduceAdd, Nat.reduceSub, Nat.reduceMul, Nat.reduceLT, Nat.reduceLeDiff, Nat.reduceEqDiff, List.drop_zero, List.take_succ_cons, List.take_zero, List.drop_succ_cons, Bool.and_true, Bool.true_and, Bool.and_false, Bool.false_and, BitVec.reduceOfInt, Nat.zero_add, Nat.mul_one, Nat.add_zero, Int.zero_add, Int.reduceToNat, Nat.reducePow, ↓reduceIte, reduceCtorEq, Int.reduceLE, Int.reduceLT, Int.reduceEq, Int.reduceNe, Int.reduceAdd, Int.reduceSub, Int.reduceMul, Int.reduceNeg, Nat.reduceBEq, show regOf Try.f16 0 = Code.region _ _ _ from rfl, show regOf Try.f16 1 = Code.region _ _ _ from rfl, show regOf Try.f16 2 = Code.region _ _ _ from rfl, show regOf Try.f16 3 = Code.region _ _ _ from rfl]
    rw [pureRes_solid rfl]
    have e : ((2#64 * BitVec.ofInt 64 n).toNat : Int) = zigN n := by
      have e2 : 2#64 * BitVec.ofInt 64 n = BitVec.ofInt 64 (2 * n) := by rw [BitVec.ofInt_mul]; rfl
      rw [e2, toNat_ofInt', zigN, if_pos h]; exact Int.emod_eq_of_lt (by omega) (by show _ < 18446744073709551616; omega)
    rw [e]
  · simp (implicitDefEqProofs := false) (disch := omega) only [go_sem, Nat.reduceAdd, Nat.reduceSub, Nat.reduceMul, Nat.reduceLT, Nat.reduceLeDiff, Nat.reduceEqDiff, List.drop_zero, List.take_succ_cons, List.take_zero, List.drop_succ_cons, Bool.and_true, Bool.true_and, Bool.and_false, Bool.false_and, BitVec.reduceOfInt, Nat.zero_add, Nat.mul_one, Nat.add_zero, Int.zero_add, Int.reduceToNat, Nat.reducePow, ↓reduceIte, reduceCtorEq, Int.reduceLE, Int.reduceLT, Int.reduceEq, Int.reduceNe, Int.reduceAdd, Int.reduceSub, Int.reduceMul, Int.reduceNeg, Nat.reduceBEq, show regOf Try.f16 0 = Code.region _ _ _ from rfl, show regOf Try.f16 1 = Code.region _ _ _ from rfl, show regOf Try.f16 2 = Code.region _ _ _ from rfl, show regOf Try.f16 3 = Code.region _ _ _ from rfl]
    rw [pureRes_solid rfl]
    have e : ((2#64 * (0#64 - (BitVec.ofInt 64 n + 1#64)) + 1#64).toNat : Int) = zigN n := by
      have e2 : 2#64 * (0#64 - (BitVec.ofInt 64 n + 1#64)) + 1#64 = BitVec.ofInt 64 (2 * (0 - (n + 1)) + 1) := by
        rw [BitVec.ofInt_add, BitVec.ofInt_mul, ofInt_sub', BitVec.ofInt_add]; rfl
      rw [e2, toNat_ofInt', zigN, if_neg h]
      have : 2 * (0 - (n + 1)) + 1 = -2 * n - 1 := by omega
      rw [this]
      exact Int.emod_eq_of_lt (by omega) (by show _ < 18446744073709551616; omega)
    rw [e]
theorem half (y : BitVec 64) : (y >>> 1).toInt = (y.toNat : Int) / 2 := by
  have h : (y >>> 1).toNat = y.toNat / 2 := by rw [BitVec.toNat_ushiftRight, Nat.shiftRight_eq_div_pow]
  rw [BitVec.toInt_eq_toNat_cond, h]
  have := y.isLt
  rw [if_pos (by omega)]; omega
theorem zagT_eq (y : BitVec 64) : (y >>> 1 ^^^ 0#64 - (y &&& 1#64)).toInt = zagN y.toNat := by
  have h5 : (y &&& 1#64).toNat = y.toNat % 2 := by rw [BitVec.toNat_and]; exact Nat.and_one_is_mod _
  have hl := y.isLt
  unfold zagN
  rcases Nat.mod_two_eq_zero_or_one y.toNat with h | h
  · have e : y &&& 1#64 = 0#64 := BitVec.eq_of_toNat_eq (by rw [h5, h]; rfl)
    rw [e, BitVec.sub_zero, BitVec.xor_zero, half, if_pos (by omega)]
  · have e : y &&& 1#64 = 1#64 := BitVec.eq_of_toNat_eq (by rw [h5, h]; rfl)
    have e2 : 0#64 - 1#64 = BitVec.allOnes 64 := by decide
    have h6 : (y >>> 1).toNat = y.toNat / 2 := by rw [BitVec.toNat_ushiftRight, Nat.shiftRight_eq_div_pow]
    rw [e, e2, BitVec.xor_allOnes, BitVec.toInt_eq_toNat_cond, BitVec.toNat_not, h6, if_neg (by omega), if_neg (by omega)]
    omega
theorem zag_p {x : Int} (h1 : 0 ≤ x) (h2 : x < 18446744073709551616) : pcall Try.prog md fg 17 [.val (.int .u64 x)] = some (.int (zagN x)) := by
  rw [v64_of h1 h2]
  generalize BitVec.ofInt 64 x = y
  rw [pcall_eq]
  rw [aval_of Try.func17 body17 Try.results17 Try.ntmps17 ok17]
  simp (implicitDefEqProofs := false) (disch := omega) only [go_sem, Nat.reduceAdd, Nat.reduceSub, Nat.reduceMul, Nat.reduceLT, Nat.reduceLeDiff, Nat.reduceEqDiff, List.drop_zero, List.take_succ_cons, List.take_zero, List.drop_succ_cons, Bool.and_true, Bool.true_and, Bool.and_false, Bool.false_and, BitVec.reduceOfInt, Nat.zero_add, Nat.mul_one, Nat.add_zero, Int.zero_add, Int.reduceToNat, Nat.reducePow, ↓reduceIte, reduceCtorEq, Int.reduceLE, Int.reduceLT, Int.reduceEq, Int.reduceNe, Int.reduceAdd, Int.reduceSub, Int.reduceMul, Int.reduceNeg, Nat.reduceBEq, show regOf Try.f17 0 = Code.region _ _ _ from rfl, show regOf Try.f17 1 = Code.region _ _ _ from rfl]
  rw [pureRes_solid rfl, zagT_eq]
theorem refZag_p {x : Int} (h1 : 0 ≤ x) (h2 : x < 18446744073709551616) : pcall Try.prog md fg 18 [.val (.int .u64 x)] = some (.int (zagN x)) := by
  rw [v64_of h1 h2]
  generalize BitVec.ofInt 64 x = y
  rw [pcall_eq]
  rw [aval_of Try.func18 body18 Try.results18 Try.ntmps18 ok18]
  have hm : (y % 2#64).toNat = y.toNat % 2 := by rw [BitVec.toNat_umod]; rfl
  have hd : (y / 2#64).toNat = y.toNat / 2 := by rw [BitVec.toNat_udiv]; rfl
  have hl := y.isLt
  have hi : ((y / 2#64).toNat : Int) = (y.toNat : Int) / 2 := by omega
  by_cases h : (y % 2#64).toNat = 0
  · simp (implicitDefEqProofs := false) (disch := omega) only [go_sem, Nat.reduceAdd, Nat.reduceSub, Nat.reduceMul, Nat.reduceLT, Nat.reduceLeDiff, Nat.reduceEqDiff, List.drop_zero, List.take_succ_cons, List.take_zero, List.drop_succ_cons, Bool.and_true, Bool.true_and, Bool.and_false, Bool.false_and, BitVec.reduceOfInt, Nat.zero_add, Nat.mul_one, Nat.add_zero, Int.zero_add, Int.reduceToNat, Nat.reducePow, ↓reduceIte, reduceCtorEq, Int.reduceLE, Int.reduceLT, Int.reduceEq, Int.reduceNe, Int.reduceAdd, Int.reduceSub, Int.reduceMul, Int.reduceNeg, Nat.reduceBEq, show regOf Try.f18 0 = Code.region _ _ _ from rfl, show regOf Try.f18 1 = Code.region _ _ _ from rfl, show regOf Try.f18 2 = Code.region _ _ _ from rfl, show regOf Try.f18 3 = Code.region _ _ _ from rfl]
    rw [pureRes_solid rfl, hi, zagN, if_pos (by omega)]
  · simp (implicitDefEqProofs := false) (disch := omega) only [go_sem, Nat.reduceAdd, Nat.reduceSub, Nat.reduceMul, Nat.reduceLT, Nat.reduceLeDiff, Nat.reduceEqDiff, List.drop_zero, List.take_succ_cons, List.take_zero, List.drop_succ_cons, Bool.and_true, Bool.true_and, Bool.and_false, Bool.false_and, BitVec.reduceOfInt, Nat.zero_add, Nat.mul_one, Nat.add_zero, Int.zero_add, Int.reduceToNat, Nat.reducePow, ↓reduceIte, reduceCtorEq, Int.reduceLE, Int.reduceLT, Int.reduceEq, Int.reduceNe, Int.reduceAdd, Int.reduceSub, Int.reduceMul, Int.reduceNeg, Nat.reduceBEq, show regOf Try.f18 0 = Code.region _ _ _ from rfl, show regOf Try.f18 1 = Code.region _ _ _ from rfl, show regOf Try.f18 2 = Code.region _ _ _ from rfl, show regOf Try.f18 3 = Code.region _ _ _ from rfl, hi]
    rw [pureRes_solid rfl, zagN, if_neg (by omega)]
    have : (0 : Int) - (y.toNat : Int) / 2 - 1 = -((y.toNat : Int) / 2) - 1 := by omega
    rw [this]
theorem codecSigns {n x : Int} (n1 : -9223372036854775808 ≤ n) (n2 : n ≤ 9223372036854775807) (x1 : 0 ≤ x) (x2 : x < 18446744073709551616) : pcall Try.prog md fg 5 [.int n, .val (.int .u64 x)] = some (.bool true) := by
  have c1 : doCall md (aval Try.prog md fg) 15 [.val (.int .i64 n)] [] = some (.val (.int .u64 (zigN n)), []) := doCall_pure md15 rfl (zigI_p n1 n2)
  have c2 : doCall md (aval Try.prog md fg) 16 [.val (.int .i64 n)] [] = some (.val (.int .u64 (zigN n)), []) := doCall_pure md16 rfl (refZig_p n1 n2)
  have c3 : doCall md (aval Try.prog md fg) 17 [.val (.int .u64 x)] [] = some (.val (.int .i64 (zagN x)), []) := doCall_pure md17 rfl (zag_p x1 x2)
  have c4 : doCall md (aval Try.prog md fg) 18 [.val (.int .u64 x)] [] = some (.val (.int .i64 (zagN x)), []) := doCall_pure md18 rfl (refZag_p x1 x2)
  have c5 : doCall md (aval Try.prog md fg) 17 [.val (.int .u64 (zigN n))] [] = some (.val (.int .i64 n), []) := doCall_pure md17 rfl ((zag_p (zigN_range n1 n2).1 (zigN_range n1 n2).2).trans (by rw [zag_zig]))
  have c6 : doCall md (aval Try.prog md fg) 15 [.val (.int .i64 (zagN x))] [] = some (.val (.int .u64 x), []) := doCall_pure md15 rfl ((zigI_p (zagN_range x1 x2).1 (zagN_range x1 x2).2).trans (by rw [zig_zag x1]))
  have ca : doCall md (aval Try.prog md fg) 12 [] [] = some (.val (.bool true), []) := doCall_pure md12 rfl alive
  rw [pcall_eq]
  rw [aval_of Try.func5 body5 Try.results5 Try.ntmps5 ok5]
  simp (implicitDefEqProofs := false) (disch := omega) only [go_sem, Nat.reduceAdd, Nat.reduceSub, Nat.reduceMul, Nat.reduceLT, Nat.reduceLeDiff, Nat.reduceEqDiff, List.drop_zero, List.take_succ_cons, List.take_zero, List.drop_succ_cons, Bool.and_true, Bool.true_and, Bool.and_false, Bool.false_and, BitVec.reduceOfInt, Nat.zero_add, Nat.mul_one, Nat.add_zero, Int.zero_add, Int.reduceToNat, Nat.reducePow, ↓reduceIte, reduceCtorEq, Int.reduceLE, Int.reduceLT, Int.reduceEq, Int.reduceNe, Int.reduceAdd, Int.reduceSub, Int.reduceMul, Int.reduceNeg, Nat.reduceBEq, show regOf Try.f5 0 = Code.region _ _ _ from rfl, show regOf Try.f5 1 = Code.region _ _ _ from rfl, c1, c2, c3, c4, c5, c6, ca]
  rw [pureRes_solid rfl]
end Go.Proofs.Ytlpkfeplbcadbaa
