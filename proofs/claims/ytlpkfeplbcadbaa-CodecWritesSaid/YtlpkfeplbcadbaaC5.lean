/- The reference's Sum by rounds, and that the two sums are one. -/
import Derived.Test.YtlpkfeplbcadbaaC4
namespace Go.Proofs.Ytlpkfeplbcadbaa
open Go Go.Ab Go.Proofs
set_option maxRecDepth 100000
set_option linter.unusedSimpArgs false
/-- One bit of a sum, as the document has it. -/
def stepR (x : BitVec 32) : BitVec 32 := if (x % 2#32).toNat = 1 then (x / 2#32) ^^^ 2197175160#32 else x / 2#32
theorem ref_in (h : AHeap) (s : ByteArray) (i j : Nat) (x : BitVec 32) (hj : j < 8) :
    lrun Try.prog md fg (fg 14) (loopOf Try.f14 2) (fg 14 3) ([.str s, .unk, .unk, v32 x, .int i, .int j, .unk, .unk, .unk, .unk, .unk, .unk, .unk, .unk, .unk, .unk, .unk, .unk, .unk, .unk, .unk, .unk, .unk, .unk, .unk, .unk, .unk, .unk, .unk, .unk, .unk, .unk]) h = lrun Try.prog md fg (fg 14) (loopOf Try.f14 2) (fg 14 3) ([.str s, .unk, .unk, v32 (stepR x), .int i, .int ((j + 1 : Nat) : Int), .unk, .unk, .unk, .unk, .unk, .unk, .unk, .unk, .unk, .unk, .unk, .unk, .unk, .unk, .unk, .unk, .unk, .unk, .unk, .unk, .unk, .unk, .unk, .unk, .unk, .unk]) h := by
  rw [lrun_atC loop14_2]
  by_cases hx : (x % 2#32).toNat = 1
  · simp (implicitDefEqProofs := false) (disch := omega) only [go_sem, Nat.reduceAdd, Nat.reduceSub, Nat.reduceMul, Nat.reduceLT, Nat.reduceLeDiff, Nat.reduceEqDiff, List.drop_zero, List.take_succ_cons, List.take_zero, List.drop_succ_cons, Bool.and_true, Bool.true_and, Bool.and_false, Bool.false_and, BitVec.reduceOfInt, Nat.zero_add, Nat.mul_one, Nat.add_zero, Int.zero_add, Int.reduceToNat, Nat.reducePow, ↓reduceIte, reduceCtorEq, Int.reduceLE, Int.reduceLT, Int.reduceEq, Int.reduceNe, Int.reduceAdd, Int.reduceSub, Int.reduceMul, Int.reduceNeg, Nat.reduceBEq, show regOf Try.f14 7 = Code.region _ _ _ from rfl, show regOf Try.f14 8 = Code.region _ _ _ from rfl, show regOf Try.f14 9 = Code.region _ _ _ from rfl, show regOf Try.f14 10 = Code.region _ _ _ from rfl, show regOf Try.f14 11 = Code.region _ _ _ from rfl, stepR]
    all_goals (congr 1 <;> simp only [List.cons.injEq, AV.val.injEq, Value.int.injEq, Value.bool.injEq, true_and, and_true] <;> omega)
  · simp (implicitDefEqProofs := false) (disch := omega) only [go_sem, Nat.reduceAdd, Nat.reduceSub, Nat.reduceMul, Nat.reduceLT, Nat.reduceLeDiff, Nat.reduceEqDiff, List.drop_zero, List.take_succ_cons, List.take_zero, List.drop_succ_cons, Bool.and_true, Bool.true_and, Bool.and_false, Bool.false_and, BitVec.reduceOfInt, Nat.zero_add, Nat.mul_one, Nat.add_zero, Int.zero_add, Int.reduceToNat, Nat.reducePow, ↓reduceIte, reduceCtorEq, Int.reduceLE, Int.reduceLT, Int.reduceEq, Int.reduceNe, Int.reduceAdd, Int.reduceSub, Int.reduceMul, Int.reduceNeg, Nat.reduceBEq, show regOf Try.f14 7 = Code.region _ _ _ from rfl, show regOf Try.f14 8 = Code.region _ _ _ from rfl, show regOf Try.f14 9 = Code.region _ _ _ from rfl, show regOf Try.f14 10 = Code.region _ _ _ from rfl, show regOf Try.f14 11 = Code.region _ _ _ from rfl, stepR]
    all_goals (congr 1 <;> simp only [List.cons.injEq, AV.val.injEq, Value.int.injEq, Value.bool.injEq, true_and, and_true] <;> omega)
theorem ref_in_end (h : AHeap) (s : ByteArray) (i : Nat) (x : BitVec 32) :
    lrun Try.prog md fg (fg 14) (loopOf Try.f14 2) (fg 14 3) ([.str s, .unk, .unk, v32 x, .int i, .int (8 : Nat), .unk, .unk, .unk, .unk, .unk, .unk, .unk, .unk, .unk, .unk, .unk, .unk, .unk, .unk, .unk, .unk, .unk, .unk, .unk, .unk, .unk, .unk, .unk, .unk, .unk, .unk]) h = some (.exit 2, [.str s, .unk, .unk, v32 x, .int i, .int (8 : Nat), .unk, .unk, .unk, .unk, .unk, .unk, .unk, .unk, .unk, .unk, .unk, .unk, .unk, .unk, .unk, .unk, .unk, .unk, .unk, .unk, .unk, .unk, .unk, .unk, .unk, .unk], h) := by
  rw [lrun_atC loop14_2]
  simp (implicitDefEqProofs := false) (disch := omega) only [go_sem, Nat.reduceAdd, Nat.reduceSub, Nat.reduceMul, Nat.reduceLT, Nat.reduceLeDiff, Nat.reduceEqDiff, List.drop_zero, List.take_succ_cons, List.take_zero, List.drop_succ_cons, Bool.and_true, Bool.true_and, Bool.and_false, Bool.false_and, BitVec.reduceOfInt, Nat.zero_add, Nat.mul_one, Nat.add_zero, Int.zero_add, Int.reduceToNat, Nat.reducePow, ↓reduceIte, reduceCtorEq, Int.reduceLE, Int.reduceLT, Int.reduceEq, Int.reduceNe, Int.reduceAdd, Int.reduceSub, Int.reduceMul, Int.reduceNeg, Nat.reduceBEq, show regOf Try.f14 7 = Code.region _ _ _ from rfl, show regOf Try.f14 8 = Code.region _ _ _ from rfl, show regOf Try.f14 9 = Code.region _ _ _ from rfl, show regOf Try.f14 10 = Code.region _ _ _ from rfl, show regOf Try.f14 11 = Code.region _ _ _ from rfl]
/-- One byte into a sum, bit by bit. -/
def step8 (x : BitVec 32) : BitVec 32 := stepR (stepR (stepR (stepR (stepR (stepR (stepR (stepR x)))))))
def byteR (x : BitVec 32) (b : UInt8) : BitVec 32 := step8 (x ^^^ b.toBitVec.setWidth 32)
theorem ref_in_loop (h : AHeap) (s : ByteArray) (i : Nat) (x : BitVec 32) :
    lrun Try.prog md fg (fg 14) (loopOf Try.f14 2) (fg 14 3) ([.str s, .unk, .unk, v32 x, .int i, .int 0, .unk, .unk, .unk, .unk, .unk, .unk, .unk, .unk, .unk, .unk, .unk, .unk, .unk, .unk, .unk, .unk, .unk, .unk, .unk, .unk, .unk, .unk, .unk, .unk, .unk, .unk]) h = some (.exit 2, [.str s, .unk, .unk, v32 (step8 x), .int i, .int 8, .unk, .unk, .unk, .unk, .unk, .unk, .unk, .unk, .unk, .unk, .unk, .unk, .unk, .unk, .unk, .unk, .unk, .unk, .unk, .unk, .unk, .unk, .unk, .unk, .unk, .unk], h) := by
  have e := ref_in h s i 0 x (by omega)
  rw [ref_in h s i 1 _ (by omega), ref_in h s i 2 _ (by omega), ref_in h s i 3 _ (by omega), ref_in h s i 4 _ (by omega), ref_in h s i 5 _ (by omega), ref_in h s i 6 _ (by omega), ref_in h s i 7 _ (by omega), ref_in_end] at e
  exact e
theorem ref_round (h : AHeap) (s : ByteArray) (i : Nat) (x : BitVec 32) (b : UInt8) (hb : s.data.toList[i]? = some b) (hi : i < s.size) (hs : s.size < 2 ^ 62) :
    lrun Try.prog md fg (fg 14) (loopOf Try.f14 0) (fg 14 1) ([.str s, .unk, .unk, v32 x, .int i, .unk, .unk, .unk, .unk, .unk, .unk, .unk, .unk, .unk, .unk, .unk, .unk, .unk, .unk, .unk, .unk, .unk, .unk, .unk, .unk, .unk, .unk, .unk, .unk, .unk, .unk, .unk]) h = lrun Try.prog md fg (fg 14) (loopOf Try.f14 0) (fg 14 1) ([.str s, .unk, .unk, v32 (byteR x b), .int ((i + 1 : Nat) : Int), .unk, .unk, .unk, .unk, .unk, .unk, .unk, .unk, .unk, .unk, .unk, .unk, .unk, .unk, .unk, .unk, .unk, .unk, .unk, .unk, .unk, .unk, .unk, .unk, .unk, .unk, .unk]) h := by
  rw [lrun_atC loop14_0]
  have e := ref_in_loop h s i (x ^^^ b.toBitVec.setWidth 32)
  simp (implicitDefEqProofs := false) (disch := omega) only [go_sem, Nat.reduceAdd, Nat.reduceSub, Nat.reduceMul, Nat.reduceLT, Nat.reduceLeDiff, Nat.reduceEqDiff, List.drop_zero, List.take_succ_cons, List.take_zero, List.drop_succ_cons, Bool.and_true, Bool.true_and, Bool.and_false, Bool.false_and, BitVec.reduceOfInt, Nat.zero_add, Nat.mul_one, Nat.add_zero, Int.zero_add, Int.reduceToNat, Nat.reducePow, ↓reduceIte, reduceCtorEq, Int.reduceLE, Int.reduceLT, Int.reduceEq, Int.reduceNe, Int.reduceAdd, Int.reduceSub, Int.reduceMul, Int.reduceNeg, Nat.reduceBEq, show regOf Try.f14 3 = Code.region _ _ _ from rfl, show regOf Try.f14 4 = Code.region _ _ _ from rfl, show regOf Try.f14 5 = Code.region _ _ _ from rfl, show regOf Try.f14 6 = Code.region _ _ _ from rfl, hb, e, byteR]
  all_goals (congr 1 <;> simp only [List.cons.injEq, AV.val.injEq, Value.int.injEq, Value.bool.injEq, true_and, and_true] <;> omega)
theorem ref_end (h : AHeap) (s : ByteArray) (x : BitVec 32) :
    lrun Try.prog md fg (fg 14) (loopOf Try.f14 0) (fg 14 1) ([.str s, .unk, .unk, v32 x, .int s.size, .unk, .unk, .unk, .unk, .unk, .unk, .unk, .unk, .unk, .unk, .unk, .unk, .unk, .unk, .unk, .unk, .unk, .unk, .unk, .unk, .unk, .unk, .unk, .unk, .unk, .unk, .unk]) h = some (.exit 0, [.str s, .unk, .unk, v32 x, .int s.size, .unk, .unk, .unk, .unk, .unk, .unk, .unk, .unk, .unk, .unk, .unk, .unk, .unk, .unk, .unk, .unk, .unk, .unk, .unk, .unk, .unk, .unk, .unk, .unk, .unk, .unk, .unk], h) := by
  rw [lrun_atC loop14_0]
  simp (implicitDefEqProofs := false) (disch := omega) only [go_sem, Nat.reduceAdd, Nat.reduceSub, Nat.reduceMul, Nat.reduceLT, Nat.reduceLeDiff, Nat.reduceEqDiff, List.drop_zero, List.take_succ_cons, List.take_zero, List.drop_succ_cons, Bool.and_true, Bool.true_and, Bool.and_false, Bool.false_and, BitVec.reduceOfInt, Nat.zero_add, Nat.mul_one, Nat.add_zero, Int.zero_add, Int.reduceToNat, Nat.reducePow, ↓reduceIte, reduceCtorEq, Int.reduceLE, Int.reduceLT, Int.reduceEq, Int.reduceNe, Int.reduceAdd, Int.reduceSub, Int.reduceMul, Int.reduceNeg, Nat.reduceBEq, show regOf Try.f14 3 = Code.region _ _ _ from rfl, show regOf Try.f14 4 = Code.region _ _ _ from rfl, show regOf Try.f14 5 = Code.region _ _ _ from rfl, show regOf Try.f14 6 = Code.region _ _ _ from rfl]
theorem ref_loop (h : AHeap) (s : ByteArray) (hs : s.size < 2 ^ 62) : ∀ (m j : Nat) (x : BitVec 32), j + m = s.size →
    lrun Try.prog md fg (fg 14) (loopOf Try.f14 0) (fg 14 1) ([.str s, .unk, .unk, v32 x, .int j, .unk, .unk, .unk, .unk, .unk, .unk, .unk, .unk, .unk, .unk, .unk, .unk, .unk, .unk, .unk, .unk, .unk, .unk, .unk, .unk, .unk, .unk, .unk, .unk, .unk, .unk, .unk]) h = some (.exit 0, [.str s, .unk, .unk, v32 ((s.data.toList.drop j).foldl byteR x), .int s.size, .unk, .unk, .unk, .unk, .unk, .unk, .unk, .unk, .unk, .unk, .unk, .unk, .unk, .unk, .unk, .unk, .unk, .unk, .unk, .unk, .unk, .unk, .unk, .unk, .unk, .unk, .unk], h)
  | 0, j, x, hm => by
    obtain rfl : j = s.size := by omega
    rw [ref_end, List.drop_of_length_le (by rw [size_toList]; omega)]; rfl
  | m + 1, j, x, hm => by
    have hj : j < s.data.toList.length := by rw [size_toList]; omega
    rw [ref_round h s j x s.data.toList[j] (List.getElem?_eq_getElem hj) (by omega) hs, ref_loop h s hs m (j + 1) _ (by omega), List.drop_eq_getElem_cons hj]; rfl
/-- The reference's sum. -/
def sumR (l : List UInt8) : BitVec 32 := (l.foldl byteR 4294967295#32) ^^^ 4294967295#32
theorem refSum (s : ByteArray) (hs : s.size < 2 ^ 62) : aval Try.prog md fg 14 [.str s] [] = some (v32 (sumR s.data.toList), []) := by
  rw [aval_of Try.func14 body14 Try.results14 Try.ntmps14 ok14]
  have e := ref_loop [] s hs s.size 0 4294967295#32 (by omega)
  have e32 : ((4294967295#32).toNat : Int) = 4294967295 := rfl
  simp only [List.drop_zero, Int.natCast_zero, v32, e32] at e
  simp (implicitDefEqProofs := false) (disch := omega) only [go_sem, Nat.reduceAdd, Nat.reduceSub, Nat.reduceMul, Nat.reduceLT, Nat.reduceLeDiff, Nat.reduceEqDiff, List.drop_zero, List.take_succ_cons, List.take_zero, List.drop_succ_cons, Bool.and_true, Bool.true_and, Bool.and_false, Bool.false_and, BitVec.reduceOfInt, Nat.zero_add, Nat.mul_one, Nat.add_zero, Int.zero_add, Int.reduceToNat, Nat.reducePow, ↓reduceIte, reduceCtorEq, Int.reduceLE, Int.reduceLT, Int.reduceEq, Int.reduceNe, Int.reduceAdd, Int.reduceSub, Int.reduceMul, Int.reduceNeg, Nat.reduceBEq, show regOf Try.f14 0 = Code.region _ _ _ from rfl, show regOf Try.f14 1 = Code.region _ _ _ from rfl, show regOf Try.f14 2 = Code.region _ _ _ from rfl, show regOf Try.f14 12 = Code.region _ _ _ from rfl, e]
  rfl
theorem refSum_p (s : ByteArray) (hs : s.size < 2 ^ 62) : pcall Try.prog md fg 14 [.str s] = some (v32 (sumR s.data.toList)) := by
  rw [pcall_eq, refSum s hs, pureRes_solid rfl]

/-! ### The two are one -/
/-- A bit's step, by the lowest bit. -/
def pol (b : Bool) : BitVec 32 := if b then 2197175160#32 else 0#32
theorem stepR_eq (x : BitVec 32) : stepR x = (x >>> 1) ^^^ pol (x.getLsbD 0) := by
  have h1 : x / 2#32 = x >>> 1 := by
    apply BitVec.eq_of_toNat_eq; rw [BitVec.toNat_udiv, BitVec.toNat_ushiftRight, Nat.shiftRight_eq_div_pow]; rfl
  have h2 : (x % 2#32).toNat = x.toNat % 2 := by rw [BitVec.toNat_umod]; rfl
  have h3 : x.getLsbD 0 = decide (x.toNat % 2 = 1) := by rw [BitVec.getLsbD, Nat.testBit_zero]
  unfold stepR pol
  rw [h1, h2, h3]
  by_cases h : x.toNat % 2 = 1 <;> simp [h]
theorem step1_eq (x : BitVec 32) : step1 x = stepR x := by
  rw [stepR_eq]
  unfold step1 pol
  have h3 : x.getLsbD 0 = decide (x.toNat % 2 = 1) := by rw [BitVec.getLsbD, Nat.testBit_zero]
  have h4 : x &&& 1#32 = BitVec.ofNat 32 (x.toNat % 2) := by
    have h5 : (x &&& 1#32).toNat = x.toNat % 2 := by rw [BitVec.toNat_and]; exact Nat.and_one_is_mod _
    apply BitVec.eq_of_toNat_eq
    rw [h5, BitVec.toNat_ofNat]; omega
  rw [h3, h4]
  rcases Nat.mod_two_eq_zero_or_one x.toNat with h | h <;> rw [h] <;> rfl
theorem stepR_xor (x y : BitVec 32) : stepR (x ^^^ y) = stepR x ^^^ stepR y := by
  rw [stepR_eq, stepR_eq, stepR_eq, BitVec.getLsbD_xor]
  have : (x ^^^ y) >>> 1 = (x >>> 1) ^^^ (y >>> 1) := BitVec.ushiftRight_xor_distrib ..
  rw [this]
  have hp : ∀ a b : Bool, pol (a ^^ b) = pol a ^^^ pol b := by decide
  rw [hp]
  ac_rfl
theorem stepR_even (x : BitVec 32) (h : x.getLsbD 0 = false) : stepR x = x >>> 1 := by
  rw [stepR_eq, h]; simp [pol]
/-- Four bits at once. -/
def step4 (x : BitVec 32) : BitVec 32 := stepR (stepR (stepR (stepR x)))
theorem step4_xor (x y : BitVec 32) : step4 (x ^^^ y) = step4 x ^^^ step4 y := by
  unfold step4; rw [stepR_xor, stepR_xor, stepR_xor, stepR_xor]
theorem step4_shl (x : BitVec 32) : step4 ((x >>> 4) <<< 4) = x >>> 4 := by
  unfold step4
  rw [stepR_even (x >>> 4 <<< 4) (by simp), stepR_even (x >>> 4 <<< 4 >>> 1) (by simp [BitVec.getLsbD_ushiftRight]), stepR_even (x >>> 4 <<< 4 >>> 1 >>> 1) (by simp [BitVec.getLsbD_ushiftRight]), stepR_even (x >>> 4 <<< 4 >>> 1 >>> 1 >>> 1) (by simp [BitVec.getLsbD_ushiftRight])]
  apply BitVec.eq_of_getLsbD_eq
  intro i hi
  simp only [BitVec.getLsbD_ushiftRight, BitVec.getLsbD_shiftLeft]
  by_cases h : i + 4 < 32
  · have e : 1 + (1 + (1 + (1 + i))) = i + 4 := by omega
    rw [e]; simp [h]
  · have : x.getLsbD (4 + i) = false := BitVec.getLsbD_of_ge _ _ (by omega)
    simp [this]
    intros; omega
theorem split4 (x : BitVec 32) : x = ((x >>> 4) <<< 4) ^^^ (x &&& 15#32) := by
  apply BitVec.eq_of_getLsbD_eq
  intro i hi
  simp only [BitVec.getLsbD_xor, BitVec.getLsbD_shiftLeft, BitVec.getLsbD_ushiftRight, BitVec.getLsbD_and]
  by_cases h : i < 4
  · have : (15#32).getLsbD i = true := by
      rcases (by omega : i = 0 ∨ i = 1 ∨ i = 2 ∨ i = 3) with rfl | rfl | rfl | rfl <;> rfl
    simp [h, this]
  · have : (15#32).getLsbD i = false := by
      show Nat.testBit 15 i = false
      apply Nat.testBit_lt_two_pow
      have : 2 ^ 4 ≤ 2 ^ i := Nat.pow_le_pow_right (by decide) (by omega)
      omega
    have e : 4 + (i - 4) = i := by omega
    rw [this]; simp [h, e, hi]
theorem step4_tab (x : BitVec 32) : step4 x = (x >>> 4) ^^^ tabE (x &&& 15#32).toNat := by
  have e : tabE (x &&& 15#32).toNat = step4 (x &&& 15#32) := by
    unfold tabE step4
    rw [BitVec.ofNat_toNat, BitVec.setWidth_eq, step1_eq, step1_eq, step1_eq, step1_eq]
  rw [e]
  conv => lhs; rw [split4 x]
  rw [step4_xor, step4_shl]
theorem byteT_eq (x : BitVec 32) (b : UInt8) : byteT x b = byteR x b := by
  unfold byteT
  dsimp only
  rw [← step4_tab, ← step4_tab]
  rfl
theorem sumT_eq (l : List UInt8) : sumT l = sumR l := by
  have hf : (byteT : BitVec 32 → UInt8 → BitVec 32) = byteR := by funext x b; exact byteT_eq x b
  unfold sumT sumR
  rw [hf]
  have e : (4294967295#32 : BitVec 32) = BitVec.allOnes 32 := by decide
  rw [e, BitVec.xor_allOnes]
end Go.Proofs.Ytlpkfeplbcadbaa
