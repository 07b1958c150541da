/- Uvarint and GetUvarint by rounds; CodecNumbers. -/
import Derived.Test.YtlpkfeplbcadbaaC9
namespace Go.Proofs.Ytlpkfeplbcadbaa
open Go Go.Ab Go.Proofs
set_option maxRecDepth 100000
set_option linter.unusedSimpArgs false
set_option linter.unusedVariables false
/-! ### GetUvarint -/
/-- What GetUvarint answers: from the i-th byte on, with x so far. -/
def goU : Nat → BitVec 64 → List UInt8 → BitVec 64 × Nat
  | _, _, [] => (0#64, 0)
  | i, x, c :: r =>
    if 10 ≤ i then (0#64, 0)
    else if (i = 9 ∧ 1 < c.toNat) ∨ (c.toNat = 0 ∧ 0 < i) then (0#64, 0)
    else if c.toNat < 128 then (x ||| (c.toBitVec &&& 127#8).setWidth 64 <<< (7 * i), i + 1)
    else goU (i + 1) (x ||| (c.toBitVec &&& 127#8).setWidth 64 <<< (7 * i)) r
theorem gu_loop (s : List UInt8) (hs : s.length < 2 ^ 62) : ∀ (m i : Nat) (x : BitVec 64), i + m = min s.length 10 →
    (∃ v4 v10, lrun Try.prog md fg (fg 24) (loopOf Try.f24 0) (fg 24 1) ([.str (txt s), .unk, v64 0#64, .int 0, v64 x, .unk, .unk, .unk, .unk, .int ((min s.length 10 : Nat) : Int), .int i, .unk, .unk, .unk, .unk, .unk, .unk, .unk, .unk, .unk, .unk, .unk, .unk, .unk, .unk, .unk, .unk, .unk, .unk, .unk, .unk, .unk, .unk, .unk, .unk, .unk, .unk, .unk, .unk, .unk, .unk, .unk, .unk, .unk]) [] = some (.ret, [.str (txt s), .unk, v64 (goU i x (s.drop i)).1, .int ((goU i x (s.drop i)).2 : Int), v4, .unk, .unk, .unk, .unk, .int ((min s.length 10 : Nat) : Int), v10, .unk, .unk, .unk, .unk, .unk, .unk, .unk, .unk, .unk, .unk, .unk, .unk, .unk, .unk, .unk, .unk, .unk, .unk, .unk, .unk, .unk, .unk, .unk, .unk, .unk, .unk, .unk, .unk, .unk, .unk, .unk, .unk, .unk], [])) ∨
    (goU i x (s.drop i) = (0#64, 0) ∧ ∃ v4 v10, lrun Try.prog md fg (fg 24) (loopOf Try.f24 0) (fg 24 1) ([.str (txt s), .unk, v64 0#64, .int 0, v64 x, .unk, .unk, .unk, .unk, .int ((min s.length 10 : Nat) : Int), .int i, .unk, .unk, .unk, .unk, .unk, .unk, .unk, .unk, .unk, .unk, .unk, .unk, .unk, .unk, .unk, .unk, .unk, .unk, .unk, .unk, .unk, .unk, .unk, .unk, .unk, .unk, .unk, .unk, .unk, .unk, .unk, .unk, .unk]) [] = some (.exit 0, [.str (txt s), .unk, v64 0#64, .int 0, v4, .unk, .unk, .unk, .unk, .int ((min s.length 10 : Nat) : Int), v10, .unk, .unk, .unk, .unk, .unk, .unk, .unk, .unk, .unk, .unk, .unk, .unk, .unk, .unk, .unk, .unk, .unk, .unk, .unk, .unk, .unk, .unk, .unk, .unk, .unk, .unk, .unk, .unk, .unk, .unk, .unk, .unk, .unk], []))
  | 0, i, x, hm => by
    refine .inr ⟨?_, v64 x, .int i, ?_⟩
    · by_cases h : 10 ≤ i
      · cases h2 : s.drop i with
        | nil => rfl
        | cons c r => rw [goU, if_pos h]
      · rw [List.drop_of_length_le (by omega)]; rfl
    · rw [lrun_atC loop24_0]
      simp (implicitDefEqProofs := false) (disch := omega) only [go_sem, Nat.reduceAdd, Nat.reduceSub, Nat.reduceMul, Nat.reduceLT, Nat.reduceLeDiff, Nat.reduceEqDiff, List.drop_zero, List.take_succ_cons, List.take_zero, List.drop_succ_cons, Bool.and_true, Bool.true_and, Bool.and_false, Bool.false_and, BitVec.reduceOfInt, Nat.zero_add, Nat.mul_one, Nat.add_zero, Int.zero_add, Int.reduceToNat, Nat.reducePow, ↓reduceIte, reduceCtorEq, Int.reduceLE, Int.reduceLT, Int.reduceEq, Int.reduceNe, Int.reduceAdd, Int.reduceSub, Int.reduceMul, Int.reduceNeg, Nat.reduceBEq, show regOf Try.f24 3 = Code.region _ _ _ from rfl]
  | m + 1, i, x, hm => by
    have hi : i < s.length := by omega
    have hc : s[i]? = some s[i] := List.getElem?_eq_getElem hi
    obtain ⟨c, hcc⟩ : ∃ c, s[i] = c := ⟨_, rfl⟩
    have hz := txt_size s
    have hd : s.drop i = c :: s.drop (i + 1) := by rw [List.drop_eq_getElem_cons hi, hcc]
    rw [hcc] at hc
    have hn : c.toBitVec.toNat = c.toNat := rfl
    have h7 : ((7 : Int) * (i : Int)).toNat = 7 * i := by omega
    have z64 : ((0#64 : BitVec 64).toNat : Int) = 0 := rfl
    rw [hd, goU, if_neg (by omega)]
    by_cases hA : (i = 9 ∧ 1 < c.toNat) ∨ (c.toNat = 0 ∧ 0 < i)
    · rw [if_pos hA]
      refine .inl ⟨v64 x, .int i, ?_⟩
      rw [lrun_atC loop24_0]
      by_cases h9 : i = 9
      · subst h9
        by_cases h1 : 1 < c.toNat
        · simp (implicitDefEqProofs := false) (disch := omega) only [go_sem, Nat.reduceAdd, Nat.reduceSub, Nat.reduceMul, Nat.reduceLT, Nat.reduceLeDiff, Nat.reduceEqDiff, List.drop_zero, List.take_succ_cons, List.take_zero, List.drop_succ_cons, Bool.and_true, Bool.true_and, Bool.and_false, Bool.false_and, BitVec.reduceOfInt, Nat.zero_add, Nat.mul_one, Nat.add_zero, Int.zero_add, Int.reduceToNat, Nat.reducePow, ↓reduceIte, reduceCtorEq, Int.reduceLE, Int.reduceLT, Int.reduceEq, Int.reduceNe, Int.reduceAdd, Int.reduceSub, Int.reduceMul, Int.reduceNeg, Nat.reduceBEq, show regOf Try.f24 3 = Code.region _ _ _ from rfl, show regOf Try.f24 4 = Code.region _ _ _ from rfl, show regOf Try.f24 5 = Code.region _ _ _ from rfl, show regOf Try.f24 6 = Code.region _ _ _ from rfl, show regOf Try.f24 7 = Code.region _ _ _ from rfl, txt_list, hc, z64, Int.natCast_zero]
          rfl
        · have h0 : c.toNat = 0 := by omega
          simp (implicitDefEqProofs := false) (disch := omega) only [go_sem, Nat.reduceAdd, Nat.reduceSub, Nat.reduceMul, Nat.reduceLT, Nat.reduceLeDiff, Nat.reduceEqDiff, List.drop_zero, List.take_succ_cons, List.take_zero, List.drop_succ_cons, Bool.and_true, Bool.true_and, Bool.and_false, Bool.false_and, BitVec.reduceOfInt, Nat.zero_add, Nat.mul_one, Nat.add_zero, Int.zero_add, Int.reduceToNat, Nat.reducePow, ↓reduceIte, reduceCtorEq, Int.reduceLE, Int.reduceLT, Int.reduceEq, Int.reduceNe, Int.reduceAdd, Int.reduceSub, Int.reduceMul, Int.reduceNeg, Nat.reduceBEq, show regOf Try.f24 3 = Code.region _ _ _ from rfl, show regOf Try.f24 4 = Code.region _ _ _ from rfl, show regOf Try.f24 5 = Code.region _ _ _ from rfl, show regOf Try.f24 6 = Code.region _ _ _ from rfl, show regOf Try.f24 7 = Code.region _ _ _ from rfl, txt_list, hc, z64, Int.natCast_zero]
          rfl
      · have h0 : c.toNat = 0 := by omega
        have hi0 : 0 < i := by omega
        simp (implicitDefEqProofs := false) (disch := omega) only [go_sem, Nat.reduceAdd, Nat.reduceSub, Nat.reduceMul, Nat.reduceLT, Nat.reduceLeDiff, Nat.reduceEqDiff, List.drop_zero, List.take_succ_cons, List.take_zero, List.drop_succ_cons, Bool.and_true, Bool.true_and, Bool.and_false, Bool.false_and, BitVec.reduceOfInt, Nat.zero_add, Nat.mul_one, Nat.add_zero, Int.zero_add, Int.reduceToNat, Nat.reducePow, ↓reduceIte, reduceCtorEq, Int.reduceLE, Int.reduceLT, Int.reduceEq, Int.reduceNe, Int.reduceAdd, Int.reduceSub, Int.reduceMul, Int.reduceNeg, Nat.reduceBEq, show regOf Try.f24 3 = Code.region _ _ _ from rfl, show regOf Try.f24 4 = Code.region _ _ _ from rfl, show regOf Try.f24 5 = Code.region _ _ _ from rfl, show regOf Try.f24 6 = Code.region _ _ _ from rfl, show regOf Try.f24 7 = Code.region _ _ _ from rfl, txt_list, hc, z64, Int.natCast_zero]
        rfl
    · rw [if_neg hA]
      by_cases h8 : c.toNat < 128
      · rw [if_pos h8]
        refine .inl ⟨v64 (x ||| (c.toBitVec &&& 127#8).setWidth 64 <<< (7 * i)), .int i, ?_⟩
        rw [lrun_atC loop24_0]
        by_cases h9 : i = 9
        · have h1 : ¬ 1 < c.toNat := by omega
          have h0 : ¬ c.toNat = 0 := by omega
          simp (implicitDefEqProofs := false) (disch := omega) only [go_sem, Nat.reduceAdd, Nat.reduceSub, Nat.reduceMul, Nat.reduceLT, Nat.reduceLeDiff, Nat.reduceEqDiff, List.drop_zero, List.take_succ_cons, List.take_zero, List.drop_succ_cons, Bool.and_true, Bool.true_and, Bool.and_false, Bool.false_and, BitVec.reduceOfInt, Nat.zero_add, Nat.mul_one, Nat.add_zero, Int.zero_add, Int.reduceToNat, Nat.reducePow, ↓reduceIte, reduceCtorEq, Int.reduceLE, Int.reduceLT, Int.reduceEq, Int.reduceNe, Int.reduceAdd, Int.reduceSub, Int.reduceMul, Int.reduceNeg, Nat.reduceBEq, show regOf Try.f24 3 = Code.region _ _ _ from rfl, show regOf Try.f24 4 = Code.region _ _ _ from rfl, show regOf Try.f24 5 = Code.region _ _ _ from rfl, show regOf Try.f24 6 = Code.region _ _ _ from rfl, show regOf Try.f24 8 = Code.region _ _ _ from rfl, show regOf Try.f24 9 = Code.region _ _ _ from rfl, show regOf Try.f24 10 = Code.region _ _ _ from rfl, txt_list, hc, z64, h7]
          all_goals (refine congrArg (fun e => some (Ex.ret, e, ([] : AHeap))) ?_; simp only [List.cons.injEq, AV.val.injEq, Value.int.injEq, Value.bool.injEq, true_and, and_true]; omega)
        · by_cases h0 : c.toNat = 0
          · have hi0 : i = 0 := by omega
            simp (implicitDefEqProofs := false) (disch := omega) only [go_sem, Nat.reduceAdd, Nat.reduceSub, Nat.reduceMul, Nat.reduceLT, Nat.reduceLeDiff, Nat.reduceEqDiff, List.drop_zero, List.take_succ_cons, List.take_zero, List.drop_succ_cons, Bool.and_true, Bool.true_and, Bool.and_false, Bool.false_and, BitVec.reduceOfInt, Nat.zero_add, Nat.mul_one, Nat.add_zero, Int.zero_add, Int.reduceToNat, Nat.reducePow, ↓reduceIte, reduceCtorEq, Int.reduceLE, Int.reduceLT, Int.reduceEq, Int.reduceNe, Int.reduceAdd, Int.reduceSub, Int.reduceMul, Int.reduceNeg, Nat.reduceBEq, show regOf Try.f24 3 = Code.region _ _ _ from rfl, show regOf Try.f24 4 = Code.region _ _ _ from rfl, show regOf Try.f24 5 = Code.region _ _ _ from rfl, show regOf Try.f24 6 = Code.region _ _ _ from rfl, show regOf Try.f24 8 = Code.region _ _ _ from rfl, show regOf Try.f24 9 = Code.region _ _ _ from rfl, show regOf Try.f24 10 = Code.region _ _ _ from rfl, txt_list, hc, z64, h7]
            all_goals (refine congrArg (fun e => some (Ex.ret, e, ([] : AHeap))) ?_; simp only [List.cons.injEq, AV.val.injEq, Value.int.injEq, Value.bool.injEq, true_and, and_true]; omega)
          · simp (implicitDefEqProofs := false) (disch := omega) only [go_sem, Nat.reduceAdd, Nat.reduceSub, Nat.reduceMul, Nat.reduceLT, Nat.reduceLeDiff, Nat.reduceEqDiff, List.drop_zero, List.take_succ_cons, List.take_zero, List.drop_succ_cons, Bool.and_true, Bool.true_and, Bool.and_false, Bool.false_and, BitVec.reduceOfInt, Nat.zero_add, Nat.mul_one, Nat.add_zero, Int.zero_add, Int.reduceToNat, Nat.reducePow, ↓reduceIte, reduceCtorEq, Int.reduceLE, Int.reduceLT, Int.reduceEq, Int.reduceNe, Int.reduceAdd, Int.reduceSub, Int.reduceMul, Int.reduceNeg, Nat.reduceBEq, show regOf Try.f24 3 = Code.region _ _ _ from rfl, show regOf Try.f24 4 = Code.region _ _ _ from rfl, show regOf Try.f24 5 = Code.region _ _ _ from rfl, show regOf Try.f24 6 = Code.region _ _ _ from rfl, show regOf Try.f24 8 = Code.region _ _ _ from rfl, show regOf Try.f24 9 = Code.region _ _ _ from rfl, show regOf Try.f24 10 = Code.region _ _ _ from rfl, txt_list, hc, z64, h7]
            all_goals (refine congrArg (fun e => some (Ex.ret, e, ([] : AHeap))) ?_; simp only [List.cons.injEq, AV.val.injEq, Value.int.injEq, Value.bool.injEq, true_and, and_true]; omega)
      · rw [if_neg h8]
        have ih := gu_loop s hs m (i + 1) (x ||| (c.toBitVec &&& 127#8).setWidth 64 <<< (7 * i)) (by omega)
        have e : lrun Try.prog md fg (fg 24) (loopOf Try.f24 0) (fg 24 1) ([.str (txt s), .unk, v64 0#64, .int 0, v64 x, .unk, .unk, .unk, .unk, .int ((min s.length 10 : Nat) : Int), .int i, .unk, .unk, .unk, .unk, .unk, .unk, .unk, .unk, .unk, .unk, .unk, .unk, .unk, .unk, .unk, .unk, .unk, .unk, .unk, .unk, .unk, .unk, .unk, .unk, .unk, .unk, .unk, .unk, .unk, .unk, .unk, .unk, .unk]) [] = lrun Try.prog md fg (fg 24) (loopOf Try.f24 0) (fg 24 1) ([.str (txt s), .unk, v64 0#64, .int 0, v64 (x ||| (c.toBitVec &&& 127#8).setWidth 64 <<< (7 * i)), .unk, .unk, .unk, .unk, .int ((min s.length 10 : Nat) : Int), .int ((i + 1 : Nat) : Int), .unk, .unk, .unk, .unk, .unk, .unk, .unk, .unk, .unk, .unk, .unk, .unk, .unk, .unk, .unk, .unk, .unk, .unk, .unk, .unk, .unk, .unk, .unk, .unk, .unk, .unk, .unk, .unk, .unk, .unk, .unk, .unk, .unk]) [] := by
          rw [lrun_atC loop24_0]
          have h9 : ¬ i = 9 := by omega
          simp (implicitDefEqProofs := false) (disch := omega) only [go_sem, Nat.reduceAdd, Nat.reduceSub, Nat.reduceMul, Nat.reduceLT, Nat.reduceLeDiff, Nat.reduceEqDiff, List.drop_zero, List.take_succ_cons, List.take_zero, List.drop_succ_cons, Bool.and_true, Bool.true_and, Bool.and_false, Bool.false_and, BitVec.reduceOfInt, Nat.zero_add, Nat.mul_one, Nat.add_zero, Int.zero_add, Int.reduceToNat, Nat.reducePow, ↓reduceIte, reduceCtorEq, Int.reduceLE, Int.reduceLT, Int.reduceEq, Int.reduceNe, Int.reduceAdd, Int.reduceSub, Int.reduceMul, Int.reduceNeg, Nat.reduceBEq, show regOf Try.f24 3 = Code.region _ _ _ from rfl, show regOf Try.f24 4 = Code.region _ _ _ from rfl, show regOf Try.f24 5 = Code.region _ _ _ from rfl, show regOf Try.f24 6 = Code.region _ _ _ from rfl, show regOf Try.f24 8 = Code.region _ _ _ from rfl, show regOf Try.f24 9 = Code.region _ _ _ from rfl, show regOf Try.f24 11 = Code.region _ _ _ from rfl, txt_list, hc, h7]
          all_goals (congr 1 <;> simp only [List.cons.injEq, AV.val.injEq, Value.int.injEq, Value.bool.injEq, true_and, and_true] <;> omega)
        rw [e]
        exact ih
end Go.Proofs.Ytlpkfeplbcadbaa
