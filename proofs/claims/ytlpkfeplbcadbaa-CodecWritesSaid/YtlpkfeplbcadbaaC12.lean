/- GetUvarint, and the reference's Uvarint and GetUvarint, by rounds. -/
import Derived.Test.YtlpkfeplbcadbaaC10
namespace Go.Proofs.Ytlpkfeplbcadbaa
open Go Go.Ab Go.Proofs
set_option maxRecDepth 100000
set_option linter.unusedSimpArgs false
set_option linter.unusedVariables false
theorem getUvarint_p (l : List UInt8) (hl : l.length < 2 ^ 62) : pcall Try.prog md fg 24 [.str (txt l)] = some (.tup [v64 (goU 0 0#64 l).1, .int ((goU 0 0#64 l).2 : Int)]) := by
  rw [pcall_eq]
  rw [aval_of Try.func24 body24 Try.results24 Try.ntmps24 ok24]
  have hz := txt_size l
  have z64 : ((0#64 : BitVec 64).toNat : Int) = 0 := rfl
  have hm : (if (10 : Int) < (l.length : Int) then (10 : Int) else (l.length : Int)) = ((min l.length 10 : Nat) : Int) := by split <;> omega
  rcases gu_loop l hl (min l.length 10) 0 0#64 (by omega) with ⟨v4, v10, e⟩ | ⟨hg, v4, v10, e⟩
  · simp only [List.drop_zero, Int.natCast_zero, v64, z64] at e
    simp (implicitDefEqProofs := false) (disch := omega) only [go_sem, Nat.reduceAdd, Nat.reduceSub, Nat.reduceMul, Nat.reduceLT, Nat.reduceLeDiff, Nat.reduceEqDiff, List.drop_zero, List.take_succ_cons, List.take_zero, List.drop_succ_cons, Bool.and_true, Bool.true_and, Bool.and_false, Bool.false_and, BitVec.reduceOfInt, Nat.zero_add, Nat.mul_one, Nat.add_zero, Int.zero_add, Int.reduceToNat, Nat.reducePow, ↓reduceIte, reduceCtorEq, Int.reduceLE, Int.reduceLT, Int.reduceEq, Int.reduceNe, Int.reduceAdd, Int.reduceSub, Int.reduceMul, Int.reduceNeg, Nat.reduceBEq, show regOf Try.f24 0 = Code.region _ _ _ from rfl, show regOf Try.f24 1 = Code.region _ _ _ from rfl, show regOf Try.f24 2 = Code.region _ _ _ from rfl, txt_size, hm, e]
    rw [pureRes_solid rfl]
  · simp only [Int.natCast_zero, v64, z64] at e
    rw [List.drop_zero] at hg
    simp (implicitDefEqProofs := false) (disch := omega) only [go_sem, Nat.reduceAdd, Nat.reduceSub, Nat.reduceMul, Nat.reduceLT, Nat.reduceLeDiff, Nat.reduceEqDiff, List.drop_zero, List.take_succ_cons, List.take_zero, List.drop_succ_cons, Bool.and_true, Bool.true_and, Bool.and_false, Bool.false_and, BitVec.reduceOfInt, Nat.zero_add, Nat.mul_one, Nat.add_zero, Int.zero_add, Int.reduceToNat, Nat.reducePow, ↓reduceIte, reduceCtorEq, Int.reduceLE, Int.reduceLT, Int.reduceEq, Int.reduceNe, Int.reduceAdd, Int.reduceSub, Int.reduceMul, Int.reduceNeg, Nat.reduceBEq, show regOf Try.f24 0 = Code.region _ _ _ from rfl, show regOf Try.f24 1 = Code.region _ _ _ from rfl, show regOf Try.f24 2 = Code.region _ _ _ from rfl, show regOf Try.f24 12 = Code.region _ _ _ from rfl, txt_size, hm, e, hg]
    rw [pureRes_solid rfl]
    rfl
/-! ### The reference's Uvarint -/
theorem byte_or64 (x : BitVec 64) : UInt8.ofNat ((128#64 + x % 128#64).setWidth 8).toNat = UInt8.ofNat (x.toNat % 128 + 128) := by
  have e : (x % 128#64).toNat = x.toNat % 128 := by rw [BitVec.toNat_umod]; rfl
  have e2 : (128#64 + x % 128#64).toNat = 128 + x.toNat % 128 := by
    rw [BitVec.toNat_add, e]; show (128 + _) % _ = _; omega
  apply UInt8.toNat_inj.1
  rw [UInt8.toNat_ofNat', UInt8.toNat_ofNat', BitVec.toNat_setWidth, e2]; omega
theorem byte_set64 (x : BitVec 64) : UInt8.ofNat (x.setWidth 8).toNat = UInt8.ofNat x.toNat := by
  apply UInt8.toNat_inj.1
  rw [UInt8.toNat_ofNat', UInt8.toNat_ofNat', BitVec.toNat_setWidth]; omega
theorem div128 (x : BitVec 64) : (x / 128#64).toNat = x.toNat / 128 := by rw [BitVec.toNat_udiv]; rfl
theorem ru_end (x : BitVec 64) (l : List UInt8) (hx : x.toNat < 128) :
    lrun Try.prog md fg (fg 26) (loopOf Try.f26 0) (fg 26 1) ([v64 x, .unk, .unk, .str (txt l), .unk, .unk, .unk, .unk, .unk, .unk, .unk, .unk, .unk, .unk, .unk, .unk, .unk, .unk, .unk, .unk, .unk, .unk]) [] = some (.exit 0, [v64 x, .unk, .unk, .str (txt l), .unk, .unk, .unk, .unk, .unk, .unk, .unk, .unk, .unk, .unk, .unk, .unk, .unk, .unk, .unk, .unk, .unk, .unk], []) := by
  rw [lrun_atC loop26_0]
  simp (implicitDefEqProofs := false) (disch := omega) only [go_sem, Nat.reduceAdd, Nat.reduceSub, Nat.reduceMul, Nat.reduceLT, Nat.reduceLeDiff, Nat.reduceEqDiff, List.drop_zero, List.take_succ_cons, List.take_zero, List.drop_succ_cons, Bool.and_true, Bool.true_and, Bool.and_false, Bool.false_and, BitVec.reduceOfInt, Nat.zero_add, Nat.mul_one, Nat.add_zero, Int.zero_add, Int.reduceToNat, Nat.reducePow, ↓reduceIte, reduceCtorEq, Int.reduceLE, Int.reduceLT, Int.reduceEq, Int.reduceNe, Int.reduceAdd, Int.reduceSub, Int.reduceMul, Int.reduceNeg, Nat.reduceBEq, show regOf Try.f26 2 = Code.region _ _ _ from rfl, show regOf Try.f26 3 = Code.region _ _ _ from rfl, show regOf Try.f26 4 = Code.region _ _ _ from rfl]
theorem ru_round (x : BitVec 64) (l : List UInt8) (hx : ¬ x.toNat < 128) (hl : l.length < 1000) :
    lrun Try.prog md fg (fg 26) (loopOf Try.f26 0) (fg 26 1) ([v64 x, .unk, .unk, .str (txt l), .unk, .unk, .unk, .unk, .unk, .unk, .unk, .unk, .unk, .unk, .unk, .unk, .unk, .unk, .unk, .unk, .unk, .unk]) [] = lrun Try.prog md fg (fg 26) (loopOf Try.f26 0) (fg 26 1) ([v64 (x / 128#64), .unk, .unk, .str (txt (l ++ [UInt8.ofNat (x.toNat % 128 + 128)])), .unk, .unk, .unk, .unk, .unk, .unk, .unk, .unk, .unk, .unk, .unk, .unk, .unk, .unk, .unk, .unk, .unk, .unk]) [] := by
  rw [lrun_atC loop26_0]
  simp (implicitDefEqProofs := false) (disch := omega) only [go_sem, Nat.reduceAdd, Nat.reduceSub, Nat.reduceMul, Nat.reduceLT, Nat.reduceLeDiff, Nat.reduceEqDiff, List.drop_zero, List.take_succ_cons, List.take_zero, List.drop_succ_cons, Bool.and_true, Bool.true_and, Bool.and_false, Bool.false_and, BitVec.reduceOfInt, Nat.zero_add, Nat.mul_one, Nat.add_zero, Int.zero_add, Int.reduceToNat, Nat.reducePow, ↓reduceIte, reduceCtorEq, Int.reduceLE, Int.reduceLT, Int.reduceEq, Int.reduceNe, Int.reduceAdd, Int.reduceSub, Int.reduceMul, Int.reduceNeg, Nat.reduceBEq, show regOf Try.f26 2 = Code.region _ _ _ from rfl, show regOf Try.f26 3 = Code.region _ _ _ from rfl, show regOf Try.f26 4 = Code.region _ _ _ from rfl, byte_or64, cat1]
theorem ru_loop : ∀ (k : Nat) (x : BitVec 64) (l : List UInt8), x.toNat < 128 ^ k → l.length + k ≤ 20 → ∃ (y : BitVec 64) (l' : List UInt8),
    lrun Try.prog md fg (fg 26) (loopOf Try.f26 0) (fg 26 1) ([v64 x, .unk, .unk, .str (txt l), .unk, .unk, .unk, .unk, .unk, .unk, .unk, .unk, .unk, .unk, .unk, .unk, .unk, .unk, .unk, .unk, .unk, .unk]) [] = some (.exit 0, [v64 y, .unk, .unk, .str (txt l'), .unk, .unk, .unk, .unk, .unk, .unk, .unk, .unk, .unk, .unk, .unk, .unk, .unk, .unk, .unk, .unk, .unk, .unk], []) ∧ y.toNat < 128 ∧ l' ++ [UInt8.ofNat y.toNat] = l ++ uvarN x.toNat ∧ l'.length ≤ 20
  | 0, x, l, hx, hl => by
    have h0 : x.toNat < 128 := by simp at hx; omega
    exact ⟨x, l, ru_end x l h0, h0, by rw [uvarN_small h0], by omega⟩
  | k + 1, x, l, hx, hl => by
    by_cases h0 : x.toNat < 128
    · exact ⟨x, l, ru_end x l h0, h0, by rw [uvarN_small h0], by omega⟩
    · obtain ⟨y, l', e, hy, hl', hn⟩ := ru_loop k (x / 128#64) (l ++ [UInt8.ofNat (x.toNat % 128 + 128)]) (by rw [div128]; rw [Nat.pow_succ] at hx; omega) (by simp only [List.length_append, List.length_cons, List.length_nil]; omega)
      refine ⟨y, l', ?_, hy, ?_, hn⟩
      · rw [ru_round x l h0 (by omega), e]
      · rw [hl', uvarN_big h0, div128, List.append_assoc]; rfl
theorem refUvarint_p (x : BitVec 64) : pcall Try.prog md fg 26 [v64 x] = some (.str (uvarT x)) := by
  rw [pcall_eq]
  rw [aval_of Try.func26 body26 Try.results26 Try.ntmps26 ok26]
  obtain ⟨y, l', e, hy, hl, hn⟩ := ru_loop 10 x [] (Nat.lt_trans x.isLt (by decide)) (by simp)
  have e0 : lrun Try.prog md fg (fg 26) (loopOf Try.f26 0) (fg 26 1) ([v64 x, .unk, .unk, .val (.string ⟨#[]⟩), .unk, .unk, .unk, .unk, .unk, .unk, .unk, .unk, .unk, .unk, .unk, .unk, .unk, .unk, .unk, .unk, .unk, .unk]) [] = some (.exit 0, [v64 y, .unk, .unk, .str (txt l'), .unk, .unk, .unk, .unk, .unk, .unk, .unk, .unk, .unk, .unk, .unk, .unk, .unk, .unk, .unk, .unk, .unk, .unk], []) := e
  simp (implicitDefEqProofs := false) (disch := omega) only [go_sem, Nat.reduceAdd, Nat.reduceSub, Nat.reduceMul, Nat.reduceLT, Nat.reduceLeDiff, Nat.reduceEqDiff, List.drop_zero, List.take_succ_cons, List.take_zero, List.drop_succ_cons, Bool.and_true, Bool.true_and, Bool.and_false, Bool.false_and, BitVec.reduceOfInt, Nat.zero_add, Nat.mul_one, Nat.add_zero, Int.zero_add, Int.reduceToNat, Nat.reducePow, ↓reduceIte, reduceCtorEq, Int.reduceLE, Int.reduceLT, Int.reduceEq, Int.reduceNe, Int.reduceAdd, Int.reduceSub, Int.reduceMul, Int.reduceNeg, Nat.reduceBEq, show regOf Try.f26 0 = Code.region _ _ _ from rfl, show regOf Try.f26 1 = Code.region _ _ _ from rfl, show regOf Try.f26 5 = Code.region _ _ _ from rfl, e0, byte_set64, cat1, hl]
  rw [pureRes_solid rfl]
  rfl
/-! ### The reference's GetUvarint -/
/-- How many bytes before the last one, ten at most. -/
def cntU : Nat → List UInt8 → Nat
  | i, [] => i
  | i, c :: r => if i < 10 ∧ 127 < c.toNat then cntU (i + 1) r else i
theorem rc_loop (s : List UInt8) (hs : s.length < 2 ^ 62) : ∀ (m i : Nat), i + m = min s.length 10 →
    lrun Try.prog md fg (fg 25) (loopOf Try.f25 0) (fg 25 1) ([.str (txt s), .unk, .unk, .unk, .int i, .unk, .unk, .unk, .unk, .unk, .unk, .unk, .unk, .unk, .unk, .unk, .unk, .unk, .unk, .unk, .unk, .unk, .unk, .unk, .unk, .unk, .unk, .unk, .unk, .unk, .unk, .unk, .unk, .unk, .unk, .unk, .unk, .unk, .unk, .unk, .unk, .unk, .unk, .unk, .unk, .unk, .unk, .unk, .unk, .unk, .unk, .unk, .unk, .unk]) [] = some (.exit 0, [.str (txt s), .unk, .unk, .unk, .int (cntU i (s.drop i) : Nat), .unk, .unk, .unk, .unk, .unk, .unk, .unk, .unk, .unk, .unk, .unk, .unk, .unk, .unk, .unk, .unk, .unk, .unk, .unk, .unk, .unk, .unk, .unk, .unk, .unk, .unk, .unk, .unk, .unk, .unk, .unk, .unk, .unk, .unk, .unk, .unk, .unk, .unk, .unk, .unk, .unk, .unk, .unk, .unk, .unk, .unk, .unk, .unk, .unk], [])
  | 0, i, hm => by
    have hz := txt_size s
    have e : cntU i (s.drop i) = i := by
      cases h2 : s.drop i with
      | nil => rfl
      | cons c r =>
        have : i < s.length := by
          have := congrArg List.length h2
          simp at this; omega
        rw [cntU, if_neg (by omega)]
    rw [e]
    rw [lrun_atC loop25_0]
    by_cases h : i < s.length
    · simp (implicitDefEqProofs := false) (disch := omega) only [go_sem, Nat.reduceAdd, Nat.reduceSub, Nat.reduceMul, Nat.reduceLT, Nat.reduceLeDiff, Nat.reduceEqDiff, List.drop_zero, List.take_succ_cons, List.take_zero, List.drop_succ_cons, Bool.and_true, Bool.true_and, Bool.and_false, Bool.false_and, BitVec.reduceOfInt, Nat.zero_add, Nat.mul_one, Nat.add_zero, Int.zero_add, Int.reduceToNat, Nat.reducePow, ↓reduceIte, reduceCtorEq, Int.reduceLE, Int.reduceLT, Int.reduceEq, Int.reduceNe, Int.reduceAdd, Int.reduceSub, Int.reduceMul, Int.reduceNeg, Nat.reduceBEq, show regOf Try.f25 2 = Code.region _ _ _ from rfl, txt_size]
    · simp (implicitDefEqProofs := false) (disch := omega) only [go_sem, Nat.reduceAdd, Nat.reduceSub, Nat.reduceMul, Nat.reduceLT, Nat.reduceLeDiff, Nat.reduceEqDiff, List.drop_zero, List.take_succ_cons, List.take_zero, List.drop_succ_cons, Bool.and_true, Bool.true_and, Bool.and_false, Bool.false_and, BitVec.reduceOfInt, Nat.zero_add, Nat.mul_one, Nat.add_zero, Int.zero_add, Int.reduceToNat, Nat.reducePow, ↓reduceIte, reduceCtorEq, Int.reduceLE, Int.reduceLT, Int.reduceEq, Int.reduceNe, Int.reduceAdd, Int.reduceSub, Int.reduceMul, Int.reduceNeg, Nat.reduceBEq, show regOf Try.f25 2 = Code.region _ _ _ from rfl, txt_size]
  | m + 1, i, hm => by
    have hi : i < s.length := by omega
    have hc : s[i]? = some s[i] := List.getElem?_eq_getElem hi
    obtain ⟨c, hcc⟩ : ∃ c, s[i] = c := ⟨_, rfl⟩
    have hd : s.drop i = c :: s.drop (i + 1) := by rw [List.drop_eq_getElem_cons hi, hcc]
    rw [hcc] at hc
    have hn : c.toBitVec.toNat = c.toNat := rfl
    have hz := txt_size s
    by_cases h : 127 < c.toNat
    · have e : lrun Try.prog md fg (fg 25) (loopOf Try.f25 0) (fg 25 1) ([.str (txt s), .unk, .unk, .unk, .int i, .unk, .unk, .unk, .unk, .unk, .unk, .unk, .unk, .unk, .unk, .unk, .unk, .unk, .unk, .unk, .unk, .unk, .unk, .unk, .unk, .unk, .unk, .unk, .unk, .unk, .unk, .unk, .unk, .unk, .unk, .unk, .unk, .unk, .unk, .unk, .unk, .unk, .unk, .unk, .unk, .unk, .unk, .unk, .unk, .unk, .unk, .unk, .unk, .unk]) [] = lrun Try.prog md fg (fg 25) (loopOf Try.f25 0) (fg 25 1) ([.str (txt s), .unk, .unk, .unk, .int ((i + 1 : Nat) : Int), .unk, .unk, .unk, .unk, .unk, .unk, .unk, .unk, .unk, .unk, .unk, .unk, .unk, .unk, .unk, .unk, .unk, .unk, .unk, .unk, .unk, .unk, .unk, .unk, .unk, .unk, .unk, .unk, .unk, .unk, .unk, .unk, .unk, .unk, .unk, .unk, .unk, .unk, .unk, .unk, .unk, .unk, .unk, .unk, .unk, .unk, .unk, .unk, .unk]) [] := by
        rw [lrun_atC loop25_0]
        simp (implicitDefEqProofs := false) (disch := omega) only [go_sem, Nat.reduceAdd, Nat.reduceSub, Nat.reduceMul, Nat.reduceLT, Nat.reduceLeDiff, Nat.reduceEqDiff, List.drop_zero, List.take_succ_cons, List.take_zero, List.drop_succ_cons, Bool.and_true, Bool.true_and, Bool.and_false, Bool.false_and, BitVec.reduceOfInt, Nat.zero_add, Nat.mul_one, Nat.add_zero, Int.zero_add, Int.reduceToNat, Nat.reducePow, ↓reduceIte, reduceCtorEq, Int.reduceLE, Int.reduceLT, Int.reduceEq, Int.reduceNe, Int.reduceAdd, Int.reduceSub, Int.reduceMul, Int.reduceNeg, Nat.reduceBEq, show regOf Try.f25 2 = Code.region _ _ _ from rfl, show regOf Try.f25 3 = Code.region _ _ _ from rfl, txt_list, txt_size, hc]
        all_goals (congr 1 <;> simp only [List.cons.injEq, AV.val.injEq, Value.int.injEq, Value.bool.injEq, true_and, and_true] <;> omega)
      rw [e, rc_loop s hs m (i + 1) (by omega), hd, cntU, if_pos ⟨by omega, h⟩]
    · rw [hd, cntU, if_neg (by omega)]
      rw [lrun_atC loop25_0]
      simp (implicitDefEqProofs := false) (disch := omega) only [go_sem, Nat.reduceAdd, Nat.reduceSub, Nat.reduceMul, Nat.reduceLT, Nat.reduceLeDiff, Nat.reduceEqDiff, List.drop_zero, List.take_succ_cons, List.take_zero, List.drop_succ_cons, Bool.and_true, Bool.true_and, Bool.and_false, Bool.false_and, BitVec.reduceOfInt, Nat.zero_add, Nat.mul_one, Nat.add_zero, Int.zero_add, Int.reduceToNat, Nat.reducePow, ↓reduceIte, reduceCtorEq, Int.reduceLE, Int.reduceLT, Int.reduceEq, Int.reduceNe, Int.reduceAdd, Int.reduceSub, Int.reduceMul, Int.reduceNeg, Nat.reduceBEq, show regOf Try.f25 2 = Code.region _ _ _ from rfl, txt_list, txt_size, hc]
/-- The number of some bytes, seven bits of each. -/
def valB : List UInt8 → BitVec 64
  | [] => 0#64
  | c :: r => 128#64 * valB r + (c.toBitVec % 128#8).setWidth 64
theorem rv_round (s : List UInt8) (n i : Nat) (x : BitVec 64) (c : UInt8) (hc : s[i]? = some c) (hi : i < 20) :
    lrun Try.prog md fg (fg 25) (loopOf Try.f25 2) (fg 25 3) ([.str (txt s), .unk, .unk, .unk, .int n, v64 x, .int i, .unk, .unk, .unk, .unk, .unk, .unk, .unk, .unk, .unk, .unk, .unk, .unk, .unk, .unk, .unk, .unk, .unk, .unk, .unk, .unk, .unk, .unk, .unk, .unk, .unk, .unk, .unk, .unk, .unk, .unk, .unk, .unk, .unk, .unk, .unk, .unk, .unk, .unk, .unk, .unk, .unk, .unk, .unk, .unk, .unk, .unk, .unk]) [] = lrun Try.prog md fg (fg 25) (loopOf Try.f25 2) (fg 25 3) ([.str (txt s), .unk, .unk, .unk, .int n, v64 (128#64 * x + (c.toBitVec % 128#8).setWidth 64), .int ((i : Int) - 1), .unk, .unk, .unk, .unk, .unk, .unk, .unk, .unk, .unk, .unk, .unk, .unk, .unk, .unk, .unk, .unk, .unk, .unk, .unk, .unk, .unk, .unk, .unk, .unk, .unk, .unk, .unk, .unk, .unk, .unk, .unk, .unk, .unk, .unk, .unk, .unk, .unk, .unk, .unk, .unk, .unk, .unk, .unk, .unk, .unk, .unk, .unk]) [] := by
  rw [lrun_atC loop25_2]
  simp (implicitDefEqProofs := false) (disch := omega) only [go_sem, Nat.reduceAdd, Nat.reduceSub, Nat.reduceMul, Nat.reduceLT, Nat.reduceLeDiff, Nat.reduceEqDiff, List.drop_zero, List.take_succ_cons, List.take_zero, List.drop_succ_cons, Bool.and_true, Bool.true_and, Bool.and_false, Bool.false_and, BitVec.reduceOfInt, Nat.zero_add, Nat.mul_one, Nat.add_zero, Int.zero_add, Int.reduceToNat, Nat.reducePow, ↓reduceIte, reduceCtorEq, Int.reduceLE, Int.reduceLT, Int.reduceEq, Int.reduceNe, Int.reduceAdd, Int.reduceSub, Int.reduceMul, Int.reduceNeg, Nat.reduceBEq, show regOf Try.f25 8 = Code.region _ _ _ from rfl, show regOf Try.f25 9 = Code.region _ _ _ from rfl, show regOf Try.f25 10 = Code.region _ _ _ from rfl, txt_list, hc]
theorem rv_end (s : List UInt8) (n : Nat) (x : BitVec 64) :
    lrun Try.prog md fg (fg 25) (loopOf Try.f25 2) (fg 25 3) ([.str (txt s), .unk, .unk, .unk, .int n, v64 x, .int (-1), .unk, .unk, .unk, .unk, .unk, .unk, .unk, .unk, .unk, .unk, .unk, .unk, .unk, .unk, .unk, .unk, .unk, .unk, .unk, .unk, .unk, .unk, .unk, .unk, .unk, .unk, .unk, .unk, .unk, .unk, .unk, .unk, .unk, .unk, .unk, .unk, .unk, .unk, .unk, .unk, .unk, .unk, .unk, .unk, .unk, .unk, .unk]) [] = some (.exit 2, [.str (txt s), .unk, .unk, .unk, .int n, v64 x, .int (-1), .unk, .unk, .unk, .unk, .unk, .unk, .unk, .unk, .unk, .unk, .unk, .unk, .unk, .unk, .unk, .unk, .unk, .unk, .unk, .unk, .unk, .unk, .unk, .unk, .unk, .unk, .unk, .unk, .unk, .unk, .unk, .unk, .unk, .unk, .unk, .unk, .unk, .unk, .unk, .unk, .unk, .unk, .unk, .unk, .unk, .unk, .unk], []) := by
  rw [lrun_atC loop25_2]
  simp (implicitDefEqProofs := false) (disch := omega) only [go_sem, Nat.reduceAdd, Nat.reduceSub, Nat.reduceMul, Nat.reduceLT, Nat.reduceLeDiff, Nat.reduceEqDiff, List.drop_zero, List.take_succ_cons, List.take_zero, List.drop_succ_cons, Bool.and_true, Bool.true_and, Bool.and_false, Bool.false_and, BitVec.reduceOfInt, Nat.zero_add, Nat.mul_one, Nat.add_zero, Int.zero_add, Int.reduceToNat, Nat.reducePow, ↓reduceIte, reduceCtorEq, Int.reduceLE, Int.reduceLT, Int.reduceEq, Int.reduceNe, Int.reduceAdd, Int.reduceSub, Int.reduceMul, Int.reduceNeg, Nat.reduceBEq, show regOf Try.f25 8 = Code.region _ _ _ from rfl, show regOf Try.f25 9 = Code.region _ _ _ from rfl, show regOf Try.f25 10 = Code.region _ _ _ from rfl]
theorem rv_loop (s : List UInt8) (n : Nat) (hn : n < s.length) (hn2 : n < 20) : ∀ (i : Nat), i ≤ n → 
    lrun Try.prog md fg (fg 25) (loopOf Try.f25 2) (fg 25 3) ([.str (txt s), .unk, .unk, .unk, .int n, v64 (valB ((s.take (n + 1)).drop (i + 1))), .int i, .unk, .unk, .unk, .unk, .unk, .unk, .unk, .unk, .unk, .unk, .unk, .unk, .unk, .unk, .unk, .unk, .unk, .unk, .unk, .unk, .unk, .unk, .unk, .unk, .unk, .unk, .unk, .unk, .unk, .unk, .unk, .unk, .unk, .unk, .unk, .unk, .unk, .unk, .unk, .unk, .unk, .unk, .unk, .unk, .unk, .unk, .unk]) [] = some (.exit 2, [.str (txt s), .unk, .unk, .unk, .int n, v64 (valB (s.take (n + 1))), .int (-1), .unk, .unk, .unk, .unk, .unk, .unk, .unk, .unk, .unk, .unk, .unk, .unk, .unk, .unk, .unk, .unk, .unk, .unk, .unk, .unk, .unk, .unk, .unk, .unk, .unk, .unk, .unk, .unk, .unk, .unk, .unk, .unk, .unk, .unk, .unk, .unk, .unk, .unk, .unk, .unk, .unk, .unk, .unk, .unk, .unk, .unk, .unk], [])
  | i, hi => by
    have hil : i < (s.take (n + 1)).length := by rw [List.length_take]; omega
    have e : valB ((s.take (n + 1)).drop i) = 128#64 * valB ((s.take (n + 1)).drop (i + 1)) + ((s[i]'(by omega)).toBitVec % 128#8).setWidth 64 := by
      rw [List.drop_eq_getElem_cons hil, valB]
      simp
    rw [rv_round s n i _ (s[i]'(by omega)) (List.getElem?_eq_getElem (by omega)) (by omega), ← e]
    cases i with
    | zero =>
      rw [List.drop_zero]
      exact rv_end s n _
    | succ i =>
      have h1 : ((i + 1 : Nat) : Int) - 1 = (i : Int) := by omega
      rw [h1]
      exact rv_loop s n hn hn2 i (by omega)
/-- What the reference's GetUvarint answers. -/
def refU (l : List UInt8) : BitVec 64 × Nat :=
  let n := cntU 0 l
  if n = l.length ∨ n = 10 then (0#64, 0)
  else if uvarN (valB (l.take (n + 1))).toNat = l.take (n + 1) then (valB (l.take (n + 1)), n + 1) else (0#64, 0)
theorem cntU_le : ∀ (r : List UInt8) (i : Nat), cntU i r ≤ i + r.length ∧ (i ≤ 10 → cntU i r ≤ 10)
  | [], i => ⟨Nat.le_refl _, fun h => h⟩
  | c :: r, i => by
    rw [cntU]
    split
    · have := cntU_le r (i + 1)
      simp only [List.length_cons]
      refine ⟨by omega, fun _ => this.2 (by omega)⟩
    · simp only [List.length_cons]; exact ⟨by omega, fun h => h⟩
theorem refGetUvarint_p (l : List UInt8) (hl : l.length < 2 ^ 62) : pcall Try.prog md fg 25 [.str (txt l)] = some (.tup [v64 (refU l).1, .int ((refU l).2 : Int)]) := by
  rw [pcall_eq]
  rw [aval_of Try.func25 body25 Try.results25 Try.ntmps25 ok25]
  have hz := txt_size l
  have z64 : ((0#64 : BitVec 64).toNat : Int) = 0 := rfl
  have e := rc_loop l hl (min l.length 10) 0 (by omega)
  rw [List.drop_zero] at e
  have hle := cntU_le l 0
  obtain ⟨n, hn⟩ : ∃ n, cntU 0 l = n := ⟨_, rfl⟩
  unfold refU
  rw [hn] at e hle ⊢
  simp only [Int.natCast_zero] at e
  dsimp only
  by_cases h1 : n = l.length
  · rw [if_pos (.inl h1)]
    simp (implicitDefEqProofs := false) (disch := omega) only [go_sem, Nat.reduceAdd, Nat.reduceSub, Nat.reduceMul, Nat.reduceLT, Nat.reduceLeDiff, Nat.reduceEqDiff, List.drop_zero, List.take_succ_cons, List.take_zero, List.drop_succ_cons, Bool.and_true, Bool.true_and, Bool.and_false, Bool.false_and, BitVec.reduceOfInt, Nat.zero_add, Nat.mul_one, Nat.add_zero, Int.zero_add, Int.reduceToNat, Nat.reducePow, ↓reduceIte, reduceCtorEq, Int.reduceLE, Int.reduceLT, Int.reduceEq, Int.reduceNe, Int.reduceAdd, Int.reduceSub, Int.reduceMul, Int.reduceNeg, Nat.reduceBEq, show regOf Try.f25 0 = Code.region _ _ _ from rfl, show regOf Try.f25 1 = Code.region _ _ _ from rfl, show regOf Try.f25 4 = Code.region _ _ _ from rfl, show regOf Try.f25 5 = Code.region _ _ _ from rfl, txt_size, e]
    rw [pureRes_solid rfl]; rfl
  · by_cases h2 : n = 10
    · rw [if_pos (.inr h2)]
      simp (implicitDefEqProofs := false) (disch := omega) only [go_sem, Nat.reduceAdd, Nat.reduceSub, Nat.reduceMul, Nat.reduceLT, Nat.reduceLeDiff, Nat.reduceEqDiff, List.drop_zero, List.take_succ_cons, List.take_zero, List.drop_succ_cons, Bool.and_true, Bool.true_and, Bool.and_false, Bool.false_and, BitVec.reduceOfInt, Nat.zero_add, Nat.mul_one, Nat.add_zero, Int.zero_add, Int.reduceToNat, Nat.reducePow, ↓reduceIte, reduceCtorEq, Int.reduceLE, Int.reduceLT, Int.reduceEq, Int.reduceNe, Int.reduceAdd, Int.reduceSub, Int.reduceMul, Int.reduceNeg, Nat.reduceBEq, show regOf Try.f25 0 = Code.region _ _ _ from rfl, show regOf Try.f25 1 = Code.region _ _ _ from rfl, show regOf Try.f25 4 = Code.region _ _ _ from rfl, show regOf Try.f25 5 = Code.region _ _ _ from rfl, txt_size, e]
      rw [pureRes_solid rfl]; rfl
    · rw [if_neg (by omega)]
      have e2 := rv_loop l n (by omega) (by omega) n (by omega)
      rw [List.drop_of_length_le (by rw [List.length_take]; omega)] at e2
      simp only [valB, v64, z64] at e2
      have ht : ((n : Int) + 1).toNat = n + 1 := by omega
      have c1 : ∀ h, doCall md (aval Try.prog md fg) 26 [.val (.int .u64 ((valB (l.take (n + 1))).toNat : Int))] h = some (.str (uvarT (valB (l.take (n + 1)))), h) := fun h => doCall_pure md26 rfl (refUvarint_p _)
      by_cases h3 : uvarN (valB (l.take (n + 1))).toNat = l.take (n + 1)
      · rw [if_pos h3]
        have hq : uvarT (valB (l.take (n + 1))) = txt (l.take (n + 1)) := by unfold uvarT txt; rw [h3]
        simp (implicitDefEqProofs := false) (disch := omega) only [go_sem, Nat.reduceAdd, Nat.reduceSub, Nat.reduceMul, Nat.reduceLT, Nat.reduceLeDiff, Nat.reduceEqDiff, List.drop_zero, List.take_succ_cons, List.take_zero, List.drop_succ_cons, Bool.and_true, Bool.true_and, Bool.and_false, Bool.false_and, BitVec.reduceOfInt, Nat.zero_add, Nat.mul_one, Nat.add_zero, Int.zero_add, Int.reduceToNat, Nat.reducePow, ↓reduceIte, reduceCtorEq, Int.reduceLE, Int.reduceLT, Int.reduceEq, Int.reduceNe, Int.reduceAdd, Int.reduceSub, Int.reduceMul, Int.reduceNeg, Nat.reduceBEq, show regOf Try.f25 0 = Code.region _ _ _ from rfl, show regOf Try.f25 1 = Code.region _ _ _ from rfl, show regOf Try.f25 4 = Code.region _ _ _ from rfl, show regOf Try.f25 6 = Code.region _ _ _ from rfl, show regOf Try.f25 7 = Code.region _ _ _ from rfl, show regOf Try.f25 11 = Code.region _ _ _ from rfl, show regOf Try.f25 13 = Code.region _ _ _ from rfl, txt_size, txt_extract, e, e2, c1, ht, Nat.sub_zero, hq]
        rw [pureRes_solid rfl]; rfl
      · rw [if_neg h3]
        have hq : ¬ uvarT (valB (l.take (n + 1))) = txt (l.take (n + 1)) := by
          intro h
          apply h3
          have := congrArg (fun b : ByteArray => b.data.toList) h
          simpa [uvarT, txt] using this
        simp (implicitDefEqProofs := false) (disch := omega) only [go_sem, Nat.reduceAdd, Nat.reduceSub, Nat.reduceMul, Nat.reduceLT, Nat.reduceLeDiff, Nat.reduceEqDiff, List.drop_zero, List.take_succ_cons, List.take_zero, List.drop_succ_cons, Bool.and_true, Bool.true_and, Bool.and_false, Bool.false_and, BitVec.reduceOfInt, Nat.zero_add, Nat.mul_one, Nat.add_zero, Int.zero_add, Int.reduceToNat, Nat.reducePow, ↓reduceIte, reduceCtorEq, Int.reduceLE, Int.reduceLT, Int.reduceEq, Int.reduceNe, Int.reduceAdd, Int.reduceSub, Int.reduceMul, Int.reduceNeg, Nat.reduceBEq, show regOf Try.f25 0 = Code.region _ _ _ from rfl, show regOf Try.f25 1 = Code.region _ _ _ from rfl, show regOf Try.f25 4 = Code.region _ _ _ from rfl, show regOf Try.f25 6 = Code.region _ _ _ from rfl, show regOf Try.f25 7 = Code.region _ _ _ from rfl, show regOf Try.f25 11 = Code.region _ _ _ from rfl, show regOf Try.f25 12 = Code.region _ _ _ from rfl, txt_size, txt_extract, e, e2, c1, ht, Nat.sub_zero, hq]
        rw [pureRes_solid rfl]; rfl
end Go.Proofs.Ytlpkfeplbcadbaa
