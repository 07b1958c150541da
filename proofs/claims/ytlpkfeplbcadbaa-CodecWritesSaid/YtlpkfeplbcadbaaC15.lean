/- Readers, by rounds. -/
import Derived.Test.YtlpkfeplbcadbaaC13
namespace Go.Proofs.Ytlpkfeplbcadbaa
open Go Go.Ab Go.Proofs
set_option maxRecDepth 100000
set_option linter.unusedSimpArgs false
set_option linter.unusedVariables false
theorem hget_set_eq {h : AHeap} {i : Nat} {o : AObj} (hi : i < h.length) : hget (h.set i o) i = o := by
  unfold hget; rw [List.getD_eq_getElem?_getD, List.getElem?_set_self hi]; rfl
theorem hget_set_ne {h : AHeap} {i j : Nat} {o : AObj} (hij : ¬ i = j) : hget (h.set i o) j = hget h j := by
  unfold hget; rw [List.getD_eq_getElem?_getD, List.getElem?_set_ne hij, ← List.getD_eq_getElem?_getD]
/-- A call by reference that makes nothing new. -/
theorem doCall_len {f : FuncId} {vs : List AV} {h h' : AHeap} {r : AV} (hm : md f ≠ 0) (e : aval Try.prog md fg f vs h = some (r, h')) (hl : h'.length = h.length) : doCall md (aval Try.prog md fg) f vs h = some (r, h') := by
  unfold doCall
  rw [if_neg hm, e]
  dsimp only
  split
  · rw [← hl, List.take_length]
  · rfl
section reader
variable {h : AHeap} {id : Nat} {s : List UInt8} {b : Bool}
theorem rBad (hr : hget h id = .vars [.str (txt s), .bool b]) : aval Try.prog md fg 38 [.ptr id 0] h = some (.bool b, h) := by
  rw [aval_of Try.func38 body38 Try.results38 Try.ntmps38 ok38]
  simp (implicitDefEqProofs := false) (disch := omega) only [go_sem, Nat.reduceAdd, Nat.reduceSub, Nat.reduceMul, Nat.reduceLT, Nat.reduceLeDiff, Nat.reduceEqDiff, List.drop_zero, List.take_succ_cons, List.take_zero, List.drop_succ_cons, Bool.and_true, Bool.true_and, Bool.and_false, Bool.false_and, BitVec.reduceOfInt, Nat.zero_add, Nat.mul_one, Nat.add_zero, Int.zero_add, Int.reduceToNat, Nat.reducePow, ↓reduceIte, reduceCtorEq, Int.reduceLE, Int.reduceLT, Int.reduceEq, Int.reduceNe, Int.reduceAdd, Int.reduceSub, Int.reduceMul, Int.reduceNeg, Nat.reduceBEq, show regOf Try.f38 0 = Code.region _ _ _ from rfl, show regOf Try.f38 1 = Code.region _ _ _ from rfl, hr]
theorem rBad_c (hr : hget h id = .vars [.str (txt s), .bool b]) : doCall md (aval Try.prog md fg) 38 [.ptr id 0] h = some (.val (.bool b), h) := doCall_len (by decide) (rBad hr) rfl
theorem goU_le (l : List UInt8) : (goU 0 0#64 l).2 ≤ l.length := by
  rw [goU_eq]; unfold refU
  have := cntU_le l 0
  dsimp only
  split
  · exact Nat.zero_le _
  · split
    · show _ + 1 ≤ _; omega
    · exact Nat.zero_le _
theorem drop_take (l : List UInt8) (n : Nat) : (l.drop n).take (l.length - n) = l.drop n := List.take_of_length_le (by simp)
/-- What reading a number leaves. -/
def uAns (s : List UInt8) : BitVec 64 := (goU 0 0#64 s).1
def uRest (s : List UInt8) : List UInt8 × Bool := if (goU 0 0#64 s).2 = 0 then (s, true) else (s.drop (goU 0 0#64 s).2, false)
theorem goU_zero {l : List UInt8} (h : (goU 0 0#64 l).2 = 0) : (goU 0 0#64 l).1 = 0#64 := by
  rw [goU_eq] at h ⊢
  unfold refU at h ⊢
  dsimp only at h ⊢
  split
  · rfl
  · rename_i h1
    rw [if_neg h1] at h
    split
    · rename_i h2; rw [if_pos h2] at h; simp at h
    · rfl
theorem rU_bad (hr : hget h id = .vars [.str (txt s), .bool true]) : aval Try.prog md fg 34 [.ptr id 0] h = some (v64 0#64, h) := by
  rw [aval_of Try.func34 body34 Try.results34 Try.ntmps34 ok34]
  simp (implicitDefEqProofs := false) (disch := omega) only [go_sem, Nat.reduceAdd, Nat.reduceSub, Nat.reduceMul, Nat.reduceLT, Nat.reduceLeDiff, Nat.reduceEqDiff, List.drop_zero, List.take_succ_cons, List.take_zero, List.drop_succ_cons, Bool.and_true, Bool.true_and, Bool.and_false, Bool.false_and, BitVec.reduceOfInt, Nat.zero_add, Nat.mul_one, Nat.add_zero, Int.zero_add, Int.reduceToNat, Nat.reducePow, ↓reduceIte, reduceCtorEq, Int.reduceLE, Int.reduceLT, Int.reduceEq, Int.reduceNe, Int.reduceAdd, Int.reduceSub, Int.reduceMul, Int.reduceNeg, Nat.reduceBEq, show regOf Try.f34 0 = Code.region _ _ _ from rfl, show regOf Try.f34 1 = Code.region _ _ _ from rfl, show regOf Try.f34 2 = Code.region _ _ _ from rfl, rBad_c hr]
  rfl
theorem rU (hr : hget h id = .vars [.str (txt s), .bool false]) (hid : id < h.length) (hs : s.length < 2 ^ 62) : aval Try.prog md fg 34 [.ptr id 0] h = some (v64 (uAns s), h.set id (.vars [.str (txt (uRest s).1), .bool (uRest s).2])) := by
  rw [aval_of Try.func34 body34 Try.results34 Try.ntmps34 ok34]
  have c1 : doCall md (aval Try.prog md fg) 24 [.val (.string (txt s))] h = some (.tup [v64 (goU 0 0#64 s).1, .int ((goU 0 0#64 s).2 : Int)], h) := doCall_pure md24 rfl (getUvarint_p s hs)
  have hle := goU_le s
  have hz := txt_size s
  unfold uAns uRest
  by_cases h0 : (goU 0 0#64 s).2 = 0
  · rw [if_pos h0, goU_zero h0]
    rw [h0, goU_zero h0] at c1
    simp (implicitDefEqProofs := false) (disch := omega) only [go_sem, Nat.reduceAdd, Nat.reduceSub, Nat.reduceMul, Nat.reduceLT, Nat.reduceLeDiff, Nat.reduceEqDiff, List.drop_zero, List.take_succ_cons, List.take_zero, List.drop_succ_cons, Bool.and_true, Bool.true_and, Bool.and_false, Bool.false_and, BitVec.reduceOfInt, Nat.zero_add, Nat.mul_one, Nat.add_zero, Int.zero_add, Int.reduceToNat, Nat.reducePow, ↓reduceIte, reduceCtorEq, Int.reduceLE, Int.reduceLT, Int.reduceEq, Int.reduceNe, Int.reduceAdd, Int.reduceSub, Int.reduceMul, Int.reduceNeg, Nat.reduceBEq, show regOf Try.f34 0 = Code.region _ _ _ from rfl, show regOf Try.f34 1 = Code.region _ _ _ from rfl, show regOf Try.f34 3 = Code.region _ _ _ from rfl, show regOf Try.f34 4 = Code.region _ _ _ from rfl, show regOf Try.f34 5 = Code.region _ _ _ from rfl, show regOf Try.f34 6 = Code.region _ _ _ from rfl, rBad_c hr, hr, c1, Int.natCast_zero]
    rfl
  · rw [if_neg h0]
    simp (implicitDefEqProofs := false) (disch := omega) only [go_sem, Nat.reduceAdd, Nat.reduceSub, Nat.reduceMul, Nat.reduceLT, Nat.reduceLeDiff, Nat.reduceEqDiff, List.drop_zero, List.take_succ_cons, List.take_zero, List.drop_succ_cons, Bool.and_true, Bool.true_and, Bool.and_false, Bool.false_and, BitVec.reduceOfInt, Nat.zero_add, Nat.mul_one, Nat.add_zero, Int.zero_add, Int.reduceToNat, Nat.reducePow, ↓reduceIte, reduceCtorEq, Int.reduceLE, Int.reduceLT, Int.reduceEq, Int.reduceNe, Int.reduceAdd, Int.reduceSub, Int.reduceMul, Int.reduceNeg, Nat.reduceBEq, show regOf Try.f34 0 = Code.region _ _ _ from rfl, show regOf Try.f34 1 = Code.region _ _ _ from rfl, show regOf Try.f34 3 = Code.region _ _ _ from rfl, show regOf Try.f34 4 = Code.region _ _ _ from rfl, show regOf Try.f34 7 = Code.region _ _ _ from rfl, show regOf Try.f34 8 = Code.region _ _ _ from rfl, rBad_c hr, hr, c1, txt_extract, txt_size, drop_take]
end reader
end Go.Proofs.Ytlpkfeplbcadbaa
