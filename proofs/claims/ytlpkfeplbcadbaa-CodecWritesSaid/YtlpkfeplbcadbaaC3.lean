/- The plain functions of codec, by rounds: Sum, the reference's Sum. -/
import Derived.Test.YtlpkfeplbcadbaaC2
namespace Go.Proofs.Ytlpkfeplbcadbaa
open Go Go.Ab Go.Proofs
set_option maxRecDepth 100000
set_option linter.unusedSimpArgs false
theorem size_toList (s : ByteArray) : s.data.toList.length = s.size := Array.length_toList
theorem sum_in_loop (L : List AV) (n k : Nat) (s : ByteArray) (hs : s.size < 2 ^ 62) : ∀ (m j : Nat) (x : BitVec 32), j + m = s.size →
    lrun Try.prog md fg (fg 13) (loopOf Try.f13 2) (fg 13 3) ([.unk, .unk, .unk, .ptr 0 0, v32 x, .unk, .str s, .unk, .unk, .slc false L, .int n, .int k, .unk, .unk, .unk, .unk, .int s.size, .int j, .unk, .unk, .unk, .unk, .unk, .unk, .unk, .unk, .unk, .unk, .unk, .unk, .unk, .unk, .unk, .unk, .unk, .unk, .unk, .unk, .unk, .unk, .unk, .unk, .unk, .unk]) [.vars tabL] = some (.exit 2, [.unk, .unk, .unk, .ptr 0 0, v32 ((s.data.toList.drop j).foldl byteT x), .unk, .str s, .unk, .unk, .slc false L, .int n, .int k, .unk, .unk, .unk, .unk, .int s.size, .int s.size, .unk, .unk, .unk, .unk, .unk, .unk, .unk, .unk, .unk, .unk, .unk, .unk, .unk, .unk, .unk, .unk, .unk, .unk, .unk, .unk, .unk, .unk, .unk, .unk, .unk, .unk], [.vars tabL])
  | 0, j, x, hm => by
    obtain rfl : j = s.size := by omega
    rw [sum_in_end, List.drop_of_length_le (by rw [size_toList]; omega)]; rfl
  | m + 1, j, x, hm => by
    have hj : j < s.data.toList.length := by rw [size_toList]; omega
    rw [sum_in L n k j s x s.data.toList[j] (List.getElem?_eq_getElem hj) (by omega) hs, sum_in_loop L n k s hs m (j + 1) _ (by omega), List.drop_eq_getElem_cons hj]; rfl
theorem sum_round (l : List ByteArray) (k : Nat) (x : BitVec 32) (hk : k < l.length) (hs : l[k].size < 2 ^ 62) (hl : l.length < 2 ^ 62) :
    lrun Try.prog md fg (fg 13) (loopOf Try.f13 0) (fg 13 1) ([.unk, .unk, .unk, .ptr 0 0, v32 x, .unk, .unk, .unk, .unk, .slc false (l.map .str), .int l.length, .int k, .unk, .unk, .unk, .unk, .unk, .unk, .unk, .unk, .unk, .unk, .unk, .unk, .unk, .unk, .unk, .unk, .unk, .unk, .unk, .unk, .unk, .unk, .unk, .unk, .unk, .unk, .unk, .unk, .unk, .unk, .unk, .unk]) [.vars tabL] = lrun Try.prog md fg (fg 13) (loopOf Try.f13 0) (fg 13 1) ([.unk, .unk, .unk, .ptr 0 0, v32 (l[k].data.toList.foldl byteT x), .unk, .unk, .unk, .unk, .slc false (l.map .str), .int l.length, .int ((k + 1 : Nat) : Int), .unk, .unk, .unk, .unk, .unk, .unk, .unk, .unk, .unk, .unk, .unk, .unk, .unk, .unk, .unk, .unk, .unk, .unk, .unk, .unk, .unk, .unk, .unk, .unk, .unk, .unk, .unk, .unk, .unk, .unk, .unk, .unk]) [.vars tabL] := by
  rw [lrun_atC loop13_0]
  have e := sum_in_loop (l.map .str) l.length k l[k] hs l[k].size 0 x (by omega)
  simp only [List.drop_zero, Int.natCast_zero] at e
  simp (implicitDefEqProofs := false) (disch := omega) only [go_sem, Nat.reduceAdd, Nat.reduceSub, Nat.reduceMul, Nat.reduceLT, Nat.reduceLeDiff, Nat.reduceEqDiff, List.drop_zero, List.take_succ_cons, List.take_zero, List.drop_succ_cons, Bool.and_true, Bool.true_and, Bool.and_false, Bool.false_and, BitVec.reduceOfInt, Nat.zero_add, Nat.mul_one, Nat.add_zero, Int.zero_add, Int.reduceToNat, Nat.reducePow, ↓reduceIte, reduceCtorEq, Int.reduceLE, Int.reduceLT, Int.reduceEq, Int.reduceNe, Int.reduceAdd, Int.reduceSub, Int.reduceMul, Int.reduceNeg, Nat.reduceBEq, show regOf Try.f13 4 = Code.region _ _ _ from rfl, show regOf Try.f13 5 = Code.region _ _ _ from rfl, show regOf Try.f13 6 = Code.region _ _ _ from rfl, show regOf Try.f13 13 = Code.region _ _ _ from rfl, e, List.getElem?_map, List.length_map, List.getElem?_eq_getElem hk]
  all_goals (congr 1 <;> simp only [List.cons.injEq, AV.val.injEq, Value.int.injEq, Value.bool.injEq, true_and, and_true] <;> omega)
theorem sum_end (l : List ByteArray) (x : BitVec 32) :
    lrun Try.prog md fg (fg 13) (loopOf Try.f13 0) (fg 13 1) ([.unk, .unk, .unk, .ptr 0 0, v32 x, .unk, .unk, .unk, .unk, .slc false (l.map .str), .int l.length, .int l.length, .unk, .unk, .unk, .unk, .unk, .unk, .unk, .unk, .unk, .unk, .unk, .unk, .unk, .unk, .unk, .unk, .unk, .unk, .unk, .unk, .unk, .unk, .unk, .unk, .unk, .unk, .unk, .unk, .unk, .unk, .unk, .unk]) [.vars tabL] = some (.exit 0, [.unk, .unk, .unk, .ptr 0 0, v32 x, .unk, .unk, .unk, .unk, .slc false (l.map .str), .int l.length, .int l.length, .unk, .unk, .unk, .unk, .unk, .unk, .unk, .unk, .unk, .unk, .unk, .unk, .unk, .unk, .unk, .unk, .unk, .unk, .unk, .unk, .unk, .unk, .unk, .unk, .unk, .unk, .unk, .unk, .unk, .unk, .unk, .unk], [.vars tabL]) := by
  rw [lrun_atC loop13_0]
  simp (implicitDefEqProofs := false) (disch := omega) only [go_sem, Nat.reduceAdd, Nat.reduceSub, Nat.reduceMul, Nat.reduceLT, Nat.reduceLeDiff, Nat.reduceEqDiff, List.drop_zero, List.take_succ_cons, List.take_zero, List.drop_succ_cons, Bool.and_true, Bool.true_and, Bool.and_false, Bool.false_and, BitVec.reduceOfInt, Nat.zero_add, Nat.mul_one, Nat.add_zero, Int.zero_add, Int.reduceToNat, Nat.reducePow, ↓reduceIte, reduceCtorEq, Int.reduceLE, Int.reduceLT, Int.reduceEq, Int.reduceNe, Int.reduceAdd, Int.reduceSub, Int.reduceMul, Int.reduceNeg, Nat.reduceBEq, show regOf Try.f13 4 = Code.region _ _ _ from rfl, show regOf Try.f13 5 = Code.region _ _ _ from rfl, show regOf Try.f13 6 = Code.region _ _ _ from rfl, show regOf Try.f13 13 = Code.region _ _ _ from rfl]
/-- The bytes of some texts, behind one another. -/
def catL (l : List ByteArray) : List UInt8 := l.flatMap fun s => s.data.toList
theorem sum_loop (l : List ByteArray) (hl : l.length < 2 ^ 62) (hs : ∀ s ∈ l, s.size < 2 ^ 62) : ∀ (m k : Nat) (x : BitVec 32), k + m = l.length →
    lrun Try.prog md fg (fg 13) (loopOf Try.f13 0) (fg 13 1) ([.unk, .unk, .unk, .ptr 0 0, v32 x, .unk, .unk, .unk, .unk, .slc false (l.map .str), .int l.length, .int k, .unk, .unk, .unk, .unk, .unk, .unk, .unk, .unk, .unk, .unk, .unk, .unk, .unk, .unk, .unk, .unk, .unk, .unk, .unk, .unk, .unk, .unk, .unk, .unk, .unk, .unk, .unk, .unk, .unk, .unk, .unk, .unk]) [.vars tabL] = some (.exit 0, [.unk, .unk, .unk, .ptr 0 0, v32 ((catL (l.drop k)).foldl byteT x), .unk, .unk, .unk, .unk, .slc false (l.map .str), .int l.length, .int l.length, .unk, .unk, .unk, .unk, .unk, .unk, .unk, .unk, .unk, .unk, .unk, .unk, .unk, .unk, .unk, .unk, .unk, .unk, .unk, .unk, .unk, .unk, .unk, .unk, .unk, .unk, .unk, .unk, .unk, .unk, .unk, .unk], [.vars tabL])
  | 0, k, x, hm => by
    obtain rfl : k = l.length := by omega
    rw [sum_end, List.drop_length]; rfl
  | m + 1, k, x, hm => by
    have hk : k < l.length := by omega
    rw [sum_round l k x hk (hs _ (List.getElem_mem hk)) hl, sum_loop l hl hs m (k + 1) _ (by omega), List.drop_eq_getElem_cons hk]
    simp only [catL, List.flatMap_cons, List.foldl_append]
theorem putAt_full : ∀ (pre cs vs : List AV), cs.length = vs.length → putAt (pre ++ cs) pre.length vs = pre ++ vs
  | pre, cs, [], h => by
    have : cs = [] := List.length_eq_zero_iff.1 h
    rw [this]; rfl
  | pre, [], v :: r, h => by cases h
  | pre, c :: cs, v :: r, h => by
    have e := putAt_full (pre ++ [v]) cs r (by simpa using h)
    simp only [List.length_append, List.length_cons, List.length_nil, List.append_assoc, List.cons_append, List.nil_append, Nat.zero_add] at e
    rw [putAt_cons, List.set_append_right _ _ (Nat.le_refl _), Nat.sub_self]
    exact e
theorem putAt_zero (cs vs : List AV) (h : cs.length = vs.length) : putAt cs 0 vs = vs := putAt_full [] cs vs h
/-- Sum. -/
def sumT (l : List UInt8) : BitVec 32 := ~~~(l.foldl byteT 4294967295#32)
theorem sum (l : List ByteArray) (hl : l.length < 2 ^ 62) (hs : ∀ s ∈ l, s.size < 2 ^ 62) : aval Try.prog md fg 13 [.slc false (l.map .str)] [] = some (v32 (sumT (catL l)), [.vars tabL]) := by
  rw [aval_of Try.func13 body13 Try.results13 Try.ntmps13 ok13]
  have e := sum_loop l hl hs l.length 0 4294967295#32 (by omega)
  simp only [List.drop_zero, Int.natCast_zero] at e
  have e32 : ((4294967295#32).toNat : Int) = 4294967295 := rfl
  simp only [v32, e32] at e
  have hT : tabL.length = 16 := rfl
  have ct : doCall md (aval Try.prog md fg) 41 [] [] = some (.agg tabL, []) := doCall_pure md41 rfl table_p
  have hz : putAt [AV.val (.int .u32 0), AV.val (.int .u32 0), AV.val (.int .u32 0), AV.val (.int .u32 0), AV.val (.int .u32 0), AV.val (.int .u32 0), AV.val (.int .u32 0), AV.val (.int .u32 0), AV.val (.int .u32 0), AV.val (.int .u32 0), AV.val (.int .u32 0), AV.val (.int .u32 0), AV.val (.int .u32 0), AV.val (.int .u32 0), AV.val (.int .u32 0), AV.val (.int .u32 0)] 0 tabL = tabL := putAt_zero _ _ rfl
  simp (implicitDefEqProofs := false) (disch := omega) only [go_sem, Nat.reduceAdd, Nat.reduceSub, Nat.reduceMul, Nat.reduceLT, Nat.reduceLeDiff, Nat.reduceEqDiff, List.drop_zero, List.take_succ_cons, List.take_zero, List.drop_succ_cons, Bool.and_true, Bool.true_and, Bool.and_false, Bool.false_and, BitVec.reduceOfInt, Nat.zero_add, Nat.mul_one, Nat.add_zero, Int.zero_add, Int.reduceToNat, Nat.reducePow, ↓reduceIte, reduceCtorEq, Int.reduceLE, Int.reduceLT, Int.reduceEq, Int.reduceNe, Int.reduceAdd, Int.reduceSub, Int.reduceMul, Int.reduceNeg, Nat.reduceBEq, show regOf Try.f13 0 = Code.region _ _ _ from rfl, show regOf Try.f13 1 = Code.region _ _ _ from rfl, show regOf Try.f13 2 = Code.region _ _ _ from rfl, show regOf Try.f13 3 = Code.region _ _ _ from rfl, show regOf Try.f13 14 = Code.region _ _ _ from rfl, ct, hT, hz, e, List.length_map]
  rfl
theorem sum_p (l : List ByteArray) (hl : l.length < 2 ^ 62) (hs : ∀ s ∈ l, s.size < 2 ^ 62) : pcall Try.prog md fg 13 [.slc false (l.map .str)] = some (v32 (sumT (catL l))) := by
  rw [pcall_eq, sum l hl hs, pureRes_solid rfl]
end Go.Proofs.Ytlpkfeplbcadbaa
