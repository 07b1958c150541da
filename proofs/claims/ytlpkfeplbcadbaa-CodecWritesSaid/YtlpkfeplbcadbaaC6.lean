/- CodecSums, by rounds. -/
import Derived.Test.YtlpkfeplbcadbaaC5
namespace Go.Proofs.Ytlpkfeplbcadbaa
open Go Go.Ab Go.Proofs
set_option maxRecDepth 100000
set_option linter.unusedSimpArgs false
theorem solid_strs (l : List ByteArray) : solidL (l.map .str) = true := by
  induction l with
  | nil => rfl
  | cons a r ih => simp only [List.map_cons, solidL, solid, ih, Bool.and_self]
theorem fewB_sizes {l : List ByteArray} (h : fewB l = true) : l.length ≤ 60 ∧ (catL l).length ≤ 4000 ∧ ∀ s ∈ l, s.size ≤ 4000 := by
  simp only [fewB, Bool.and_eq_true, decide_eq_true_eq] at h
  obtain ⟨h1, h2⟩ := h
  have key : ∀ l : List ByteArray, fewN l ≤ 4000 → (catL l).length = fewN l ∧ ∀ s ∈ l, s.size ≤ fewN l := by
    intro l
    induction l with
    | nil => intro _; exact ⟨rfl, fun s hs => by cases hs⟩
    | cons a r ih =>
      intro h
      have e : fewN (a :: r) = min a.size 100000 + fewN r := by simp [fewN]
      rw [e] at h ⊢
      obtain ⟨i1, i2⟩ := ih (by omega)
      have ha : a.size ≤ 4000 := by omega
      refine ⟨?_, ?_⟩
      · show ((a :: r).flatMap _).length = _
        rw [List.flatMap_cons, List.length_append, size_toList]
        have : (catL r).length = fewN r := i1
        unfold catL at this
        rw [this]; omega
      · intro s hs
        rcases List.mem_cons.1 hs with rfl | hs
        · omega
        · have := i2 s hs; omega
  obtain ⟨k1, k2⟩ := key l h2
  exact ⟨h1, by omega, fun s hs => by have := k2 s hs; omega⟩
/-- Texts behind one another. -/
def catB (l : List ByteArray) : ByteArray := ⟨(catL l).toArray⟩
theorem catB_snoc (l : List ByteArray) (s : ByteArray) : catB l ++ s = catB (l ++ [s]) := by
  apply ByteArray.ext
  have : (catB l ++ s).data = (catB l).data ++ s.data := ByteArray.data_append ..
  rw [this]
  apply Array.ext'
  simp [catB, catL]
theorem catB_size (l : List ByteArray) : (catB l).size = (catL l).length := by
  show (catL l).toArray.size = _; simp
theorem catL_append (a b : List ByteArray) : catL (a ++ b) = catL a ++ catL b := by simp [catL]
theorem sums_round (l : List ByteArray) (k : Nat) (hk : k < l.length) (hl : l.length < 100) (hs : (catL l).length ≤ 4000) :
    lrun Try.prog md fg (fg 3) (loopOf Try.f3 0) (fg 3 1) ([.slc false (l.map .str), .unk, .unk, .str (catB (l.take k)), .unk, .unk, .unk, .unk, .unk, .unk, .slc false (l.map .str), .int l.length, .int k, .unk, .unk, .unk, .unk, .unk, .unk, .unk, .unk, .unk, .unk, .unk, .unk, .unk, .unk, .unk, .unk, .unk, .unk, .unk, .unk, .unk, .unk, .unk]) [] = lrun Try.prog md fg (fg 3) (loopOf Try.f3 0) (fg 3 1) ([.slc false (l.map .str), .unk, .unk, .str (catB (l.take (k + 1))), .unk, .unk, .unk, .unk, .unk, .unk, .slc false (l.map .str), .int l.length, .int ((k + 1 : Nat) : Int), .unk, .unk, .unk, .unk, .unk, .unk, .unk, .unk, .unk, .unk, .unk, .unk, .unk, .unk, .unk, .unk, .unk, .unk, .unk, .unk, .unk, .unk, .unk]) [] := by
  rw [lrun_atC loop3_0]
  have e : catB (l.take k) ++ l[k] = catB (l.take (k + 1)) := by rw [catB_snoc, ← List.take_append_getElem hk]
  have hz : (catB (l.take k)).size + l[k].size ≤ 9223372036854775807 := by
    have e2 := catL_append (l.take k) (l.drop k)
    rw [List.take_append_drop, List.drop_eq_getElem_cons hk] at e2
    have e3 : catL (l[k] :: l.drop (k + 1)) = l[k].data.toList ++ catL (l.drop (k + 1)) := List.flatMap_cons ..
    rw [e3] at e2
    have := congrArg List.length e2
    simp only [List.length_append, size_toList] at this
    rw [catB_size]; omega
  simp (implicitDefEqProofs := false) (disch := omega) only [go_sem, Nat.reduceAdd, Nat.reduceSub, Nat.reduceMul, Nat.reduceLT, Nat.reduceLeDiff, Nat.reduceEqDiff, List.drop_zero, List.take_succ_cons, List.take_zero, List.drop_succ_cons, Bool.and_true, Bool.true_and, Bool.and_false, Bool.false_and, BitVec.reduceOfInt, Nat.zero_add, Nat.mul_one, Nat.add_zero, Int.zero_add, Int.reduceToNat, Nat.reducePow, ↓reduceIte, reduceCtorEq, Int.reduceLE, Int.reduceLT, Int.reduceEq, Int.reduceNe, Int.reduceAdd, Int.reduceSub, Int.reduceMul, Int.reduceNeg, Nat.reduceBEq, show regOf Try.f3 5 = Code.region _ _ _ from rfl, show regOf Try.f3 6 = Code.region _ _ _ from rfl, show regOf Try.f3 7 = Code.region _ _ _ from rfl, show regOf Try.f3 8 = Code.region _ _ _ from rfl, List.getElem?_map, List.length_map, List.getElem?_eq_getElem hk, abin_cat, e]
  all_goals (congr 1 <;> simp only [List.cons.injEq, AV.val.injEq, Value.int.injEq, Value.bool.injEq, true_and, and_true] <;> omega)
theorem sums_end (l : List ByteArray) (s : ByteArray) :
    lrun Try.prog md fg (fg 3) (loopOf Try.f3 0) (fg 3 1) ([.slc false (l.map .str), .unk, .unk, .str s, .unk, .unk, .unk, .unk, .unk, .unk, .slc false (l.map .str), .int l.length, .int l.length, .unk, .unk, .unk, .unk, .unk, .unk, .unk, .unk, .unk, .unk, .unk, .unk, .unk, .unk, .unk, .unk, .unk, .unk, .unk, .unk, .unk, .unk, .unk]) [] = some (.exit 0, [.slc false (l.map .str), .unk, .unk, .str s, .unk, .unk, .unk, .unk, .unk, .unk, .slc false (l.map .str), .int l.length, .int l.length, .unk, .unk, .unk, .unk, .unk, .unk, .unk, .unk, .unk, .unk, .unk, .unk, .unk, .unk, .unk, .unk, .unk, .unk, .unk, .unk, .unk, .unk, .unk], []) := by
  rw [lrun_atC loop3_0]
  simp (implicitDefEqProofs := false) (disch := omega) only [go_sem, Nat.reduceAdd, Nat.reduceSub, Nat.reduceMul, Nat.reduceLT, Nat.reduceLeDiff, Nat.reduceEqDiff, List.drop_zero, List.take_succ_cons, List.take_zero, List.drop_succ_cons, Bool.and_true, Bool.true_and, Bool.and_false, Bool.false_and, BitVec.reduceOfInt, Nat.zero_add, Nat.mul_one, Nat.add_zero, Int.zero_add, Int.reduceToNat, Nat.reducePow, ↓reduceIte, reduceCtorEq, Int.reduceLE, Int.reduceLT, Int.reduceEq, Int.reduceNe, Int.reduceAdd, Int.reduceSub, Int.reduceMul, Int.reduceNeg, Nat.reduceBEq, show regOf Try.f3 5 = Code.region _ _ _ from rfl, show regOf Try.f3 6 = Code.region _ _ _ from rfl, show regOf Try.f3 7 = Code.region _ _ _ from rfl, show regOf Try.f3 8 = Code.region _ _ _ from rfl]
theorem sums_loop (l : List ByteArray) (hl : l.length < 100) (hs : (catL l).length ≤ 4000) : ∀ (m k : Nat), k + m = l.length →
    lrun Try.prog md fg (fg 3) (loopOf Try.f3 0) (fg 3 1) ([.slc false (l.map .str), .unk, .unk, .str (catB (l.take k)), .unk, .unk, .unk, .unk, .unk, .unk, .slc false (l.map .str), .int l.length, .int k, .unk, .unk, .unk, .unk, .unk, .unk, .unk, .unk, .unk, .unk, .unk, .unk, .unk, .unk, .unk, .unk, .unk, .unk, .unk, .unk, .unk, .unk, .unk]) [] = some (.exit 0, [.slc false (l.map .str), .unk, .unk, .str (catB l), .unk, .unk, .unk, .unk, .unk, .unk, .slc false (l.map .str), .int l.length, .int l.length, .unk, .unk, .unk, .unk, .unk, .unk, .unk, .unk, .unk, .unk, .unk, .unk, .unk, .unk, .unk, .unk, .unk, .unk, .unk, .unk, .unk, .unk, .unk], [])
  | 0, k, hm => by
    obtain rfl : k = l.length := by omega
    rw [List.take_length, sums_end]
  | m + 1, k, hm => by
    rw [sums_round l k (by omega) hl hs, sums_loop l hl hs m (k + 1) (by omega)]
theorem codecSums (l : List ByteArray) : pcall Try.prog md fg 3 [.slc false (l.map .str)] = some (.bool true) := by
  have cf : doCall md (aval Try.prog md fg) 11 [.slc false (l.map .str)] [] = some (.val (.bool (fewB l)), []) := doCall_pure md11 (by simp only [solidL, solid, solid_strs]; rfl) (few_p l)
  have ca : doCall md (aval Try.prog md fg) 12 [] [] = some (.val (.bool true), []) := doCall_pure md12 rfl alive
  rw [pcall_eq]
  rw [aval_of Try.func3 body3 Try.results3 Try.ntmps3 ok3]
  by_cases hf : fewB l = true
  · obtain ⟨h1, h2, h3⟩ := fewB_sizes hf
    have c1 : doCall md (aval Try.prog md fg) 13 [.slc false (l.map .str)] [] = some (v32 (sumR (catL l)), []) := doCall_pure md13 (by simp only [solidL, solid, solid_strs]; rfl) ((sum_p l (by omega) (fun s hs => by have := h3 s hs; omega)).trans (by rw [sumT_eq]))
    have hz : (catB l).size < 2 ^ 62 := by rw [catB_size]; omega
    have hcat : (catB l).data.toList = catL l := by simp [catB]
    have c2 : doCall md (aval Try.prog md fg) 14 [.str (catB l)] [] = some (v32 (sumR (catL l)), []) := doCall_pure md14 rfl ((refSum_p _ hz).trans (by rw [hcat]))
    have c3 : doCall md (aval Try.prog md fg) 13 [.slc true [.str (catB l)]] [] = some (v32 (sumR (catL l)), []) := by
      refine doCall_look md13 (as' := [.slc false ([catB l].map .str)]) (ids := []) ?_ rfl ((sum_p [catB l] (by show 1 < 2 ^ 62; decide) (fun s hs => by rw [List.mem_singleton.1 hs]; exact hz)).trans ?_) rfl
      · simp only [expL, expDepth, exp1_slc (h := []) (d := 3) (b := true) (es := [.str (catB l)]) rfl]
        rfl
      · rw [sumT_eq]; simp [catL, hcat]
    have e := sums_loop l (by omega) h2 l.length 0 (by omega)
    have e0 : catB (l.take 0) = ⟨#[]⟩ := rfl
    simp only [e0, Int.natCast_zero] at e
    simp (implicitDefEqProofs := false) (disch := omega) only [go_sem, Nat.reduceAdd, Nat.reduceSub, Nat.reduceMul, Nat.reduceLT, Nat.reduceLeDiff, Nat.reduceEqDiff, List.drop_zero, List.take_succ_cons, List.take_zero, List.drop_succ_cons, Bool.and_true, Bool.true_and, Bool.and_false, Bool.false_and, BitVec.reduceOfInt, Nat.zero_add, Nat.mul_one, Nat.add_zero, Int.zero_add, Int.reduceToNat, Nat.reducePow, ↓reduceIte, reduceCtorEq, Int.reduceLE, Int.reduceLT, Int.reduceEq, Int.reduceNe, Int.reduceAdd, Int.reduceSub, Int.reduceMul, Int.reduceNeg, Nat.reduceBEq, show regOf Try.f3 0 = Code.region _ _ _ from rfl, show regOf Try.f3 1 = Code.region _ _ _ from rfl, show regOf Try.f3 2 = Code.region _ _ _ from rfl, show regOf Try.f3 3 = Code.region _ _ _ from rfl, show regOf Try.f3 4 = Code.region _ _ _ from rfl, show regOf Try.f3 5 = Code.region _ _ _ from rfl, show regOf Try.f3 6 = Code.region _ _ _ from rfl, show regOf Try.f3 7 = Code.region _ _ _ from rfl, show regOf Try.f3 8 = Code.region _ _ _ from rfl, show regOf Try.f3 9 = Code.region _ _ _ from rfl, cf, hf, ca, c1, c2, c3, e, List.length_map]
    rw [pureRes_solid rfl]
  · rw [Bool.not_eq_true] at hf
    simp (implicitDefEqProofs := false) (disch := omega) only [go_sem, Nat.reduceAdd, Nat.reduceSub, Nat.reduceMul, Nat.reduceLT, Nat.reduceLeDiff, Nat.reduceEqDiff, List.drop_zero, List.take_succ_cons, List.take_zero, List.drop_succ_cons, Bool.and_true, Bool.true_and, Bool.and_false, Bool.false_and, BitVec.reduceOfInt, Nat.zero_add, Nat.mul_one, Nat.add_zero, Int.zero_add, Int.reduceToNat, Nat.reducePow, ↓reduceIte, reduceCtorEq, Int.reduceLE, Int.reduceLT, Int.reduceEq, Int.reduceNe, Int.reduceAdd, Int.reduceSub, Int.reduceMul, Int.reduceNeg, Nat.reduceBEq, show regOf Try.f3 0 = Code.region _ _ _ from rfl, show regOf Try.f3 1 = Code.region _ _ _ from rfl, show regOf Try.f3 2 = Code.region _ _ _ from rfl, show regOf Try.f3 3 = Code.region _ _ _ from rfl, show regOf Try.f3 4 = Code.region _ _ _ from rfl, show regOf Try.f3 5 = Code.region _ _ _ from rfl, show regOf Try.f3 6 = Code.region _ _ _ from rfl, show regOf Try.f3 7 = Code.region _ _ _ from rfl, show regOf Try.f3 8 = Code.region _ _ _ from rfl, show regOf Try.f3 9 = Code.region _ _ _ from rfl, cf, hf, ca]
    rw [pureRes_solid rfl]
end Go.Proofs.Ytlpkfeplbcadbaa
