/- Readers, by rounds: all calls, and the reference's. -/
import Derived.Test.YtlpkfeplbcadbaaC15
namespace Go.Proofs.Ytlpkfeplbcadbaa
open Go Go.Ab Go.Proofs
set_option maxRecDepth 100000
set_option linter.unusedSimpArgs false
set_option linter.unusedVariables false
/-- What a call U answers and leaves. -/
def uA (s : List UInt8) (b : Bool) : BitVec 64 := if b then 0#64 else uAns s
def uS (s : List UInt8) (b : Bool) : List UInt8 × Bool := if b then (s, true) else uRest s
/-- What a call T answers and leaves. -/
def tA (s : List UInt8) (b : Bool) : List UInt8 := if (uS s b).2 = true ∨ (uS s b).1.length < (uA s b).toNat then [] else (uS s b).1.take (uA s b).toNat
def tS (s : List UInt8) (b : Bool) : List UInt8 × Bool := if (uS s b).2 = true ∨ (uS s b).1.length < (uA s b).toNat then ((uS s b).1, true) else ((uS s b).1.drop (uA s b).toNat, false)
theorem set_same {h : AHeap} {i : Nat} {o : AObj} (ho : hget h i = o) (hi : i < h.length) : h.set i o = h := by
  apply List.ext_getElem?
  intro j
  by_cases e : i = j
  · subst e
    rw [List.getElem?_set_self hi]
    unfold hget at ho
    rw [List.getD_eq_getElem?_getD, List.getElem?_eq_getElem hi] at ho
    rw [List.getElem?_eq_getElem hi, ← ho]; rfl
  · rw [List.getElem?_set_ne e]
theorem uS_len (s : List UInt8) (b : Bool) : (uS s b).1.length ≤ s.length := by
  unfold uS uRest; split
  · exact Nat.le_refl _
  · split
    · exact Nat.le_refl _
    · simp
theorem tS_len (s : List UInt8) (b : Bool) : (tS s b).1.length ≤ s.length := by
  have := uS_len s b
  unfold tS; split
  · exact this
  · simp only [List.length_drop]; omega
section reader
variable {h : AHeap} {id : Nat} {s : List UInt8} {b : Bool}
/-- The object behind a reader. -/
abbrev RO (s : List UInt8) (b : Bool) : AObj := .vars [.val (.string (txt s)), .val (.bool b)]
theorem rU2 (hr : hget h id = RO s b) (hid : id < h.length) (hs : s.length < 2 ^ 62) : aval Try.prog md fg 34 [.ptr id 0] h = some (v64 (uA s b), h.set id (RO (uS s b).1 (uS s b).2)) := by
  cases b with
  | true => rw [rU_bad hr]; unfold uA uS; rw [if_pos rfl, if_pos rfl, set_same hr hid]
  | false => rw [rU hr hid hs]; rfl
theorem rU_c (hr : hget h id = RO s b) (hid : id < h.length) (hs : s.length < 2 ^ 62) : doCall md (aval Try.prog md fg) 34 [.ptr id 0] h = some (v64 (uA s b), h.set id (RO (uS s b).1 (uS s b).2)) := doCall_len (by decide) (rU2 hr hid hs) (by simp)
theorem rI (hr : hget h id = RO s b) (hid : id < h.length) (hs : s.length < 2 ^ 62) : aval Try.prog md fg 35 [.ptr id 0] h = some (.int (zagN (uA s b).toNat), h.set id (RO (uS s b).1 (uS s b).2)) := by
  rw [aval_of Try.func35 body35 Try.results35 Try.ntmps35 ok35]
  have cz : ∀ g, doCall md (aval Try.prog md fg) 17 [v64 (uA s b)] g = some (.val (.int .i64 (zagN (uA s b).toNat)), g) := fun g => doCall_pure md17 rfl (zag_p (by omega) (by have := (uA s b).isLt; omega))
  have hz := zagN_range (x := ((uA s b).toNat : Int)) (by omega) (by have := (uA s b).isLt; omega)
  simp (implicitDefEqProofs := false) (disch := omega) only [go_sem, Nat.reduceAdd, Nat.reduceSub, Nat.reduceMul, Nat.reduceLT, Nat.reduceLeDiff, Nat.reduceEqDiff, List.drop_zero, List.take_succ_cons, List.take_zero, List.drop_succ_cons, Bool.and_true, Bool.true_and, Bool.and_false, Bool.false_and, BitVec.reduceOfInt, Nat.zero_add, Nat.mul_one, Nat.add_zero, Int.zero_add, Int.reduceToNat, Nat.reducePow, ↓reduceIte, reduceCtorEq, Int.reduceLE, Int.reduceLT, Int.reduceEq, Int.reduceNe, Int.reduceAdd, Int.reduceSub, Int.reduceMul, Int.reduceNeg, Nat.reduceBEq, show regOf Try.f35 0 = Code.region _ _ _ from rfl, show regOf Try.f35 1 = Code.region _ _ _ from rfl, rU_c hr hid hs, cz]
theorem rI_c (hr : hget h id = RO s b) (hid : id < h.length) (hs : s.length < 2 ^ 62) : doCall md (aval Try.prog md fg) 35 [.ptr id 0] h = some (.int (zagN (uA s b).toNat), h.set id (RO (uS s b).1 (uS s b).2)) := doCall_len (by decide) (rI hr hid hs) (by simp)
theorem rT (hr : hget h id = RO s b) (hid : id < h.length) (hs : s.length < 2 ^ 62) : aval Try.prog md fg 36 [.ptr id 0] h = some (.val (.string (txt (tA s b))), h.set id (RO (tS s b).1 (tS s b).2)) := by
  rw [aval_of Try.func36 body36 Try.results36 Try.ntmps36 ok36]
  have hr2 : hget (h.set id (RO (uS s b).1 (uS s b).2)) id = RO (uS s b).1 (uS s b).2 := hget_set_eq hid
  have hl := uS_len s b
  have cb := rBad_c hr2
  have hsz := txt_size (uS s b).1
  unfold tA tS
  obtain ⟨s1, b1, e1⟩ : ∃ s1 b1, uS s b = (s1, b1) := ⟨_, _, rfl⟩
  have cu := rU_c hr hid hs
  rw [e1] at hr2 cb hsz cu hl ⊢
  obtain ⟨x, hx⟩ : ∃ x, uA s b = x := ⟨_, rfl⟩
  rw [hx] at cu ⊢
  dsimp only at hr2 cb hsz cu hl ⊢
  have ht : ((s1.length : Int)).toNat = s1.length := by omega
  have hw : (BitVec.ofNat 64 s1.length).toNat = s1.length := by rw [BitVec.toNat_ofNat]; exact Nat.mod_eq_of_lt (by omega)
  cases b1 with
  | true =>
    rw [if_pos (.inl rfl), if_pos (.inl rfl)]
    simp (implicitDefEqProofs := false) (disch := omega) only [go_sem, Nat.reduceAdd, Nat.reduceSub, Nat.reduceMul, Nat.reduceLT, Nat.reduceLeDiff, Nat.reduceEqDiff, List.drop_zero, List.take_succ_cons, List.take_zero, List.drop_succ_cons, Bool.and_true, Bool.true_and, Bool.and_false, Bool.false_and, BitVec.reduceOfInt, Nat.zero_add, Nat.mul_one, Nat.add_zero, Int.zero_add, Int.reduceToNat, Nat.reducePow, ↓reduceIte, reduceCtorEq, Int.reduceLE, Int.reduceLT, Int.reduceEq, Int.reduceNe, Int.reduceAdd, Int.reduceSub, Int.reduceMul, Int.reduceNeg, Nat.reduceBEq, show regOf Try.f36 0 = Code.region _ _ _ from rfl, show regOf Try.f36 1 = Code.region _ _ _ from rfl, show regOf Try.f36 2 = Code.region _ _ _ from rfl, show regOf Try.f36 3 = Code.region _ _ _ from rfl, cu, cb]
    rfl
  | false =>
    by_cases h1 : s1.length < x.toNat
    · rw [if_pos (.inr h1), if_pos (.inr h1)]
      simp (implicitDefEqProofs := false) (disch := omega) only [go_sem, Nat.reduceAdd, Nat.reduceSub, Nat.reduceMul, Nat.reduceLT, Nat.reduceLeDiff, Nat.reduceEqDiff, List.drop_zero, List.take_succ_cons, List.take_zero, List.drop_succ_cons, Bool.and_true, Bool.true_and, Bool.and_false, Bool.false_and, BitVec.reduceOfInt, Nat.zero_add, Nat.mul_one, Nat.add_zero, Int.zero_add, Int.reduceToNat, Nat.reducePow, ↓reduceIte, reduceCtorEq, Int.reduceLE, Int.reduceLT, Int.reduceEq, Int.reduceNe, Int.reduceAdd, Int.reduceSub, Int.reduceMul, Int.reduceNeg, Nat.reduceBEq, show regOf Try.f36 0 = Code.region _ _ _ from rfl, show regOf Try.f36 1 = Code.region _ _ _ from rfl, show regOf Try.f36 2 = Code.region _ _ _ from rfl, show regOf Try.f36 4 = Code.region _ _ _ from rfl, show regOf Try.f36 5 = Code.region _ _ _ from rfl, show regOf Try.f36 6 = Code.region _ _ _ from rfl, cu, cb, hr2, txt_size, BitVec.ofInt_natCast, hw, List.set_set]
      rfl
    · rw [if_neg (by simp [h1]), if_neg (by simp [h1])]
      simp (implicitDefEqProofs := false) (disch := omega) only [go_sem, Nat.reduceAdd, Nat.reduceSub, Nat.reduceMul, Nat.reduceLT, Nat.reduceLeDiff, Nat.reduceEqDiff, List.drop_zero, List.take_succ_cons, List.take_zero, List.drop_succ_cons, Bool.and_true, Bool.true_and, Bool.and_false, Bool.false_and, BitVec.reduceOfInt, Nat.zero_add, Nat.mul_one, Nat.add_zero, Int.zero_add, Int.reduceToNat, Nat.reducePow, ↓reduceIte, reduceCtorEq, Int.reduceLE, Int.reduceLT, Int.reduceEq, Int.reduceNe, Int.reduceAdd, Int.reduceSub, Int.reduceMul, Int.reduceNeg, Nat.reduceBEq, show regOf Try.f36 0 = Code.region _ _ _ from rfl, show regOf Try.f36 1 = Code.region _ _ _ from rfl, show regOf Try.f36 2 = Code.region _ _ _ from rfl, show regOf Try.f36 4 = Code.region _ _ _ from rfl, show regOf Try.f36 7 = Code.region _ _ _ from rfl, show regOf Try.f36 8 = Code.region _ _ _ from rfl, show regOf Try.f36 9 = Code.region _ _ _ from rfl, cu, cb, hr2, txt_size, BitVec.ofInt_natCast, hw, txt_extract, List.set_set, Nat.sub_zero, drop_take]
theorem rT_c (hr : hget h id = RO s b) (hid : id < h.length) (hs : s.length < 2 ^ 62) : doCall md (aval Try.prog md fg) 36 [.ptr id 0] h = some (.val (.string (txt (tA s b))), h.set id (RO (tS s b).1 (tS s b).2)) := doCall_len (by decide) (rT hr hid hs) (by simp)
theorem txt_nil_iff (s : List UInt8) : txt s = ⟨#[]⟩ ↔ s = [] := by
  constructor
  · intro e
    have := congrArg (fun b : ByteArray => b.data.toList) e
    simpa [txt] using this
  · rintro rfl; rfl
theorem rDone (hr : hget h id = RO s b) : aval Try.prog md fg 37 [.ptr id 0] h = some (.val (.bool (!b && s.isEmpty)), h) := by
  rw [aval_of Try.func37 body37 Try.results37 Try.ntmps37 ok37]
  have cb := rBad_c hr
  cases b with
  | true =>
    simp (implicitDefEqProofs := false) (disch := omega) only [go_sem, Nat.reduceAdd, Nat.reduceSub, Nat.reduceMul, Nat.reduceLT, Nat.reduceLeDiff, Nat.reduceEqDiff, List.drop_zero, List.take_succ_cons, List.take_zero, List.drop_succ_cons, Bool.and_true, Bool.true_and, Bool.and_false, Bool.false_and, BitVec.reduceOfInt, Nat.zero_add, Nat.mul_one, Nat.add_zero, Int.zero_add, Int.reduceToNat, Nat.reducePow, ↓reduceIte, reduceCtorEq, Int.reduceLE, Int.reduceLT, Int.reduceEq, Int.reduceNe, Int.reduceAdd, Int.reduceSub, Int.reduceMul, Int.reduceNeg, Nat.reduceBEq, show regOf Try.f37 0 = Code.region _ _ _ from rfl, show regOf Try.f37 1 = Code.region _ _ _ from rfl, cb, Bool.false_and]
  | false =>
    cases s with
    | nil =>
      have e : txt [] = ⟨#[]⟩ := rfl
      simp (implicitDefEqProofs := false) (disch := omega) only [go_sem, Nat.reduceAdd, Nat.reduceSub, Nat.reduceMul, Nat.reduceLT, Nat.reduceLeDiff, Nat.reduceEqDiff, List.drop_zero, List.take_succ_cons, List.take_zero, List.drop_succ_cons, Bool.and_true, Bool.true_and, Bool.and_false, Bool.false_and, BitVec.reduceOfInt, Nat.zero_add, Nat.mul_one, Nat.add_zero, Int.zero_add, Int.reduceToNat, Nat.reducePow, ↓reduceIte, reduceCtorEq, Int.reduceLE, Int.reduceLT, Int.reduceEq, Int.reduceNe, Int.reduceAdd, Int.reduceSub, Int.reduceMul, Int.reduceNeg, Nat.reduceBEq, show regOf Try.f37 0 = Code.region _ _ _ from rfl, show regOf Try.f37 1 = Code.region _ _ _ from rfl, cb, hr, e]
      rfl
    | cons c r =>
      have e : ¬ txt (c :: r) = ⟨#[]⟩ := by rw [txt_nil_iff]; simp
      simp (implicitDefEqProofs := false) (disch := omega) only [go_sem, Nat.reduceAdd, Nat.reduceSub, Nat.reduceMul, Nat.reduceLT, Nat.reduceLeDiff, Nat.reduceEqDiff, List.drop_zero, List.take_succ_cons, List.take_zero, List.drop_succ_cons, Bool.and_true, Bool.true_and, Bool.and_false, Bool.false_and, BitVec.reduceOfInt, Nat.zero_add, Nat.mul_one, Nat.add_zero, Int.zero_add, Int.reduceToNat, Nat.reducePow, ↓reduceIte, reduceCtorEq, Int.reduceLE, Int.reduceLT, Int.reduceEq, Int.reduceNe, Int.reduceAdd, Int.reduceSub, Int.reduceMul, Int.reduceNeg, Nat.reduceBEq, show regOf Try.f37 0 = Code.region _ _ _ from rfl, show regOf Try.f37 1 = Code.region _ _ _ from rfl, cb, hr, e]
      rfl
theorem rDone_c (hr : hget h id = RO s b) : doCall md (aval Try.prog md fg) 37 [.ptr id 0] h = some (.val (.bool (!b && s.isEmpty)), h) := doCall_len (by decide) (rDone hr) rfl
/-! ### The reference's -/
theorem qU (hr : hget h id = RO s b) (hid : id < h.length) (hs : s.length < 2 ^ 62) : aval Try.prog md fg 39 [.ptr id 0] h = some (v64 (uA s b), h.set id (RO (uS s b).1 (uS s b).2)) := by
  rw [aval_of Try.func39 body39 Try.results39 Try.ntmps39 ok39]
  have c1 : doCall md (aval Try.prog md fg) 25 [.val (.string (txt s))] h = some (.tup [v64 (goU 0 0#64 s).1, .int ((goU 0 0#64 s).2 : Int)], h) := doCall_pure md25 rfl ((refGetUvarint_p s hs).trans (by rw [goU_eq]))
  have hle := goU_le s
  have hz := txt_size s
  cases b with
  | true =>
    simp (implicitDefEqProofs := false) (disch := omega) only [go_sem, Nat.reduceAdd, Nat.reduceSub, Nat.reduceMul, Nat.reduceLT, Nat.reduceLeDiff, Nat.reduceEqDiff, List.drop_zero, List.take_succ_cons, List.take_zero, List.drop_succ_cons, Bool.and_true, Bool.true_and, Bool.and_false, Bool.false_and, BitVec.reduceOfInt, Nat.zero_add, Nat.mul_one, Nat.add_zero, Int.zero_add, Int.reduceToNat, Nat.reducePow, ↓reduceIte, reduceCtorEq, Int.reduceLE, Int.reduceLT, Int.reduceEq, Int.reduceNe, Int.reduceAdd, Int.reduceSub, Int.reduceMul, Int.reduceNeg, Nat.reduceBEq, show regOf Try.f39 0 = Code.region _ _ _ from rfl, show regOf Try.f39 1 = Code.region _ _ _ from rfl, show regOf Try.f39 2 = Code.region _ _ _ from rfl, hr]
    unfold uA uS
    rw [if_pos rfl, if_pos rfl, set_same hr hid]
    rfl
  | false =>
    unfold uA uS uAns uRest
    rw [if_neg (by simp), if_neg (by simp)]
    by_cases h0 : (goU 0 0#64 s).2 = 0
    · rw [if_pos h0, goU_zero h0]
      rw [h0, goU_zero h0] at c1
      simp (implicitDefEqProofs := false) (disch := omega) only [go_sem, Nat.reduceAdd, Nat.reduceSub, Nat.reduceMul, Nat.reduceLT, Nat.reduceLeDiff, Nat.reduceEqDiff, List.drop_zero, List.take_succ_cons, List.take_zero, List.drop_succ_cons, Bool.and_true, Bool.true_and, Bool.and_false, Bool.false_and, BitVec.reduceOfInt, Nat.zero_add, Nat.mul_one, Nat.add_zero, Int.zero_add, Int.reduceToNat, Nat.reducePow, ↓reduceIte, reduceCtorEq, Int.reduceLE, Int.reduceLT, Int.reduceEq, Int.reduceNe, Int.reduceAdd, Int.reduceSub, Int.reduceMul, Int.reduceNeg, Nat.reduceBEq, show regOf Try.f39 0 = Code.region _ _ _ from rfl, show regOf Try.f39 1 = Code.region _ _ _ from rfl, show regOf Try.f39 3 = Code.region _ _ _ from rfl, show regOf Try.f39 4 = Code.region _ _ _ from rfl, show regOf Try.f39 5 = Code.region _ _ _ from rfl, show regOf Try.f39 6 = Code.region _ _ _ from rfl, hr, c1, Int.natCast_zero]
      rfl
    · rw [if_neg h0]
      simp (implicitDefEqProofs := false) (disch := omega) only [go_sem, Nat.reduceAdd, Nat.reduceSub, Nat.reduceMul, Nat.reduceLT, Nat.reduceLeDiff, Nat.reduceEqDiff, List.drop_zero, List.take_succ_cons, List.take_zero, List.drop_succ_cons, Bool.and_true, Bool.true_and, Bool.and_false, Bool.false_and, BitVec.reduceOfInt, Nat.zero_add, Nat.mul_one, Nat.add_zero, Int.zero_add, Int.reduceToNat, Nat.reducePow, ↓reduceIte, reduceCtorEq, Int.reduceLE, Int.reduceLT, Int.reduceEq, Int.reduceNe, Int.reduceAdd, Int.reduceSub, Int.reduceMul, Int.reduceNeg, Nat.reduceBEq, show regOf Try.f39 0 = Code.region _ _ _ from rfl, show regOf Try.f39 1 = Code.region _ _ _ from rfl, show regOf Try.f39 3 = Code.region _ _ _ from rfl, show regOf Try.f39 4 = Code.region _ _ _ from rfl, show regOf Try.f39 7 = Code.region _ _ _ from rfl, show regOf Try.f39 8 = Code.region _ _ _ from rfl, hr, c1, txt_extract, txt_size, drop_take]
theorem qU_c (hr : hget h id = RO s b) (hid : id < h.length) (hs : s.length < 2 ^ 62) : doCall md (aval Try.prog md fg) 39 [.ptr id 0] h = some (v64 (uA s b), h.set id (RO (uS s b).1 (uS s b).2)) := doCall_len (by decide) (qU hr hid hs) (by simp)
theorem qT (hr : hget h id = RO s b) (hid : id < h.length) (hs : s.length < 2 ^ 62) : aval Try.prog md fg 40 [.ptr id 0] h = some (.val (.string (txt (tA s b))), h.set id (RO (tS s b).1 (tS s b).2)) := by
  rw [aval_of Try.func40 body40 Try.results40 Try.ntmps40 ok40]
  have hr2 : hget (h.set id (RO (uS s b).1 (uS s b).2)) id = RO (uS s b).1 (uS s b).2 := hget_set_eq hid
  have hl := uS_len s b
  have hsz := txt_size (uS s b).1
  unfold tA tS
  obtain ⟨s1, b1, e1⟩ : ∃ s1 b1, uS s b = (s1, b1) := ⟨_, _, rfl⟩
  have cu := qU_c hr hid hs
  rw [e1] at hr2 hsz cu hl ⊢
  obtain ⟨x, hx⟩ : ∃ x, uA s b = x := ⟨_, rfl⟩
  rw [hx] at cu ⊢
  dsimp only at hr2 hsz cu hl ⊢
  have hw : (BitVec.ofNat 64 s1.length).toNat = s1.length := by rw [BitVec.toNat_ofNat]; exact Nat.mod_eq_of_lt (by omega)
  cases b1 with
  | true =>
    rw [if_pos (.inl rfl), if_pos (.inl rfl)]
    simp (implicitDefEqProofs := false) (disch := omega) only [go_sem, Nat.reduceAdd, Nat.reduceSub, Nat.reduceMul, Nat.reduceLT, Nat.reduceLeDiff, Nat.reduceEqDiff, List.drop_zero, List.take_succ_cons, List.take_zero, List.drop_succ_cons, Bool.and_true, Bool.true_and, Bool.and_false, Bool.false_and, BitVec.reduceOfInt, Nat.zero_add, Nat.mul_one, Nat.add_zero, Int.zero_add, Int.reduceToNat, Nat.reducePow, ↓reduceIte, reduceCtorEq, Int.reduceLE, Int.reduceLT, Int.reduceEq, Int.reduceNe, Int.reduceAdd, Int.reduceSub, Int.reduceMul, Int.reduceNeg, Nat.reduceBEq, show regOf Try.f40 0 = Code.region _ _ _ from rfl, show regOf Try.f40 1 = Code.region _ _ _ from rfl, show regOf Try.f40 2 = Code.region _ _ _ from rfl, show regOf Try.f40 3 = Code.region _ _ _ from rfl, show regOf Try.f40 4 = Code.region _ _ _ from rfl, cu, hr2, List.set_set]
    rfl
  | false =>
    by_cases h1 : s1.length < x.toNat
    · rw [if_pos (.inr h1), if_pos (.inr h1)]
      simp (implicitDefEqProofs := false) (disch := omega) only [go_sem, Nat.reduceAdd, Nat.reduceSub, Nat.reduceMul, Nat.reduceLT, Nat.reduceLeDiff, Nat.reduceEqDiff, List.drop_zero, List.take_succ_cons, List.take_zero, List.drop_succ_cons, Bool.and_true, Bool.true_and, Bool.and_false, Bool.false_and, BitVec.reduceOfInt, Nat.zero_add, Nat.mul_one, Nat.add_zero, Int.zero_add, Int.reduceToNat, Nat.reducePow, ↓reduceIte, reduceCtorEq, Int.reduceLE, Int.reduceLT, Int.reduceEq, Int.reduceNe, Int.reduceAdd, Int.reduceSub, Int.reduceMul, Int.reduceNeg, Nat.reduceBEq, show regOf Try.f40 0 = Code.region _ _ _ from rfl, show regOf Try.f40 1 = Code.region _ _ _ from rfl, show regOf Try.f40 2 = Code.region _ _ _ from rfl, show regOf Try.f40 3 = Code.region _ _ _ from rfl, show regOf Try.f40 4 = Code.region _ _ _ from rfl, cu, hr2, txt_size, BitVec.ofInt_natCast, hw, List.set_set]
      rfl
    · rw [if_neg (by simp [h1]), if_neg (by simp [h1])]
      have hi : x.toInt = (x.toNat : Int) := by
        rw [BitVec.toInt_eq_toNat_cond, if_pos (by omega)]
      simp (implicitDefEqProofs := false) (disch := omega) only [go_sem, Nat.reduceAdd, Nat.reduceSub, Nat.reduceMul, Nat.reduceLT, Nat.reduceLeDiff, Nat.reduceEqDiff, List.drop_zero, List.take_succ_cons, List.take_zero, List.drop_succ_cons, Bool.and_true, Bool.true_and, Bool.and_false, Bool.false_and, BitVec.reduceOfInt, Nat.zero_add, Nat.mul_one, Nat.add_zero, Int.zero_add, Int.reduceToNat, Nat.reducePow, ↓reduceIte, reduceCtorEq, Int.reduceLE, Int.reduceLT, Int.reduceEq, Int.reduceNe, Int.reduceAdd, Int.reduceSub, Int.reduceMul, Int.reduceNeg, Nat.reduceBEq, show regOf Try.f40 0 = Code.region _ _ _ from rfl, show regOf Try.f40 1 = Code.region _ _ _ from rfl, show regOf Try.f40 2 = Code.region _ _ _ from rfl, show regOf Try.f40 5 = Code.region _ _ _ from rfl, show regOf Try.f40 6 = Code.region _ _ _ from rfl, show regOf Try.f40 7 = Code.region _ _ _ from rfl, cu, hr2, txt_size, BitVec.ofInt_natCast, hw, hi, txt_extract, List.set_set, Nat.sub_zero, drop_take]
theorem qT_c (hr : hget h id = RO s b) (hid : id < h.length) (hs : s.length < 2 ^ 62) : doCall md (aval Try.prog md fg) 40 [.ptr id 0] h = some (.val (.string (txt (tA s b))), h.set id (RO (tS s b).1 (tS s b).2)) := doCall_len (by decide) (qT hr hid hs) (by simp)
end reader
end Go.Proofs.Ytlpkfeplbcadbaa
