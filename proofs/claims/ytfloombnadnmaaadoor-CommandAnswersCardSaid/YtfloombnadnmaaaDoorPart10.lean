/- Parts of the proof, each with its own heading: Readers, by rounds: all calls, and the reference's. Writers, by rounds. CodecReads, by rounds. CodecWrites, by rounds: items, Text, the first loop. CodecWrites, by rounds: what was written is read back. CodecWrites: all of it. Commands: the plain functions of a kind. Commands: parts, versions, packages' names. Commands: packages' names. Commands: strings.Trim. Commands: packages' names, both ways. -/
import Derived.Test.YtfloombnadnmaaaDoorPart9
set_option linter.unusedSimpArgs false
set_option linter.unusedVariables false
namespace Go.Proofs.YtfloombnadnmaaaDoor
open Go Go.Ab Go.Proofs
set_option maxRecDepth 100000
set_option linter.unusedSimpArgs false
set_option linter.unusedVariables false
/-- What a call U answers and leaves. -/
def uA (s : List UInt8) (b : Bool) : BitVec 64 := if b then 0#64 else uAns s
def uS (s : List UInt8) (b : Bool) : List UInt8 × Bool := if b then (s, true) else uRest s
/-- What a call T answers and leaves. -/
def tA (s : List UInt8) (b : Bool) : List UInt8 := if (uS s b).2 = true ∨ (uS s b).1.length < (uA s b).toNat then [] else (uS s b).1.take (uA s b).toNat
def tS (s : List UInt8) (b : Bool) : List UInt8 × Bool := if (uS s b).2 = true ∨ (uS s b).1.length < (uA s b).toNat then ((uS s b).1, true) else ((uS s b).1.drop (uA s b).toNat, false)
theorem set_same {h : AHeap} {i : Nat} {o : AObj} (ho : hget h i = o) (hi : i < h.length) : h.set i o = h := by
  apply List.ext_getElem?
  intro j
  by_cases e : i = j
  · subst e
    rw [List.getElem?_set_self hi]
    unfold hget at ho
    rw [List.getD_eq_getElem?_getD, List.getElem?_eq_getElem hi] at ho
    rw [List.getElem?_eq_getElem hi, ← ho]; rfl
  · rw [List.getElem?_set_ne e]
theorem uS_len (s : List UInt8) (b : Bool) : (uS s b).1.length ≤ s.length := by
  unfold uS uRest; split
  · exact Nat.le_refl _
  · split
    · exact Nat.le_refl _
    · simp
theorem tS_len (s : List UInt8) (b : Bool) : (tS s b).1.length ≤ s.length := by
  have := uS_len s b
  unfold tS; split
  · exact this
  · simp only [List.length_drop]; omega
section reader
variable {h : AHeap} {id : Nat} {s : List UInt8} {b : Bool}
/-- The object behind a reader. -/
abbrev RO (s : List UInt8) (b : Bool) : AObj := .vars [.val (.string (txt s)), .val (.bool b)]
theorem rU2 (hr : hget h id = RO s b) (hid : id < h.length) (hs : s.length < 2 ^ 62) : aval Tryd.prog md fg 45 [.ptr id 0] h = some (v64 (uA s b), h.set id (RO (uS s b).1 (uS s b).2)) := by
  cases b with
  | true => rw [rU_bad hr]; unfold uA uS; rw [if_pos rfl, if_pos rfl, set_same hr hid]
  | false => rw [rU hr hid hs]; rfl
theorem rU_c (hr : hget h id = RO s b) (hid : id < h.length) (hs : s.length < 2 ^ 62) : doCall md (aval Tryd.prog md fg) 45 [.ptr id 0] h = some (v64 (uA s b), h.set id (RO (uS s b).1 (uS s b).2)) := doCall_len (by decide) (rU2 hr hid hs) (by simp)
theorem rI (hr : hget h id = RO s b) (hid : id < h.length) (hs : s.length < 2 ^ 62) : aval Tryd.prog md fg 44 [.ptr id 0] h = some (.int (zagN (uA s b).toNat), h.set id (RO (uS s b).1 (uS s b).2)) := by
  rw [aval_of Tryd.func44 body44 Tryd.results44 Tryd.ntmps44 ok44]
  have cz : ∀ g, doCall md (aval Tryd.prog md fg) 57 [v64 (uA s b)] g = some (.val (.int .i64 (zagN (uA s b).toNat)), g) := fun g => doCall_pure md57 rfl (zag_p (by omega) (by have := (uA s b).isLt; omega))
  have hz := zagN_range (x := ((uA s b).toNat : Int)) (by omega) (by have := (uA s b).isLt; omega)
  simp (implicitDefEqProofs := false) (disch := omega) only [go_sem, Nat.reduceAdd, Nat.reduceSub, Nat.reduceMul, Nat.reduceLT, Nat.reduceLeDiff, Nat.reduceEqDiff, List.drop_zero, List.take_succ_cons, List.take_zero, List.drop_succ_cons, Bool.and_true, Bool.true_and, Bool.and_false, Bool.false_and, BitVec.reduceOfInt, Nat.zero_add, Nat.mul_one, Nat.add_zero, Int.zero_add, Int.reduceToNat, Nat.reducePow, ↓reduceIte, reduceCtorEq, Int.reduceLE, Int.reduceLT, Int.reduceEq, Int.reduceNe, Int.reduceAdd, Int.reduceSub, Int.reduceMul, Int.reduceNeg, Nat.reduceBEq, show regOf Tryd.f44 0 = Code.region _ _ _ from rfl, show regOf Tryd.f44 1 = Code.region _ _ _ from rfl, rU_c hr hid hs, cz]
theorem rI_c (hr : hget h id = RO s b) (hid : id < h.length) (hs : s.length < 2 ^ 62) : doCall md (aval Tryd.prog md fg) 44 [.ptr id 0] h = some (.int (zagN (uA s b).toNat), h.set id (RO (uS s b).1 (uS s b).2)) := doCall_len (by decide) (rI hr hid hs) (by simp)
theorem rT (hr : hget h id = RO s b) (hid : id < h.length) (hs : s.length < 2 ^ 62) : aval Tryd.prog md fg 37 [.ptr id 0] h = some (.val (.string (txt (tA s b))), h.set id (RO (tS s b).1 (tS s b).2)) := by
  rw [aval_of Tryd.func37 body37 Tryd.results37 Tryd.ntmps37 ok37]
  have hr2 : hget (h.set id (RO (uS s b).1 (uS s b).2)) id = RO (uS s b).1 (uS s b).2 := hget_set_eq hid
  have hl := uS_len s b
  have cb := rBad_c hr2
  have hsz := txt_size (uS s b).1
  unfold tA tS
  obtain ⟨s1, b1, e1⟩ : ∃ s1 b1, uS s b = (s1, b1) := ⟨_, _, rfl⟩
  have cu := rU_c hr hid hs
  rw [e1] at hr2 cb hsz cu hl ⊢
  obtain ⟨x, hx⟩ : ∃ x, uA s b = x := ⟨_, rfl⟩
  rw [hx] at cu ⊢
  dsimp only at hr2 cb hsz cu hl ⊢
  have ht : ((s1.length : Int)).toNat = s1.length := by omega
  have hw : (BitVec.ofNat 64 s1.length).toNat = s1.length := by rw [BitVec.toNat_ofNat]; exact Nat.mod_eq_of_lt (by omega)
  cases b1 with
  | true =>
    rw [if_pos (.inl rfl), if_pos (.inl rfl)]
    simp (implicitDefEqProofs := false) (disch := omega) only [go_sem, Nat.reduceAdd, Nat.reduceSub, Nat.reduceMul, Nat.reduceLT, Nat.reduceLeDiff, Nat.reduceEqDiff, List.drop_zero, List.take_succ_cons, List.take_zero, List.drop_succ_cons, Bool.and_true, Bool.true_and, Bool.and_false, Bool.false_and, BitVec.reduceOfInt, Nat.zero_add, Nat.mul_one, Nat.add_zero, Int.zero_add, Int.reduceToNat, Nat.reducePow, ↓reduceIte, reduceCtorEq, Int.reduceLE, Int.reduceLT, Int.reduceEq, Int.reduceNe, Int.reduceAdd, Int.reduceSub, Int.reduceMul, Int.reduceNeg, Nat.reduceBEq, show regOf Tryd.f37 0 = Code.region _ _ _ from rfl, show regOf Tryd.f37 1 = Code.region _ _ _ from rfl, show regOf Tryd.f37 2 = Code.region _ _ _ from rfl, show regOf Tryd.f37 3 = Code.region _ _ _ from rfl, cu, cb]
    rfl
  | false =>
    by_cases h1 : s1.length < x.toNat
    · rw [if_pos (.inr h1), if_pos (.inr h1)]
      simp (implicitDefEqProofs := false) (disch := omega) only [go_sem, Nat.reduceAdd, Nat.reduceSub, Nat.reduceMul, Nat.reduceLT, Nat.reduceLeDiff, Nat.reduceEqDiff, List.drop_zero, List.take_succ_cons, List.take_zero, List.drop_succ_cons, Bool.and_true, Bool.true_and, Bool.and_false, Bool.false_and, BitVec.reduceOfInt, Nat.zero_add, Nat.mul_one, Nat.add_zero, Int.zero_add, Int.reduceToNat, Nat.reducePow, ↓reduceIte, reduceCtorEq, Int.reduceLE, Int.reduceLT, Int.reduceEq, Int.reduceNe, Int.reduceAdd, Int.reduceSub, Int.reduceMul, Int.reduceNeg, Nat.reduceBEq, show regOf Tryd.f37 0 = Code.region _ _ _ from rfl, show regOf Tryd.f37 1 = Code.region _ _ _ from rfl, show regOf Tryd.f37 2 = Code.region _ _ _ from rfl, show regOf Tryd.f37 4 = Code.region _ _ _ from rfl, show regOf Tryd.f37 5 = Code.region _ _ _ from rfl, show regOf Tryd.f37 6 = Code.region _ _ _ from rfl, cu, cb, hr2, txt_size, BitVec.ofInt_natCast, hw, List.set_set]
      rfl
    · rw [if_neg (by simp [h1]), if_neg (by simp [h1])]
      simp (implicitDefEqProofs := false) (disch := omega) only [go_sem, Nat.reduceAdd, Nat.reduceSub, Nat.reduceMul, Nat.reduceLT, Nat.reduceLeDiff, Nat.reduceEqDiff, List.drop_zero, List.take_succ_cons, List.take_zero, List.drop_succ_cons, Bool.and_true, Bool.true_and, Bool.and_false, Bool.false_and, BitVec.reduceOfInt, Nat.zero_add, Nat.mul_one, Nat.add_zero, Int.zero_add, Int.reduceToNat, Nat.reducePow, ↓reduceIte, reduceCtorEq, Int.reduceLE, Int.reduceLT, Int.reduceEq, Int.reduceNe, Int.reduceAdd, Int.reduceSub, Int.reduceMul, Int.reduceNeg, Nat.reduceBEq, show regOf Tryd.f37 0 = Code.region _ _ _ from rfl, show regOf Tryd.f37 1 = Code.region _ _ _ from rfl, show regOf Tryd.f37 2 = Code.region _ _ _ from rfl, show regOf Tryd.f37 4 = Code.region _ _ _ from rfl, show regOf Tryd.f37 7 = Code.region _ _ _ from rfl, show regOf Tryd.f37 8 = Code.region _ _ _ from rfl, show regOf Tryd.f37 9 = Code.region _ _ _ from rfl, cu, cb, hr2, txt_size, BitVec.ofInt_natCast, hw, txt_extract, List.set_set, Nat.sub_zero, drop_take]
theorem rT_c (hr : hget h id = RO s b) (hid : id < h.length) (hs : s.length < 2 ^ 62) : doCall md (aval Tryd.prog md fg) 37 [.ptr id 0] h = some (.val (.string (txt (tA s b))), h.set id (RO (tS s b).1 (tS s b).2)) := doCall_len (by decide) (rT hr hid hs) (by simp)
theorem txt_nil_iff (s : List UInt8) : txt s = ⟨#[]⟩ ↔ s = [] := by
  constructor
  · intro e
    have := congrArg (fun b : ByteArray => b.data.toList) e
    simpa [txt] using this
  · rintro rfl; rfl
theorem rDone (hr : hget h id = RO s b) : aval Tryd.prog md fg 38 [.ptr id 0] h = some (.val (.bool (!b && s.isEmpty)), h) := by
  rw [aval_of Tryd.func38 body38 Tryd.results38 Tryd.ntmps38 ok38]
  have cb := rBad_c hr
  cases b with
  | true =>
    simp (implicitDefEqProofs := false) (disch := omega) only [go_sem, Nat.reduceAdd, Nat.reduceSub, Nat.reduceMul, Nat.reduceLT, Nat.reduceLeDiff, Nat.reduceEqDiff, List.drop_zero, List.take_succ_cons, List.take_zero, List.drop_succ_cons, Bool.and_true, Bool.true_and, Bool.and_false, Bool.false_and, BitVec.reduceOfInt, Nat.zero_add, Nat.mul_one, Nat.add_zero, Int.zero_add, Int.reduceToNat, Nat.reducePow, ↓reduceIte, reduceCtorEq, Int.reduceLE, Int.reduceLT, Int.reduceEq, Int.reduceNe, Int.reduceAdd, Int.reduceSub, Int.reduceMul, Int.reduceNeg, Nat.reduceBEq, show regOf Tryd.f38 0 = Code.region _ _ _ from rfl, show regOf Tryd.f38 1 = Code.region _ _ _ from rfl, cb, Bool.false_and]
  | false =>
    cases s with
    | nil =>
      have e : txt [] = ⟨#[]⟩ := rfl
      simp (implicitDefEqProofs := false) (disch := omega) only [go_sem, Nat.reduceAdd, Nat.reduceSub, Nat.reduceMul, Nat.reduceLT, Nat.reduceLeDiff, Nat.reduceEqDiff, List.drop_zero, List.take_succ_cons, List.take_zero, List.drop_succ_cons, Bool.and_true, Bool.true_and, Bool.and_false, Bool.false_and, BitVec.reduceOfInt, Nat.zero_add, Nat.mul_one, Nat.add_zero, Int.zero_add, Int.reduceToNat, Nat.reducePow, ↓reduceIte, reduceCtorEq, Int.reduceLE, Int.reduceLT, Int.reduceEq, Int.reduceNe, Int.reduceAdd, Int.reduceSub, Int.reduceMul, Int.reduceNeg, Nat.reduceBEq, show regOf Tryd.f38 0 = Code.region _ _ _ from rfl, show regOf Tryd.f38 1 = Code.region _ _ _ from rfl, cb, hr, e]
      rfl
    | cons c r =>
      have e : ¬ txt (c :: r) = ⟨#[]⟩ := by rw [txt_nil_iff]; simp
      simp (implicitDefEqProofs := false) (disch := omega) only [go_sem, Nat.reduceAdd, Nat.reduceSub, Nat.reduceMul, Nat.reduceLT, Nat.reduceLeDiff, Nat.reduceEqDiff, List.drop_zero, List.take_succ_cons, List.take_zero, List.drop_succ_cons, Bool.and_true, Bool.true_and, Bool.and_false, Bool.false_and, BitVec.reduceOfInt, Nat.zero_add, Nat.mul_one, Nat.add_zero, Int.zero_add, Int.reduceToNat, Nat.reducePow, ↓reduceIte, reduceCtorEq, Int.reduceLE, Int.reduceLT, Int.reduceEq, Int.reduceNe, Int.reduceAdd, Int.reduceSub, Int.reduceMul, Int.reduceNeg, Nat.reduceBEq, show regOf Tryd.f38 0 = Code.region _ _ _ from rfl, show regOf Tryd.f38 1 = Code.region _ _ _ from rfl, cb, hr, e]
      rfl
theorem rDone_c (hr : hget h id = RO s b) : doCall md (aval Tryd.prog md fg) 38 [.ptr id 0] h = some (.val (.bool (!b && s.isEmpty)), h) := doCall_len (by decide) (rDone hr) rfl
/-! ### The reference's -/
theorem qU (hr : hget h id = RO s b) (hid : id < h.length) (hs : s.length < 2 ^ 62) : aval Tryd.prog md fg 40 [.ptr id 0] h = some (v64 (uA s b), h.set id (RO (uS s b).1 (uS s b).2)) := by
  rw [aval_of Tryd.func40 body40 Tryd.results40 Tryd.ntmps40 ok40]
  have c1 : doCall md (aval Tryd.prog md fg) 55 [.val (.string (txt s))] h = some (.tup [v64 (goU 0 0#64 s).1, .int ((goU 0 0#64 s).2 : Int)], h) := doCall_pure md55 rfl ((refGetUvarint_p s hs).trans (by rw [goU_eq]))
  have hle := goU_le s
  have hz := txt_size s
  cases b with
  | true =>
    simp (implicitDefEqProofs := false) (disch := omega) only [go_sem, Nat.reduceAdd, Nat.reduceSub, Nat.reduceMul, Nat.reduceLT, Nat.reduceLeDiff, Nat.reduceEqDiff, List.drop_zero, List.take_succ_cons, List.take_zero, List.drop_succ_cons, Bool.and_true, Bool.true_and, Bool.and_false, Bool.false_and, BitVec.reduceOfInt, Nat.zero_add, Nat.mul_one, Nat.add_zero, Int.zero_add, Int.reduceToNat, Nat.reducePow, ↓reduceIte, reduceCtorEq, Int.reduceLE, Int.reduceLT, Int.reduceEq, Int.reduceNe, Int.reduceAdd, Int.reduceSub, Int.reduceMul, Int.reduceNeg, Nat.reduceBEq, show regOf Tryd.f40 0 = Code.region _ _ _ from rfl, show regOf Tryd.f40 1 = Code.region _ _ _ from rfl, show regOf Tryd.f40 2 = Code.region _ _ _ from rfl, hr]
    unfold uA uS
    rw [if_pos rfl, if_pos rfl, set_same hr hid]
    rfl
  | false =>
    unfold uA uS uAns uRest
    rw [if_neg (by simp), if_neg (by simp)]
    by_cases h0 : (goU 0 0#64 s).2 = 0
    · rw [if_pos h0, goU_zero h0]
      rw [h0, goU_zero h0] at c1
      simp (implicitDefEqProofs := false) (disch := omega) only [go_sem, Nat.reduceAdd, Nat.reduceSub, Nat.reduceMul, Nat.reduceLT, Nat.reduceLeDiff, Nat.reduceEqDiff, List.drop_zero, List.take_succ_cons, List.take_zero, List.drop_succ_cons, Bool.and_true, Bool.true_and, Bool.and_false, Bool.false_and, BitVec.reduceOfInt, Nat.zero_add, Nat.mul_one, Nat.add_zero, Int.zero_add, Int.reduceToNat, Nat.reducePow, ↓reduceIte, reduceCtorEq, Int.reduceLE, Int.reduceLT, Int.reduceEq, Int.reduceNe, Int.reduceAdd, Int.reduceSub, Int.reduceMul, Int.reduceNeg, Nat.reduceBEq, show regOf Tryd.f40 0 = Code.region _ _ _ from rfl, show regOf Tryd.f40 1 = Code.region _ _ _ from rfl, show regOf Tryd.f40 3 = Code.region _ _ _ from rfl, show regOf Tryd.f40 4 = Code.region _ _ _ from rfl, show regOf Tryd.f40 5 = Code.region _ _ _ from rfl, show regOf Tryd.f40 6 = Code.region _ _ _ from rfl, hr, c1, Int.natCast_zero]
      rfl
    · rw [if_neg h0]
      simp (implicitDefEqProofs := false) (disch := omega) only [go_sem, Nat.reduceAdd, Nat.reduceSub, Nat.reduceMul, Nat.reduceLT, Nat.reduceLeDiff, Nat.reduceEqDiff, List.drop_zero, List.take_succ_cons, List.take_zero, List.drop_succ_cons, Bool.and_true, Bool.true_and, Bool.and_false, Bool.false_and, BitVec.reduceOfInt, Nat.zero_add, Nat.mul_one, Nat.add_zero, Int.zero_add, Int.reduceToNat, Nat.reducePow, ↓reduceIte, reduceCtorEq, Int.reduceLE, Int.reduceLT, Int.reduceEq, Int.reduceNe, Int.reduceAdd, Int.reduceSub, Int.reduceMul, Int.reduceNeg, Nat.reduceBEq, show regOf Tryd.f40 0 = Code.region _ _ _ from rfl, show regOf Tryd.f40 1 = Code.region _ _ _ from rfl, show regOf Tryd.f40 3 = Code.region _ _ _ from rfl, show regOf Tryd.f40 4 = Code.region _ _ _ from rfl, show regOf Tryd.f40 7 = Code.region _ _ _ from rfl, show regOf Tryd.f40 8 = Code.region _ _ _ from rfl, hr, c1, txt_extract, txt_size, drop_take]
theorem qU_c (hr : hget h id = RO s b) (hid : id < h.length) (hs : s.length < 2 ^ 62) : doCall md (aval Tryd.prog md fg) 40 [.ptr id 0] h = some (v64 (uA s b), h.set id (RO (uS s b).1 (uS s b).2)) := doCall_len (by decide) (qU hr hid hs) (by simp)
theorem qT (hr : hget h id = RO s b) (hid : id < h.length) (hs : s.length < 2 ^ 62) : aval Tryd.prog md fg 42 [.ptr id 0] h = some (.val (.string (txt (tA s b))), h.set id (RO (tS s b).1 (tS s b).2)) := by
  rw [aval_of Tryd.func42 body42 Tryd.results42 Tryd.ntmps42 ok42]
  have hr2 : hget (h.set id (RO (uS s b).1 (uS s b).2)) id = RO (uS s b).1 (uS s b).2 := hget_set_eq hid
  have hl := uS_len s b
  have hsz := txt_size (uS s b).1
  unfold tA tS
  obtain ⟨s1, b1, e1⟩ : ∃ s1 b1, uS s b = (s1, b1) := ⟨_, _, rfl⟩
  have cu := qU_c hr hid hs
  rw [e1] at hr2 hsz cu hl ⊢
  obtain ⟨x, hx⟩ : ∃ x, uA s b = x := ⟨_, rfl⟩
  rw [hx] at cu ⊢
  dsimp only at hr2 hsz cu hl ⊢
  have hw : (BitVec.ofNat 64 s1.length).toNat = s1.length := by rw [BitVec.toNat_ofNat]; exact Nat.mod_eq_of_lt (by omega)
  cases b1 with
  | true =>
    rw [if_pos (.inl rfl), if_pos (.inl rfl)]
    simp (implicitDefEqProofs := false) (disch := omega) only [go_sem, Nat.reduceAdd, Nat.reduceSub, Nat.reduceMul, Nat.reduceLT, Nat.reduceLeDiff, Nat.reduceEqDiff, List.drop_zero, List.take_succ_cons, List.take_zero, List.drop_succ_cons, Bool.and_true, Bool.true_and, Bool.and_false, Bool.false_and, BitVec.reduceOfInt, Nat.zero_add, Nat.mul_one, Nat.add_zero, Int.zero_add, Int.reduceToNat, Nat.reducePow, ↓reduceIte, reduceCtorEq, Int.reduceLE, Int.reduceLT, Int.reduceEq, Int.reduceNe, Int.reduceAdd, Int.reduceSub, Int.reduceMul, Int.reduceNeg, Nat.reduceBEq, show regOf Tryd.f42 0 = Code.region _ _ _ from rfl, show regOf Tryd.f42 1 = Code.region _ _ _ from rfl, show regOf Tryd.f42 2 = Code.region _ _ _ from rfl, show regOf Tryd.f42 3 = Code.region _ _ _ from rfl, show regOf Tryd.f42 4 = Code.region _ _ _ from rfl, cu, hr2, List.set_set]
    rfl
  | false =>
    by_cases h1 : s1.length < x.toNat
    · rw [if_pos (.inr h1), if_pos (.inr h1)]
      simp (implicitDefEqProofs := false) (disch := omega) only [go_sem, Nat.reduceAdd, Nat.reduceSub, Nat.reduceMul, Nat.reduceLT, Nat.reduceLeDiff, Nat.reduceEqDiff, List.drop_zero, List.take_succ_cons, List.take_zero, List.drop_succ_cons, Bool.and_true, Bool.true_and, Bool.and_false, Bool.false_and, BitVec.reduceOfInt, Nat.zero_add, Nat.mul_one, Nat.add_zero, Int.zero_add, Int.reduceToNat, Nat.reducePow, ↓reduceIte, reduceCtorEq, Int.reduceLE, Int.reduceLT, Int.reduceEq, Int.reduceNe, Int.reduceAdd, Int.reduceSub, Int.reduceMul, Int.reduceNeg, Nat.reduceBEq, show regOf Tryd.f42 0 = Code.region _ _ _ from rfl, show regOf Tryd.f42 1 = Code.region _ _ _ from rfl, show regOf Tryd.f42 2 = Code.region _ _ _ from rfl, show regOf Tryd.f42 3 = Code.region _ _ _ from rfl, show regOf Tryd.f42 4 = Code.region _ _ _ from rfl, cu, hr2, txt_size, BitVec.ofInt_natCast, hw, List.set_set]
      rfl
    · rw [if_neg (by simp [h1]), if_neg (by simp [h1])]
      have hi : x.toInt = (x.toNat : Int) := by
        rw [BitVec.toInt_eq_toNat_cond, if_pos (by omega)]
      simp (implicitDefEqProofs := false) (disch := omega) only [go_sem, Nat.reduceAdd, Nat.reduceSub, Nat.reduceMul, Nat.reduceLT, Nat.reduceLeDiff, Nat.reduceEqDiff, List.drop_zero, List.take_succ_cons, List.take_zero, List.drop_succ_cons, Bool.and_true, Bool.true_and, Bool.and_false, Bool.false_and, BitVec.reduceOfInt, Nat.zero_add, Nat.mul_one, Nat.add_zero, Int.zero_add, Int.reduceToNat, Nat.reducePow, ↓reduceIte, reduceCtorEq, Int.reduceLE, Int.reduceLT, Int.reduceEq, Int.reduceNe, Int.reduceAdd, Int.reduceSub, Int.reduceMul, Int.reduceNeg, Nat.reduceBEq, show regOf Tryd.f42 0 = Code.region _ _ _ from rfl, show regOf Tryd.f42 1 = Code.region _ _ _ from rfl, show regOf Tryd.f42 2 = Code.region _ _ _ from rfl, show regOf Tryd.f42 5 = Code.region _ _ _ from rfl, show regOf Tryd.f42 6 = Code.region _ _ _ from rfl, show regOf Tryd.f42 7 = Code.region _ _ _ from rfl, cu, hr2, txt_size, BitVec.ofInt_natCast, hw, hi, txt_extract, List.set_set, Nat.sub_zero, drop_take]
theorem qT_c (hr : hget h id = RO s b) (hid : id < h.length) (hs : s.length < 2 ^ 62) : doCall md (aval Tryd.prog md fg) 42 [.ptr id 0] h = some (.val (.string (txt (tA s b))), h.set id (RO (tS s b).1 (tS s b).2)) := doCall_len (by decide) (qT hr hid hs) (by simp)
end reader
end Go.Proofs.YtfloombnadnmaaaDoor
namespace Go.Proofs.YtfloombnadnmaaaDoor
open Go Go.Ab Go.Proofs
set_option maxRecDepth 100000
set_option linter.unusedSimpArgs false
set_option linter.unusedVariables false
section
variable {P : Program} {md : FuncId → Nat} {d : Option Tmp} {ty : TypeId} {pos : String} {aft : Array Edge} {g : Option (Nat × Bool)} {env : Env}
theorem thenDraw_append (cs : Array Operand) (ts : Array TypeId) (h0 : AHeap) (v : AV) (h' : AHeap) (call : CallF) (k : Env → AHeap → Option (Env × AHeap)) : thenDraw P ⟨d, .call ⟨.builtin .append, cs, ts⟩, ty, pos, aft, g⟩ h0 (some (.value v h')) md call d k env = k (aput env d v) h' := thenDraw_eff _ _ _ _ _ _ rfl
theorem thenDraw_store (t : TypeId) (a x : Operand) (h0 : AHeap) (v : AV) (h' : AHeap) (call : CallF) (k : Env → AHeap → Option (Env × AHeap)) : thenDraw P ⟨d, .store t a x, ty, pos, aft, g⟩ h0 (some (.value v h')) md call d k env = k (aput env d v) h' := thenDraw_eff _ _ _ _ _ _ rfl
end
theorem hget_push {h : AHeap} {o : AObj} {i : Nat} (hi : i < h.length) : hget (h ++ [o]) i = hget h i := by
  unfold hget; rw [List.getD_eq_getElem?_getD, List.getElem?_append_left hi, ← List.getD_eq_getElem?_getD]
theorem hget_last {h : AHeap} {o : AObj} : hget (h ++ [o]) h.length = o := by
  unfold hget; rw [List.getD_eq_getElem?_getD, List.getElem?_append_right (Nat.le_refl _), Nat.sub_self]; rfl
theorem hget_out {h : AHeap} {i : Nat} (hi : h.length ≤ i) : hget h i = .dead := by
  unfold hget; rw [List.getD_eq_getElem?_getD, List.getElem?_eq_none hi]; rfl
/-- A writer at a place, with what was written. -/
def WB (h : AHeap) (id : Nat) (l : List UInt8) : Prop :=
  id < h.length ∧ ((hget h id = .vars [.slc true []] ∧ l = []) ∨ ∃ k g, k < h.length ∧ k ≠ id ∧ hget h id = .vars [.arr k 0 l.length g 1] ∧ hget h k = .arr 1 (l.map byteVal) g)
/-- Variables elsewhere stay. -/
def Fr (id : Nat) (h h' : AHeap) : Prop := h.length ≤ h'.length ∧ ∀ j cs, j ≠ id → hget h j = .vars cs → hget h' j = .vars cs
theorem Fr.refl (id : Nat) (h : AHeap) : Fr id h h := ⟨Nat.le_refl _, fun _ _ _ e => e⟩
theorem Fr.trans {id : Nat} {a b c : AHeap} (x : Fr id a b) (y : Fr id b c) : Fr id a c := ⟨Nat.le_trans x.1 y.1, fun j cs hj e => y.2 j cs hj (x.2 j cs hj e)⟩
/-- What an append to the writer's bytes makes. -/
theorem wb_app {h : AHeap} {id : Nat} {l xs : List UInt8} (hw : WB h id l) (z : AV) (hn : l.length + xs.length ≤ 140737488355328) :
    ∃ bv v h1, hget h id = .vars [bv] ∧ appT (some (1, 1, z)) h bv (some (xs.map byteVal)) = some (v, h1) ∧ hget h1 id = .vars [bv] ∧ fits 1 v = true ∧ v.cells = [v] ∧ WB (h1.set id (.vars [v])) id (l ++ xs) ∧ Fr id h (h1.set id (.vars [v])) := by
  obtain ⟨hid, ⟨hb, rfl⟩ | ⟨k, g, hk, hne, hb, ho⟩⟩ := hw
  · cases xs with
    | nil =>
      refine ⟨_, .slc true [], h, hb, appT_slc0 _ _ _ _ rfl, hb, rfl, rfl, ?_, ?_⟩
      · rw [set_same hb hid]; exact ⟨hid, .inl ⟨hb, rfl⟩⟩
      · rw [set_same hb hid]; exact Fr.refl _ _
    | cons x xs =>
      refine ⟨_, .arr h.length 0 (0 + ((x :: xs).map byteVal).length) 0 1, h ++ [.arr 1 ([] ++ (x :: xs).map byteVal) 0], hb, appT_slc _ _ _ _ _ rfl rfl (by simp) (by simp only [List.length_nil, List.length_map] at hn ⊢; omega), ?_, rfl, rfl, ?_, ?_⟩
      · rw [hget_push hid]; exact hb
      · refine ⟨by simp; omega, .inr ⟨h.length, 0, by simp, by omega, ?_, ?_⟩⟩
        · rw [hget_set_eq (by simp; omega)]; simp
        · rw [hget_set_ne (by omega), hget_last]; simp
      · refine ⟨by simp, fun j cs hj e => ?_⟩
        have hjl : j < h.length := by
          refine Classical.byContradiction fun hc => ?_
          rw [hget_out (by omega)] at e; cases e
        rw [hget_set_ne (by omega), hget_push hjl]; exact e
  · refine ⟨_, .arr k 0 (l.length + (xs.map byteVal).length) (g + 1) 1, h.set k (.arr 1 (l.map byteVal ++ xs.map byteVal) (g + 1)), hb, appT_arr _ _ _ _ _ _ _ _ ho (by simp) (by cases xs <;> rfl) (by simp; omega), ?_, rfl, rfl, ?_, ?_⟩
    · rw [hget_set_ne hne]; exact hb
    · refine ⟨by simp; exact hid, .inr ⟨k, g + 1, by simp; exact hk, hne, ?_, ?_⟩⟩
      · rw [hget_set_eq (by simp; exact hid)]; simp
      · rw [hget_set_ne (by omega), hget_set_eq hk]; simp
    · refine ⟨by simp, fun j cs hj e => ?_⟩
      have hjk : k ≠ j := by rintro rfl; rw [ho] at e; cases e
      rw [hget_set_ne (by omega), hget_set_ne hjk]; exact e
/-- A call by reference: what is kept of memory. -/
theorem doCall_fr {f : FuncId} {vs : List AV} {h h' : AHeap} {id : Nat} {l l0 : List UInt8} {r : AV} (hm : md f = 1) (e : aval Tryd.prog md fg f vs h = some (r, h')) (hw0 : WB h id l0) (hw : WB h' id l) (hf : Fr id h h') :
    ∃ h'', doCall md (aval Tryd.prog md fg) f vs h = some (r, h'') ∧ WB h'' id l ∧ Fr id h h'' := by
  have hid := hw0.1
  rw [doCall_0 (by omega)]
  unfold doCall0
  rw [if_neg (by omega), rated_id (by omega), e]
  dsimp only
  split
  · rename_i hg
    refine ⟨_, rfl, ?_, ?_⟩
    · obtain ⟨h1, h2 | ⟨k, g, hk, hne, hb, ho⟩⟩ := hw
      · refine ⟨by simp; omega, .inl ⟨?_, h2.2⟩⟩
        unfold hget at h2 ⊢
        rw [List.getD_eq_getElem?_getD, List.getElem?_take_of_lt hid, ← List.getD_eq_getElem?_getD]; exact h2.1
      · have hkl : k < h.length := by
          rcases hg.2 id hid with e1 | e1
          · have : hget h' id = hget h id := by unfold hget; rw [List.getD_eq_getElem?_getD, e1, ← List.getD_eq_getElem?_getD]
            rw [hb] at this
            rcases hw0.2 with ⟨e2, _⟩ | ⟨k0, g0, hk0, _, e2, _⟩
            · rw [e2] at this; cases this
            · rw [e2] at this
              simp only [AObj.vars.injEq, List.cons.injEq, AV.arr.injEq, and_true] at this
              omega
          · rw [hb] at e1
            simpa [belowO, belowL, below] using e1
        refine ⟨by simp; omega, .inr ⟨k, g, by simp; omega, hne, ?_, ?_⟩⟩
        · unfold hget at hb ⊢
          rw [List.getD_eq_getElem?_getD, List.getElem?_take_of_lt hid, ← List.getD_eq_getElem?_getD]; exact hb
        · unfold hget at ho ⊢
          rw [List.getD_eq_getElem?_getD, List.getElem?_take_of_lt hkl, ← List.getD_eq_getElem?_getD]; exact ho
    · refine ⟨by have := hf.1; simp; omega, fun j cs hj e1 => ?_⟩
      have hjl : j < h.length := by
        refine Classical.byContradiction fun hc => ?_
        rw [hget_out (by omega)] at e1; cases e1
      have := hf.2 j cs hj e1
      unfold hget at this ⊢
      rw [List.getD_eq_getElem?_getD, List.getElem?_take_of_lt hjl, ← List.getD_eq_getElem?_getD]; exact this
  · exact ⟨_, rfl, hw, hf⟩
theorem fits_cells {v : AV} (hf : fits 1 v = true) (hc : v.cells = [v]) : True := trivial
/-- One number. -/
theorem wU {h : AHeap} {id : Nat} {l : List UInt8} (x : BitVec 64) (hw : WB h id l) (hn : l.length ≤ 100000) :
    ∃ h', aval Tryd.prog md fg 49 [.ptr id 0, .slc true [v64 x]] h = some (.tup [], h') ∧ WB h' id (l ++ uvarN x.toNat) ∧ Fr id h h' := by
  have hu := uvarN_len x.toNat x.isLt
  obtain ⟨bv, v, h1, e1, e2, e3, e4, e5, e6, e7⟩ := wb_app (xs := uvarN x.toNat) hw (.val (.int .u8 0)) (by omega)
  refine ⟨_, ?_, e6, e7⟩
  have cu : ∀ g, doCall md (aval Tryd.prog md fg) 61 [v64 x] g = some (.val (.string (txt (uvarN x.toNat))), g) := fun g => doCall_pure md61 rfl (uvarint_p x)
  have r1 : lrun Tryd.prog md fg (fg 49) (loopOf Tryd.f49 0) (fg 49 1) ([.ptr id 0, .unk, .unk, .unk, .unk, .unk, .unk, .unk, .slc true [v64 x], .int 1, .int 0, .unk, .unk, .unk, .unk, .unk, .unk, .unk, .unk, .unk, .unk, .unk, .unk, .unk, .unk]) h = lrun Tryd.prog md fg (fg 49) (loopOf Tryd.f49 0) (fg 49 1) ([.ptr id 0, .unk, .unk, .unk, .unk, .unk, .unk, .unk, .slc true [v64 x], .int 1, .int 1, .unk, .unk, .unk, .unk, .unk, .unk, .unk, .unk, .unk, .unk, .unk, .unk, .unk, .unk]) (h1.set id (.vars [v])) := by
    rw [lrun_atC loop49_0]
    simp (implicitDefEqProofs := false) (disch := omega) only [go_sem, Nat.reduceAdd, Nat.reduceSub, Nat.reduceMul, Nat.reduceLT, Nat.reduceLeDiff, Nat.reduceEqDiff, List.drop_zero, List.take_succ_cons, List.take_zero, List.drop_succ_cons, Bool.and_true, Bool.true_and, Bool.and_false, Bool.false_and, BitVec.reduceOfInt, Nat.zero_add, Nat.mul_one, Nat.add_zero, Int.zero_add, Int.reduceToNat, Nat.reducePow, ↓reduceIte, reduceCtorEq, Int.reduceLE, Int.reduceLT, Int.reduceEq, Int.reduceNe, Int.reduceAdd, Int.reduceSub, Int.reduceMul, Int.reduceNeg, Nat.reduceBEq, show regOf Tryd.f49 2 = Code.region _ _ _ from rfl, show regOf Tryd.f49 3 = Code.region _ _ _ from rfl, show regOf Tryd.f49 4 = Code.region _ _ _ from rfl, show regOf Tryd.f49 5 = Code.region _ _ _ from rfl, cu, e1, e2, e3, e4, e5, txt_list, thenDraw_append, thenDraw_store]
  have r2 : ∀ g, lrun Tryd.prog md fg (fg 49) (loopOf Tryd.f49 0) (fg 49 1) ([.ptr id 0, .unk, .unk, .unk, .unk, .unk, .unk, .unk, .slc true [v64 x], .int 1, .int 1, .unk, .unk, .unk, .unk, .unk, .unk, .unk, .unk, .unk, .unk, .unk, .unk, .unk, .unk]) g = some (.exit 0, [.ptr id 0, .unk, .unk, .unk, .unk, .unk, .unk, .unk, .slc true [v64 x], .int 1, .int 1, .unk, .unk, .unk, .unk, .unk, .unk, .unk, .unk, .unk, .unk, .unk, .unk, .unk, .unk], g) := by
    intro g
    rw [lrun_atC loop49_0]
    simp (implicitDefEqProofs := false) (disch := omega) only [go_sem, Nat.reduceAdd, Nat.reduceSub, Nat.reduceMul, Nat.reduceLT, Nat.reduceLeDiff, Nat.reduceEqDiff, List.drop_zero, List.take_succ_cons, List.take_zero, List.drop_succ_cons, Bool.and_true, Bool.true_and, Bool.and_false, Bool.false_and, BitVec.reduceOfInt, Nat.zero_add, Nat.mul_one, Nat.add_zero, Int.zero_add, Int.reduceToNat, Nat.reducePow, ↓reduceIte, reduceCtorEq, Int.reduceLE, Int.reduceLT, Int.reduceEq, Int.reduceNe, Int.reduceAdd, Int.reduceSub, Int.reduceMul, Int.reduceNeg, Nat.reduceBEq, show regOf Tryd.f49 2 = Code.region _ _ _ from rfl, show regOf Tryd.f49 3 = Code.region _ _ _ from rfl, show regOf Tryd.f49 4 = Code.region _ _ _ from rfl, show regOf Tryd.f49 5 = Code.region _ _ _ from rfl]
  rw [aval_of Tryd.func49 body49 Tryd.results49 Tryd.ntmps49 ok49]
  simp (implicitDefEqProofs := false) (disch := omega) only [go_sem, Nat.reduceAdd, Nat.reduceSub, Nat.reduceMul, Nat.reduceLT, Nat.reduceLeDiff, Nat.reduceEqDiff, List.drop_zero, List.take_succ_cons, List.take_zero, List.drop_succ_cons, Bool.and_true, Bool.true_and, Bool.and_false, Bool.false_and, BitVec.reduceOfInt, Nat.zero_add, Nat.mul_one, Nat.add_zero, Int.zero_add, Int.reduceToNat, Nat.reducePow, ↓reduceIte, reduceCtorEq, Int.reduceLE, Int.reduceLT, Int.reduceEq, Int.reduceNe, Int.reduceAdd, Int.reduceSub, Int.reduceMul, Int.reduceNeg, Nat.reduceBEq, show regOf Tryd.f49 0 = Code.region _ _ _ from rfl, show regOf Tryd.f49 1 = Code.region _ _ _ from rfl, Int.natCast_one, r1, r2]
theorem wU_c {h : AHeap} {id : Nat} {l : List UInt8} (x : BitVec 64) (hw : WB h id l) (hn : l.length ≤ 100000) :
    ∃ h', doCall md (aval Tryd.prog md fg) 49 [.ptr id 0, .slc true [v64 x]] h = some (.tup [], h') ∧ WB h' id (l ++ uvarN x.toNat) ∧ Fr id h h' := by
  obtain ⟨h', e, w, f⟩ := wU x hw hn
  exact doCall_fr (by decide) e hw w f
theorem wI {h : AHeap} {id : Nat} {l : List UInt8} {n : Int} (n1 : -9223372036854775808 ≤ n) (n2 : n ≤ 9223372036854775807) (hw : WB h id l) (hn : l.length ≤ 100000) :
    ∃ h', aval Tryd.prog md fg 43 [.ptr id 0, .slc true [.int n]] h = some (.tup [], h') ∧ WB h' id (l ++ uvarN (zigN n).toNat) ∧ Fr id h h' := by
  have hz := zigN_range n1 n2
  obtain ⟨y, hy⟩ : ∃ y : BitVec 64, zigN n = (y.toNat : Int) := ⟨_, v64_of hz.1 hz.2⟩
  obtain ⟨h', e, w, f⟩ := wU_c y hw hn
  rw [hy, Int.toNat_natCast]
  refine ⟨h', ?_, w, f⟩
  have cz : ∀ g, doCall md (aval Tryd.prog md fg) 56 [.int n] g = some (v64 y, g) := fun g => doCall_pure md56 rfl ((zigI_p n1 n2).trans (by rw [hy]))
  have r1 : lrun Tryd.prog md fg (fg 43) (loopOf Tryd.f43 0) (fg 43 1) ([.ptr id 0, .unk, .unk, .unk, .unk, .unk, .slc true [.int n], .int 1, .int 0, .unk, .unk, .unk, .unk, .unk, .unk, .unk, .unk, .unk]) h = lrun Tryd.prog md fg (fg 43) (loopOf Tryd.f43 0) (fg 43 1) ([.ptr id 0, .unk, .unk, .unk, .unk, .unk, .slc true [.int n], .int 1, .int 1, .unk, .unk, .unk, .unk, .unk, .unk, .unk, .unk, .unk]) h' := by
    rw [lrun_atC loop43_0]
    simp (implicitDefEqProofs := false) (disch := omega) only [go_sem, Nat.reduceAdd, Nat.reduceSub, Nat.reduceMul, Nat.reduceLT, Nat.reduceLeDiff, Nat.reduceEqDiff, List.drop_zero, List.take_succ_cons, List.take_zero, List.drop_succ_cons, Bool.and_true, Bool.true_and, Bool.and_false, Bool.false_and, BitVec.reduceOfInt, Nat.zero_add, Nat.mul_one, Nat.add_zero, Int.zero_add, Int.reduceToNat, Nat.reducePow, ↓reduceIte, reduceCtorEq, Int.reduceLE, Int.reduceLT, Int.reduceEq, Int.reduceNe, Int.reduceAdd, Int.reduceSub, Int.reduceMul, Int.reduceNeg, Nat.reduceBEq, show regOf Tryd.f43 1 = Code.region _ _ _ from rfl, show regOf Tryd.f43 2 = Code.region _ _ _ from rfl, show regOf Tryd.f43 3 = Code.region _ _ _ from rfl, show regOf Tryd.f43 4 = Code.region _ _ _ from rfl, cz, e]
  have r2 : ∀ g, lrun Tryd.prog md fg (fg 43) (loopOf Tryd.f43 0) (fg 43 1) ([.ptr id 0, .unk, .unk, .unk, .unk, .unk, .slc true [.int n], .int 1, .int 1, .unk, .unk, .unk, .unk, .unk, .unk, .unk, .unk, .unk]) g = some (.exit 0, [.ptr id 0, .unk, .unk, .unk, .unk, .unk, .slc true [.int n], .int 1, .int 1, .unk, .unk, .unk, .unk, .unk, .unk, .unk, .unk, .unk], g) := by
    intro g
    rw [lrun_atC loop43_0]
    simp (implicitDefEqProofs := false) (disch := omega) only [go_sem, Nat.reduceAdd, Nat.reduceSub, Nat.reduceMul, Nat.reduceLT, Nat.reduceLeDiff, Nat.reduceEqDiff, List.drop_zero, List.take_succ_cons, List.take_zero, List.drop_succ_cons, Bool.and_true, Bool.true_and, Bool.and_false, Bool.false_and, BitVec.reduceOfInt, Nat.zero_add, Nat.mul_one, Nat.add_zero, Int.zero_add, Int.reduceToNat, Nat.reducePow, ↓reduceIte, reduceCtorEq, Int.reduceLE, Int.reduceLT, Int.reduceEq, Int.reduceNe, Int.reduceAdd, Int.reduceSub, Int.reduceMul, Int.reduceNeg, Nat.reduceBEq, show regOf Tryd.f43 1 = Code.region _ _ _ from rfl, show regOf Tryd.f43 2 = Code.region _ _ _ from rfl, show regOf Tryd.f43 3 = Code.region _ _ _ from rfl, show regOf Tryd.f43 4 = Code.region _ _ _ from rfl]
  rw [aval_of Tryd.func43 body43 Tryd.results43 Tryd.ntmps43 ok43]
  simp (implicitDefEqProofs := false) (disch := omega) only [go_sem, Nat.reduceAdd, Nat.reduceSub, Nat.reduceMul, Nat.reduceLT, Nat.reduceLeDiff, Nat.reduceEqDiff, List.drop_zero, List.take_succ_cons, List.take_zero, List.drop_succ_cons, Bool.and_true, Bool.true_and, Bool.and_false, Bool.false_and, BitVec.reduceOfInt, Nat.zero_add, Nat.mul_one, Nat.add_zero, Int.zero_add, Int.reduceToNat, Nat.reducePow, ↓reduceIte, reduceCtorEq, Int.reduceLE, Int.reduceLT, Int.reduceEq, Int.reduceNe, Int.reduceAdd, Int.reduceSub, Int.reduceMul, Int.reduceNeg, Nat.reduceBEq, show regOf Tryd.f43 0 = Code.region _ _ _ from rfl, Int.natCast_one, r1, r2]
theorem wI_c {h : AHeap} {id : Nat} {l : List UInt8} {n : Int} (n1 : -9223372036854775808 ≤ n) (n2 : n ≤ 9223372036854775807) (hw : WB h id l) (hn : l.length ≤ 100000) :
    ∃ h', doCall md (aval Tryd.prog md fg) 43 [.ptr id 0, .slc true [.int n]] h = some (.tup [], h') ∧ WB h' id (l ++ uvarN (zigN n).toNat) ∧ Fr id h h' := by
  obtain ⟨h', e, w, f⟩ := wI n1 n2 hw hn
  exact doCall_fr (by decide) e hw w f
/-- A text: its length, its bytes. -/
def textL (t : List UInt8) : List UInt8 := uvarN t.length ++ t
theorem wT {h : AHeap} {id : Nat} {l t : List UInt8} (hw : WB h id l) (hn : l.length ≤ 100000) (ht : t.length ≤ 100000) :
    ∃ h', aval Tryd.prog md fg 25 [.ptr id 0, .slc true [.val (.string (txt t))]] h = some (.tup [], h') ∧ WB h' id (l ++ textL t) ∧ Fr id h h' := by
  obtain ⟨h1, e1, w1, f1⟩ := wU_c (BitVec.ofNat 64 t.length) hw hn
  have hlen : (BitVec.ofNat 64 t.length).toNat = t.length := by rw [BitVec.toNat_ofNat]; exact Nat.mod_eq_of_lt (by omega)
  rw [hlen] at w1
  have hu := uvarN_len t.length (by omega)
  obtain ⟨bv, v, h2, e2, e3, e4, e5, e6, e7, e8⟩ := wb_app (xs := t) w1 (.val (.int .u8 0)) (by simp only [List.length_append]; omega)
  rw [List.append_assoc] at e7
  refine ⟨_, ?_, e7, f1.trans e8⟩
  have r1 : lrun Tryd.prog md fg (fg 25) (loopOf Tryd.f25 0) (fg 25 1) ([.ptr id 0, .unk, .unk, .unk, .unk, .unk, .unk, .unk, .slc true [.val (.string (txt t))], .int 1, .int 0, .unk, .unk, .unk, .unk, .unk, .unk, .unk, .unk, .unk, .unk, .unk, .unk, .unk, .unk, .unk, .unk, .unk, .unk, .unk]) h = lrun Tryd.prog md fg (fg 25) (loopOf Tryd.f25 0) (fg 25 1) ([.ptr id 0, .unk, .unk, .unk, .unk, .unk, .unk, .unk, .slc true [.val (.string (txt t))], .int 1, .int 1, .unk, .unk, .unk, .unk, .unk, .unk, .unk, .unk, .unk, .unk, .unk, .unk, .unk, .unk, .unk, .unk, .unk, .unk, .unk]) (h2.set id (.vars [v])) := by
    rw [lrun_atC loop25_0]
    simp (implicitDefEqProofs := false) (disch := omega) only [go_sem, Nat.reduceAdd, Nat.reduceSub, Nat.reduceMul, Nat.reduceLT, Nat.reduceLeDiff, Nat.reduceEqDiff, List.drop_zero, List.take_succ_cons, List.take_zero, List.drop_succ_cons, Bool.and_true, Bool.true_and, Bool.and_false, Bool.false_and, BitVec.reduceOfInt, Nat.zero_add, Nat.mul_one, Nat.add_zero, Int.zero_add, Int.reduceToNat, Nat.reducePow, ↓reduceIte, reduceCtorEq, Int.reduceLE, Int.reduceLT, Int.reduceEq, Int.reduceNe, Int.reduceAdd, Int.reduceSub, Int.reduceMul, Int.reduceNeg, Nat.reduceBEq, show regOf Tryd.f25 2 = Code.region _ _ _ from rfl, show regOf Tryd.f25 3 = Code.region _ _ _ from rfl, show regOf Tryd.f25 4 = Code.region _ _ _ from rfl, show regOf Tryd.f25 5 = Code.region _ _ _ from rfl, show regOf Tryd.f25 6 = Code.region _ _ _ from rfl, txt_size, BitVec.ofInt_natCast, e1, e2, e3, e4, e5, e6, txt_list]
  have r2 : ∀ g, lrun Tryd.prog md fg (fg 25) (loopOf Tryd.f25 0) (fg 25 1) ([.ptr id 0, .unk, .unk, .unk, .unk, .unk, .unk, .unk, .slc true [.val (.string (txt t))], .int 1, .int 1, .unk, .unk, .unk, .unk, .unk, .unk, .unk, .unk, .unk, .unk, .unk, .unk, .unk, .unk, .unk, .unk, .unk, .unk, .unk]) g = some (.exit 0, [.ptr id 0, .unk, .unk, .unk, .unk, .unk, .unk, .unk, .slc true [.val (.string (txt t))], .int 1, .int 1, .unk, .unk, .unk, .unk, .unk, .unk, .unk, .unk, .unk, .unk, .unk, .unk, .unk, .unk, .unk, .unk, .unk, .unk, .unk], g) := by
    intro g
    rw [lrun_atC loop25_0]
    simp (implicitDefEqProofs := false) (disch := omega) only [go_sem, Nat.reduceAdd, Nat.reduceSub, Nat.reduceMul, Nat.reduceLT, Nat.reduceLeDiff, Nat.reduceEqDiff, List.drop_zero, List.take_succ_cons, List.take_zero, List.drop_succ_cons, Bool.and_true, Bool.true_and, Bool.and_false, Bool.false_and, BitVec.reduceOfInt, Nat.zero_add, Nat.mul_one, Nat.add_zero, Int.zero_add, Int.reduceToNat, Nat.reducePow, ↓reduceIte, reduceCtorEq, Int.reduceLE, Int.reduceLT, Int.reduceEq, Int.reduceNe, Int.reduceAdd, Int.reduceSub, Int.reduceMul, Int.reduceNeg, Nat.reduceBEq, show regOf Tryd.f25 2 = Code.region _ _ _ from rfl, show regOf Tryd.f25 3 = Code.region _ _ _ from rfl, show regOf Tryd.f25 4 = Code.region _ _ _ from rfl, show regOf Tryd.f25 5 = Code.region _ _ _ from rfl, show regOf Tryd.f25 6 = Code.region _ _ _ from rfl]
  rw [aval_of Tryd.func25 body25 Tryd.results25 Tryd.ntmps25 ok25]
  simp (implicitDefEqProofs := false) (disch := omega) only [go_sem, Nat.reduceAdd, Nat.reduceSub, Nat.reduceMul, Nat.reduceLT, Nat.reduceLeDiff, Nat.reduceEqDiff, List.drop_zero, List.take_succ_cons, List.take_zero, List.drop_succ_cons, Bool.and_true, Bool.true_and, Bool.and_false, Bool.false_and, BitVec.reduceOfInt, Nat.zero_add, Nat.mul_one, Nat.add_zero, Int.zero_add, Int.reduceToNat, Nat.reducePow, ↓reduceIte, reduceCtorEq, Int.reduceLE, Int.reduceLT, Int.reduceEq, Int.reduceNe, Int.reduceAdd, Int.reduceSub, Int.reduceMul, Int.reduceNeg, Nat.reduceBEq, show regOf Tryd.f25 0 = Code.region _ _ _ from rfl, show regOf Tryd.f25 1 = Code.region _ _ _ from rfl, Int.natCast_one, r1, r2]
theorem wT_c {h : AHeap} {id : Nat} {l t : List UInt8} (hw : WB h id l) (hn : l.length ≤ 100000) (ht : t.length ≤ 100000) :
    ∃ h', doCall md (aval Tryd.prog md fg) 25 [.ptr id 0, .slc true [.val (.string (txt t))]] h = some (.tup [], h') ∧ WB h' id (l ++ textL t) ∧ Fr id h h' := by
  obtain ⟨h', e, w, f⟩ := wT hw hn ht
  exact doCall_fr (by decide) e hw w f
theorem wS {h : AHeap} {id : Nat} {l : List UInt8} (hw : WB h id l) : aval Tryd.prog md fg 26 [.ptr id 0] h = some (.val (.string (txt l)), h) := by
  rw [aval_of Tryd.func26 body26 Tryd.results26 Tryd.ntmps26 ok26]
  obtain ⟨hid, ⟨hb, rfl⟩ | ⟨k, g, hk, hne, hb, ho⟩⟩ := hw
  · simp (implicitDefEqProofs := false) (disch := omega) only [go_sem, Nat.reduceAdd, Nat.reduceSub, Nat.reduceMul, Nat.reduceLT, Nat.reduceLeDiff, Nat.reduceEqDiff, List.drop_zero, List.take_succ_cons, List.take_zero, List.drop_succ_cons, Bool.and_true, Bool.true_and, Bool.and_false, Bool.false_and, BitVec.reduceOfInt, Nat.zero_add, Nat.mul_one, Nat.add_zero, Int.zero_add, Int.reduceToNat, Nat.reducePow, ↓reduceIte, reduceCtorEq, Int.reduceLE, Int.reduceLT, Int.reduceEq, Int.reduceNe, Int.reduceAdd, Int.reduceSub, Int.reduceMul, Int.reduceNeg, Nat.reduceBEq, show regOf Tryd.f26 0 = Code.region _ _ _ from rfl, show regOf Tryd.f26 1 = Code.region _ _ _ from rfl, show regOf Tryd.f26 3 = Code.region _ _ _ from rfl, hb]
    rfl
  · have hv : sview h (.arr k 0 l.length g 1) = some (l.map byteVal) := sview_arr _ _ _ _ _ ho (by simp)
    simp (implicitDefEqProofs := false) (disch := omega) only [go_sem, Nat.reduceAdd, Nat.reduceSub, Nat.reduceMul, Nat.reduceLT, Nat.reduceLeDiff, Nat.reduceEqDiff, List.drop_zero, List.take_succ_cons, List.take_zero, List.drop_succ_cons, Bool.and_true, Bool.true_and, Bool.and_false, Bool.false_and, BitVec.reduceOfInt, Nat.zero_add, Nat.mul_one, Nat.add_zero, Int.zero_add, Int.reduceToNat, Nat.reducePow, ↓reduceIte, reduceCtorEq, Int.reduceLE, Int.reduceLT, Int.reduceEq, Int.reduceNe, Int.reduceAdd, Int.reduceSub, Int.reduceMul, Int.reduceNeg, Nat.reduceBEq, show regOf Tryd.f26 0 = Code.region _ _ _ from rfl, show regOf Tryd.f26 1 = Code.region _ _ _ from rfl, show regOf Tryd.f26 3 = Code.region _ _ _ from rfl, hb, hv]
    rfl
theorem wS_c {h : AHeap} {id : Nat} {l : List UInt8} (hw : WB h id l) : doCall md (aval Tryd.prog md fg) 26 [.ptr id 0] h = some (.val (.string (txt l)), h) := doCall_len (by decide) (wS hw) rfl
end Go.Proofs.YtfloombnadnmaaaDoor
namespace Go.Proofs.YtfloombnadnmaaaDoor
open Go Go.Ab Go.Proofs
set_option maxRecDepth 100000
set_option linter.unusedSimpArgs false
set_option linter.unusedVariables false
/-! ### What is read is what would be written -/
theorem uS_ok {s : List UInt8} {b : Bool} (h : (uS s b).2 = false) : b = false ∧ uvarN (uA s b).toNat ++ (uS s b).1 = s := by
  cases b with
  | true => simp [uS] at h
  | false =>
    refine ⟨rfl, ?_⟩
    unfold uS uRest at h ⊢
    unfold uA uAns
    rw [if_neg (by simp)] at h ⊢
    rw [if_neg (by simp)]
    by_cases h0 : (goU 0 0#64 s).2 = 0
    · rw [if_pos h0] at h; simp at h
    · rw [if_neg h0]
      rw [goU_eq] at h0 ⊢
      unfold refU at h0 ⊢
      dsimp only at h0 ⊢
      split
      · rename_i h1; rw [if_pos h1] at h0; exact absurd rfl h0
      · rename_i h1
        split
        · rename_i h2
          dsimp only
          rw [h2, List.take_append_drop]
        · rename_i h2; rw [if_neg h1, if_neg h2] at h0; exact absurd rfl h0
theorem uS_bad {s : List UInt8} {b : Bool} (h : (uS s b).2 = true) : uA s b = 0#64 := by
  cases b with
  | true => simp [uA]
  | false =>
    unfold uS uRest at h
    unfold uA uAns
    rw [if_neg (by simp)] at h ⊢
    by_cases h0 : (goU 0 0#64 s).2 = 0
    · exact goU_zero h0
    · rw [if_neg h0] at h; simp at h
theorem tS_ok {s : List UInt8} {b : Bool} (h : (tS s b).2 = false) : b = false ∧ textL (tA s b) ++ (tS s b).1 = s := by
  unfold tS at h ⊢
  unfold tA
  by_cases hc : (uS s b).2 = true ∨ (uS s b).1.length < (uA s b).toNat
  · rw [if_pos hc] at h; simp at h
  · rw [if_neg hc, if_neg hc]
    have hb : (uS s b).2 = false := by
      cases h1 : (uS s b).2 with
      | false => rfl
      | true => exact absurd (.inl h1) hc
    obtain ⟨h1, h2⟩ := uS_ok hb
    refine ⟨h1, ?_⟩
    have hlen : ((uS s b).1.take (uA s b).toNat).length = (uA s b).toNat := by rw [List.length_take]; omega
    rw [textL, hlen, List.append_assoc, List.take_append_drop, h2]
theorem tS_bad {s : List UInt8} {b : Bool} (h : (tS s b).2 = true) : tA s b = [] := by
  unfold tS at h
  unfold tA
  by_cases hc : (uS s b).2 = true ∨ (uS s b).1.length < (uA s b).toNat
  · rw [if_pos hc]
  · rw [if_neg hc] at h; simp at h
theorem WB_set {h : AHeap} {id j : Nat} {l : List UInt8} {cs : List AV} {o : AObj} (hw : WB h id l) (hj : j ≠ id) (ho : hget h j = .vars cs) : WB (h.set j o) id l := by
  obtain ⟨h1, ⟨h2, h3⟩ | ⟨k, g, hk, hne, hb, hk2⟩⟩ := hw
  · exact ⟨by simp; exact h1, .inl ⟨by rw [hget_set_ne hj]; exact h2, h3⟩⟩
  · have hjk : j ≠ k := by rintro rfl; rw [ho] at hk2; cases hk2
    exact ⟨by simp; exact h1, .inr ⟨k, g, by simp; exact hk, hne, by rw [hget_set_ne hj]; exact hb, by rw [hget_set_ne hjk]; exact hk2⟩⟩
/-- The three that a law holds: a reader, the reference's reader, a writer. -/
structure RQW (S : List UInt8) (h : AHeap) (s : List UInt8) (b : Bool) (l : List UInt8) (k : Nat) : Prop where
  r : hget h 0 = RO s b
  q : hget h 1 = RO s b
  w : WB h 2 l
  len : l.length ≤ 2000 + k
  lens : s.length ≤ 2000
  ok : b = false → l ++ s = S
theorem uvarN_zero : uvarN (0#64 : BitVec 64).toNat = [0] := by
  rw [show (0#64 : BitVec 64).toNat = 0 from rfl, uvarN_small (by decide)]; rfl
theorem step_len {S s l a : List UInt8} {b : Bool} {k : Nat} (hS : S.length ≤ 2000) (hl : l.length ≤ 2000 + k) (hok : b = false → (l ++ a) ++ s = S) (hbad : b = true → a.length = 1) : (l ++ a).length ≤ 2000 + (k + 1) := by
  cases b with
  | false =>
    have := congrArg List.length (hok rfl)
    rw [List.length_append] at this; omega
  | true => rw [List.length_append, hbad rfl]; omega
end Go.Proofs.YtfloombnadnmaaaDoor
namespace Go.Proofs.YtfloombnadnmaaaDoor
open Go Go.Ab Go.Proofs
set_option maxRecDepth 100000
set_option linter.unusedSimpArgs false
set_option linter.unusedVariables false
/-- An item of the law. -/
structure Itm where
  kd : Int
  u : BitVec 64
  n : Int
  s : List UInt8
  hk : -9223372036854775808 ≤ kd ∧ kd ≤ 9223372036854775807
  hn : -9223372036854775808 ≤ n ∧ n ≤ 9223372036854775807
abbrev Itm.cells (i : Itm) : List AV := [.val (.int .i64 i.kd), .val (.int .u64 (i.u.toNat : Int)), .val (.int .i64 i.n), .val (.string (txt i.s))]
abbrev Itm.v (i : Itm) : AV := .agg i.cells
theorem refText_p (t : List UInt8) (ht : t.length ≤ 100000) : pcall Tryd.prog md fg 31 [.val (.string (txt t))] = some (.val (.string (txt (textL t)))) := by
  rw [pcall_eq]
  rw [aval_of Tryd.func31 body31 Tryd.results31 Tryd.ntmps31 ok31]
  have hlen : (BitVec.ofNat 64 t.length).toNat = t.length := by rw [BitVec.toNat_ofNat]; exact Nat.mod_eq_of_lt (by omega)
  have hu := uvarN_len t.length (by omega)
  have c : doCall md (aval Tryd.prog md fg) 50 [.val (.int .u64 ((BitVec.ofNat 64 t.length).toNat : Int))] [] = some (.val (.string (txt (uvarN t.length))), []) := doCall_pure md50 rfl ((refUvarint_p _).trans (by unfold uvarT; rw [hlen]; rfl))
  simp (implicitDefEqProofs := false) (disch := omega) only [go_sem, Nat.reduceAdd, Nat.reduceSub, Nat.reduceMul, Nat.reduceLT, Nat.reduceLeDiff, Nat.reduceEqDiff, List.drop_zero, List.take_succ_cons, List.take_zero, List.drop_succ_cons, Bool.and_true, Bool.true_and, Bool.and_false, Bool.false_and, BitVec.reduceOfInt, Nat.zero_add, Nat.mul_one, Nat.add_zero, Int.zero_add, Int.reduceToNat, Nat.reducePow, ↓reduceIte, reduceCtorEq, Int.reduceLE, Int.reduceLT, Int.reduceEq, Int.reduceNe, Int.reduceAdd, Int.reduceSub, Int.reduceMul, Int.reduceNeg, Nat.reduceBEq, show regOf Tryd.f31 0 = Code.region _ _ _ from rfl, show regOf Tryd.f31 1 = Code.region _ _ _ from rfl, txt_size, BitVec.ofInt_natCast, c, cat2]
  rw [pureRes_solid rfl]; rfl
/-- What is written of an item. -/
def enc (i : Itm) : List UInt8 := if i.kd = 0 then uvarN i.u.toNat else if i.kd = 1 then uvarN (zigN i.n).toNat else textL i.s
theorem WB_push {h : AHeap} {id : Nat} {l : List UInt8} {o : AObj} (hw : WB h id l) : WB (h ++ [o]) id l := by
  obtain ⟨h1, ⟨h2, h3⟩ | ⟨k, g, hk, hne, hb, hk2⟩⟩ := hw
  · exact ⟨by simp; omega, .inl ⟨by rw [hget_push h1]; exact h2, h3⟩⟩
  · exact ⟨by simp; omega, .inr ⟨k, g, by simp; omega, hne, by rw [hget_push h1]; exact hb, by rw [hget_push hk]; exact hk2⟩⟩
theorem set_last (h : AHeap) (o o' : AObj) : (h ++ [o]).set h.length o' = h ++ [o'] := by
  rw [List.set_append_right _ _ (Nat.le_refl _), Nat.sub_self]; rfl
end Go.Proofs.YtfloombnadnmaaaDoor
namespace Go.Proofs.YtfloombnadnmaaaDoor
open Go Go.Ab Go.Proofs
set_option maxRecDepth 100000
set_option linter.unusedSimpArgs false
set_option linter.unusedVariables false
theorem uvarN_pos (y : Nat) : 0 < (uvarN y).length := by
  obtain ⟨p, c, e, _⟩ := uvarN_form y
  rw [e]; simp
theorem u_back (x : BitVec 64) (r : List UInt8) : uA (uvarN x.toNat ++ r) false = x ∧ uS (uvarN x.toNat ++ r) false = (r, false) := by
  have hp := uvarN_pos x.toNat
  unfold uA uS uAns uRest
  rw [goU_back]
  refine ⟨rfl, ?_⟩
  rw [if_neg (by simp)]
  dsimp only
  rw [if_neg (by omega), List.drop_left]
theorem t_back (t r : List UInt8) (ht : t.length ≤ 100000) : tA (textL t ++ r) false = t ∧ tS (textL t ++ r) false = (r, false) := by
  have hlen : (BitVec.ofNat 64 t.length).toNat = t.length := by rw [BitVec.toNat_ofNat]; exact Nat.mod_eq_of_lt (by omega)
  have e := u_back (BitVec.ofNat 64 t.length) (t ++ r)
  rw [hlen, ← List.append_assoc] at e
  have e1 : uA (textL t ++ r) false = BitVec.ofNat 64 t.length := e.1
  have e2 : uS (textL t ++ r) false = (t ++ r, false) := e.2
  unfold tA tS
  rw [e1, e2, hlen]
  dsimp only
  rw [if_neg (by simp), if_neg (by simp), List.take_left, List.drop_left]
  exact ⟨rfl, rfl⟩
theorem enc_len (i : Itm) (hs : i.s.length ≤ 9000) : (enc i).length ≤ 10 + i.s.length := by
  have h1 := uvarN_len i.u.toNat i.u.isLt
  have z := zigN_range i.hn.1 i.hn.2
  have h2 := uvarN_len (zigN i.n).toNat (by omega)
  have h3 := uvarN_len i.s.length (by omega)
  unfold enc textL
  split
  · omega
  · split
    · omega
    · rw [List.length_append]; omega
def encs (l : List Itm) : List UInt8 := (l.map enc).flatten
end Go.Proofs.YtfloombnadnmaaaDoor
namespace Go.Proofs.YtfloombnadnmaaaDoor
open Go Go.Ab Go.Proofs
set_option maxRecDepth 100000
set_option linter.unusedSimpArgs false
set_option linter.unusedVariables false
theorem solid_itms (l : List Itm) : solidL (l.map Itm.v) = true := by
  induction l with
  | nil => rfl
  | cons a r ih => simp only [List.map_cons, solidL, solid, Itm.v, Itm.cells, Bool.and_self, Bool.true_and]; exact ih
end Go.Proofs.YtfloombnadnmaaaDoor
namespace Go.Proofs.YtfloombnadnmaaaDoor
open Go Go.Ab Go.Proofs
set_option maxRecDepth 100000
set_option linter.unusedSimpArgs false
set_option linter.unusedVariables false
def mutB (k : Int) : Bool := decide (1 ≤ k ∧ k ≤ 3)
theorem mutates_p (k : Int) : pcall Tryd.prog md fg 13 [.int k] = some (.val (.bool (mutB k))) := by
  have e : aval Tryd.prog md fg 13 [.int k] [] = some (.val (.bool (mutB k)), []) := by
    rw [aval_of Tryd.func13 body13 Tryd.results13 Tryd.ntmps13 ok13]
    by_cases h1 : k = 1
    · subst h1; simp (implicitDefEqProofs := false) (disch := omega) only [go_sem, Nat.reduceAdd, Nat.reduceSub, Nat.reduceMul, Nat.reduceLT, Nat.reduceLeDiff, Nat.reduceEqDiff, List.drop_zero, List.take_succ_cons, List.take_zero, List.drop_succ_cons, Bool.and_true, Bool.true_and, Bool.and_false, Bool.false_and, BitVec.reduceOfInt, Nat.zero_add, Nat.mul_one, Nat.add_zero, Int.zero_add, Int.reduceToNat, Nat.reducePow, ↓reduceIte, reduceCtorEq, Int.reduceLE, Int.reduceLT, Int.reduceEq, Int.reduceNe, Int.reduceAdd, Int.reduceSub, Int.reduceMul, Int.reduceNeg, Nat.reduceBEq, show regOf Tryd.f13 0 = Code.region _ _ _ from rfl, show regOf Tryd.f13 1 = Code.region _ _ _ from rfl, show regOf Tryd.f13 2 = Code.region _ _ _ from rfl, show regOf Tryd.f13 3 = Code.region _ _ _ from rfl, show regOf Tryd.f13 4 = Code.region _ _ _ from rfl, show regOf Tryd.f13 5 = Code.region _ _ _ from rfl, show regOf Tryd.f13 6 = Code.region _ _ _ from rfl]; rfl
    by_cases h2 : k = 2
    · subst h2; simp (implicitDefEqProofs := false) (disch := omega) only [go_sem, Nat.reduceAdd, Nat.reduceSub, Nat.reduceMul, Nat.reduceLT, Nat.reduceLeDiff, Nat.reduceEqDiff, List.drop_zero, List.take_succ_cons, List.take_zero, List.drop_succ_cons, Bool.and_true, Bool.true_and, Bool.and_false, Bool.false_and, BitVec.reduceOfInt, Nat.zero_add, Nat.mul_one, Nat.add_zero, Int.zero_add, Int.reduceToNat, Nat.reducePow, ↓reduceIte, reduceCtorEq, Int.reduceLE, Int.reduceLT, Int.reduceEq, Int.reduceNe, Int.reduceAdd, Int.reduceSub, Int.reduceMul, Int.reduceNeg, Nat.reduceBEq, show regOf Tryd.f13 0 = Code.region _ _ _ from rfl, show regOf Tryd.f13 1 = Code.region _ _ _ from rfl, show regOf Tryd.f13 2 = Code.region _ _ _ from rfl, show regOf Tryd.f13 3 = Code.region _ _ _ from rfl, show regOf Tryd.f13 4 = Code.region _ _ _ from rfl, show regOf Tryd.f13 5 = Code.region _ _ _ from rfl, show regOf Tryd.f13 6 = Code.region _ _ _ from rfl]; rfl
    by_cases h3 : k = 3
    · subst h3; simp (implicitDefEqProofs := false) (disch := omega) only [go_sem, Nat.reduceAdd, Nat.reduceSub, Nat.reduceMul, Nat.reduceLT, Nat.reduceLeDiff, Nat.reduceEqDiff, List.drop_zero, List.take_succ_cons, List.take_zero, List.drop_succ_cons, Bool.and_true, Bool.true_and, Bool.and_false, Bool.false_and, BitVec.reduceOfInt, Nat.zero_add, Nat.mul_one, Nat.add_zero, Int.zero_add, Int.reduceToNat, Nat.reducePow, ↓reduceIte, reduceCtorEq, Int.reduceLE, Int.reduceLT, Int.reduceEq, Int.reduceNe, Int.reduceAdd, Int.reduceSub, Int.reduceMul, Int.reduceNeg, Nat.reduceBEq, show regOf Tryd.f13 0 = Code.region _ _ _ from rfl, show regOf Tryd.f13 1 = Code.region _ _ _ from rfl, show regOf Tryd.f13 2 = Code.region _ _ _ from rfl, show regOf Tryd.f13 3 = Code.region _ _ _ from rfl, show regOf Tryd.f13 4 = Code.region _ _ _ from rfl, show regOf Tryd.f13 5 = Code.region _ _ _ from rfl, show regOf Tryd.f13 6 = Code.region _ _ _ from rfl]; rfl
    have hm : mutB k = false := by unfold mutB; simp; omega
    rw [hm]
    simp (implicitDefEqProofs := false) (disch := omega) only [go_sem, Nat.reduceAdd, Nat.reduceSub, Nat.reduceMul, Nat.reduceLT, Nat.reduceLeDiff, Nat.reduceEqDiff, List.drop_zero, List.take_succ_cons, List.take_zero, List.drop_succ_cons, Bool.and_true, Bool.true_and, Bool.and_false, Bool.false_and, BitVec.reduceOfInt, Nat.zero_add, Nat.mul_one, Nat.add_zero, Int.zero_add, Int.reduceToNat, Nat.reducePow, ↓reduceIte, reduceCtorEq, Int.reduceLE, Int.reduceLT, Int.reduceEq, Int.reduceNe, Int.reduceAdd, Int.reduceSub, Int.reduceMul, Int.reduceNeg, Nat.reduceBEq, show regOf Tryd.f13 0 = Code.region _ _ _ from rfl, show regOf Tryd.f13 1 = Code.region _ _ _ from rfl, show regOf Tryd.f13 2 = Code.region _ _ _ from rfl, show regOf Tryd.f13 3 = Code.region _ _ _ from rfl, show regOf Tryd.f13 4 = Code.region _ _ _ from rfl, show regOf Tryd.f13 5 = Code.region _ _ _ from rfl, show regOf Tryd.f13 6 = Code.region _ _ _ from rfl, h1, h2, h3]
  rw [pcall_eq, e, pureRes_solid rfl]
theorem rmutates_p (k : Int) : pcall Tryd.prog md fg 14 [.int k] = some (.val (.bool (mutB k))) := by
  have e : aval Tryd.prog md fg 14 [.int k] [] = some (.val (.bool (mutB k)), []) := by
    rw [aval_of Tryd.func14 body14 Tryd.results14 Tryd.ntmps14 ok14]
    by_cases h1 : 1 ≤ k
    · by_cases h2 : k ≤ 3
      · have hm : mutB k = true := by unfold mutB; simp; omega
        rw [hm]; simp (implicitDefEqProofs := false) (disch := omega) only [go_sem, Nat.reduceAdd, Nat.reduceSub, Nat.reduceMul, Nat.reduceLT, Nat.reduceLeDiff, Nat.reduceEqDiff, List.drop_zero, List.take_succ_cons, List.take_zero, List.drop_succ_cons, Bool.and_true, Bool.true_and, Bool.and_false, Bool.false_and, BitVec.reduceOfInt, Nat.zero_add, Nat.mul_one, Nat.add_zero, Int.zero_add, Int.reduceToNat, Nat.reducePow, ↓reduceIte, reduceCtorEq, Int.reduceLE, Int.reduceLT, Int.reduceEq, Int.reduceNe, Int.reduceAdd, Int.reduceSub, Int.reduceMul, Int.reduceNeg, Nat.reduceBEq, show regOf Tryd.f14 0 = Code.region _ _ _ from rfl, show regOf Tryd.f14 1 = Code.region _ _ _ from rfl, h1, h2]
      · have hm : mutB k = false := by unfold mutB; simp; omega
        rw [hm]; simp (implicitDefEqProofs := false) (disch := omega) only [go_sem, Nat.reduceAdd, Nat.reduceSub, Nat.reduceMul, Nat.reduceLT, Nat.reduceLeDiff, Nat.reduceEqDiff, List.drop_zero, List.take_succ_cons, List.take_zero, List.drop_succ_cons, Bool.and_true, Bool.true_and, Bool.and_false, Bool.false_and, BitVec.reduceOfInt, Nat.zero_add, Nat.mul_one, Nat.add_zero, Int.zero_add, Int.reduceToNat, Nat.reducePow, ↓reduceIte, reduceCtorEq, Int.reduceLE, Int.reduceLT, Int.reduceEq, Int.reduceNe, Int.reduceAdd, Int.reduceSub, Int.reduceMul, Int.reduceNeg, Nat.reduceBEq, show regOf Tryd.f14 0 = Code.region _ _ _ from rfl, show regOf Tryd.f14 1 = Code.region _ _ _ from rfl, h1, h2]
    · have hm : mutB k = false := by unfold mutB; simp; omega
      rw [hm]; simp (implicitDefEqProofs := false) (disch := omega) only [go_sem, Nat.reduceAdd, Nat.reduceSub, Nat.reduceMul, Nat.reduceLT, Nat.reduceLeDiff, Nat.reduceEqDiff, List.drop_zero, List.take_succ_cons, List.take_zero, List.drop_succ_cons, Bool.and_true, Bool.true_and, Bool.and_false, Bool.false_and, BitVec.reduceOfInt, Nat.zero_add, Nat.mul_one, Nat.add_zero, Int.zero_add, Int.reduceToNat, Nat.reducePow, ↓reduceIte, reduceCtorEq, Int.reduceLE, Int.reduceLT, Int.reduceEq, Int.reduceNe, Int.reduceAdd, Int.reduceSub, Int.reduceMul, Int.reduceNeg, Nat.reduceBEq, show regOf Tryd.f14 0 = Code.region _ _ _ from rfl, show regOf Tryd.f14 1 = Code.region _ _ _ from rfl, h1]
  rw [pcall_eq, e, pureRes_solid rfl]
def pinB (k : Int) : Bool := decide (1 ≤ k ∧ k ≤ 8 ∧ k ≠ 7)
def srcB (k : Int) : Bool := decide (k = 1 ∨ k = 7)
theorem hasPin_p (k : Int) : pcall Tryd.prog md fg 28 [.int k] = some (.val (.bool (pinB k))) := by
  have e : aval Tryd.prog md fg 28 [.int k] [] = some (.val (.bool (pinB k)), []) := by
    rw [aval_of Tryd.func28 body28 Tryd.results28 Tryd.ntmps28 ok28]
    by_cases h1 : 1 ≤ k
    · by_cases h2 : k ≤ 8
      · by_cases h3 : k = 7
        · subst h3; simp (implicitDefEqProofs := false) (disch := omega) only [go_sem, Nat.reduceAdd, Nat.reduceSub, Nat.reduceMul, Nat.reduceLT, Nat.reduceLeDiff, Nat.reduceEqDiff, List.drop_zero, List.take_succ_cons, List.take_zero, List.drop_succ_cons, Bool.and_true, Bool.true_and, Bool.and_false, Bool.false_and, BitVec.reduceOfInt, Nat.zero_add, Nat.mul_one, Nat.add_zero, Int.zero_add, Int.reduceToNat, Nat.reducePow, ↓reduceIte, reduceCtorEq, Int.reduceLE, Int.reduceLT, Int.reduceEq, Int.reduceNe, Int.reduceAdd, Int.reduceSub, Int.reduceMul, Int.reduceNeg, Nat.reduceBEq, show regOf Tryd.f28 0 = Code.region _ _ _ from rfl, show regOf Tryd.f28 1 = Code.region _ _ _ from rfl]; rfl
        · have hm : pinB k = true := by unfold pinB; simp; omega
          rw [hm]; simp (implicitDefEqProofs := false) (disch := omega) only [go_sem, Nat.reduceAdd, Nat.reduceSub, Nat.reduceMul, Nat.reduceLT, Nat.reduceLeDiff, Nat.reduceEqDiff, List.drop_zero, List.take_succ_cons, List.take_zero, List.drop_succ_cons, Bool.and_true, Bool.true_and, Bool.and_false, Bool.false_and, BitVec.reduceOfInt, Nat.zero_add, Nat.mul_one, Nat.add_zero, Int.zero_add, Int.reduceToNat, Nat.reducePow, ↓reduceIte, reduceCtorEq, Int.reduceLE, Int.reduceLT, Int.reduceEq, Int.reduceNe, Int.reduceAdd, Int.reduceSub, Int.reduceMul, Int.reduceNeg, Nat.reduceBEq, show regOf Tryd.f28 0 = Code.region _ _ _ from rfl, show regOf Tryd.f28 1 = Code.region _ _ _ from rfl, h1, h2, h3]
      · have hm : pinB k = false := by unfold pinB; simp; omega
        rw [hm]; simp (implicitDefEqProofs := false) (disch := omega) only [go_sem, Nat.reduceAdd, Nat.reduceSub, Nat.reduceMul, Nat.reduceLT, Nat.reduceLeDiff, Nat.reduceEqDiff, List.drop_zero, List.take_succ_cons, List.take_zero, List.drop_succ_cons, Bool.and_true, Bool.true_and, Bool.and_false, Bool.false_and, BitVec.reduceOfInt, Nat.zero_add, Nat.mul_one, Nat.add_zero, Int.zero_add, Int.reduceToNat, Nat.reducePow, ↓reduceIte, reduceCtorEq, Int.reduceLE, Int.reduceLT, Int.reduceEq, Int.reduceNe, Int.reduceAdd, Int.reduceSub, Int.reduceMul, Int.reduceNeg, Nat.reduceBEq, show regOf Tryd.f28 0 = Code.region _ _ _ from rfl, show regOf Tryd.f28 1 = Code.region _ _ _ from rfl, h1, h2]
    · have hm : pinB k = false := by unfold pinB; simp; omega
      rw [hm]; simp (implicitDefEqProofs := false) (disch := omega) only [go_sem, Nat.reduceAdd, Nat.reduceSub, Nat.reduceMul, Nat.reduceLT, Nat.reduceLeDiff, Nat.reduceEqDiff, List.drop_zero, List.take_succ_cons, List.take_zero, List.drop_succ_cons, Bool.and_true, Bool.true_and, Bool.and_false, Bool.false_and, BitVec.reduceOfInt, Nat.zero_add, Nat.mul_one, Nat.add_zero, Int.zero_add, Int.reduceToNat, Nat.reducePow, ↓reduceIte, reduceCtorEq, Int.reduceLE, Int.reduceLT, Int.reduceEq, Int.reduceNe, Int.reduceAdd, Int.reduceSub, Int.reduceMul, Int.reduceNeg, Nat.reduceBEq, show regOf Tryd.f28 0 = Code.region _ _ _ from rfl, show regOf Tryd.f28 1 = Code.region _ _ _ from rfl, h1]
  rw [pcall_eq, e, pureRes_solid rfl]
theorem hasSource_p (k : Int) : pcall Tryd.prog md fg 30 [.int k] = some (.val (.bool (srcB k))) := by
  have e : aval Tryd.prog md fg 30 [.int k] [] = some (.val (.bool (srcB k)), []) := by
    rw [aval_of Tryd.func30 body30 Tryd.results30 Tryd.ntmps30 ok30]
    by_cases h1 : k = 1
    · subst h1; simp (implicitDefEqProofs := false) (disch := omega) only [go_sem, Nat.reduceAdd, Nat.reduceSub, Nat.reduceMul, Nat.reduceLT, Nat.reduceLeDiff, Nat.reduceEqDiff, List.drop_zero, List.take_succ_cons, List.take_zero, List.drop_succ_cons, Bool.and_true, Bool.true_and, Bool.and_false, Bool.false_and, BitVec.reduceOfInt, Nat.zero_add, Nat.mul_one, Nat.add_zero, Int.zero_add, Int.reduceToNat, Nat.reducePow, ↓reduceIte, reduceCtorEq, Int.reduceLE, Int.reduceLT, Int.reduceEq, Int.reduceNe, Int.reduceAdd, Int.reduceSub, Int.reduceMul, Int.reduceNeg, Nat.reduceBEq, show regOf Tryd.f30 0 = Code.region _ _ _ from rfl, show regOf Tryd.f30 1 = Code.region _ _ _ from rfl]; rfl
    by_cases h2 : k = 7
    · subst h2; simp (implicitDefEqProofs := false) (disch := omega) only [go_sem, Nat.reduceAdd, Nat.reduceSub, Nat.reduceMul, Nat.reduceLT, Nat.reduceLeDiff, Nat.reduceEqDiff, List.drop_zero, List.take_succ_cons, List.take_zero, List.drop_succ_cons, Bool.and_true, Bool.true_and, Bool.and_false, Bool.false_and, BitVec.reduceOfInt, Nat.zero_add, Nat.mul_one, Nat.add_zero, Int.zero_add, Int.reduceToNat, Nat.reducePow, ↓reduceIte, reduceCtorEq, Int.reduceLE, Int.reduceLT, Int.reduceEq, Int.reduceNe, Int.reduceAdd, Int.reduceSub, Int.reduceMul, Int.reduceNeg, Nat.reduceBEq, show regOf Tryd.f30 0 = Code.region _ _ _ from rfl, show regOf Tryd.f30 1 = Code.region _ _ _ from rfl]; rfl
    have hm : srcB k = false := by unfold srcB; simp [h1, h2]
    rw [hm]; simp (implicitDefEqProofs := false) (disch := omega) only [go_sem, Nat.reduceAdd, Nat.reduceSub, Nat.reduceMul, Nat.reduceLT, Nat.reduceLeDiff, Nat.reduceEqDiff, List.drop_zero, List.take_succ_cons, List.take_zero, List.drop_succ_cons, Bool.and_true, Bool.true_and, Bool.and_false, Bool.false_and, BitVec.reduceOfInt, Nat.zero_add, Nat.mul_one, Nat.add_zero, Int.zero_add, Int.reduceToNat, Nat.reducePow, ↓reduceIte, reduceCtorEq, Int.reduceLE, Int.reduceLT, Int.reduceEq, Int.reduceNe, Int.reduceAdd, Int.reduceSub, Int.reduceMul, Int.reduceNeg, Nat.reduceBEq, show regOf Tryd.f30 0 = Code.region _ _ _ from rfl, show regOf Tryd.f30 1 = Code.region _ _ _ from rfl, h1, h2]
  rw [pcall_eq, e, pureRes_solid rfl]
end Go.Proofs.YtfloombnadnmaaaDoor
namespace Go.Proofs.YtfloombnadnmaaaDoor
open Go Go.Ab Go.Proofs
set_option maxRecDepth 100000
set_option linter.unusedSimpArgs false
set_option linter.unusedVariables false
def kindB (k : Int) : Bool := decide (1 ≤ k ∧ k ≤ 10)
def partsV (k : Int) : AV := .tup [.agg [.bool (pinB k), .bool (decide (k = 6)), .bool (srcB k)], .bool (kindB k)]
theorem partsOf_p (k : Int) : pcall Tryd.prog md fg 23 [.int k] = some (partsV k) := by
  have e : ∃ h, aval Tryd.prog md fg 23 [.int k] [] = some (partsV k, h) := by
    by_cases hk : 1 ≤ k ∧ k ≤ 10
    · have : k = 1 ∨ k = 2 ∨ k = 3 ∨ k = 4 ∨ k = 5 ∨ k = 6 ∨ k = 7 ∨ k = 8 ∨ k = 9 ∨ k = 10 := by omega
      rcases this with rfl | rfl | rfl | rfl | rfl | rfl | rfl | rfl | rfl | rfl <;>
      · rw [aval_of Tryd.func23 body23 Tryd.results23 Tryd.ntmps23 ok23]
        simp (implicitDefEqProofs := false) (disch := omega) only [go_sem, Nat.reduceAdd, Nat.reduceSub, Nat.reduceMul, Nat.reduceLT, Nat.reduceLeDiff, Nat.reduceEqDiff, List.drop_zero, List.take_succ_cons, List.take_zero, List.drop_succ_cons, Bool.and_true, Bool.true_and, Bool.and_false, Bool.false_and, BitVec.reduceOfInt, Nat.zero_add, Nat.mul_one, Nat.add_zero, Int.zero_add, Int.reduceToNat, Nat.reducePow, ↓reduceIte, reduceCtorEq, Int.reduceLE, Int.reduceLT, Int.reduceEq, Int.reduceNe, Int.reduceAdd, Int.reduceSub, Int.reduceMul, Int.reduceNeg, Nat.reduceBEq, show regOf Tryd.f23 0 = Code.region _ _ _ from rfl, show regOf Tryd.f23 1 = Code.region _ _ _ from rfl, show regOf Tryd.f23 2 = Code.region _ _ _ from rfl, show regOf Tryd.f23 3 = Code.region _ _ _ from rfl, show regOf Tryd.f23 4 = Code.region _ _ _ from rfl, show regOf Tryd.f23 5 = Code.region _ _ _ from rfl, show regOf Tryd.f23 6 = Code.region _ _ _ from rfl, show regOf Tryd.f23 7 = Code.region _ _ _ from rfl, show regOf Tryd.f23 8 = Code.region _ _ _ from rfl, show regOf Tryd.f23 9 = Code.region _ _ _ from rfl, show regOf Tryd.f23 10 = Code.region _ _ _ from rfl, show regOf Tryd.f23 11 = Code.region _ _ _ from rfl, show regOf Tryd.f23 12 = Code.region _ _ _ from rfl, show regOf Tryd.f23 13 = Code.region _ _ _ from rfl, show regOf Tryd.f23 14 = Code.region _ _ _ from rfl, show regOf Tryd.f23 15 = Code.region _ _ _ from rfl, show regOf Tryd.f23 16 = Code.region _ _ _ from rfl, show regOf Tryd.f23 17 = Code.region _ _ _ from rfl]
        exact ⟨_, rfl⟩
    · have h1 : ¬ k = 1 := by omega
      have h2 : ¬ k = 2 := by omega
      have h3 : ¬ k = 3 := by omega
      have h4 : ¬ k = 4 := by omega
      have h5 : ¬ k = 5 := by omega
      have h6 : ¬ k = 6 := by omega
      have h7 : ¬ k = 7 := by omega
      have h8 : ¬ k = 8 := by omega
      have h9 : ¬ k = 9 := by omega
      have h10 : ¬ k = 10 := by omega
      have e1 : partsV k = .tup [.agg [.bool false, .bool false, .bool false], .bool false] := by
        unfold partsV
        have a1 : pinB k = false := by unfold pinB; simp; omega
        have a2 : decide (k = 6) = false := by simp; omega
        have a3 : srcB k = false := by unfold srcB; simp; omega
        have a4 : kindB k = false := by unfold kindB; simp; omega
        rw [a1, a2, a3, a4]
      rw [e1]
      rw [aval_of Tryd.func23 body23 Tryd.results23 Tryd.ntmps23 ok23]
      simp (implicitDefEqProofs := false) (disch := omega) only [go_sem, Nat.reduceAdd, Nat.reduceSub, Nat.reduceMul, Nat.reduceLT, Nat.reduceLeDiff, Nat.reduceEqDiff, List.drop_zero, List.take_succ_cons, List.take_zero, List.drop_succ_cons, Bool.and_true, Bool.true_and, Bool.and_false, Bool.false_and, BitVec.reduceOfInt, Nat.zero_add, Nat.mul_one, Nat.add_zero, Int.zero_add, Int.reduceToNat, Nat.reducePow, ↓reduceIte, reduceCtorEq, Int.reduceLE, Int.reduceLT, Int.reduceEq, Int.reduceNe, Int.reduceAdd, Int.reduceSub, Int.reduceMul, Int.reduceNeg, Nat.reduceBEq, show regOf Tryd.f23 0 = Code.region _ _ _ from rfl, show regOf Tryd.f23 1 = Code.region _ _ _ from rfl, show regOf Tryd.f23 2 = Code.region _ _ _ from rfl, show regOf Tryd.f23 3 = Code.region _ _ _ from rfl, show regOf Tryd.f23 4 = Code.region _ _ _ from rfl, show regOf Tryd.f23 5 = Code.region _ _ _ from rfl, show regOf Tryd.f23 6 = Code.region _ _ _ from rfl, show regOf Tryd.f23 7 = Code.region _ _ _ from rfl, show regOf Tryd.f23 8 = Code.region _ _ _ from rfl, show regOf Tryd.f23 9 = Code.region _ _ _ from rfl, show regOf Tryd.f23 10 = Code.region _ _ _ from rfl, show regOf Tryd.f23 11 = Code.region _ _ _ from rfl, show regOf Tryd.f23 12 = Code.region _ _ _ from rfl, show regOf Tryd.f23 13 = Code.region _ _ _ from rfl, show regOf Tryd.f23 14 = Code.region _ _ _ from rfl, show regOf Tryd.f23 15 = Code.region _ _ _ from rfl, show regOf Tryd.f23 16 = Code.region _ _ _ from rfl, show regOf Tryd.f23 17 = Code.region _ _ _ from rfl, h1, h2, h3, h4, h5, h6, h7, h8, h9, h10]
      exact ⟨_, rfl⟩
  obtain ⟨h, e⟩ := e
  rw [pcall_eq, e, pureRes_solid rfl]
def inB (n : Int) : Bool := decide (0 ≤ n ∧ n ≤ 999999)
theorem in_p (n : Int) : pcall Tryd.prog md fg 63 [.int n] = some (.val (.bool (inB n))) := by
  have e : aval Tryd.prog md fg 63 [.int n] [] = some (.val (.bool (inB n)), []) := by
    rw [aval_of Tryd.func63 body63 Tryd.results63 Tryd.ntmps63 ok63]
    by_cases h1 : 0 ≤ n
    · by_cases h2 : n ≤ 999999
      · have hm : inB n = true := by unfold inB; simp; omega
        rw [hm]; simp (implicitDefEqProofs := false) (disch := omega) only [go_sem, Nat.reduceAdd, Nat.reduceSub, Nat.reduceMul, Nat.reduceLT, Nat.reduceLeDiff, Nat.reduceEqDiff, List.drop_zero, List.take_succ_cons, List.take_zero, List.drop_succ_cons, Bool.and_true, Bool.true_and, Bool.and_false, Bool.false_and, BitVec.reduceOfInt, Nat.zero_add, Nat.mul_one, Nat.add_zero, Int.zero_add, Int.reduceToNat, Nat.reducePow, ↓reduceIte, reduceCtorEq, Int.reduceLE, Int.reduceLT, Int.reduceEq, Int.reduceNe, Int.reduceAdd, Int.reduceSub, Int.reduceMul, Int.reduceNeg, Nat.reduceBEq, show regOf Tryd.f63 0 = Code.region _ _ _ from rfl, show regOf Tryd.f63 1 = Code.region _ _ _ from rfl, h1, h2]
      · have hm : inB n = false := by unfold inB; simp; omega
        rw [hm]; simp (implicitDefEqProofs := false) (disch := omega) only [go_sem, Nat.reduceAdd, Nat.reduceSub, Nat.reduceMul, Nat.reduceLT, Nat.reduceLeDiff, Nat.reduceEqDiff, List.drop_zero, List.take_succ_cons, List.take_zero, List.drop_succ_cons, Bool.and_true, Bool.true_and, Bool.and_false, Bool.false_and, BitVec.reduceOfInt, Nat.zero_add, Nat.mul_one, Nat.add_zero, Int.zero_add, Int.reduceToNat, Nat.reducePow, ↓reduceIte, reduceCtorEq, Int.reduceLE, Int.reduceLT, Int.reduceEq, Int.reduceNe, Int.reduceAdd, Int.reduceSub, Int.reduceMul, Int.reduceNeg, Nat.reduceBEq, show regOf Tryd.f63 0 = Code.region _ _ _ from rfl, show regOf Tryd.f63 1 = Code.region _ _ _ from rfl, h1, h2]
    · have hm : inB n = false := by unfold inB; simp; omega
      rw [hm]; simp (implicitDefEqProofs := false) (disch := omega) only [go_sem, Nat.reduceAdd, Nat.reduceSub, Nat.reduceMul, Nat.reduceLT, Nat.reduceLeDiff, Nat.reduceEqDiff, List.drop_zero, List.take_succ_cons, List.take_zero, List.drop_succ_cons, Bool.and_true, Bool.true_and, Bool.and_false, Bool.false_and, BitVec.reduceOfInt, Nat.zero_add, Nat.mul_one, Nat.add_zero, Int.zero_add, Int.reduceToNat, Nat.reducePow, ↓reduceIte, reduceCtorEq, Int.reduceLE, Int.reduceLT, Int.reduceEq, Int.reduceNe, Int.reduceAdd, Int.reduceSub, Int.reduceMul, Int.reduceNeg, Nat.reduceBEq, show regOf Tryd.f63 0 = Code.region _ _ _ from rfl, show regOf Tryd.f63 1 = Code.region _ _ _ from rfl, h1]
  rw [pcall_eq, e, pureRes_solid rfl]
theorem rin_p (n : Int) : pcall Tryd.prog md fg 64 [.int n] = some (.val (.bool (inB n))) := by
  have e : aval Tryd.prog md fg 64 [.int n] [] = some (.val (.bool (inB n)), []) := by
    rw [aval_of Tryd.func64 body64 Tryd.results64 Tryd.ntmps64 ok64]
    by_cases h1 : 0 ≤ n
    · by_cases h2 : n ≤ 999999
      · have hm : inB n = true := by unfold inB; simp; omega
        rw [hm]; simp (implicitDefEqProofs := false) (disch := omega) only [go_sem, Nat.reduceAdd, Nat.reduceSub, Nat.reduceMul, Nat.reduceLT, Nat.reduceLeDiff, Nat.reduceEqDiff, List.drop_zero, List.take_succ_cons, List.take_zero, List.drop_succ_cons, Bool.and_true, Bool.true_and, Bool.and_false, Bool.false_and, BitVec.reduceOfInt, Nat.zero_add, Nat.mul_one, Nat.add_zero, Int.zero_add, Int.reduceToNat, Nat.reducePow, ↓reduceIte, reduceCtorEq, Int.reduceLE, Int.reduceLT, Int.reduceEq, Int.reduceNe, Int.reduceAdd, Int.reduceSub, Int.reduceMul, Int.reduceNeg, Nat.reduceBEq, show regOf Tryd.f64 0 = Code.region _ _ _ from rfl, show regOf Tryd.f64 1 = Code.region _ _ _ from rfl, h1, h2]
      · have hm : inB n = false := by unfold inB; simp; omega
        rw [hm]; simp (implicitDefEqProofs := false) (disch := omega) only [go_sem, Nat.reduceAdd, Nat.reduceSub, Nat.reduceMul, Nat.reduceLT, Nat.reduceLeDiff, Nat.reduceEqDiff, List.drop_zero, List.take_succ_cons, List.take_zero, List.drop_succ_cons, Bool.and_true, Bool.true_and, Bool.and_false, Bool.false_and, BitVec.reduceOfInt, Nat.zero_add, Nat.mul_one, Nat.add_zero, Int.zero_add, Int.reduceToNat, Nat.reducePow, ↓reduceIte, reduceCtorEq, Int.reduceLE, Int.reduceLT, Int.reduceEq, Int.reduceNe, Int.reduceAdd, Int.reduceSub, Int.reduceMul, Int.reduceNeg, Nat.reduceBEq, show regOf Tryd.f64 0 = Code.region _ _ _ from rfl, show regOf Tryd.f64 1 = Code.region _ _ _ from rfl, h1, h2]
    · have hm : inB n = false := by unfold inB; simp; omega
      rw [hm]; simp (implicitDefEqProofs := false) (disch := omega) only [go_sem, Nat.reduceAdd, Nat.reduceSub, Nat.reduceMul, Nat.reduceLT, Nat.reduceLeDiff, Nat.reduceEqDiff, List.drop_zero, List.take_succ_cons, List.take_zero, List.drop_succ_cons, Bool.and_true, Bool.true_and, Bool.and_false, Bool.false_and, BitVec.reduceOfInt, Nat.zero_add, Nat.mul_one, Nat.add_zero, Int.zero_add, Int.reduceToNat, Nat.reducePow, ↓reduceIte, reduceCtorEq, Int.reduceLE, Int.reduceLT, Int.reduceEq, Int.reduceNe, Int.reduceAdd, Int.reduceSub, Int.reduceMul, Int.reduceNeg, Nat.reduceBEq, show regOf Tryd.f64 0 = Code.region _ _ _ from rfl, show regOf Tryd.f64 1 = Code.region _ _ _ from rfl, h1]
  rw [pcall_eq, e, pureRes_solid rfl]
abbrev verV (a b c : Int) : AV := .agg [.int a, .int b, .int c]
def verB (a b c : Int) : Bool := inB a && inB b && inB c
theorem right_p (a b c : Int) : pcall Tryd.prog md fg 52 [verV a b c] = some (.val (.bool (verB a b c))) := by
  have c1 : ∀ (n : Int) (h : AHeap), doCall md (aval Tryd.prog md fg) 63 [.int n] h = some (.val (.bool (inB n)), h) := fun n h => doCall_pure md63 rfl (in_p n)
  have e : ∃ h, aval Tryd.prog md fg 52 [verV a b c] [] = some (.val (.bool (verB a b c)), h) := by
    rw [aval_of Tryd.func52 body52 Tryd.results52 Tryd.ntmps52 ok52]
    unfold verB
    cases ha : inB a <;> cases hb : inB b <;> cases hc : inB c <;>
    · simp (implicitDefEqProofs := false) (disch := omega) only [go_sem, Nat.reduceAdd, Nat.reduceSub, Nat.reduceMul, Nat.reduceLT, Nat.reduceLeDiff, Nat.reduceEqDiff, List.drop_zero, List.take_succ_cons, List.take_zero, List.drop_succ_cons, Bool.and_true, Bool.true_and, Bool.and_false, Bool.false_and, BitVec.reduceOfInt, Nat.zero_add, Nat.mul_one, Nat.add_zero, Int.zero_add, Int.reduceToNat, Nat.reducePow, ↓reduceIte, reduceCtorEq, Int.reduceLE, Int.reduceLT, Int.reduceEq, Int.reduceNe, Int.reduceAdd, Int.reduceSub, Int.reduceMul, Int.reduceNeg, Nat.reduceBEq, show regOf Tryd.f52 0 = Code.region _ _ _ from rfl, show regOf Tryd.f52 1 = Code.region _ _ _ from rfl, c1, ha, hb, hc]
      exact ⟨_, rfl⟩
  obtain ⟨h, e⟩ := e
  rw [pcall_eq, e, pureRes_solid rfl]
theorem rright_p (a b c : Int) : pcall Tryd.prog md fg 54 [verV a b c] = some (.val (.bool (verB a b c))) := by
  have c1 : ∀ (n : Int) (h : AHeap), doCall md (aval Tryd.prog md fg) 64 [.int n] h = some (.val (.bool (inB n)), h) := fun n h => doCall_pure md64 rfl (rin_p n)
  have e : ∃ h, aval Tryd.prog md fg 54 [verV a b c] [] = some (.val (.bool (verB a b c)), h) := by
    rw [aval_of Tryd.func54 body54 Tryd.results54 Tryd.ntmps54 ok54]
    unfold verB
    cases ha : inB a <;> cases hb : inB b <;> cases hc : inB c <;>
    · simp (implicitDefEqProofs := false) (disch := omega) only [go_sem, Nat.reduceAdd, Nat.reduceSub, Nat.reduceMul, Nat.reduceLT, Nat.reduceLeDiff, Nat.reduceEqDiff, List.drop_zero, List.take_succ_cons, List.take_zero, List.drop_succ_cons, Bool.and_true, Bool.true_and, Bool.and_false, Bool.false_and, BitVec.reduceOfInt, Nat.zero_add, Nat.mul_one, Nat.add_zero, Int.zero_add, Int.reduceToNat, Nat.reducePow, ↓reduceIte, reduceCtorEq, Int.reduceLE, Int.reduceLT, Int.reduceEq, Int.reduceNe, Int.reduceAdd, Int.reduceSub, Int.reduceMul, Int.reduceNeg, Nat.reduceBEq, show regOf Tryd.f54 0 = Code.region _ _ _ from rfl, show regOf Tryd.f54 1 = Code.region _ _ _ from rfl, c1, ha, hb, hc]
      exact ⟨_, rfl⟩
  obtain ⟨h, e⟩ := e
  rw [pcall_eq, e, pureRes_solid rfl]
end Go.Proofs.YtfloombnadnmaaaDoor
namespace Go.Proofs.YtfloombnadnmaaaDoor
open Go Go.Ab Go.Proofs
set_option maxRecDepth 100000
set_option linter.unusedSimpArgs false
set_option linter.unusedVariables false
/-- A small letter or a digit. -/
def alnN (n : Nat) : Bool := (decide (97 ≤ n) && decide (n ≤ 122)) || (decide (48 ≤ n) && decide (n ≤ 57))
def aln (c : UInt8) : Bool := alnN c.toNat
def lowc (c : UInt8) : Bool := decide (97 ≤ c.toNat) && decide (c.toNat ≤ 122)
def setL : List AV := (List.range 256).map fun n => .bool (alnN n)
def cutset : ByteArray := ⟨#[97, 98, 99, 100, 101, 102, 103, 104, 105, 106, 107, 108, 109, 110, 111, 112, 113, 114, 115, 116, 117, 118, 119, 120, 121, 122, 48, 49, 50, 51, 52, 53, 54, 55, 56, 57]⟩
theorem setL_get (c : UInt8) : setL[c.toNat]? = some (.bool (aln c)) := by
  have h := c.toNat_lt
  unfold setL aln
  rw [List.getElem?_map, List.getElem?_range (by omega)]; rfl
def pureB (x : Option (AV × AHeap)) (r : AV) : Bool := match pureRes x with | some v => avB v r | none => false
theorem pcall_of_pureB {k : Nat} {f : FuncId} {xs : List AV} {r : AV} (e : pureB (scall Tryd.prog md fg knows k f xs []) r = true) : pcall Tryd.prog md fg f xs = some r := by
  unfold pureB at e
  cases hs : scall Tryd.prog md fg knows k f xs [] with
  | none => rw [hs] at e; simp [pureRes] at e
  | some x =>
    rw [hs] at e
    unfold pcall
    rw [aval_of_scall okKnown k hs]
    split at e
    · rename_i v hv; rw [hv, avB_eq e]
    · cases e
theorem asciiSet_p : pcall Tryd.prog md fg 67 [.val (.string cutset)] = some (.tup [.agg setL, .bool true]) := pcall_of_pureB (k := 100) (by kernel_rfl)
theorem contains_a {h : AHeap} {id : Nat} (hr : hget h id = .vars setL) (c : UInt8) : aval Tryd.prog md fg 72 [.ptr id 0, byteVal c] h = some (.val (.bool (aln c)), h) := by
  have hc := c.toNat_lt
  rw [aval_of Tryd.func72 body72 Tryd.results72 Tryd.ntmps72 ok72]
  unfold byteVal
  have ht : ((c.toNat : Int)).toNat = c.toNat := by omega
  simp (implicitDefEqProofs := false) (disch := omega) only [go_sem, Nat.reduceAdd, Nat.reduceSub, Nat.reduceMul, Nat.reduceLT, Nat.reduceLeDiff, Nat.reduceEqDiff, List.drop_zero, List.take_succ_cons, List.take_zero, List.drop_succ_cons, Bool.and_true, Bool.true_and, Bool.and_false, Bool.false_and, BitVec.reduceOfInt, Nat.zero_add, Nat.mul_one, Nat.add_zero, Int.zero_add, Int.reduceToNat, Nat.reducePow, ↓reduceIte, reduceCtorEq, Int.reduceLE, Int.reduceLT, Int.reduceEq, Int.reduceNe, Int.reduceAdd, Int.reduceSub, Int.reduceMul, Int.reduceNeg, Nat.reduceBEq, show regOf Tryd.f72 0 = Code.region _ _ _ from rfl, show regOf Tryd.f72 1 = Code.region _ _ _ from rfl, hr, ht, setL_get]
theorem contains_c {h : AHeap} {id : Nat} (hr : hget h id = .vars setL) (c : UInt8) : doCall md (aval Tryd.prog md fg) 72 [.ptr id 0, byteVal c] h = some (.val (.bool (aln c)), h) := doCall_len (by decide) (contains_a hr c) rfl
end Go.Proofs.YtfloombnadnmaaaDoor
namespace Go.Proofs.YtfloombnadnmaaaDoor
open Go Go.Ab Go.Proofs
set_option maxRecDepth 100000
set_option linter.unusedSimpArgs false
set_option linter.unusedVariables false
section
variable {h : AHeap} {id : Nat}
theorem contains_d (hr : hget h id = .vars setL) (c : UInt8) : doCall md (aval Tryd.prog md fg) 72 [.ptr id 0, .val (.int .u8 (c.toBitVec.toNat : Int))] h = some (.val (.bool (aln c)), h) := contains_c hr c
theorem tl_round (hr : hget h id = .vars setL) (c : UInt8) (r : List UInt8) (hc : aln c = true) :
    lrun Tryd.prog md fg (fg 68) (loopOf Tryd.f68 0) (fg 68 1) ([.val (.string (txt (c :: r))), .ptr id 0, .unk, .unk, .unk, .unk, .unk, .unk, .unk, .unk, .unk, .unk, .unk, .unk, .unk, .unk]) h = lrun Tryd.prog md fg (fg 68) (loopOf Tryd.f68 0) (fg 68 1) ([.val (.string (txt r)), .ptr id 0, .unk, .unk, .unk, .unk, .unk, .unk, .unk, .unk, .unk, .unk, .unk, .unk, .unk, .unk]) h := by
  rw [lrun_atC loop68_0]
  have hs : (txt (c :: r)).size = r.length + 1 := by rw [txt_size]; rfl
  have hx : (txt (c :: r)).extract 1 (r.length + 1) = txt r := by rw [txt_extract]; simp
  simp (implicitDefEqProofs := false) (disch := omega) only [go_sem, Nat.reduceAdd, Nat.reduceSub, Nat.reduceMul, Nat.reduceLT, Nat.reduceLeDiff, Nat.reduceEqDiff, List.drop_zero, List.take_succ_cons, List.take_zero, List.drop_succ_cons, Bool.and_true, Bool.true_and, Bool.and_false, Bool.false_and, BitVec.reduceOfInt, Nat.zero_add, Nat.mul_one, Nat.add_zero, Int.zero_add, Int.reduceToNat, Nat.reducePow, ↓reduceIte, reduceCtorEq, Int.reduceLE, Int.reduceLT, Int.reduceEq, Int.reduceNe, Int.reduceAdd, Int.reduceSub, Int.reduceMul, Int.reduceNeg, Nat.reduceBEq, show regOf Tryd.f68 1 = Code.region _ _ _ from rfl, show regOf Tryd.f68 2 = Code.region _ _ _ from rfl, show regOf Tryd.f68 3 = Code.region _ _ _ from rfl, hs, txt_list, List.getElem?_cons_zero, contains_d hr, hc, hx]
theorem tl_end0 (hr : hget h id = .vars setL) :
    lrun Tryd.prog md fg (fg 68) (loopOf Tryd.f68 0) (fg 68 1) ([.val (.string (txt [])), .ptr id 0, .unk, .unk, .unk, .unk, .unk, .unk, .unk, .unk, .unk, .unk, .unk, .unk, .unk, .unk]) h = some (.exit 0, [.val (.string (txt [])), .ptr id 0, .unk, .unk, .unk, .unk, .unk, .unk, .unk, .unk, .unk, .unk, .unk, .unk, .unk, .unk], h) := by
  rw [lrun_atC loop68_0]
  have hs : (txt []).size = 0 := by rw [txt_size]; rfl
  simp (implicitDefEqProofs := false) (disch := omega) only [go_sem, Nat.reduceAdd, Nat.reduceSub, Nat.reduceMul, Nat.reduceLT, Nat.reduceLeDiff, Nat.reduceEqDiff, List.drop_zero, List.take_succ_cons, List.take_zero, List.drop_succ_cons, Bool.and_true, Bool.true_and, Bool.and_false, Bool.false_and, BitVec.reduceOfInt, Nat.zero_add, Nat.mul_one, Nat.add_zero, Int.zero_add, Int.reduceToNat, Nat.reducePow, ↓reduceIte, reduceCtorEq, Int.reduceLE, Int.reduceLT, Int.reduceEq, Int.reduceNe, Int.reduceAdd, Int.reduceSub, Int.reduceMul, Int.reduceNeg, Nat.reduceBEq, show regOf Tryd.f68 1 = Code.region _ _ _ from rfl, show regOf Tryd.f68 2 = Code.region _ _ _ from rfl, show regOf Tryd.f68 3 = Code.region _ _ _ from rfl, hs]
theorem tl_end1 (hr : hget h id = .vars setL) (c : UInt8) (r : List UInt8) (hc : aln c = false) :
    lrun Tryd.prog md fg (fg 68) (loopOf Tryd.f68 0) (fg 68 1) ([.val (.string (txt (c :: r))), .ptr id 0, .unk, .unk, .unk, .unk, .unk, .unk, .unk, .unk, .unk, .unk, .unk, .unk, .unk, .unk]) h = some (.exit 0, [.val (.string (txt (c :: r))), .ptr id 0, .unk, .unk, .unk, .unk, .unk, .unk, .unk, .unk, .unk, .unk, .unk, .unk, .unk, .unk], h) := by
  rw [lrun_atC loop68_0]
  have hs : (txt (c :: r)).size = r.length + 1 := by rw [txt_size]; rfl
  simp (implicitDefEqProofs := false) (disch := omega) only [go_sem, Nat.reduceAdd, Nat.reduceSub, Nat.reduceMul, Nat.reduceLT, Nat.reduceLeDiff, Nat.reduceEqDiff, List.drop_zero, List.take_succ_cons, List.take_zero, List.drop_succ_cons, Bool.and_true, Bool.true_and, Bool.and_false, Bool.false_and, BitVec.reduceOfInt, Nat.zero_add, Nat.mul_one, Nat.add_zero, Int.zero_add, Int.reduceToNat, Nat.reducePow, ↓reduceIte, reduceCtorEq, Int.reduceLE, Int.reduceLT, Int.reduceEq, Int.reduceNe, Int.reduceAdd, Int.reduceSub, Int.reduceMul, Int.reduceNeg, Nat.reduceBEq, show regOf Tryd.f68 1 = Code.region _ _ _ from rfl, show regOf Tryd.f68 2 = Code.region _ _ _ from rfl, show regOf Tryd.f68 3 = Code.region _ _ _ from rfl, hs, txt_list, List.getElem?_cons_zero, contains_d hr, hc]
theorem tl_loop (hr : hget h id = .vars setL) : ∀ l : List UInt8,
    lrun Tryd.prog md fg (fg 68) (loopOf Tryd.f68 0) (fg 68 1) ([.val (.string (txt l)), .ptr id 0, .unk, .unk, .unk, .unk, .unk, .unk, .unk, .unk, .unk, .unk, .unk, .unk, .unk, .unk]) h = some (.exit 0, [.val (.string (txt (l.dropWhile aln))), .ptr id 0, .unk, .unk, .unk, .unk, .unk, .unk, .unk, .unk, .unk, .unk, .unk, .unk, .unk, .unk], h)
  | [] => tl_end0 hr
  | c :: r => by
    cases hc : aln c with
    | true => rw [tl_round hr c r hc, tl_loop hr r, List.dropWhile_cons, if_pos hc]
    | false => rw [tl_end1 hr c r hc, List.dropWhile_cons, if_neg (by rw [hc]; simp)]
theorem trimLeft_c (hr : hget h id = .vars setL) (l : List UInt8) : doCall md (aval Tryd.prog md fg) 68 [.val (.string (txt l)), .ptr id 0] h = some (.val (.string (txt (l.dropWhile aln))), h) := by
  refine doCall_len (by decide) ?_ rfl
  rw [aval_of Tryd.func68 body68 Tryd.results68 Tryd.ntmps68 ok68]
  simp (implicitDefEqProofs := false) (disch := omega) only [go_sem, Nat.reduceAdd, Nat.reduceSub, Nat.reduceMul, Nat.reduceLT, Nat.reduceLeDiff, Nat.reduceEqDiff, List.drop_zero, List.take_succ_cons, List.take_zero, List.drop_succ_cons, Bool.and_true, Bool.true_and, Bool.and_false, Bool.false_and, BitVec.reduceOfInt, Nat.zero_add, Nat.mul_one, Nat.add_zero, Int.zero_add, Int.reduceToNat, Nat.reducePow, ↓reduceIte, reduceCtorEq, Int.reduceLE, Int.reduceLT, Int.reduceEq, Int.reduceNe, Int.reduceAdd, Int.reduceSub, Int.reduceMul, Int.reduceNeg, Nat.reduceBEq, show regOf Tryd.f68 0 = Code.region _ _ _ from rfl, show regOf Tryd.f68 4 = Code.region _ _ _ from rfl, tl_loop hr l]
theorem tr_round (hr : hget h id = .vars setL) (c : UInt8) (r : List UInt8) (hl : r.length < 9223372036854775808) (hc : aln c = true) :
    lrun Tryd.prog md fg (fg 69) (loopOf Tryd.f69 0) (fg 69 1) ([.val (.string (txt (r ++ [c]))), .ptr id 0, .unk, .unk, .unk, .unk, .unk, .unk, .unk, .unk, .unk, .unk, .unk, .unk, .unk, .unk, .unk, .unk, .unk, .unk, .unk, .unk]) h = lrun Tryd.prog md fg (fg 69) (loopOf Tryd.f69 0) (fg 69 1) ([.val (.string (txt r)), .ptr id 0, .unk, .unk, .unk, .unk, .unk, .unk, .unk, .unk, .unk, .unk, .unk, .unk, .unk, .unk, .unk, .unk, .unk, .unk, .unk, .unk]) h := by
  rw [lrun_atC loop69_0]
  have hs : (txt (r ++ [c])).size = r.length + 1 := by rw [txt_size]; simp
  have hx : (txt (r ++ [c])).extract 0 r.length = txt r := by rw [txt_extract]; simp
  have hi : (r ++ [c])[r.length]? = some c := by simp
  have ht : (((r.length + 1 : Nat) : Int) - 1).toNat = r.length := by omega
  simp (implicitDefEqProofs := false) (disch := omega) only [go_sem, Nat.reduceAdd, Nat.reduceSub, Nat.reduceMul, Nat.reduceLT, Nat.reduceLeDiff, Nat.reduceEqDiff, List.drop_zero, List.take_succ_cons, List.take_zero, List.drop_succ_cons, Bool.and_true, Bool.true_and, Bool.and_false, Bool.false_and, BitVec.reduceOfInt, Nat.zero_add, Nat.mul_one, Nat.add_zero, Int.zero_add, Int.reduceToNat, Nat.reducePow, ↓reduceIte, reduceCtorEq, Int.reduceLE, Int.reduceLT, Int.reduceEq, Int.reduceNe, Int.reduceAdd, Int.reduceSub, Int.reduceMul, Int.reduceNeg, Nat.reduceBEq, show regOf Tryd.f69 1 = Code.region _ _ _ from rfl, show regOf Tryd.f69 2 = Code.region _ _ _ from rfl, show regOf Tryd.f69 3 = Code.region _ _ _ from rfl, hs, txt_list, wrap_i64, ht, hi, contains_d hr, hc, hx]
theorem tr_end0 (hr : hget h id = .vars setL) :
    lrun Tryd.prog md fg (fg 69) (loopOf Tryd.f69 0) (fg 69 1) ([.val (.string (txt [])), .ptr id 0, .unk, .unk, .unk, .unk, .unk, .unk, .unk, .unk, .unk, .unk, .unk, .unk, .unk, .unk, .unk, .unk, .unk, .unk, .unk, .unk]) h = some (.exit 0, [.val (.string (txt [])), .ptr id 0, .unk, .unk, .unk, .unk, .unk, .unk, .unk, .unk, .unk, .unk, .unk, .unk, .unk, .unk, .unk, .unk, .unk, .unk, .unk, .unk], h) := by
  rw [lrun_atC loop69_0]
  have hs : (txt []).size = 0 := by rw [txt_size]; rfl
  simp (implicitDefEqProofs := false) (disch := omega) only [go_sem, Nat.reduceAdd, Nat.reduceSub, Nat.reduceMul, Nat.reduceLT, Nat.reduceLeDiff, Nat.reduceEqDiff, List.drop_zero, List.take_succ_cons, List.take_zero, List.drop_succ_cons, Bool.and_true, Bool.true_and, Bool.and_false, Bool.false_and, BitVec.reduceOfInt, Nat.zero_add, Nat.mul_one, Nat.add_zero, Int.zero_add, Int.reduceToNat, Nat.reducePow, ↓reduceIte, reduceCtorEq, Int.reduceLE, Int.reduceLT, Int.reduceEq, Int.reduceNe, Int.reduceAdd, Int.reduceSub, Int.reduceMul, Int.reduceNeg, Nat.reduceBEq, show regOf Tryd.f69 1 = Code.region _ _ _ from rfl, show regOf Tryd.f69 2 = Code.region _ _ _ from rfl, show regOf Tryd.f69 3 = Code.region _ _ _ from rfl, hs]
theorem tr_end1 (hr : hget h id = .vars setL) (c : UInt8) (r : List UInt8) (hl : r.length < 9223372036854775808) (hc : aln c = false) :
    lrun Tryd.prog md fg (fg 69) (loopOf Tryd.f69 0) (fg 69 1) ([.val (.string (txt (r ++ [c]))), .ptr id 0, .unk, .unk, .unk, .unk, .unk, .unk, .unk, .unk, .unk, .unk, .unk, .unk, .unk, .unk, .unk, .unk, .unk, .unk, .unk, .unk]) h = some (.exit 0, [.val (.string (txt (r ++ [c]))), .ptr id 0, .unk, .unk, .unk, .unk, .unk, .unk, .unk, .unk, .unk, .unk, .unk, .unk, .unk, .unk, .unk, .unk, .unk, .unk, .unk, .unk], h) := by
  rw [lrun_atC loop69_0]
  have hs : (txt (r ++ [c])).size = r.length + 1 := by rw [txt_size]; simp
  have hi : (r ++ [c])[r.length]? = some c := by simp
  have ht : (((r.length + 1 : Nat) : Int) - 1).toNat = r.length := by omega
  simp (implicitDefEqProofs := false) (disch := omega) only [go_sem, Nat.reduceAdd, Nat.reduceSub, Nat.reduceMul, Nat.reduceLT, Nat.reduceLeDiff, Nat.reduceEqDiff, List.drop_zero, List.take_succ_cons, List.take_zero, List.drop_succ_cons, Bool.and_true, Bool.true_and, Bool.and_false, Bool.false_and, BitVec.reduceOfInt, Nat.zero_add, Nat.mul_one, Nat.add_zero, Int.zero_add, Int.reduceToNat, Nat.reducePow, ↓reduceIte, reduceCtorEq, Int.reduceLE, Int.reduceLT, Int.reduceEq, Int.reduceNe, Int.reduceAdd, Int.reduceSub, Int.reduceMul, Int.reduceNeg, Nat.reduceBEq, show regOf Tryd.f69 1 = Code.region _ _ _ from rfl, show regOf Tryd.f69 2 = Code.region _ _ _ from rfl, show regOf Tryd.f69 3 = Code.region _ _ _ from rfl, hs, txt_list, wrap_i64, ht, hi, contains_d hr, hc]
/-- Without what stands at its end. -/
def trimR (l : List UInt8) : List UInt8 := (l.reverse.dropWhile aln).reverse
theorem tr_loop (hr : hget h id = .vars setL) : ∀ l : List UInt8, l.length < 9223372036854775808 →
    lrun Tryd.prog md fg (fg 69) (loopOf Tryd.f69 0) (fg 69 1) ([.val (.string (txt l.reverse)), .ptr id 0, .unk, .unk, .unk, .unk, .unk, .unk, .unk, .unk, .unk, .unk, .unk, .unk, .unk, .unk, .unk, .unk, .unk, .unk, .unk, .unk]) h = some (.exit 0, [.val (.string (txt (l.dropWhile aln).reverse)), .ptr id 0, .unk, .unk, .unk, .unk, .unk, .unk, .unk, .unk, .unk, .unk, .unk, .unk, .unk, .unk, .unk, .unk, .unk, .unk, .unk, .unk], h)
  | [], _ => tr_end0 hr
  | c :: r, hl => by
    have hl' : r.reverse.length < 9223372036854775808 := by simp only [List.length_cons, List.length_reverse] at hl ⊢; omega
    rw [List.reverse_cons]
    cases hc : aln c with
    | true => rw [tr_round hr c r.reverse hl' hc, tr_loop hr r (by simpa using hl'), List.dropWhile_cons, if_pos hc]
    | false => rw [tr_end1 hr c r.reverse hl' hc, List.dropWhile_cons, if_neg (by rw [hc]; simp), List.reverse_cons]
theorem trimRight_c (hr : hget h id = .vars setL) (l : List UInt8) (hl : l.length < 9223372036854775808) : doCall md (aval Tryd.prog md fg) 69 [.val (.string (txt l)), .ptr id 0] h = some (.val (.string (txt (trimR l))), h) := by
  refine doCall_len (by decide) ?_ rfl
  have e := tr_loop hr l.reverse (by simpa using hl)
  rw [List.reverse_reverse] at e
  rw [aval_of Tryd.func69 body69 Tryd.results69 Tryd.ntmps69 ok69]
  simp (implicitDefEqProofs := false) (disch := omega) only [go_sem, Nat.reduceAdd, Nat.reduceSub, Nat.reduceMul, Nat.reduceLT, Nat.reduceLeDiff, Nat.reduceEqDiff, List.drop_zero, List.take_succ_cons, List.take_zero, List.drop_succ_cons, Bool.and_true, Bool.true_and, Bool.and_false, Bool.false_and, BitVec.reduceOfInt, Nat.zero_add, Nat.mul_one, Nat.add_zero, Int.zero_add, Int.reduceToNat, Nat.reducePow, ↓reduceIte, reduceCtorEq, Int.reduceLE, Int.reduceLT, Int.reduceEq, Int.reduceNe, Int.reduceAdd, Int.reduceSub, Int.reduceMul, Int.reduceNeg, Nat.reduceBEq, show regOf Tryd.f69 0 = Code.region _ _ _ from rfl, show regOf Tryd.f69 4 = Code.region _ _ _ from rfl, e]
  rfl
end
end Go.Proofs.YtfloombnadnmaaaDoor
namespace Go.Proofs.YtfloombnadnmaaaDoor
open Go Go.Ab Go.Proofs
set_option maxRecDepth 100000
set_option linter.unusedSimpArgs false
set_option linter.unusedVariables false
theorem setL_len : setL.length = 256 := by unfold setL; simp
def zerosB : List AV := List.replicate 256 (.bool false)
theorem tzero_108' : tzero Tryd.prog 108 = some (.agg zerosB) := by kernel_rfl
theorem set_store : svars (decide (setL.length = 256)) setL 0 [.vars zerosB] 0 (.vars zerosB) = some [.vars setL] := by kernel_rfl
theorem trim_nil : pcall Tryd.prog md fg 62 [.val (.string (txt [])), .val (.string cutset)] = some (.val (.string (txt []))) := by
  have e : aval Tryd.prog md fg 62 [.val (.string (txt [])), .val (.string cutset)] [] = some (.val (.string (txt [])), []) := by
    rw [aval_of Tryd.func62 body62 Tryd.results62 Tryd.ntmps62 ok62]
    have h0 : txt [] = ⟨#[]⟩ := rfl
    simp (implicitDefEqProofs := false) (disch := omega) only [go_sem, Nat.reduceAdd, Nat.reduceSub, Nat.reduceMul, Nat.reduceLT, Nat.reduceLeDiff, Nat.reduceEqDiff, List.drop_zero, List.take_succ_cons, List.take_zero, List.drop_succ_cons, Bool.and_true, Bool.true_and, Bool.and_false, Bool.false_and, BitVec.reduceOfInt, Nat.zero_add, Nat.mul_one, Nat.add_zero, Int.zero_add, Int.reduceToNat, Nat.reducePow, ↓reduceIte, reduceCtorEq, Int.reduceLE, Int.reduceLT, Int.reduceEq, Int.reduceNe, Int.reduceAdd, Int.reduceSub, Int.reduceMul, Int.reduceNeg, Nat.reduceBEq, show regOf Tryd.f62 0 = Code.region _ _ _ from rfl, show regOf Tryd.f62 1 = Code.region _ _ _ from rfl, show regOf Tryd.f62 2 = Code.region _ _ _ from rfl, h0]
  rw [pcall_eq, e, pureRes_solid rfl]
theorem trim_p (l : List UInt8) (hl : l.length < 9223372036854775808) (hn : l ≠ []) : pcall Tryd.prog md fg 62 [.val (.string (txt l)), .val (.string cutset)] = some (.val (.string (txt ((trimR l).dropWhile aln)))) := by
  have e : ∃ h, aval Tryd.prog md fg 62 [.val (.string (txt l)), .val (.string cutset)] [] = some (.val (.string (txt ((trimR l).dropWhile aln))), h) := by
    have c1 : ∀ h : AHeap, doCall md (aval Tryd.prog md fg) 67 [.val (.string cutset)] h = some (.tup [.agg setL, .bool true], h) := fun h => doCall_pure md67 rfl asciiSet_p
    have hne : ¬ txt l = ⟨#[]⟩ := fun e => hn ((txt_nil_iff l).1 e)
    have hnc : ¬ cutset = ⟨#[]⟩ := fun e => by cases e
    have hcs : cutset.size = 36 := rfl
    have hr : hget [.vars setL] 0 = .vars setL := rfl
    have c2 := trimRight_c hr l hl
    have c3 := trimLeft_c hr (trimR l)
    rw [aval_of Tryd.func62 body62 Tryd.results62 Tryd.ntmps62 ok62]
    simp (implicitDefEqProofs := false) (disch := omega) only [go_sem, Nat.reduceAdd, Nat.reduceSub, Nat.reduceMul, Nat.reduceLT, Nat.reduceLeDiff, Nat.reduceEqDiff, List.drop_zero, List.take_succ_cons, List.take_zero, List.drop_succ_cons, Bool.and_true, Bool.true_and, Bool.and_false, Bool.false_and, BitVec.reduceOfInt, Nat.zero_add, Nat.mul_one, Nat.add_zero, Int.zero_add, Int.reduceToNat, Nat.reducePow, ↓reduceIte, reduceCtorEq, Int.reduceLE, Int.reduceLT, Int.reduceEq, Int.reduceNe, Int.reduceAdd, Int.reduceSub, Int.reduceMul, Int.reduceNeg, Nat.reduceBEq, show regOf Tryd.f62 0 = Code.region _ _ _ from rfl, show regOf Tryd.f62 1 = Code.region _ _ _ from rfl, show regOf Tryd.f62 3 = Code.region _ _ _ from rfl, show regOf Tryd.f62 5 = Code.region _ _ _ from rfl, show regOf Tryd.f62 6 = Code.region _ _ _ from rfl, show regOf Tryd.f62 7 = Code.region _ _ _ from rfl, c1, c2, c3, hne, hnc, hcs, ↓tzero_108', set_store]
    exact ⟨_, rfl⟩
  obtain ⟨h, e⟩ := e
  rw [pcall_eq, e, pureRes_solid rfl]
/-- Is it a package's name? -/
def pkgB (l : List UInt8) : Bool := match l with | [] => false | c :: r => decide (r.length + 1 ≤ 20) && (lowc c && r.all aln)
theorem dropWhile_nil {p : UInt8 → Bool} : ∀ {l : List UInt8}, l.dropWhile p = [] ↔ l.all p = true
  | [] => by simp
  | c :: r => by
    rw [List.dropWhile_cons, List.all_cons]
    cases hc : p c with
    | true => simp only [if_true, Bool.true_and]; exact dropWhile_nil
    | false => simp
theorem trimR_all (l : List UInt8) : (trimR l).all aln = l.all aln := by
  unfold trimR
  have key : ∀ l : List UInt8, (l.dropWhile aln).all aln = l.all aln := by
    intro l
    induction l with
    | nil => rfl
    | cons c r ih =>
      rw [List.dropWhile_cons]
      cases hc : aln c with
      | true => simp only [if_true, List.all_cons, hc, Bool.true_and]; exact ih
      | false => simp
  rw [List.all_reverse, key, List.all_reverse]
theorem trim_empty (l : List UInt8) : (trimR l).dropWhile aln = [] ↔ l.all aln = true := by
  rw [dropWhile_nil, trimR_all]
theorem low_aln {c : UInt8} (h : lowc c = true) : aln c = true := by
  unfold lowc at h
  unfold aln alnN
  rw [h]; rfl
theorem isPkg_p (l : List UInt8) (hl : l.length < 9223372036854775808) : pcall Tryd.prog md fg 51 [.val (.string (txt l))] = some (.val (.bool (pkgB l))) := by
  have e : ∃ h, aval Tryd.prog md fg 51 [.val (.string (txt l))] [] = some (.val (.bool (pkgB l)), h) := by
    cases l with
    | nil =>
      have h0 : txt [] = ⟨#[]⟩ := rfl
      rw [aval_of Tryd.func51 body51 Tryd.results51 Tryd.ntmps51 ok51]
      simp (implicitDefEqProofs := false) (disch := omega) only [go_sem, Nat.reduceAdd, Nat.reduceSub, Nat.reduceMul, Nat.reduceLT, Nat.reduceLeDiff, Nat.reduceEqDiff, List.drop_zero, List.take_succ_cons, List.take_zero, List.drop_succ_cons, Bool.and_true, Bool.true_and, Bool.and_false, Bool.false_and, BitVec.reduceOfInt, Nat.zero_add, Nat.mul_one, Nat.add_zero, Int.zero_add, Int.reduceToNat, Nat.reducePow, ↓reduceIte, reduceCtorEq, Int.reduceLE, Int.reduceLT, Int.reduceEq, Int.reduceNe, Int.reduceAdd, Int.reduceSub, Int.reduceMul, Int.reduceNeg, Nat.reduceBEq, show regOf Tryd.f51 0 = Code.region _ _ _ from rfl, show regOf Tryd.f51 1 = Code.region _ _ _ from rfl, h0]
      exact ⟨_, rfl⟩
    | cons c r =>
      have hne : ¬ txt (c :: r) = ⟨#[]⟩ := fun e => by have := (txt_nil_iff _).1 e; cases this
      have hs : (txt (c :: r)).size = r.length + 1 := by rw [txt_size]; rfl
      have ct : ∀ h : AHeap, doCall md (aval Tryd.prog md fg) 62 [.val (.string (txt (c :: r))), .val (.string cutset)] h = some (.val (.string (txt ((trimR (c :: r)).dropWhile aln))), h) := fun h => doCall_pure md62 rfl (trim_p (c :: r) hl (by simp))
      unfold cutset at ct
      rw [aval_of Tryd.func51 body51 Tryd.results51 Tryd.ntmps51 ok51]
      unfold pkgB
      dsimp only
      by_cases h1 : r.length + 1 ≤ 20
      · rw [decide_eq_true h1]
        by_cases h2 : 97 ≤ c.toNat
        · by_cases h3 : c.toNat ≤ 122
          · have hlow : lowc c = true := by unfold lowc; simp [h2, h3]
            have hx : (txt ((trimR (c :: r)).dropWhile aln) = ⟨#[]⟩) ↔ r.all aln = true := by
              rw [txt_nil_iff, trim_empty, List.all_cons, low_aln hlow, Bool.true_and]
            rw [hlow]
            have h2' : (97 : Int) ≤ (c.toBitVec.toNat : Int) := by show (97 : Int) ≤ (c.toNat : Int); omega
            have h3' : (c.toBitVec.toNat : Int) ≤ 122 := by show (c.toNat : Int) ≤ 122; omega
            simp (implicitDefEqProofs := false) (disch := omega) only [go_sem, Nat.reduceAdd, Nat.reduceSub, Nat.reduceMul, Nat.reduceLT, Nat.reduceLeDiff, Nat.reduceEqDiff, List.drop_zero, List.take_succ_cons, List.take_zero, List.drop_succ_cons, Bool.and_true, Bool.true_and, Bool.and_false, Bool.false_and, BitVec.reduceOfInt, Nat.zero_add, Nat.mul_one, Nat.add_zero, Int.zero_add, Int.reduceToNat, Nat.reducePow, ↓reduceIte, reduceCtorEq, Int.reduceLE, Int.reduceLT, Int.reduceEq, Int.reduceNe, Int.reduceAdd, Int.reduceSub, Int.reduceMul, Int.reduceNeg, Nat.reduceBEq, show regOf Tryd.f51 0 = Code.region _ _ _ from rfl, show regOf Tryd.f51 1 = Code.region _ _ _ from rfl, hne, hs, txt_list, List.getElem?_cons_zero, h2', h3', ct, hx]
            exact ⟨[], by rw [Bool.decide_eq_true]⟩
          · have hlow : lowc c = false := by unfold lowc; simp [h3]
            have h2' : (97 : Int) ≤ (c.toBitVec.toNat : Int) := by show (97 : Int) ≤ (c.toNat : Int); omega
            have h3' : ¬ (c.toBitVec.toNat : Int) ≤ 122 := by show ¬ (c.toNat : Int) ≤ 122; omega
            rw [hlow]
            simp (implicitDefEqProofs := false) (disch := omega) only [go_sem, Nat.reduceAdd, Nat.reduceSub, Nat.reduceMul, Nat.reduceLT, Nat.reduceLeDiff, Nat.reduceEqDiff, List.drop_zero, List.take_succ_cons, List.take_zero, List.drop_succ_cons, Bool.and_true, Bool.true_and, Bool.and_false, Bool.false_and, BitVec.reduceOfInt, Nat.zero_add, Nat.mul_one, Nat.add_zero, Int.zero_add, Int.reduceToNat, Nat.reducePow, ↓reduceIte, reduceCtorEq, Int.reduceLE, Int.reduceLT, Int.reduceEq, Int.reduceNe, Int.reduceAdd, Int.reduceSub, Int.reduceMul, Int.reduceNeg, Nat.reduceBEq, show regOf Tryd.f51 0 = Code.region _ _ _ from rfl, show regOf Tryd.f51 1 = Code.region _ _ _ from rfl, hne, hs, txt_list, List.getElem?_cons_zero, h2', h3']
            exact ⟨_, rfl⟩
        · have hlow : lowc c = false := by unfold lowc; simp [h2]
          have h2' : ¬ (97 : Int) ≤ (c.toBitVec.toNat : Int) := by show ¬ (97 : Int) ≤ (c.toNat : Int); omega
          rw [hlow]
          simp (implicitDefEqProofs := false) (disch := omega) only [go_sem, Nat.reduceAdd, Nat.reduceSub, Nat.reduceMul, Nat.reduceLT, Nat.reduceLeDiff, Nat.reduceEqDiff, List.drop_zero, List.take_succ_cons, List.take_zero, List.drop_succ_cons, Bool.and_true, Bool.true_and, Bool.and_false, Bool.false_and, BitVec.reduceOfInt, Nat.zero_add, Nat.mul_one, Nat.add_zero, Int.zero_add, Int.reduceToNat, Nat.reducePow, ↓reduceIte, reduceCtorEq, Int.reduceLE, Int.reduceLT, Int.reduceEq, Int.reduceNe, Int.reduceAdd, Int.reduceSub, Int.reduceMul, Int.reduceNeg, Nat.reduceBEq, show regOf Tryd.f51 0 = Code.region _ _ _ from rfl, show regOf Tryd.f51 1 = Code.region _ _ _ from rfl, hne, hs, txt_list, List.getElem?_cons_zero, h2']
          exact ⟨_, rfl⟩
      · rw [decide_eq_false h1]
        simp (implicitDefEqProofs := false) (disch := omega) only [go_sem, Nat.reduceAdd, Nat.reduceSub, Nat.reduceMul, Nat.reduceLT, Nat.reduceLeDiff, Nat.reduceEqDiff, List.drop_zero, List.take_succ_cons, List.take_zero, List.drop_succ_cons, Bool.and_true, Bool.true_and, Bool.and_false, Bool.false_and, BitVec.reduceOfInt, Nat.zero_add, Nat.mul_one, Nat.add_zero, Int.zero_add, Int.reduceToNat, Nat.reducePow, ↓reduceIte, reduceCtorEq, Int.reduceLE, Int.reduceLT, Int.reduceEq, Int.reduceNe, Int.reduceAdd, Int.reduceSub, Int.reduceMul, Int.reduceNeg, Nat.reduceBEq, show regOf Tryd.f51 0 = Code.region _ _ _ from rfl, show regOf Tryd.f51 1 = Code.region _ _ _ from rfl, hne, hs, txt_list, List.getElem?_cons_zero]
        exact ⟨_, rfl⟩
  obtain ⟨h, e⟩ := e
  rw [pcall_eq, e, pureRes_solid rfl]
end Go.Proofs.YtfloombnadnmaaaDoor
