/- Parts of the proof, each with its own heading: Commands: packages' names as the document says. Commands: pins, and which commands are right. Commands: which are right. Commands: which are right as the document says. Commands: writers of some numbers at once. Commands: writers of numbers and pins. Commands: a command's bytes. Commands: a command's bytes as the document says. Commands: readers of numbers and pins. Commands: pins read. -/
import Derived.Test.YtfloombnadnmaaaDoorPart10
set_option linter.unusedSimpArgs false
set_option linter.unusedVariables false
namespace Go.Proofs.YtfloombnadnmaaaDoor
open Go Go.Ab Go.Proofs
set_option maxRecDepth 100000
set_option linter.unusedSimpArgs false
set_option linter.unusedVariables false
def digc (c : UInt8) : Bool := decide (48 ≤ c.toNat) && decide (c.toNat ≤ 57)
def okAt (i : Nat) (c : UInt8) : Bool := lowc c || (decide (0 < i) && digc c)
theorem rp_round (l : List UInt8) (i : Nat) (c : UInt8) (hi : l[i]? = some c) (hl : l.length < 9223372036854775808) (hc : okAt i c = true) :
    lrun Tryd.prog md fg (fg 53) (loopOf Tryd.f53 0) (fg 53 1) ([.val (.string (txt l)), .unk, .bool false, .int i, .unk, .unk, .unk, .unk, .unk, .unk, .unk, .unk, .unk, .unk, .unk, .unk, .unk, .unk, .unk, .unk, .unk, .unk, .unk, .unk, .unk, .unk, .unk, .unk, .unk, .unk, .unk, .unk, .unk, .unk, .unk, .unk, .unk, .unk, .unk, .unk, .unk, .unk, .unk, .unk, .unk, .unk, .unk, .unk]) [] = lrun Tryd.prog md fg (fg 53) (loopOf Tryd.f53 0) (fg 53 1) ([.val (.string (txt l)), .unk, .bool false, .int ((i + 1 : Nat) : Int), .unk, .unk, .unk, .unk, .unk, .unk, .unk, .unk, .unk, .unk, .unk, .unk, .unk, .unk, .unk, .unk, .unk, .unk, .unk, .unk, .unk, .unk, .unk, .unk, .unk, .unk, .unk, .unk, .unk, .unk, .unk, .unk, .unk, .unk, .unk, .unk, .unk, .unk, .unk, .unk, .unk, .unk, .unk, .unk]) [] := by
  have hlt : i < l.length := (List.getElem?_eq_some_iff.1 hi).1
  have hs := txt_size l
  rw [lrun_atC loop53_0]
  have ht : ((i : Int)).toNat = i := by omega
  unfold okAt lowc digc at hc
  simp only [Bool.or_eq_true, Bool.and_eq_true, decide_eq_true_eq] at hc
  by_cases a1 : (97 : Int) ≤ (c.toBitVec.toNat : Int)
  · by_cases a2 : (c.toBitVec.toNat : Int) ≤ 122
    · simp (implicitDefEqProofs := false) (disch := omega) only [go_sem, Nat.reduceAdd, Nat.reduceSub, Nat.reduceMul, Nat.reduceLT, Nat.reduceLeDiff, Nat.reduceEqDiff, List.drop_zero, List.take_succ_cons, List.take_zero, List.drop_succ_cons, Bool.and_true, Bool.true_and, Bool.and_false, Bool.false_and, BitVec.reduceOfInt, Nat.zero_add, Nat.mul_one, Nat.add_zero, Int.zero_add, Int.reduceToNat, Nat.reducePow, ↓reduceIte, reduceCtorEq, Int.reduceLE, Int.reduceLT, Int.reduceEq, Int.reduceNe, Int.reduceAdd, Int.reduceSub, Int.reduceMul, Int.reduceNeg, Nat.reduceBEq, show regOf Tryd.f53 2 = Code.region _ _ _ from rfl, show regOf Tryd.f53 3 = Code.region _ _ _ from rfl, show regOf Tryd.f53 4 = Code.region _ _ _ from rfl, show regOf Tryd.f53 5 = Code.region _ _ _ from rfl, hs, txt_list, ht, hi, a1, a2]
      all_goals (congr 1 <;> simp only [List.cons.injEq, AV.val.injEq, Value.int.injEq, Value.bool.injEq, true_and, and_true] <;> omega)
    · have a3 : (48 : Int) ≤ (c.toBitVec.toNat : Int) := by omega
      exfalso
      rcases hc with h | h
      · exact a2 (by show (c.toNat : Int) ≤ 122; omega)
      · have : ¬ (c.toNat : Int) ≤ 122 := a2
        omega
  · have b1 : ¬ (97 : Int) ≤ (c.toNat : Int) := a1
    rcases hc with h | h
    · omega
    · obtain ⟨h0, h1, h2⟩ := h
      have a3 : (48 : Int) ≤ (c.toBitVec.toNat : Int) := by show (48 : Int) ≤ (c.toNat : Int); omega
      have a4 : (c.toBitVec.toNat : Int) ≤ 57 := by show (c.toNat : Int) ≤ 57; omega
      simp (implicitDefEqProofs := false) (disch := omega) only [go_sem, Nat.reduceAdd, Nat.reduceSub, Nat.reduceMul, Nat.reduceLT, Nat.reduceLeDiff, Nat.reduceEqDiff, List.drop_zero, List.take_succ_cons, List.take_zero, List.drop_succ_cons, Bool.and_true, Bool.true_and, Bool.and_false, Bool.false_and, BitVec.reduceOfInt, Nat.zero_add, Nat.mul_one, Nat.add_zero, Int.zero_add, Int.reduceToNat, Nat.reducePow, ↓reduceIte, reduceCtorEq, Int.reduceLE, Int.reduceLT, Int.reduceEq, Int.reduceNe, Int.reduceAdd, Int.reduceSub, Int.reduceMul, Int.reduceNeg, Nat.reduceBEq, show regOf Tryd.f53 2 = Code.region _ _ _ from rfl, show regOf Tryd.f53 3 = Code.region _ _ _ from rfl, show regOf Tryd.f53 4 = Code.region _ _ _ from rfl, show regOf Tryd.f53 5 = Code.region _ _ _ from rfl, hs, txt_list, ht, hi, a1, a3, a4]
      all_goals (congr 1 <;> simp only [List.cons.injEq, AV.val.injEq, Value.int.injEq, Value.bool.injEq, true_and, and_true] <;> omega)
theorem rp_bad (l : List UInt8) (i : Nat) (c : UInt8) (hi : l[i]? = some c) (hl : l.length < 9223372036854775808) (hc : okAt i c = false) :
    lrun Tryd.prog md fg (fg 53) (loopOf Tryd.f53 0) (fg 53 1) ([.val (.string (txt l)), .unk, .bool false, .int i, .unk, .unk, .unk, .unk, .unk, .unk, .unk, .unk, .unk, .unk, .unk, .unk, .unk, .unk, .unk, .unk, .unk, .unk, .unk, .unk, .unk, .unk, .unk, .unk, .unk, .unk, .unk, .unk, .unk, .unk, .unk, .unk, .unk, .unk, .unk, .unk, .unk, .unk, .unk, .unk, .unk, .unk, .unk, .unk]) [] = some (.ret, [.val (.string (txt l)), .unk, .bool false, .int i, .unk, .unk, .unk, .unk, .unk, .unk, .unk, .unk, .unk, .unk, .unk, .unk, .unk, .unk, .unk, .unk, .unk, .unk, .unk, .unk, .unk, .unk, .unk, .unk, .unk, .unk, .unk, .unk, .unk, .unk, .unk, .unk, .unk, .unk, .unk, .unk, .unk, .unk, .unk, .unk, .unk, .unk, .unk, .unk], []) := by
  have hlt : i < l.length := (List.getElem?_eq_some_iff.1 hi).1
  have hs := txt_size l
  rw [lrun_atC loop53_0]
  have ht : ((i : Int)).toNat = i := by omega
  unfold okAt lowc digc at hc
  simp only [Bool.or_eq_false_iff, Bool.and_eq_false_iff, decide_eq_false_iff_not] at hc
  obtain ⟨k1, k2⟩ := hc
  have cc : (c.toBitVec.toNat : Int) = (c.toNat : Int) := rfl
  by_cases a1 : (97 : Int) ≤ (c.toBitVec.toNat : Int)
  · have a2 : ¬ (c.toBitVec.toNat : Int) ≤ 122 := by omega
    have a3 : (48 : Int) ≤ (c.toBitVec.toNat : Int) := by omega
    have a4 : ¬ (c.toBitVec.toNat : Int) ≤ 57 := by omega
    by_cases h0 : 0 < i
    · simp (implicitDefEqProofs := false) (disch := omega) only [go_sem, Nat.reduceAdd, Nat.reduceSub, Nat.reduceMul, Nat.reduceLT, Nat.reduceLeDiff, Nat.reduceEqDiff, List.drop_zero, List.take_succ_cons, List.take_zero, List.drop_succ_cons, Bool.and_true, Bool.true_and, Bool.and_false, Bool.false_and, BitVec.reduceOfInt, Nat.zero_add, Nat.mul_one, Nat.add_zero, Int.zero_add, Int.reduceToNat, Nat.reducePow, ↓reduceIte, reduceCtorEq, Int.reduceLE, Int.reduceLT, Int.reduceEq, Int.reduceNe, Int.reduceAdd, Int.reduceSub, Int.reduceMul, Int.reduceNeg, Nat.reduceBEq, show regOf Tryd.f53 2 = Code.region _ _ _ from rfl, show regOf Tryd.f53 3 = Code.region _ _ _ from rfl, show regOf Tryd.f53 4 = Code.region _ _ _ from rfl, show regOf Tryd.f53 5 = Code.region _ _ _ from rfl, show regOf Tryd.f53 6 = Code.region _ _ _ from rfl, hs, txt_list, ht, hi, a1, a2, a3, a4]
    · simp (implicitDefEqProofs := false) (disch := omega) only [go_sem, Nat.reduceAdd, Nat.reduceSub, Nat.reduceMul, Nat.reduceLT, Nat.reduceLeDiff, Nat.reduceEqDiff, List.drop_zero, List.take_succ_cons, List.take_zero, List.drop_succ_cons, Bool.and_true, Bool.true_and, Bool.and_false, Bool.false_and, BitVec.reduceOfInt, Nat.zero_add, Nat.mul_one, Nat.add_zero, Int.zero_add, Int.reduceToNat, Nat.reducePow, ↓reduceIte, reduceCtorEq, Int.reduceLE, Int.reduceLT, Int.reduceEq, Int.reduceNe, Int.reduceAdd, Int.reduceSub, Int.reduceMul, Int.reduceNeg, Nat.reduceBEq, show regOf Tryd.f53 2 = Code.region _ _ _ from rfl, show regOf Tryd.f53 3 = Code.region _ _ _ from rfl, show regOf Tryd.f53 4 = Code.region _ _ _ from rfl, show regOf Tryd.f53 5 = Code.region _ _ _ from rfl, show regOf Tryd.f53 6 = Code.region _ _ _ from rfl, hs, txt_list, ht, hi, a1, a2, a3, a4]
  · by_cases h0 : 0 < i
    · by_cases a3 : (48 : Int) ≤ (c.toBitVec.toNat : Int)
      · have a4 : ¬ (c.toBitVec.toNat : Int) ≤ 57 := by omega
        simp (implicitDefEqProofs := false) (disch := omega) only [go_sem, Nat.reduceAdd, Nat.reduceSub, Nat.reduceMul, Nat.reduceLT, Nat.reduceLeDiff, Nat.reduceEqDiff, List.drop_zero, List.take_succ_cons, List.take_zero, List.drop_succ_cons, Bool.and_true, Bool.true_and, Bool.and_false, Bool.false_and, BitVec.reduceOfInt, Nat.zero_add, Nat.mul_one, Nat.add_zero, Int.zero_add, Int.reduceToNat, Nat.reducePow, ↓reduceIte, reduceCtorEq, Int.reduceLE, Int.reduceLT, Int.reduceEq, Int.reduceNe, Int.reduceAdd, Int.reduceSub, Int.reduceMul, Int.reduceNeg, Nat.reduceBEq, show regOf Tryd.f53 2 = Code.region _ _ _ from rfl, show regOf Tryd.f53 3 = Code.region _ _ _ from rfl, show regOf Tryd.f53 4 = Code.region _ _ _ from rfl, show regOf Tryd.f53 5 = Code.region _ _ _ from rfl, show regOf Tryd.f53 6 = Code.region _ _ _ from rfl, hs, txt_list, ht, hi, a1, a3, a4]
      · simp (implicitDefEqProofs := false) (disch := omega) only [go_sem, Nat.reduceAdd, Nat.reduceSub, Nat.reduceMul, Nat.reduceLT, Nat.reduceLeDiff, Nat.reduceEqDiff, List.drop_zero, List.take_succ_cons, List.take_zero, List.drop_succ_cons, Bool.and_true, Bool.true_and, Bool.and_false, Bool.false_and, BitVec.reduceOfInt, Nat.zero_add, Nat.mul_one, Nat.add_zero, Int.zero_add, Int.reduceToNat, Nat.reducePow, ↓reduceIte, reduceCtorEq, Int.reduceLE, Int.reduceLT, Int.reduceEq, Int.reduceNe, Int.reduceAdd, Int.reduceSub, Int.reduceMul, Int.reduceNeg, Nat.reduceBEq, show regOf Tryd.f53 2 = Code.region _ _ _ from rfl, show regOf Tryd.f53 3 = Code.region _ _ _ from rfl, show regOf Tryd.f53 4 = Code.region _ _ _ from rfl, show regOf Tryd.f53 5 = Code.region _ _ _ from rfl, show regOf Tryd.f53 6 = Code.region _ _ _ from rfl, hs, txt_list, ht, hi, a1, a3]
    · simp (implicitDefEqProofs := false) (disch := omega) only [go_sem, Nat.reduceAdd, Nat.reduceSub, Nat.reduceMul, Nat.reduceLT, Nat.reduceLeDiff, Nat.reduceEqDiff, List.drop_zero, List.take_succ_cons, List.take_zero, List.drop_succ_cons, Bool.and_true, Bool.true_and, Bool.and_false, Bool.false_and, BitVec.reduceOfInt, Nat.zero_add, Nat.mul_one, Nat.add_zero, Int.zero_add, Int.reduceToNat, Nat.reducePow, ↓reduceIte, reduceCtorEq, Int.reduceLE, Int.reduceLT, Int.reduceEq, Int.reduceNe, Int.reduceAdd, Int.reduceSub, Int.reduceMul, Int.reduceNeg, Nat.reduceBEq, show regOf Tryd.f53 2 = Code.region _ _ _ from rfl, show regOf Tryd.f53 3 = Code.region _ _ _ from rfl, show regOf Tryd.f53 4 = Code.region _ _ _ from rfl, show regOf Tryd.f53 5 = Code.region _ _ _ from rfl, show regOf Tryd.f53 6 = Code.region _ _ _ from rfl, hs, txt_list, ht, hi, a1]
theorem rp_end (l : List UInt8) : lrun Tryd.prog md fg (fg 53) (loopOf Tryd.f53 0) (fg 53 1) ([.val (.string (txt l)), .unk, .bool false, .int l.length, .unk, .unk, .unk, .unk, .unk, .unk, .unk, .unk, .unk, .unk, .unk, .unk, .unk, .unk, .unk, .unk, .unk, .unk, .unk, .unk, .unk, .unk, .unk, .unk, .unk, .unk, .unk, .unk, .unk, .unk, .unk, .unk, .unk, .unk, .unk, .unk, .unk, .unk, .unk, .unk, .unk, .unk, .unk, .unk]) [] = some (.exit 0, [.val (.string (txt l)), .unk, .bool false, .int l.length, .unk, .unk, .unk, .unk, .unk, .unk, .unk, .unk, .unk, .unk, .unk, .unk, .unk, .unk, .unk, .unk, .unk, .unk, .unk, .unk, .unk, .unk, .unk, .unk, .unk, .unk, .unk, .unk, .unk, .unk, .unk, .unk, .unk, .unk, .unk, .unk, .unk, .unk, .unk, .unk, .unk, .unk, .unk, .unk], []) := by
  have hs := txt_size l
  rw [lrun_atC loop53_0]
  simp (implicitDefEqProofs := false) (disch := omega) only [go_sem, Nat.reduceAdd, Nat.reduceSub, Nat.reduceMul, Nat.reduceLT, Nat.reduceLeDiff, Nat.reduceEqDiff, List.drop_zero, List.take_succ_cons, List.take_zero, List.drop_succ_cons, Bool.and_true, Bool.true_and, Bool.and_false, Bool.false_and, BitVec.reduceOfInt, Nat.zero_add, Nat.mul_one, Nat.add_zero, Int.zero_add, Int.reduceToNat, Nat.reducePow, ↓reduceIte, reduceCtorEq, Int.reduceLE, Int.reduceLT, Int.reduceEq, Int.reduceNe, Int.reduceAdd, Int.reduceSub, Int.reduceMul, Int.reduceNeg, Nat.reduceBEq, show regOf Tryd.f53 2 = Code.region _ _ _ from rfl, show regOf Tryd.f53 3 = Code.region _ _ _ from rfl, show regOf Tryd.f53 4 = Code.region _ _ _ from rfl, show regOf Tryd.f53 5 = Code.region _ _ _ from rfl, show regOf Tryd.f53 6 = Code.region _ _ _ from rfl, hs]
/-- All that stand from a place on. -/
def okFrom : Nat → List UInt8 → Bool
  | _, [] => true
  | i, c :: r => okAt i c && okFrom (i + 1) r
theorem rp_loop (l : List UInt8) (hl : l.length < 9223372036854775808) : ∀ (r : List UInt8) (i : Nat), l.drop i = r → i ≤ l.length → ∃ j : Nat,
    lrun Tryd.prog md fg (fg 53) (loopOf Tryd.f53 0) (fg 53 1) ([.val (.string (txt l)), .unk, .bool false, .int i, .unk, .unk, .unk, .unk, .unk, .unk, .unk, .unk, .unk, .unk, .unk, .unk, .unk, .unk, .unk, .unk, .unk, .unk, .unk, .unk, .unk, .unk, .unk, .unk, .unk, .unk, .unk, .unk, .unk, .unk, .unk, .unk, .unk, .unk, .unk, .unk, .unk, .unk, .unk, .unk, .unk, .unk, .unk, .unk]) [] = some (if okFrom i r then .exit 0 else .ret, [.val (.string (txt l)), .unk, .bool false, .int j, .unk, .unk, .unk, .unk, .unk, .unk, .unk, .unk, .unk, .unk, .unk, .unk, .unk, .unk, .unk, .unk, .unk, .unk, .unk, .unk, .unk, .unk, .unk, .unk, .unk, .unk, .unk, .unk, .unk, .unk, .unk, .unk, .unk, .unk, .unk, .unk, .unk, .unk, .unk, .unk, .unk, .unk, .unk, .unk], [])
  | [], i, hd, hi => by
    have : i = l.length := by have := congrArg List.length hd; simp at this; omega
    subst this
    exact ⟨_, rp_end l⟩
  | c :: r, i, hd, hi => by
    have hc : l[i]? = some c := by have := congrArg (·[0]?) hd; simpa using this
    have hlt : i < l.length := (List.getElem?_eq_some_iff.1 hc).1
    have hd' : l.drop (i + 1) = r := by rw [← List.tail_drop, hd]; rfl
    cases ho : okAt i c with
    | true =>
      obtain ⟨j, e⟩ := rp_loop l hl r (i + 1) hd' (by omega)
      exact ⟨j, by rw [rp_round l i c hc hl ho, e]; simp only [okFrom, ho, Bool.true_and]⟩
    | false => exact ⟨i, by rw [rp_bad l i c hc hl ho]; simp [okFrom, ho]⟩
theorem okFrom_pos : ∀ (r : List UInt8) (i : Nat), 0 < i → okFrom i r = r.all aln
  | [], _, _ => rfl
  | c :: r, i, h => by
    rw [okFrom, okFrom_pos r (i + 1) (by omega), List.all_cons]
    congr 1
    unfold okAt aln alnN lowc digc
    simp [h]
theorem rIsPkg_p (l : List UInt8) (hl : l.length < 9223372036854775808) : pcall Tryd.prog md fg 53 [.val (.string (txt l))] = some (.val (.bool (pkgB l))) := by
  have e : ∃ h, aval Tryd.prog md fg 53 [.val (.string (txt l))] [] = some (.val (.bool (pkgB l)), h) := by
    obtain ⟨j, e⟩ := rp_loop l hl l 0 (by simp) (by omega)
    have hs := txt_size l
    rw [aval_of Tryd.func53 body53 Tryd.results53 Tryd.ntmps53 ok53]
    simp only [Int.natCast_zero] at e
    cases l with
    | nil =>
      simp only [okFrom, if_true] at e
      have hs : (txt []).size = 0 := hs
      simp (implicitDefEqProofs := false) (disch := omega) only [go_sem, Nat.reduceAdd, Nat.reduceSub, Nat.reduceMul, Nat.reduceLT, Nat.reduceLeDiff, Nat.reduceEqDiff, List.drop_zero, List.take_succ_cons, List.take_zero, List.drop_succ_cons, Bool.and_true, Bool.true_and, Bool.and_false, Bool.false_and, BitVec.reduceOfInt, Nat.zero_add, Nat.mul_one, Nat.add_zero, Int.zero_add, Int.reduceToNat, Nat.reducePow, ↓reduceIte, reduceCtorEq, Int.reduceLE, Int.reduceLT, Int.reduceEq, Int.reduceNe, Int.reduceAdd, Int.reduceSub, Int.reduceMul, Int.reduceNeg, Nat.reduceBEq, show regOf Tryd.f53 0 = Code.region _ _ _ from rfl, show regOf Tryd.f53 1 = Code.region _ _ _ from rfl, show regOf Tryd.f53 7 = Code.region _ _ _ from rfl, e, hs]
      exact ⟨_, rfl⟩
    | cons c r =>
      have hp : pkgB (c :: r) = (decide (r.length + 1 ≤ 20) && okFrom 0 (c :: r)) := by
        unfold pkgB
        dsimp only
        rw [okFrom, okFrom_pos r 1 (by omega)]
        congr 2
        unfold okAt; simp
      rw [hp]
      cases ho : okFrom 0 (c :: r) with
      | true =>
        rw [ho] at e
        simp only [if_true] at e
        have hs : (txt (c :: r)).size = r.length + 1 := hs
        by_cases h1 : r.length + 1 ≤ 20
        · rw [decide_eq_true h1]
          simp (implicitDefEqProofs := false) (disch := omega) only [go_sem, Nat.reduceAdd, Nat.reduceSub, Nat.reduceMul, Nat.reduceLT, Nat.reduceLeDiff, Nat.reduceEqDiff, List.drop_zero, List.take_succ_cons, List.take_zero, List.drop_succ_cons, Bool.and_true, Bool.true_and, Bool.and_false, Bool.false_and, BitVec.reduceOfInt, Nat.zero_add, Nat.mul_one, Nat.add_zero, Int.zero_add, Int.reduceToNat, Nat.reducePow, ↓reduceIte, reduceCtorEq, Int.reduceLE, Int.reduceLT, Int.reduceEq, Int.reduceNe, Int.reduceAdd, Int.reduceSub, Int.reduceMul, Int.reduceNeg, Nat.reduceBEq, show regOf Tryd.f53 0 = Code.region _ _ _ from rfl, show regOf Tryd.f53 1 = Code.region _ _ _ from rfl, show regOf Tryd.f53 7 = Code.region _ _ _ from rfl, e, hs]
          exact ⟨_, rfl⟩
        · rw [decide_eq_false h1]
          simp (implicitDefEqProofs := false) (disch := omega) only [go_sem, Nat.reduceAdd, Nat.reduceSub, Nat.reduceMul, Nat.reduceLT, Nat.reduceLeDiff, Nat.reduceEqDiff, List.drop_zero, List.take_succ_cons, List.take_zero, List.drop_succ_cons, Bool.and_true, Bool.true_and, Bool.and_false, Bool.false_and, BitVec.reduceOfInt, Nat.zero_add, Nat.mul_one, Nat.add_zero, Int.zero_add, Int.reduceToNat, Nat.reducePow, ↓reduceIte, reduceCtorEq, Int.reduceLE, Int.reduceLT, Int.reduceEq, Int.reduceNe, Int.reduceAdd, Int.reduceSub, Int.reduceMul, Int.reduceNeg, Nat.reduceBEq, show regOf Tryd.f53 0 = Code.region _ _ _ from rfl, show regOf Tryd.f53 1 = Code.region _ _ _ from rfl, show regOf Tryd.f53 7 = Code.region _ _ _ from rfl, e, hs]
          exact ⟨_, rfl⟩
      | false =>
        rw [ho] at e
        simp only [Bool.false_eq_true, if_false] at e
        rw [Bool.and_false]
        simp (implicitDefEqProofs := false) (disch := omega) only [go_sem, Nat.reduceAdd, Nat.reduceSub, Nat.reduceMul, Nat.reduceLT, Nat.reduceLeDiff, Nat.reduceEqDiff, List.drop_zero, List.take_succ_cons, List.take_zero, List.drop_succ_cons, Bool.and_true, Bool.true_and, Bool.and_false, Bool.false_and, BitVec.reduceOfInt, Nat.zero_add, Nat.mul_one, Nat.add_zero, Int.zero_add, Int.reduceToNat, Nat.reducePow, ↓reduceIte, reduceCtorEq, Int.reduceLE, Int.reduceLT, Int.reduceEq, Int.reduceNe, Int.reduceAdd, Int.reduceSub, Int.reduceMul, Int.reduceNeg, Nat.reduceBEq, show regOf Tryd.f53 0 = Code.region _ _ _ from rfl, show regOf Tryd.f53 1 = Code.region _ _ _ from rfl, show regOf Tryd.f53 7 = Code.region _ _ _ from rfl, e]
        exact ⟨_, rfl⟩
  obtain ⟨h, e⟩ := e
  rw [pcall_eq, e, pureRes_solid rfl]
end Go.Proofs.YtfloombnadnmaaaDoor
namespace Go.Proofs.YtfloombnadnmaaaDoor
open Go Go.Ab Go.Proofs
set_option maxRecDepth 100000
set_option linter.unusedSimpArgs false
set_option linter.unusedVariables false
theorem abin_agg {P : Program} (op : BinOp) (t : TypeId) (cs ds : List AV) : abin P op t (.agg cs) (.agg ds) = (aeqS P t (.agg cs) (.agg ds)).bind (aeqb op) := rfl
abbrev pinV (p : List UInt8) (a b c : Int) : AV := .agg [.str (txt p), .int a, .int b, .int c]
def verZ (a b c : Int) : Bool := decide (a = 0 ∧ b = 0 ∧ c = 0)
def pinZ (p : List UInt8) (a b c : Int) : Bool := decide (p = []) && verZ a b c
theorem eq25 (s t : ByteArray) (a b c a' b' c' : Int) : aeqS Tryd.prog 25 (.agg [.str s, .int a, .int b, .int c]) (.agg [.str t, .int a', .int b', .int c']) = some ((s.data.toList == t.data.toList) && (((a == a') && ((b == b') && ((c == c') && true))) && true)) := by kernel_rfl
theorem eq23 (a b c a' b' c' : Int) : aeqS Tryd.prog 23 (.agg [.int a, .int b, .int c]) (.agg [.int a', .int b', .int c']) = some ((a == a') && ((b == b') && ((c == c') && true))) := by kernel_rfl
theorem eq23z (a b c : Int) : aeqS Tryd.prog 23 (.agg [.int a, .int b, .int c]) (.agg [.int 0, .int 0, .int 0]) = some (verZ a b c) := by
  rw [eq23]
  congr 1
  unfold verZ
  by_cases h1 : a = 0 <;> by_cases h2 : b = 0 <;> by_cases h3 : c = 0 <;> simp [h1, h2, h3]
theorem eq25z (p : List UInt8) (a b c : Int) : aeqS Tryd.prog 25 (.agg [.str (txt p), .int a, .int b, .int c]) (.agg [.str ⟨#[]⟩, .int 0, .int 0, .int 0]) = some (pinZ p a b c) := by
  rw [eq25]
  congr 1
  unfold pinZ verZ
  rw [txt_list]
  have h0 : (p == ([] : List UInt8)) = decide (p = []) := by by_cases h : p = [] <;> simp [h]
  show ((p == []) && _) = _
  rw [h0]
  by_cases h1 : a = 0 <;> by_cases h2 : b = 0 <;> by_cases h3 : c = 0 <;> simp [h1, h2, h3]
/-- A pin, as command tells it: right, or zero. -/
def cpinB (p : List UInt8) (a b c : Int) (there bare : Bool) : Bool := if there then pkgB p && verB a b c && (!bare || verZ a b c) else pinZ p a b c
theorem bind_some {α β : Type} (x : α) (f : α → Option β) : (some x).bind f = f x := rfl
theorem aeqb_eql (b : Bool) : aeqb .eql b = some (.val (.bool b)) := rfl
theorem aeqb_neq (b : Bool) : aeqb .neq b = some (.val (.bool (!b))) := rfl
theorem cpin_p (p : List UInt8) (hp : p.length < 9223372036854775808) (a b c : Int) (there bare : Bool) : pcall Tryd.prog md fg 32 [pinV p a b c, .bool there, .bool bare] = some (.val (.bool (cpinB p a b c there bare))) := by
  have c1 : ∀ h : AHeap, doCall md (aval Tryd.prog md fg) 51 [.val (.string (txt p))] h = some (.val (.bool (pkgB p)), h) := fun h => doCall_pure md51 rfl (isPkg_p p hp)
  have c2 : ∀ h : AHeap, doCall md (aval Tryd.prog md fg) 52 [verV a b c] h = some (.val (.bool (verB a b c)), h) := fun h => doCall_pure md52 rfl (right_p a b c)
  have e : ∃ h, aval Tryd.prog md fg 32 [pinV p a b c, .bool there, .bool bare] [] = some (.val (.bool (cpinB p a b c there bare)), h) := by
    unfold cpinB
    rw [aval_of Tryd.func32 body32 Tryd.results32 Tryd.ntmps32 ok32]
    cases there with
    | false =>
      simp (implicitDefEqProofs := false) (disch := omega) only [go_sem, Nat.reduceAdd, Nat.reduceSub, Nat.reduceMul, Nat.reduceLT, Nat.reduceLeDiff, Nat.reduceEqDiff, List.drop_zero, List.take_succ_cons, List.take_zero, List.drop_succ_cons, Bool.and_true, Bool.true_and, Bool.and_false, Bool.false_and, BitVec.reduceOfInt, Nat.zero_add, Nat.mul_one, Nat.add_zero, Int.zero_add, Int.reduceToNat, Nat.reducePow, ↓reduceIte, reduceCtorEq, Int.reduceLE, Int.reduceLT, Int.reduceEq, Int.reduceNe, Int.reduceAdd, Int.reduceSub, Int.reduceMul, Int.reduceNeg, Nat.reduceBEq, show regOf Tryd.f32 0 = Code.region _ _ _ from rfl, show regOf Tryd.f32 1 = Code.region _ _ _ from rfl, show regOf Tryd.f32 2 = Code.region _ _ _ from rfl, abin_agg, eq25z, bind_some, aeqb_eql]
      exact ⟨_, rfl⟩
    | true =>
      cases h1 : pkgB p with
      | false => simp (implicitDefEqProofs := false) (disch := omega) only [go_sem, Nat.reduceAdd, Nat.reduceSub, Nat.reduceMul, Nat.reduceLT, Nat.reduceLeDiff, Nat.reduceEqDiff, List.drop_zero, List.take_succ_cons, List.take_zero, List.drop_succ_cons, Bool.and_true, Bool.true_and, Bool.and_false, Bool.false_and, BitVec.reduceOfInt, Nat.zero_add, Nat.mul_one, Nat.add_zero, Int.zero_add, Int.reduceToNat, Nat.reducePow, ↓reduceIte, reduceCtorEq, Int.reduceLE, Int.reduceLT, Int.reduceEq, Int.reduceNe, Int.reduceAdd, Int.reduceSub, Int.reduceMul, Int.reduceNeg, Nat.reduceBEq, show regOf Tryd.f32 0 = Code.region _ _ _ from rfl, show regOf Tryd.f32 1 = Code.region _ _ _ from rfl, show regOf Tryd.f32 3 = Code.region _ _ _ from rfl, c1, h1]; exact ⟨_, rfl⟩
      | true =>
        cases h2 : verB a b c with
        | false => simp (implicitDefEqProofs := false) (disch := omega) only [go_sem, Nat.reduceAdd, Nat.reduceSub, Nat.reduceMul, Nat.reduceLT, Nat.reduceLeDiff, Nat.reduceEqDiff, List.drop_zero, List.take_succ_cons, List.take_zero, List.drop_succ_cons, Bool.and_true, Bool.true_and, Bool.and_false, Bool.false_and, BitVec.reduceOfInt, Nat.zero_add, Nat.mul_one, Nat.add_zero, Int.zero_add, Int.reduceToNat, Nat.reducePow, ↓reduceIte, reduceCtorEq, Int.reduceLE, Int.reduceLT, Int.reduceEq, Int.reduceNe, Int.reduceAdd, Int.reduceSub, Int.reduceMul, Int.reduceNeg, Nat.reduceBEq, show regOf Tryd.f32 0 = Code.region _ _ _ from rfl, show regOf Tryd.f32 1 = Code.region _ _ _ from rfl, show regOf Tryd.f32 3 = Code.region _ _ _ from rfl, c1, c2, h1, h2]; exact ⟨_, rfl⟩
        | true =>
          cases bare with
          | false => simp (implicitDefEqProofs := false) (disch := omega) only [go_sem, Nat.reduceAdd, Nat.reduceSub, Nat.reduceMul, Nat.reduceLT, Nat.reduceLeDiff, Nat.reduceEqDiff, List.drop_zero, List.take_succ_cons, List.take_zero, List.drop_succ_cons, Bool.and_true, Bool.true_and, Bool.and_false, Bool.false_and, BitVec.reduceOfInt, Nat.zero_add, Nat.mul_one, Nat.add_zero, Int.zero_add, Int.reduceToNat, Nat.reducePow, ↓reduceIte, reduceCtorEq, Int.reduceLE, Int.reduceLT, Int.reduceEq, Int.reduceNe, Int.reduceAdd, Int.reduceSub, Int.reduceMul, Int.reduceNeg, Nat.reduceBEq, show regOf Tryd.f32 0 = Code.region _ _ _ from rfl, show regOf Tryd.f32 1 = Code.region _ _ _ from rfl, show regOf Tryd.f32 3 = Code.region _ _ _ from rfl, c1, c2, h1, h2]; exact ⟨_, rfl⟩
          | true => simp (implicitDefEqProofs := false) (disch := omega) only [go_sem, Nat.reduceAdd, Nat.reduceSub, Nat.reduceMul, Nat.reduceLT, Nat.reduceLeDiff, Nat.reduceEqDiff, List.drop_zero, List.take_succ_cons, List.take_zero, List.drop_succ_cons, Bool.and_true, Bool.true_and, Bool.and_false, Bool.false_and, BitVec.reduceOfInt, Nat.zero_add, Nat.mul_one, Nat.add_zero, Int.zero_add, Int.reduceToNat, Nat.reducePow, ↓reduceIte, reduceCtorEq, Int.reduceLE, Int.reduceLT, Int.reduceEq, Int.reduceNe, Int.reduceAdd, Int.reduceSub, Int.reduceMul, Int.reduceNeg, Nat.reduceBEq, show regOf Tryd.f32 0 = Code.region _ _ _ from rfl, show regOf Tryd.f32 1 = Code.region _ _ _ from rfl, show regOf Tryd.f32 3 = Code.region _ _ _ from rfl, c1, c2, h1, h2, abin_agg, eq23z, bind_some, aeqb_eql]; exact ⟨_, rfl⟩
  obtain ⟨h, e⟩ := e
  rw [pcall_eq, e, pureRes_solid rfl]
def rpinB (p : List UInt8) (a b c : Int) : Bool := pkgB p && verB a b c
theorem rpin_p (p : List UInt8) (hp : p.length < 9223372036854775808) (a b c : Int) : pcall Tryd.prog md fg 33 [pinV p a b c] = some (.val (.bool (rpinB p a b c))) := by
  have c1 : ∀ h : AHeap, doCall md (aval Tryd.prog md fg) 53 [.val (.string (txt p))] h = some (.val (.bool (pkgB p)), h) := fun h => doCall_pure md53 rfl (rIsPkg_p p hp)
  have c2 : ∀ h : AHeap, doCall md (aval Tryd.prog md fg) 54 [verV a b c] h = some (.val (.bool (verB a b c)), h) := fun h => doCall_pure md54 rfl (rright_p a b c)
  have e : ∃ h, aval Tryd.prog md fg 33 [pinV p a b c] [] = some (.val (.bool (rpinB p a b c)), h) := by
    unfold rpinB
    rw [aval_of Tryd.func33 body33 Tryd.results33 Tryd.ntmps33 ok33]
    cases h1 : pkgB p with
    | false => simp (implicitDefEqProofs := false) (disch := omega) only [go_sem, Nat.reduceAdd, Nat.reduceSub, Nat.reduceMul, Nat.reduceLT, Nat.reduceLeDiff, Nat.reduceEqDiff, List.drop_zero, List.take_succ_cons, List.take_zero, List.drop_succ_cons, Bool.and_true, Bool.true_and, Bool.and_false, Bool.false_and, BitVec.reduceOfInt, Nat.zero_add, Nat.mul_one, Nat.add_zero, Int.zero_add, Int.reduceToNat, Nat.reducePow, ↓reduceIte, reduceCtorEq, Int.reduceLE, Int.reduceLT, Int.reduceEq, Int.reduceNe, Int.reduceAdd, Int.reduceSub, Int.reduceMul, Int.reduceNeg, Nat.reduceBEq, show regOf Tryd.f33 0 = Code.region _ _ _ from rfl, show regOf Tryd.f33 1 = Code.region _ _ _ from rfl, c1, h1]; exact ⟨_, rfl⟩
    | true => cases h2 : verB a b c <;> simp (implicitDefEqProofs := false) (disch := omega) only [go_sem, Nat.reduceAdd, Nat.reduceSub, Nat.reduceMul, Nat.reduceLT, Nat.reduceLeDiff, Nat.reduceEqDiff, List.drop_zero, List.take_succ_cons, List.take_zero, List.drop_succ_cons, Bool.and_true, Bool.true_and, Bool.and_false, Bool.false_and, BitVec.reduceOfInt, Nat.zero_add, Nat.mul_one, Nat.add_zero, Int.zero_add, Int.reduceToNat, Nat.reducePow, ↓reduceIte, reduceCtorEq, Int.reduceLE, Int.reduceLT, Int.reduceEq, Int.reduceNe, Int.reduceAdd, Int.reduceSub, Int.reduceMul, Int.reduceNeg, Nat.reduceBEq, show regOf Tryd.f33 0 = Code.region _ _ _ from rfl, show regOf Tryd.f33 1 = Code.region _ _ _ from rfl, c1, c2, h1, h2] <;> exact ⟨_, rfl⟩
  obtain ⟨h, e⟩ := e
  rw [pcall_eq, e, pureRes_solid rfl]
end Go.Proofs.YtfloombnadnmaaaDoor
namespace Go.Proofs.YtfloombnadnmaaaDoor
open Go Go.Ab Go.Proofs
set_option maxRecDepth 100000
set_option linter.unusedSimpArgs false
set_option linter.unusedVariables false
/-- A command. -/
structure Cmd where
  k : Int
  p : List UInt8
  a : Int
  b : Int
  c : Int
  o : List UInt8
  d : Int
  e : Int
  f : Int
  s : List UInt8
abbrev cmdV (m : Cmd) : AV := .agg [.int m.k, .str (txt m.p), .int m.a, .int m.b, .int m.c, .str (txt m.o), .int m.d, .int m.e, .int m.f, .str (txt m.s)]
def Cmd.small (m : Cmd) : Prop := m.p.length < 9223372036854775808 ∧ m.o.length < 9223372036854775808 ∧ m.s.length < 9223372036854775808
def Cmd.right (m : Cmd) : Bool := kindB m.k && cpinB m.p m.a m.b m.c (pinB m.k) (decide (m.k = 5)) && cpinB m.o m.d m.e m.f (decide (m.k = 6)) false && decide (m.s.length ≤ 20000) && (srcB m.k || decide (m.s = []))
theorem txt_eq_nil (s : List UInt8) : (txt s = ⟨#[]⟩) = (s = []) := propext (txt_nil_iff s)
theorem cright_p (m : Cmd) (hm : m.small) : pcall Tryd.prog md fg 11 [cmdV m] = some (.val (.bool m.right)) := by
  obtain ⟨k, p, a, b, c, o, d, e, f, s⟩ := m
  obtain ⟨hp, ho, hs⟩ := hm
  dsimp only at hp ho hs
  have c1 : ∀ h : AHeap, doCall md (aval Tryd.prog md fg) 23 [.int k] h = some (partsV k, h) := fun h => doCall_pure md23 rfl (partsOf_p k)
  have c2 : ∀ (h : AHeap) (t u : Bool), doCall md (aval Tryd.prog md fg) 32 [pinV p a b c, .bool t, .bool u] h = some (.val (.bool (cpinB p a b c t u)), h) := fun h t u => doCall_pure md32 rfl (cpin_p p hp a b c t u)
  have c3 : ∀ (h : AHeap) (t u : Bool), doCall md (aval Tryd.prog md fg) 32 [pinV o d e f, .bool t, .bool u] h = some (.val (.bool (cpinB o d e f t u)), h) := fun h t u => doCall_pure md32 rfl (cpin_p o ho d e f t u)
  unfold partsV at c1
  have hk5 : (k == 5) = decide (k = 5) := rfl
  have hsz := txt_size s
  have e : ∃ h, aval Tryd.prog md fg 11 [cmdV ⟨k, p, a, b, c, o, d, e, f, s⟩] [] = some (.val (.bool (Cmd.right ⟨k, p, a, b, c, o, d, e, f, s⟩)), h) := by
    unfold Cmd.right
    dsimp only
    rw [aval_of Tryd.func11 body11 Tryd.results11 Tryd.ntmps11 ok11]
    cases h1 : kindB k with
    | false => simp (implicitDefEqProofs := false) (disch := omega) only [go_sem, Nat.reduceAdd, Nat.reduceSub, Nat.reduceMul, Nat.reduceLT, Nat.reduceLeDiff, Nat.reduceEqDiff, List.drop_zero, List.take_succ_cons, List.take_zero, List.drop_succ_cons, Bool.and_true, Bool.true_and, Bool.and_false, Bool.false_and, BitVec.reduceOfInt, Nat.zero_add, Nat.mul_one, Nat.add_zero, Int.zero_add, Int.reduceToNat, Nat.reducePow, ↓reduceIte, reduceCtorEq, Int.reduceLE, Int.reduceLT, Int.reduceEq, Int.reduceNe, Int.reduceAdd, Int.reduceSub, Int.reduceMul, Int.reduceNeg, Nat.reduceBEq, show regOf Tryd.f11 0 = Code.region _ _ _ from rfl, show regOf Tryd.f11 1 = Code.region _ _ _ from rfl, show regOf Tryd.f11 2 = Code.region _ _ _ from rfl, show regOf Tryd.f11 3 = Code.region _ _ _ from rfl, c1, h1]; exact ⟨_, rfl⟩
    | true =>
      cases h2 : cpinB p a b c (pinB k) (decide (k = 5)) with
      | false => simp (implicitDefEqProofs := false) (disch := omega) only [go_sem, Nat.reduceAdd, Nat.reduceSub, Nat.reduceMul, Nat.reduceLT, Nat.reduceLeDiff, Nat.reduceEqDiff, List.drop_zero, List.take_succ_cons, List.take_zero, List.drop_succ_cons, Bool.and_true, Bool.true_and, Bool.and_false, Bool.false_and, BitVec.reduceOfInt, Nat.zero_add, Nat.mul_one, Nat.add_zero, Int.zero_add, Int.reduceToNat, Nat.reducePow, ↓reduceIte, reduceCtorEq, Int.reduceLE, Int.reduceLT, Int.reduceEq, Int.reduceNe, Int.reduceAdd, Int.reduceSub, Int.reduceMul, Int.reduceNeg, Nat.reduceBEq, show regOf Tryd.f11 0 = Code.region _ _ _ from rfl, show regOf Tryd.f11 1 = Code.region _ _ _ from rfl, show regOf Tryd.f11 2 = Code.region _ _ _ from rfl, show regOf Tryd.f11 3 = Code.region _ _ _ from rfl, c1, hk5, c2, h1, h2]; exact ⟨_, rfl⟩
      | true =>
        cases h3 : cpinB o d e f (decide (k = 6)) false with
        | false => simp (implicitDefEqProofs := false) (disch := omega) only [go_sem, Nat.reduceAdd, Nat.reduceSub, Nat.reduceMul, Nat.reduceLT, Nat.reduceLeDiff, Nat.reduceEqDiff, List.drop_zero, List.take_succ_cons, List.take_zero, List.drop_succ_cons, Bool.and_true, Bool.true_and, Bool.and_false, Bool.false_and, BitVec.reduceOfInt, Nat.zero_add, Nat.mul_one, Nat.add_zero, Int.zero_add, Int.reduceToNat, Nat.reducePow, ↓reduceIte, reduceCtorEq, Int.reduceLE, Int.reduceLT, Int.reduceEq, Int.reduceNe, Int.reduceAdd, Int.reduceSub, Int.reduceMul, Int.reduceNeg, Nat.reduceBEq, show regOf Tryd.f11 0 = Code.region _ _ _ from rfl, show regOf Tryd.f11 1 = Code.region _ _ _ from rfl, show regOf Tryd.f11 2 = Code.region _ _ _ from rfl, show regOf Tryd.f11 3 = Code.region _ _ _ from rfl, c1, hk5, c2, c3, h1, h2, h3]; exact ⟨_, rfl⟩
        | true =>
          by_cases h4 : s.length ≤ 20000
          · rw [decide_eq_true h4]
            cases h5 : srcB k with
            | true => simp (implicitDefEqProofs := false) (disch := omega) only [go_sem, Nat.reduceAdd, Nat.reduceSub, Nat.reduceMul, Nat.reduceLT, Nat.reduceLeDiff, Nat.reduceEqDiff, List.drop_zero, List.take_succ_cons, List.take_zero, List.drop_succ_cons, Bool.and_true, Bool.true_and, Bool.and_false, Bool.false_and, BitVec.reduceOfInt, Nat.zero_add, Nat.mul_one, Nat.add_zero, Int.zero_add, Int.reduceToNat, Nat.reducePow, ↓reduceIte, reduceCtorEq, Int.reduceLE, Int.reduceLT, Int.reduceEq, Int.reduceNe, Int.reduceAdd, Int.reduceSub, Int.reduceMul, Int.reduceNeg, Nat.reduceBEq, show regOf Tryd.f11 0 = Code.region _ _ _ from rfl, show regOf Tryd.f11 1 = Code.region _ _ _ from rfl, show regOf Tryd.f11 2 = Code.region _ _ _ from rfl, show regOf Tryd.f11 4 = Code.region _ _ _ from rfl, c1, hk5, c2, c3, h1, h2, h3, h5, hsz]; exact ⟨_, rfl⟩
            | false => simp (implicitDefEqProofs := false) (disch := omega) only [go_sem, Nat.reduceAdd, Nat.reduceSub, Nat.reduceMul, Nat.reduceLT, Nat.reduceLeDiff, Nat.reduceEqDiff, List.drop_zero, List.take_succ_cons, List.take_zero, List.drop_succ_cons, Bool.and_true, Bool.true_and, Bool.and_false, Bool.false_and, BitVec.reduceOfInt, Nat.zero_add, Nat.mul_one, Nat.add_zero, Int.zero_add, Int.reduceToNat, Nat.reducePow, ↓reduceIte, reduceCtorEq, Int.reduceLE, Int.reduceLT, Int.reduceEq, Int.reduceNe, Int.reduceAdd, Int.reduceSub, Int.reduceMul, Int.reduceNeg, Nat.reduceBEq, show regOf Tryd.f11 0 = Code.region _ _ _ from rfl, show regOf Tryd.f11 1 = Code.region _ _ _ from rfl, show regOf Tryd.f11 2 = Code.region _ _ _ from rfl, show regOf Tryd.f11 4 = Code.region _ _ _ from rfl, c1, hk5, c2, c3, h1, h2, h3, h5, hsz, txt_eq_nil]; exact ⟨_, rfl⟩
          · rw [decide_eq_false h4]
            simp (implicitDefEqProofs := false) (disch := omega) only [go_sem, Nat.reduceAdd, Nat.reduceSub, Nat.reduceMul, Nat.reduceLT, Nat.reduceLeDiff, Nat.reduceEqDiff, List.drop_zero, List.take_succ_cons, List.take_zero, List.drop_succ_cons, Bool.and_true, Bool.true_and, Bool.and_false, Bool.false_and, BitVec.reduceOfInt, Nat.zero_add, Nat.mul_one, Nat.add_zero, Int.zero_add, Int.reduceToNat, Nat.reducePow, ↓reduceIte, reduceCtorEq, Int.reduceLE, Int.reduceLT, Int.reduceEq, Int.reduceNe, Int.reduceAdd, Int.reduceSub, Int.reduceMul, Int.reduceNeg, Nat.reduceBEq, show regOf Tryd.f11 0 = Code.region _ _ _ from rfl, show regOf Tryd.f11 1 = Code.region _ _ _ from rfl, show regOf Tryd.f11 2 = Code.region _ _ _ from rfl, show regOf Tryd.f11 4 = Code.region _ _ _ from rfl, c1, hk5, c2, c3, h1, h2, h3, hsz]; exact ⟨_, rfl⟩
  obtain ⟨h, e⟩ := e
  rw [pcall_eq, e, pureRes_solid rfl]
end Go.Proofs.YtfloombnadnmaaaDoor
namespace Go.Proofs.YtfloombnadnmaaaDoor
open Go Go.Ab Go.Proofs
set_option maxRecDepth 100000
set_option linter.unusedSimpArgs false
set_option linter.unusedVariables false
set_option maxHeartbeats 8000000 in
theorem rright2_p (m : Cmd) (hm : m.small) : pcall Tryd.prog md fg 12 [cmdV m] = some (.val (.bool m.right)) := by
  obtain ⟨k, p, a, b, c, o, d, e, f, s⟩ := m
  obtain ⟨hp, ho, hs⟩ := hm
  dsimp only at hp ho hs
  have c1 : ∀ h : AHeap, doCall md (aval Tryd.prog md fg) 28 [.int k] h = some (.val (.bool (pinB k)), h) := fun h => doCall_pure md28 rfl (hasPin_p k)
  have c2 : ∀ (h : AHeap), doCall md (aval Tryd.prog md fg) 33 [pinV p a b c] h = some (.val (.bool (rpinB p a b c)), h) := fun h => doCall_pure md33 rfl (rpin_p p hp a b c)
  have c3 : ∀ (h : AHeap), doCall md (aval Tryd.prog md fg) 33 [pinV o d e f] h = some (.val (.bool (rpinB o d e f)), h) := fun h => doCall_pure md33 rfl (rpin_p o ho d e f)
  have c4 : ∀ (h : AHeap), doCall md (aval Tryd.prog md fg) 30 [.int k] h = some (.val (.bool (srcB k)), h) := fun h => doCall_pure md30 rfl (hasSource_p k)
  have hsz := txt_size s
  have fin : ∀ t : Bool, Cmd.right ⟨k, p, a, b, c, o, d, e, f, s⟩ = t → (∃ h, aval Tryd.prog md fg 12 [cmdV ⟨k, p, a, b, c, o, d, e, f, s⟩] [] = some (.val (.bool t), h)) → ∃ h, aval Tryd.prog md fg 12 [cmdV ⟨k, p, a, b, c, o, d, e, f, s⟩] [] = some (.val (.bool (Cmd.right ⟨k, p, a, b, c, o, d, e, f, s⟩)), h) := fun t e1 e2 => by rw [e1]; exact e2
  have e : ∃ h, aval Tryd.prog md fg 12 [cmdV ⟨k, p, a, b, c, o, d, e, f, s⟩] [] = some (.val (.bool (Cmd.right ⟨k, p, a, b, c, o, d, e, f, s⟩)), h) := by
    by_cases k1 : k < 1
    · refine fin false (by unfold Cmd.right kindB; dsimp only; rw [decide_eq_false (by omega)]; rfl) ?_
      rw [aval_of Tryd.func12 body12 Tryd.results12 Tryd.ntmps12 ok12]
      simp (implicitDefEqProofs := false) (disch := omega) only [go_sem, Nat.reduceAdd, Nat.reduceSub, Nat.reduceMul, Nat.reduceLT, Nat.reduceLeDiff, Nat.reduceEqDiff, List.drop_zero, List.take_succ_cons, List.take_zero, List.drop_succ_cons, Bool.and_true, Bool.true_and, Bool.and_false, Bool.false_and, BitVec.reduceOfInt, Nat.zero_add, Nat.mul_one, Nat.add_zero, Int.zero_add, Int.reduceToNat, Nat.reducePow, ↓reduceIte, reduceCtorEq, Int.reduceLE, Int.reduceLT, Int.reduceEq, Int.reduceNe, Int.reduceAdd, Int.reduceSub, Int.reduceMul, Int.reduceNeg, Nat.reduceBEq, show regOf Tryd.f12 0 = Code.region _ _ _ from rfl, show regOf Tryd.f12 1 = Code.region _ _ _ from rfl, show regOf Tryd.f12 2 = Code.region _ _ _ from rfl, show regOf Tryd.f12 3 = Code.region _ _ _ from rfl, k1]; exact ⟨_, rfl⟩
    by_cases k2 : k > 10
    · refine fin false (by unfold Cmd.right kindB; dsimp only; rw [decide_eq_false (by omega)]; rfl) ?_
      rw [aval_of Tryd.func12 body12 Tryd.results12 Tryd.ntmps12 ok12]
      simp (implicitDefEqProofs := false) (disch := omega) only [go_sem, Nat.reduceAdd, Nat.reduceSub, Nat.reduceMul, Nat.reduceLT, Nat.reduceLeDiff, Nat.reduceEqDiff, List.drop_zero, List.take_succ_cons, List.take_zero, List.drop_succ_cons, Bool.and_true, Bool.true_and, Bool.and_false, Bool.false_and, BitVec.reduceOfInt, Nat.zero_add, Nat.mul_one, Nat.add_zero, Int.zero_add, Int.reduceToNat, Nat.reducePow, ↓reduceIte, reduceCtorEq, Int.reduceLE, Int.reduceLT, Int.reduceEq, Int.reduceNe, Int.reduceAdd, Int.reduceSub, Int.reduceMul, Int.reduceNeg, Nat.reduceBEq, show regOf Tryd.f12 0 = Code.region _ _ _ from rfl, show regOf Tryd.f12 1 = Code.region _ _ _ from rfl, show regOf Tryd.f12 2 = Code.region _ _ _ from rfl, show regOf Tryd.f12 3 = Code.region _ _ _ from rfl, k1, k2]; exact ⟨_, rfl⟩
    have hk : kindB k = true := by unfold kindB; simp; omega
    have tail : ∀ x : Bool, cpinB p a b c (pinB k) (decide (k = 5)) = x → Cmd.right ⟨k, p, a, b, c, o, d, e, f, s⟩ = (x && cpinB o d e f (decide (k = 6)) false && decide (s.length ≤ 20000) && (srcB k || decide (s = []))) := by
      intro x hx
      unfold Cmd.right; dsimp only; rw [hk, hx, Bool.true_and]
    cases h1 : pinB k with
    | true =>
      cases h2 : rpinB p a b c with
      | false =>
        refine fin false (by rw [tail false (by unfold cpinB; rw [h1, if_pos rfl]; unfold rpinB at h2; rw [h2]; rfl)]; rfl) ?_
        rw [aval_of Tryd.func12 body12 Tryd.results12 Tryd.ntmps12 ok12]
        simp (implicitDefEqProofs := false) (disch := omega) only [go_sem, Nat.reduceAdd, Nat.reduceSub, Nat.reduceMul, Nat.reduceLT, Nat.reduceLeDiff, Nat.reduceEqDiff, List.drop_zero, List.take_succ_cons, List.take_zero, List.drop_succ_cons, Bool.and_true, Bool.true_and, Bool.and_false, Bool.false_and, BitVec.reduceOfInt, Nat.zero_add, Nat.mul_one, Nat.add_zero, Int.zero_add, Int.reduceToNat, Nat.reducePow, ↓reduceIte, reduceCtorEq, Int.reduceLE, Int.reduceLT, Int.reduceEq, Int.reduceNe, Int.reduceAdd, Int.reduceSub, Int.reduceMul, Int.reduceNeg, Nat.reduceBEq, show regOf Tryd.f12 0 = Code.region _ _ _ from rfl, show regOf Tryd.f12 1 = Code.region _ _ _ from rfl, show regOf Tryd.f12 2 = Code.region _ _ _ from rfl, show regOf Tryd.f12 3 = Code.region _ _ _ from rfl, k1, k2, c1, c2, h1, h2]; exact ⟨_, rfl⟩
      | true =>
        by_cases k5 : k = 5
        · subst k5
          cases h3 : verZ a b c with
          | false =>
            refine fin false (by rw [tail false (by unfold cpinB; rw [h1, if_pos rfl]; unfold rpinB at h2; rw [h2, h3]; rfl)]; rfl) ?_
            rw [aval_of Tryd.func12 body12 Tryd.results12 Tryd.ntmps12 ok12]
            simp (implicitDefEqProofs := false) (disch := omega) only [go_sem, Nat.reduceAdd, Nat.reduceSub, Nat.reduceMul, Nat.reduceLT, Nat.reduceLeDiff, Nat.reduceEqDiff, List.drop_zero, List.take_succ_cons, List.take_zero, List.drop_succ_cons, Bool.and_true, Bool.true_and, Bool.and_false, Bool.false_and, BitVec.reduceOfInt, Nat.zero_add, Nat.mul_one, Nat.add_zero, Int.zero_add, Int.reduceToNat, Nat.reducePow, ↓reduceIte, reduceCtorEq, Int.reduceLE, Int.reduceLT, Int.reduceEq, Int.reduceNe, Int.reduceAdd, Int.reduceSub, Int.reduceMul, Int.reduceNeg, Nat.reduceBEq, show regOf Tryd.f12 0 = Code.region _ _ _ from rfl, show regOf Tryd.f12 1 = Code.region _ _ _ from rfl, show regOf Tryd.f12 2 = Code.region _ _ _ from rfl, show regOf Tryd.f12 4 = Code.region _ _ _ from rfl, show regOf Tryd.f12 5 = Code.region _ _ _ from rfl, c1, c2, h1, h2, abin_agg, eq23z, bind_some, aeqb_neq, h3]; exact ⟨_, rfl⟩
          | true =>
            cases h6 : pinZ o d e f with
            | false =>
              refine fin false (by rw [tail true (by unfold cpinB; rw [h1, if_pos rfl]; unfold rpinB at h2; rw [h2, h3]; rfl), show cpinB o d e f (decide ((5 : Int) = 6)) false = false by unfold cpinB; rw [decide_eq_false (by decide)]; exact h6]; rfl) ?_
              rw [aval_of Tryd.func12 body12 Tryd.results12 Tryd.ntmps12 ok12]
              simp (implicitDefEqProofs := false) (disch := omega) only [go_sem, Nat.reduceAdd, Nat.reduceSub, Nat.reduceMul, Nat.reduceLT, Nat.reduceLeDiff, Nat.reduceEqDiff, List.drop_zero, List.take_succ_cons, List.take_zero, List.drop_succ_cons, Bool.and_true, Bool.true_and, Bool.and_false, Bool.false_and, BitVec.reduceOfInt, Nat.zero_add, Nat.mul_one, Nat.add_zero, Int.zero_add, Int.reduceToNat, Nat.reducePow, ↓reduceIte, reduceCtorEq, Int.reduceLE, Int.reduceLT, Int.reduceEq, Int.reduceNe, Int.reduceAdd, Int.reduceSub, Int.reduceMul, Int.reduceNeg, Nat.reduceBEq, show regOf Tryd.f12 0 = Code.region _ _ _ from rfl, show regOf Tryd.f12 1 = Code.region _ _ _ from rfl, show regOf Tryd.f12 2 = Code.region _ _ _ from rfl, show regOf Tryd.f12 4 = Code.region _ _ _ from rfl, show regOf Tryd.f12 5 = Code.region _ _ _ from rfl, c1, c2, h1, h2, eq23z, h3, abin_agg, eq25z, bind_some, aeqb_neq, h6]; exact ⟨_, rfl⟩
            | true =>
              have co : cpinB o d e f (decide ((5 : Int) = 6)) false = true := by unfold cpinB; rw [decide_eq_false (by decide)]; exact h6
              by_cases h4 : s.length ≤ 20000
              · cases h5 : srcB 5 with
                | true =>
                  refine fin true (by rw [tail true (by unfold cpinB; rw [h1, if_pos rfl]; unfold rpinB at h2; rw [h2, h3]; rfl), co, decide_eq_true h4, h5]; rfl) ?_
                  rw [aval_of Tryd.func12 body12 Tryd.results12 Tryd.ntmps12 ok12]
                  simp (implicitDefEqProofs := false) (disch := omega) only [go_sem, Nat.reduceAdd, Nat.reduceSub, Nat.reduceMul, Nat.reduceLT, Nat.reduceLeDiff, Nat.reduceEqDiff, List.drop_zero, List.take_succ_cons, List.take_zero, List.drop_succ_cons, Bool.and_true, Bool.true_and, Bool.and_false, Bool.false_and, BitVec.reduceOfInt, Nat.zero_add, Nat.mul_one, Nat.add_zero, Int.zero_add, Int.reduceToNat, Nat.reducePow, ↓reduceIte, reduceCtorEq, Int.reduceLE, Int.reduceLT, Int.reduceEq, Int.reduceNe, Int.reduceAdd, Int.reduceSub, Int.reduceMul, Int.reduceNeg, Nat.reduceBEq, show regOf Tryd.f12 0 = Code.region _ _ _ from rfl, show regOf Tryd.f12 1 = Code.region _ _ _ from rfl, show regOf Tryd.f12 2 = Code.region _ _ _ from rfl, show regOf Tryd.f12 4 = Code.region _ _ _ from rfl, show regOf Tryd.f12 6 = Code.region _ _ _ from rfl, c1, c2, h1, h2, eq23z, h3, abin_agg, eq25z, bind_some, aeqb_neq, h6, c4, h5, hsz]; exact ⟨_, rfl⟩
                | false =>
                  refine fin (decide (s = [])) (by rw [tail true (by unfold cpinB; rw [h1, if_pos rfl]; unfold rpinB at h2; rw [h2, h3]; rfl), co, decide_eq_true h4, h5]; simp) ?_
                  rw [aval_of Tryd.func12 body12 Tryd.results12 Tryd.ntmps12 ok12]
                  simp (implicitDefEqProofs := false) (disch := omega) only [go_sem, Nat.reduceAdd, Nat.reduceSub, Nat.reduceMul, Nat.reduceLT, Nat.reduceLeDiff, Nat.reduceEqDiff, List.drop_zero, List.take_succ_cons, List.take_zero, List.drop_succ_cons, Bool.and_true, Bool.true_and, Bool.and_false, Bool.false_and, BitVec.reduceOfInt, Nat.zero_add, Nat.mul_one, Nat.add_zero, Int.zero_add, Int.reduceToNat, Nat.reducePow, ↓reduceIte, reduceCtorEq, Int.reduceLE, Int.reduceLT, Int.reduceEq, Int.reduceNe, Int.reduceAdd, Int.reduceSub, Int.reduceMul, Int.reduceNeg, Nat.reduceBEq, show regOf Tryd.f12 0 = Code.region _ _ _ from rfl, show regOf Tryd.f12 1 = Code.region _ _ _ from rfl, show regOf Tryd.f12 2 = Code.region _ _ _ from rfl, show regOf Tryd.f12 4 = Code.region _ _ _ from rfl, show regOf Tryd.f12 6 = Code.region _ _ _ from rfl, c1, c2, h1, h2, eq23z, h3, abin_agg, eq25z, bind_some, aeqb_neq, h6, c4, h5, hsz, txt_eq_nil]; exact ⟨_, rfl⟩
              · refine fin false (by rw [tail true (by unfold cpinB; rw [h1, if_pos rfl]; unfold rpinB at h2; rw [h2, h3]; rfl), co, decide_eq_false h4]; rfl) ?_
                rw [aval_of Tryd.func12 body12 Tryd.results12 Tryd.ntmps12 ok12]
                simp (implicitDefEqProofs := false) (disch := omega) only [go_sem, Nat.reduceAdd, Nat.reduceSub, Nat.reduceMul, Nat.reduceLT, Nat.reduceLeDiff, Nat.reduceEqDiff, List.drop_zero, List.take_succ_cons, List.take_zero, List.drop_succ_cons, Bool.and_true, Bool.true_and, Bool.and_false, Bool.false_and, BitVec.reduceOfInt, Nat.zero_add, Nat.mul_one, Nat.add_zero, Int.zero_add, Int.reduceToNat, Nat.reducePow, ↓reduceIte, reduceCtorEq, Int.reduceLE, Int.reduceLT, Int.reduceEq, Int.reduceNe, Int.reduceAdd, Int.reduceSub, Int.reduceMul, Int.reduceNeg, Nat.reduceBEq, show regOf Tryd.f12 0 = Code.region _ _ _ from rfl, show regOf Tryd.f12 1 = Code.region _ _ _ from rfl, show regOf Tryd.f12 2 = Code.region _ _ _ from rfl, show regOf Tryd.f12 4 = Code.region _ _ _ from rfl, show regOf Tryd.f12 6 = Code.region _ _ _ from rfl, c1, c2, h1, h2, eq23z, h3, abin_agg, eq25z, bind_some, aeqb_neq, h6, hsz]; exact ⟨_, rfl⟩
        · by_cases k6 : k = 6
          · subst k6
            cases h6 : rpinB o d e f with
            | false =>
              refine fin false (by rw [tail true (by unfold cpinB; rw [h1, if_pos rfl]; unfold rpinB at h2; rw [h2]; rfl), show cpinB o d e f (decide ((6 : Int) = 6)) false = false by unfold cpinB; rw [decide_eq_true rfl, if_pos rfl]; unfold rpinB at h6; rw [h6]; rfl]; rfl) ?_
              rw [aval_of Tryd.func12 body12 Tryd.results12 Tryd.ntmps12 ok12]
              simp (implicitDefEqProofs := false) (disch := omega) only [go_sem, Nat.reduceAdd, Nat.reduceSub, Nat.reduceMul, Nat.reduceLT, Nat.reduceLeDiff, Nat.reduceEqDiff, List.drop_zero, List.take_succ_cons, List.take_zero, List.drop_succ_cons, Bool.and_true, Bool.true_and, Bool.and_false, Bool.false_and, BitVec.reduceOfInt, Nat.zero_add, Nat.mul_one, Nat.add_zero, Int.zero_add, Int.reduceToNat, Nat.reducePow, ↓reduceIte, reduceCtorEq, Int.reduceLE, Int.reduceLT, Int.reduceEq, Int.reduceNe, Int.reduceAdd, Int.reduceSub, Int.reduceMul, Int.reduceNeg, Nat.reduceBEq, show regOf Tryd.f12 0 = Code.region _ _ _ from rfl, show regOf Tryd.f12 1 = Code.region _ _ _ from rfl, show regOf Tryd.f12 2 = Code.region _ _ _ from rfl, show regOf Tryd.f12 4 = Code.region _ _ _ from rfl, show regOf Tryd.f12 5 = Code.region _ _ _ from rfl, c1, c2, h1, h2, c3, h6]; exact ⟨_, rfl⟩
            | true =>
              have co : cpinB o d e f (decide ((6 : Int) = 6)) false = true := by unfold cpinB; rw [decide_eq_true rfl, if_pos rfl]; unfold rpinB at h6; rw [h6]; rfl
              by_cases h4 : s.length ≤ 20000
              · cases h5 : srcB 6 with
                | true =>
                  refine fin true (by rw [tail true (by unfold cpinB; rw [h1, if_pos rfl]; unfold rpinB at h2; rw [h2]; rfl), co, decide_eq_true h4, h5]; rfl) ?_
                  rw [aval_of Tryd.func12 body12 Tryd.results12 Tryd.ntmps12 ok12]
                  simp (implicitDefEqProofs := false) (disch := omega) only [go_sem, Nat.reduceAdd, Nat.reduceSub, Nat.reduceMul, Nat.reduceLT, Nat.reduceLeDiff, Nat.reduceEqDiff, List.drop_zero, List.take_succ_cons, List.take_zero, List.drop_succ_cons, Bool.and_true, Bool.true_and, Bool.and_false, Bool.false_and, BitVec.reduceOfInt, Nat.zero_add, Nat.mul_one, Nat.add_zero, Int.zero_add, Int.reduceToNat, Nat.reducePow, ↓reduceIte, reduceCtorEq, Int.reduceLE, Int.reduceLT, Int.reduceEq, Int.reduceNe, Int.reduceAdd, Int.reduceSub, Int.reduceMul, Int.reduceNeg, Nat.reduceBEq, show regOf Tryd.f12 0 = Code.region _ _ _ from rfl, show regOf Tryd.f12 1 = Code.region _ _ _ from rfl, show regOf Tryd.f12 2 = Code.region _ _ _ from rfl, show regOf Tryd.f12 4 = Code.region _ _ _ from rfl, show regOf Tryd.f12 6 = Code.region _ _ _ from rfl, c1, c2, h1, h2, c3, h6, c4, h5, hsz]; exact ⟨_, rfl⟩
                | false =>
                  refine fin (decide (s = [])) (by rw [tail true (by unfold cpinB; rw [h1, if_pos rfl]; unfold rpinB at h2; rw [h2]; rfl), co, decide_eq_true h4, h5]; simp) ?_
                  rw [aval_of Tryd.func12 body12 Tryd.results12 Tryd.ntmps12 ok12]
                  simp (implicitDefEqProofs := false) (disch := omega) only [go_sem, Nat.reduceAdd, Nat.reduceSub, Nat.reduceMul, Nat.reduceLT, Nat.reduceLeDiff, Nat.reduceEqDiff, List.drop_zero, List.take_succ_cons, List.take_zero, List.drop_succ_cons, Bool.and_true, Bool.true_and, Bool.and_false, Bool.false_and, BitVec.reduceOfInt, Nat.zero_add, Nat.mul_one, Nat.add_zero, Int.zero_add, Int.reduceToNat, Nat.reducePow, ↓reduceIte, reduceCtorEq, Int.reduceLE, Int.reduceLT, Int.reduceEq, Int.reduceNe, Int.reduceAdd, Int.reduceSub, Int.reduceMul, Int.reduceNeg, Nat.reduceBEq, show regOf Tryd.f12 0 = Code.region _ _ _ from rfl, show regOf Tryd.f12 1 = Code.region _ _ _ from rfl, show regOf Tryd.f12 2 = Code.region _ _ _ from rfl, show regOf Tryd.f12 4 = Code.region _ _ _ from rfl, show regOf Tryd.f12 6 = Code.region _ _ _ from rfl, c1, c2, h1, h2, c3, h6, c4, h5, hsz, txt_eq_nil]; exact ⟨_, rfl⟩
              · refine fin false (by rw [tail true (by unfold cpinB; rw [h1, if_pos rfl]; unfold rpinB at h2; rw [h2]; rfl), co, decide_eq_false h4]; rfl) ?_
                rw [aval_of Tryd.func12 body12 Tryd.results12 Tryd.ntmps12 ok12]
                simp (implicitDefEqProofs := false) (disch := omega) only [go_sem, Nat.reduceAdd, Nat.reduceSub, Nat.reduceMul, Nat.reduceLT, Nat.reduceLeDiff, Nat.reduceEqDiff, List.drop_zero, List.take_succ_cons, List.take_zero, List.drop_succ_cons, Bool.and_true, Bool.true_and, Bool.and_false, Bool.false_and, BitVec.reduceOfInt, Nat.zero_add, Nat.mul_one, Nat.add_zero, Int.zero_add, Int.reduceToNat, Nat.reducePow, ↓reduceIte, reduceCtorEq, Int.reduceLE, Int.reduceLT, Int.reduceEq, Int.reduceNe, Int.reduceAdd, Int.reduceSub, Int.reduceMul, Int.reduceNeg, Nat.reduceBEq, show regOf Tryd.f12 0 = Code.region _ _ _ from rfl, show regOf Tryd.f12 1 = Code.region _ _ _ from rfl, show regOf Tryd.f12 2 = Code.region _ _ _ from rfl, show regOf Tryd.f12 4 = Code.region _ _ _ from rfl, show regOf Tryd.f12 6 = Code.region _ _ _ from rfl, c1, c2, h1, h2, c3, h6, hsz]; exact ⟨_, rfl⟩
          ·
            cases h6 : pinZ o d e f with
            | false =>
              refine fin false (by rw [tail true (by unfold cpinB; rw [h1, if_pos rfl, decide_eq_false k5]; unfold rpinB at h2; rw [h2]; rfl), show cpinB o d e f (decide ((k : Int) = 6)) false = false by unfold cpinB; rw [decide_eq_false k6]; exact h6]; rfl) ?_
              rw [aval_of Tryd.func12 body12 Tryd.results12 Tryd.ntmps12 ok12]
              simp (implicitDefEqProofs := false) (disch := omega) only [go_sem, Nat.reduceAdd, Nat.reduceSub, Nat.reduceMul, Nat.reduceLT, Nat.reduceLeDiff, Nat.reduceEqDiff, List.drop_zero, List.take_succ_cons, List.take_zero, List.drop_succ_cons, Bool.and_true, Bool.true_and, Bool.and_false, Bool.false_and, BitVec.reduceOfInt, Nat.zero_add, Nat.mul_one, Nat.add_zero, Int.zero_add, Int.reduceToNat, Nat.reducePow, ↓reduceIte, reduceCtorEq, Int.reduceLE, Int.reduceLT, Int.reduceEq, Int.reduceNe, Int.reduceAdd, Int.reduceSub, Int.reduceMul, Int.reduceNeg, Nat.reduceBEq, show regOf Tryd.f12 0 = Code.region _ _ _ from rfl, show regOf Tryd.f12 1 = Code.region _ _ _ from rfl, show regOf Tryd.f12 2 = Code.region _ _ _ from rfl, show regOf Tryd.f12 4 = Code.region _ _ _ from rfl, show regOf Tryd.f12 5 = Code.region _ _ _ from rfl, c1, c2, h1, h2, k1, k2, k5, k6, abin_agg, eq25z, bind_some, aeqb_neq, h6]; exact ⟨_, rfl⟩
            | true =>
              have co : cpinB o d e f (decide ((k : Int) = 6)) false = true := by unfold cpinB; rw [decide_eq_false k6]; exact h6
              by_cases h4 : s.length ≤ 20000
              · cases h5 : srcB k with
                | true =>
                  refine fin true (by rw [tail true (by unfold cpinB; rw [h1, if_pos rfl, decide_eq_false k5]; unfold rpinB at h2; rw [h2]; rfl), co, decide_eq_true h4, h5]; rfl) ?_
                  rw [aval_of Tryd.func12 body12 Tryd.results12 Tryd.ntmps12 ok12]
                  simp (implicitDefEqProofs := false) (disch := omega) only [go_sem, Nat.reduceAdd, Nat.reduceSub, Nat.reduceMul, Nat.reduceLT, Nat.reduceLeDiff, Nat.reduceEqDiff, List.drop_zero, List.take_succ_cons, List.take_zero, List.drop_succ_cons, Bool.and_true, Bool.true_and, Bool.and_false, Bool.false_and, BitVec.reduceOfInt, Nat.zero_add, Nat.mul_one, Nat.add_zero, Int.zero_add, Int.reduceToNat, Nat.reducePow, ↓reduceIte, reduceCtorEq, Int.reduceLE, Int.reduceLT, Int.reduceEq, Int.reduceNe, Int.reduceAdd, Int.reduceSub, Int.reduceMul, Int.reduceNeg, Nat.reduceBEq, show regOf Tryd.f12 0 = Code.region _ _ _ from rfl, show regOf Tryd.f12 1 = Code.region _ _ _ from rfl, show regOf Tryd.f12 2 = Code.region _ _ _ from rfl, show regOf Tryd.f12 4 = Code.region _ _ _ from rfl, show regOf Tryd.f12 6 = Code.region _ _ _ from rfl, c1, c2, h1, h2, k1, k2, k5, k6, abin_agg, eq25z, bind_some, aeqb_neq, h6, c4, h5, hsz]; exact ⟨_, rfl⟩
                | false =>
                  refine fin (decide (s = [])) (by rw [tail true (by unfold cpinB; rw [h1, if_pos rfl, decide_eq_false k5]; unfold rpinB at h2; rw [h2]; rfl), co, decide_eq_true h4, h5]; simp) ?_
                  rw [aval_of Tryd.func12 body12 Tryd.results12 Tryd.ntmps12 ok12]
                  simp (implicitDefEqProofs := false) (disch := omega) only [go_sem, Nat.reduceAdd, Nat.reduceSub, Nat.reduceMul, Nat.reduceLT, Nat.reduceLeDiff, Nat.reduceEqDiff, List.drop_zero, List.take_succ_cons, List.take_zero, List.drop_succ_cons, Bool.and_true, Bool.true_and, Bool.and_false, Bool.false_and, BitVec.reduceOfInt, Nat.zero_add, Nat.mul_one, Nat.add_zero, Int.zero_add, Int.reduceToNat, Nat.reducePow, ↓reduceIte, reduceCtorEq, Int.reduceLE, Int.reduceLT, Int.reduceEq, Int.reduceNe, Int.reduceAdd, Int.reduceSub, Int.reduceMul, Int.reduceNeg, Nat.reduceBEq, show regOf Tryd.f12 0 = Code.region _ _ _ from rfl, show regOf Tryd.f12 1 = Code.region _ _ _ from rfl, show regOf Tryd.f12 2 = Code.region _ _ _ from rfl, show regOf Tryd.f12 4 = Code.region _ _ _ from rfl, show regOf Tryd.f12 6 = Code.region _ _ _ from rfl, c1, c2, h1, h2, k1, k2, k5, k6, abin_agg, eq25z, bind_some, aeqb_neq, h6, c4, h5, hsz, txt_eq_nil]; exact ⟨_, rfl⟩
              · refine fin false (by rw [tail true (by unfold cpinB; rw [h1, if_pos rfl, decide_eq_false k5]; unfold rpinB at h2; rw [h2]; rfl), co, decide_eq_false h4]; rfl) ?_
                rw [aval_of Tryd.func12 body12 Tryd.results12 Tryd.ntmps12 ok12]
                simp (implicitDefEqProofs := false) (disch := omega) only [go_sem, Nat.reduceAdd, Nat.reduceSub, Nat.reduceMul, Nat.reduceLT, Nat.reduceLeDiff, Nat.reduceEqDiff, List.drop_zero, List.take_succ_cons, List.take_zero, List.drop_succ_cons, Bool.and_true, Bool.true_and, Bool.and_false, Bool.false_and, BitVec.reduceOfInt, Nat.zero_add, Nat.mul_one, Nat.add_zero, Int.zero_add, Int.reduceToNat, Nat.reducePow, ↓reduceIte, reduceCtorEq, Int.reduceLE, Int.reduceLT, Int.reduceEq, Int.reduceNe, Int.reduceAdd, Int.reduceSub, Int.reduceMul, Int.reduceNeg, Nat.reduceBEq, show regOf Tryd.f12 0 = Code.region _ _ _ from rfl, show regOf Tryd.f12 1 = Code.region _ _ _ from rfl, show regOf Tryd.f12 2 = Code.region _ _ _ from rfl, show regOf Tryd.f12 4 = Code.region _ _ _ from rfl, show regOf Tryd.f12 6 = Code.region _ _ _ from rfl, c1, c2, h1, h2, k1, k2, k5, k6, abin_agg, eq25z, bind_some, aeqb_neq, h6, hsz]; exact ⟨_, rfl⟩
    | false =>
      cases h2 : pinZ p a b c with
      | false =>
        refine fin false (by rw [tail false (by unfold cpinB; rw [h1]; exact h2)]; rfl) ?_
        rw [aval_of Tryd.func12 body12 Tryd.results12 Tryd.ntmps12 ok12]
        simp (implicitDefEqProofs := false) (disch := omega) only [go_sem, Nat.reduceAdd, Nat.reduceSub, Nat.reduceMul, Nat.reduceLT, Nat.reduceLeDiff, Nat.reduceEqDiff, List.drop_zero, List.take_succ_cons, List.take_zero, List.drop_succ_cons, Bool.and_true, Bool.true_and, Bool.and_false, Bool.false_and, BitVec.reduceOfInt, Nat.zero_add, Nat.mul_one, Nat.add_zero, Int.zero_add, Int.reduceToNat, Nat.reducePow, ↓reduceIte, reduceCtorEq, Int.reduceLE, Int.reduceLT, Int.reduceEq, Int.reduceNe, Int.reduceAdd, Int.reduceSub, Int.reduceMul, Int.reduceNeg, Nat.reduceBEq, show regOf Tryd.f12 0 = Code.region _ _ _ from rfl, show regOf Tryd.f12 1 = Code.region _ _ _ from rfl, show regOf Tryd.f12 2 = Code.region _ _ _ from rfl, show regOf Tryd.f12 3 = Code.region _ _ _ from rfl, k1, k2, c1, c2, h1, h2, abin_agg, eq25z, bind_some, aeqb_neq]; exact ⟨_, rfl⟩
      | true =>
        have k5 : ¬ k = 5 := by rintro rfl; cases h1
        have k6 : ¬ k = 6 := by rintro rfl; cases h1
        cases h6 : pinZ o d e f with
        | false =>
          refine fin false (by rw [tail true (by unfold cpinB; rw [h1]; exact h2), show cpinB o d e f (decide ((k : Int) = 6)) false = false by unfold cpinB; rw [decide_eq_false k6]; exact h6]; rfl) ?_
          rw [aval_of Tryd.func12 body12 Tryd.results12 Tryd.ntmps12 ok12]
          simp (implicitDefEqProofs := false) (disch := omega) only [go_sem, Nat.reduceAdd, Nat.reduceSub, Nat.reduceMul, Nat.reduceLT, Nat.reduceLeDiff, Nat.reduceEqDiff, List.drop_zero, List.take_succ_cons, List.take_zero, List.drop_succ_cons, Bool.and_true, Bool.true_and, Bool.and_false, Bool.false_and, BitVec.reduceOfInt, Nat.zero_add, Nat.mul_one, Nat.add_zero, Int.zero_add, Int.reduceToNat, Nat.reducePow, ↓reduceIte, reduceCtorEq, Int.reduceLE, Int.reduceLT, Int.reduceEq, Int.reduceNe, Int.reduceAdd, Int.reduceSub, Int.reduceMul, Int.reduceNeg, Nat.reduceBEq, show regOf Tryd.f12 0 = Code.region _ _ _ from rfl, show regOf Tryd.f12 1 = Code.region _ _ _ from rfl, show regOf Tryd.f12 2 = Code.region _ _ _ from rfl, show regOf Tryd.f12 4 = Code.region _ _ _ from rfl, show regOf Tryd.f12 5 = Code.region _ _ _ from rfl, c1, c2, h1, h2, abin_agg, eq25z, bind_some, aeqb_neq, k1, k2, k5, k6, abin_agg, eq25z, bind_some, aeqb_neq, h6]; exact ⟨_, rfl⟩
        | true =>
          have co : cpinB o d e f (decide ((k : Int) = 6)) false = true := by unfold cpinB; rw [decide_eq_false k6]; exact h6
          by_cases h4 : s.length ≤ 20000
          · cases h5 : srcB k with
            | true =>
              refine fin true (by rw [tail true (by unfold cpinB; rw [h1]; exact h2), co, decide_eq_true h4, h5]; rfl) ?_
              rw [aval_of Tryd.func12 body12 Tryd.results12 Tryd.ntmps12 ok12]
              simp (implicitDefEqProofs := false) (disch := omega) only [go_sem, Nat.reduceAdd, Nat.reduceSub, Nat.reduceMul, Nat.reduceLT, Nat.reduceLeDiff, Nat.reduceEqDiff, List.drop_zero, List.take_succ_cons, List.take_zero, List.drop_succ_cons, Bool.and_true, Bool.true_and, Bool.and_false, Bool.false_and, BitVec.reduceOfInt, Nat.zero_add, Nat.mul_one, Nat.add_zero, Int.zero_add, Int.reduceToNat, Nat.reducePow, ↓reduceIte, reduceCtorEq, Int.reduceLE, Int.reduceLT, Int.reduceEq, Int.reduceNe, Int.reduceAdd, Int.reduceSub, Int.reduceMul, Int.reduceNeg, Nat.reduceBEq, show regOf Tryd.f12 0 = Code.region _ _ _ from rfl, show regOf Tryd.f12 1 = Code.region _ _ _ from rfl, show regOf Tryd.f12 2 = Code.region _ _ _ from rfl, show regOf Tryd.f12 4 = Code.region _ _ _ from rfl, show regOf Tryd.f12 6 = Code.region _ _ _ from rfl, c1, c2, h1, h2, abin_agg, eq25z, bind_some, aeqb_neq, k1, k2, k5, k6, abin_agg, eq25z, bind_some, aeqb_neq, h6, c4, h5, hsz]; exact ⟨_, rfl⟩
            | false =>
              refine fin (decide (s = [])) (by rw [tail true (by unfold cpinB; rw [h1]; exact h2), co, decide_eq_true h4, h5]; simp) ?_
              rw [aval_of Tryd.func12 body12 Tryd.results12 Tryd.ntmps12 ok12]
              simp (implicitDefEqProofs := false) (disch := omega) only [go_sem, Nat.reduceAdd, Nat.reduceSub, Nat.reduceMul, Nat.reduceLT, Nat.reduceLeDiff, Nat.reduceEqDiff, List.drop_zero, List.take_succ_cons, List.take_zero, List.drop_succ_cons, Bool.and_true, Bool.true_and, Bool.and_false, Bool.false_and, BitVec.reduceOfInt, Nat.zero_add, Nat.mul_one, Nat.add_zero, Int.zero_add, Int.reduceToNat, Nat.reducePow, ↓reduceIte, reduceCtorEq, Int.reduceLE, Int.reduceLT, Int.reduceEq, Int.reduceNe, Int.reduceAdd, Int.reduceSub, Int.reduceMul, Int.reduceNeg, Nat.reduceBEq, show regOf Tryd.f12 0 = Code.region _ _ _ from rfl, show regOf Tryd.f12 1 = Code.region _ _ _ from rfl, show regOf Tryd.f12 2 = Code.region _ _ _ from rfl, show regOf Tryd.f12 4 = Code.region _ _ _ from rfl, show regOf Tryd.f12 6 = Code.region _ _ _ from rfl, c1, c2, h1, h2, abin_agg, eq25z, bind_some, aeqb_neq, k1, k2, k5, k6, abin_agg, eq25z, bind_some, aeqb_neq, h6, c4, h5, hsz, txt_eq_nil]; exact ⟨_, rfl⟩
          · refine fin false (by rw [tail true (by unfold cpinB; rw [h1]; exact h2), co, decide_eq_false h4]; rfl) ?_
            rw [aval_of Tryd.func12 body12 Tryd.results12 Tryd.ntmps12 ok12]
            simp (implicitDefEqProofs := false) (disch := omega) only [go_sem, Nat.reduceAdd, Nat.reduceSub, Nat.reduceMul, Nat.reduceLT, Nat.reduceLeDiff, Nat.reduceEqDiff, List.drop_zero, List.take_succ_cons, List.take_zero, List.drop_succ_cons, Bool.and_true, Bool.true_and, Bool.and_false, Bool.false_and, BitVec.reduceOfInt, Nat.zero_add, Nat.mul_one, Nat.add_zero, Int.zero_add, Int.reduceToNat, Nat.reducePow, ↓reduceIte, reduceCtorEq, Int.reduceLE, Int.reduceLT, Int.reduceEq, Int.reduceNe, Int.reduceAdd, Int.reduceSub, Int.reduceMul, Int.reduceNeg, Nat.reduceBEq, show regOf Tryd.f12 0 = Code.region _ _ _ from rfl, show regOf Tryd.f12 1 = Code.region _ _ _ from rfl, show regOf Tryd.f12 2 = Code.region _ _ _ from rfl, show regOf Tryd.f12 4 = Code.region _ _ _ from rfl, show regOf Tryd.f12 6 = Code.region _ _ _ from rfl, c1, c2, h1, h2, abin_agg, eq25z, bind_some, aeqb_neq, k1, k2, k5, k6, abin_agg, eq25z, bind_some, aeqb_neq, h6, hsz]; exact ⟨_, rfl⟩
  obtain ⟨h, e⟩ := e
  rw [pcall_eq, e, pureRes_solid rfl]
end Go.Proofs.YtfloombnadnmaaaDoor
namespace Go.Proofs.YtfloombnadnmaaaDoor
open Go Go.Ab Go.Proofs
set_option maxRecDepth 100000
set_option linter.unusedSimpArgs false
set_option linter.unusedVariables false
/-- The bytes of some numbers. -/
def uvs : List (BitVec 64) → List UInt8
  | [] => []
  | x :: r => uvarN x.toNat ++ uvs r
theorem uvs_len : ∀ l : List (BitVec 64), (uvs l).length ≤ 10 * l.length
  | [] => by simp [uvs]
  | x :: r => by
    have := uvarN_len x.toNat x.isLt
    have := uvs_len r
    simp only [uvs, List.length_append, List.length_cons]; omega
theorem wUs_loop {id : Nat} (L : List (BitVec 64)) (hL : L.length < 1000000) : ∀ (r : List (BitVec 64)) (i : Nat) (h : AHeap) (l : List UInt8), L.drop i = r → i ≤ L.length → WB h id l → l.length + 10 * r.length ≤ 140737488355328 → ∃ h',
    lrun Tryd.prog md fg (fg 49) (loopOf Tryd.f49 0) (fg 49 1) ([.ptr id 0, .unk, .unk, .unk, .unk, .unk, .unk, .unk, .slc true (L.map v64), .int L.length, .int i, .unk, .unk, .unk, .unk, .unk, .unk, .unk, .unk, .unk, .unk, .unk, .unk, .unk, .unk]) h = some (.exit 0, [.ptr id 0, .unk, .unk, .unk, .unk, .unk, .unk, .unk, .slc true (L.map v64), .int L.length, .int L.length, .unk, .unk, .unk, .unk, .unk, .unk, .unk, .unk, .unk, .unk, .unk, .unk, .unk, .unk], h') ∧ WB h' id (l ++ uvs r) ∧ Fr id h h'
  | [], i, h, l, hd, hi, hw, hn => by
    have : i = L.length := by have := congrArg List.length hd; simp at this; omega
    subst this
    refine ⟨h, ?_, by rw [uvs, List.append_nil]; exact hw, Fr.refl _ _⟩
    rw [lrun_atC loop49_0]
    simp (implicitDefEqProofs := false) (disch := omega) only [go_sem, Nat.reduceAdd, Nat.reduceSub, Nat.reduceMul, Nat.reduceLT, Nat.reduceLeDiff, Nat.reduceEqDiff, List.drop_zero, List.take_succ_cons, List.take_zero, List.drop_succ_cons, Bool.and_true, Bool.true_and, Bool.and_false, Bool.false_and, BitVec.reduceOfInt, Nat.zero_add, Nat.mul_one, Nat.add_zero, Int.zero_add, Int.reduceToNat, Nat.reducePow, ↓reduceIte, reduceCtorEq, Int.reduceLE, Int.reduceLT, Int.reduceEq, Int.reduceNe, Int.reduceAdd, Int.reduceSub, Int.reduceMul, Int.reduceNeg, Nat.reduceBEq, show regOf Tryd.f49 2 = Code.region _ _ _ from rfl, show regOf Tryd.f49 3 = Code.region _ _ _ from rfl, show regOf Tryd.f49 4 = Code.region _ _ _ from rfl, show regOf Tryd.f49 5 = Code.region _ _ _ from rfl]
  | x :: r, i, h, l, hd, hi, hw, hn => by
    have hx : L[i]? = some x := by have := congrArg (·[0]?) hd; simpa using this
    have hlt : i < L.length := (List.getElem?_eq_some_iff.1 hx).1
    have hd' : L.drop (i + 1) = r := by rw [← List.tail_drop, hd]; rfl
    have hu := uvarN_len x.toNat x.isLt
    simp only [List.length_cons] at hn
    obtain ⟨bv, v, h1, e1, e2, e3, e4, e5, e6, e7⟩ := wb_app (xs := uvarN x.toNat) hw (.val (.int .u8 0)) (by omega)
    have cu : ∀ g, doCall md (aval Tryd.prog md fg) 61 [v64 x] g = some (.val (.string (txt (uvarN x.toNat))), g) := fun g => doCall_pure md61 rfl (uvarint_p x)
    obtain ⟨h', k1, k2, k3⟩ := wUs_loop L hL r (i + 1) _ _ hd' (by omega) e6 (by rw [List.length_append]; omega)
    refine ⟨h', ?_, by rw [uvs, ← List.append_assoc]; exact k2, e7.trans k3⟩
    rw [← k1]
    rw [lrun_atC loop49_0]
    have ht : ((i : Int)).toNat = i := by omega
    simp (implicitDefEqProofs := false) (disch := omega) only [go_sem, Nat.reduceAdd, Nat.reduceSub, Nat.reduceMul, Nat.reduceLT, Nat.reduceLeDiff, Nat.reduceEqDiff, List.drop_zero, List.take_succ_cons, List.take_zero, List.drop_succ_cons, Bool.and_true, Bool.true_and, Bool.and_false, Bool.false_and, BitVec.reduceOfInt, Nat.zero_add, Nat.mul_one, Nat.add_zero, Int.zero_add, Int.reduceToNat, Nat.reducePow, ↓reduceIte, reduceCtorEq, Int.reduceLE, Int.reduceLT, Int.reduceEq, Int.reduceNe, Int.reduceAdd, Int.reduceSub, Int.reduceMul, Int.reduceNeg, Nat.reduceBEq, show regOf Tryd.f49 2 = Code.region _ _ _ from rfl, show regOf Tryd.f49 3 = Code.region _ _ _ from rfl, show regOf Tryd.f49 4 = Code.region _ _ _ from rfl, show regOf Tryd.f49 5 = Code.region _ _ _ from rfl, List.getElem?_map, ht, hx, Option.map_some, cu, e1, e2, e3, e4, e5, txt_list, thenDraw_append, thenDraw_store]
    all_goals (congr 1 <;> simp only [List.cons.injEq, AV.val.injEq, Value.int.injEq, Value.bool.injEq, true_and, and_true] <;> omega)
theorem wUs {h : AHeap} {id : Nat} {l : List UInt8} (L : List (BitVec 64)) (hL : L.length < 1000000) (hw : WB h id l) (hn : l.length + 10 * L.length ≤ 140737488355328) :
    ∃ h', doCall md (aval Tryd.prog md fg) 49 [.ptr id 0, .slc true (L.map v64)] h = some (.tup [], h') ∧ WB h' id (l ++ uvs L) ∧ Fr id h h' := by
  obtain ⟨h', e, w, f⟩ := wUs_loop (id := id) L hL L 0 h l (by simp) (by omega) hw hn
  refine doCall_fr (by decide) (?_ : aval Tryd.prog md fg 49 [.ptr id 0, .slc true (L.map v64)] h = some (.tup [], h')) hw w f
  simp only [Int.natCast_zero] at e
  rw [aval_of Tryd.func49 body49 Tryd.results49 Tryd.ntmps49 ok49]
  simp (implicitDefEqProofs := false) (disch := omega) only [go_sem, Nat.reduceAdd, Nat.reduceSub, Nat.reduceMul, Nat.reduceLT, Nat.reduceLeDiff, Nat.reduceEqDiff, List.drop_zero, List.take_succ_cons, List.take_zero, List.drop_succ_cons, Bool.and_true, Bool.true_and, Bool.and_false, Bool.false_and, BitVec.reduceOfInt, Nat.zero_add, Nat.mul_one, Nat.add_zero, Int.zero_add, Int.reduceToNat, Nat.reducePow, ↓reduceIte, reduceCtorEq, Int.reduceLE, Int.reduceLT, Int.reduceEq, Int.reduceNe, Int.reduceAdd, Int.reduceSub, Int.reduceMul, Int.reduceNeg, Nat.reduceBEq, show regOf Tryd.f49 0 = Code.region _ _ _ from rfl, show regOf Tryd.f49 1 = Code.region _ _ _ from rfl, List.length_map, e]
end Go.Proofs.YtfloombnadnmaaaDoor
namespace Go.Proofs.YtfloombnadnmaaaDoor
open Go Go.Ab Go.Proofs
set_option maxRecDepth 100000
set_option linter.unusedSimpArgs false
set_option linter.unusedVariables false
theorem callD_one {P : Program} {mo : FuncId → Nat} {f : FuncId} (hm : mo f = 1) {xs : Array Operand} {ts : Array TypeId} {d0 d : Option Tmp} {ty : TypeId} {pos : String} {aft : Array Edge} {g : Option (Nat × Bool)} {env : Env} (h0 : AHeap) (v : AV) (h' : AHeap) (k : Env → AHeap → Option (Env × AHeap)) :
    callD P mo ⟨d0, .call ⟨.value (.func f), xs, ts⟩, ty, pos, aft, g⟩ h0 (some (v, h')) d k env = k (aput env d v) h' := callD_eff _ _ _ _ _ (by rw [eff_func, hm]; rfl)
def num (n : Int) : List UInt8 := uvarN n.toNat
def bv (n : Int) : BitVec 64 := BitVec.ofNat 64 n.toNat
theorem bv_int {n : Int} (h0 : 0 ≤ n) (h1 : n ≤ 9223372036854775807) : ((bv n).toNat : Int) = n := by
  unfold bv; rw [BitVec.toNat_ofNat, Nat.mod_eq_of_lt (by omega)]; omega
theorem bv_nat {n : Int} (h0 : 0 ≤ n) (h1 : n ≤ 9223372036854775807) : (bv n).toNat = n.toNat := by
  unfold bv; rw [BitVec.toNat_ofNat, Nat.mod_eq_of_lt (by omega)]
theorem uvs1 {n : Int} (h0 : 0 ≤ n) (h1 : n ≤ 9223372036854775807) : uvs [bv n] = num n := by
  unfold num; simp only [uvs, List.append_nil, bv_nat h0 h1]
theorem wNum {h : AHeap} {id : Nat} {l : List UInt8} {n : Int} (h0 : 0 ≤ n) (h1 : n ≤ 9223372036854775807) (hw : WB h id l) (hn : l.length ≤ 1000000) :
    ∃ h', doCall md (aval Tryd.prog md fg) 22 [.ptr id 0, .int n] h = some (.tup [], h') ∧ WB h' id (l ++ num n) ∧ Fr id h h' := by
  obtain ⟨h', e, w, f⟩ := wUs (id := id) [bv n] (by simp) hw (by simp; omega)
  rw [uvs1 h0 h1] at w
  refine doCall_fr (by decide) (?_ : aval Tryd.prog md fg 22 [.ptr id 0, .int n] h = some (.tup [], h')) hw w f
  simp only [List.map_cons, List.map_nil, v64, bv_int h0 h1] at e
  rw [aval_of Tryd.func22 body22 Tryd.results22 Tryd.ntmps22 ok22]
  simp (implicitDefEqProofs := false) (disch := omega) only [go_sem, Nat.reduceAdd, Nat.reduceSub, Nat.reduceMul, Nat.reduceLT, Nat.reduceLeDiff, Nat.reduceEqDiff, List.drop_zero, List.take_succ_cons, List.take_zero, List.drop_succ_cons, Bool.and_true, Bool.true_and, Bool.and_false, Bool.false_and, BitVec.reduceOfInt, Nat.zero_add, Nat.mul_one, Nat.add_zero, Int.zero_add, Int.reduceToNat, Nat.reducePow, ↓reduceIte, reduceCtorEq, Int.reduceLE, Int.reduceLT, Int.reduceEq, Int.reduceNe, Int.reduceAdd, Int.reduceSub, Int.reduceMul, Int.reduceNeg, Nat.reduceBEq, show regOf Tryd.f22 0 = Code.region _ _ _ from rfl, wrap_u64, e]
def pinL (p : List UInt8) (a b c : Int) : List UInt8 := textL p ++ (num a ++ (num b ++ num c))
theorem wPin {h : AHeap} {id : Nat} {l : List UInt8} (p : List UInt8) (hp : p.length ≤ 100000) {a b c : Int} (a0 : 0 ≤ a) (a1 : a ≤ 9223372036854775807) (b0 : 0 ≤ b) (b1 : b ≤ 9223372036854775807) (c0 : 0 ≤ c) (c1 : c ≤ 9223372036854775807)
    (hw : WB h id l) (hn : l.length ≤ 100000) :
    ∃ h', doCall md (aval Tryd.prog md fg) 24 [.ptr id 0, pinV p a b c] h = some (.tup [], h') ∧ WB h' id (l ++ pinL p a b c) ∧ Fr id h h' := by
  have hid := hw.1
  have w0 : WB (h ++ [.vars [.str (txt p), .int a, .int b, .int c]]) id l := WB_push hw
  have f0 : Fr id h (h ++ [.vars [.str (txt p), .int a, .int b, .int c]]) := ⟨by simp, fun j cs hj e => by
    rw [hget_push]; exact e
    exact Nat.lt_of_not_le fun hle => by rw [hget_out hle] at e; cases e⟩
  have g0 : hget (h ++ [.vars [.str (txt p), .int a, .int b, .int c]]) h.length = .vars [.str (txt p), .int a, .int b, .int c] := hget_last
  obtain ⟨h1, e1, w1, f1⟩ := wT_c w0 hn hp
  have g1 := f1.2 h.length _ (by omega) g0
  have hlen := uvarN_len p.length (by omega)
  obtain ⟨h2, e2, w2, f2⟩ := wUs (id := id) [bv a, bv b, bv c] (by simp) w1 (by simp [textL]; omega)
  have e3 : uvs [bv a, bv b, bv c] = num a ++ (num b ++ num c) := by
    unfold num; simp only [uvs, List.append_nil, bv_nat a0 a1, bv_nat b0 b1, bv_nat c0 c1]
  rw [e3, List.append_assoc] at w2
  refine doCall_fr (by decide) (?_ : aval Tryd.prog md fg 24 [.ptr id 0, pinV p a b c] h = some (.tup [], h2)) hw w2 (f0.trans (f1.trans f2))
  simp only [List.map_cons, List.map_nil, v64, bv_int a0 a1, bv_int b0 b1, bv_int c0 c1] at e2
  rw [aval_of Tryd.func24 body24 Tryd.results24 Tryd.ntmps24 ok24]
  simp (implicitDefEqProofs := false) (disch := omega) only [go_sem, Nat.reduceAdd, Nat.reduceSub, Nat.reduceMul, Nat.reduceLT, Nat.reduceLeDiff, Nat.reduceEqDiff, List.drop_zero, List.take_succ_cons, List.take_zero, List.drop_succ_cons, Bool.and_true, Bool.true_and, Bool.and_false, Bool.false_and, BitVec.reduceOfInt, Nat.zero_add, Nat.mul_one, Nat.add_zero, Int.zero_add, Int.reduceToNat, Nat.reducePow, ↓reduceIte, reduceCtorEq, Int.reduceLE, Int.reduceLT, Int.reduceEq, Int.reduceNe, Int.reduceAdd, Int.reduceSub, Int.reduceMul, Int.reduceNeg, Nat.reduceBEq, show regOf Tryd.f24 0 = Code.region _ _ _ from rfl, show regOf Tryd.f24 1 = Code.region _ _ _ from rfl, show regOf Tryd.f24 2 = Code.region _ _ _ from rfl, wrap_u64, g0, e1, g1, e2, callD_one md25, callD_one md49]
end Go.Proofs.YtfloombnadnmaaaDoor
namespace Go.Proofs.YtfloombnadnmaaaDoor
open Go Go.Ab Go.Proofs
set_option maxRecDepth 100000
set_option linter.unusedSimpArgs false
set_option linter.unusedVariables false
theorem pkgB_len {p : List UInt8} (h : pkgB p = true) : p.length ≤ 20 := by
  cases p with
  | nil => simp
  | cons c r => unfold pkgB at h; simp only [Bool.and_eq_true, decide_eq_true_eq] at h; simp; omega
/-- What may be written of a pin. -/
def Fits (p : List UInt8) (a b c : Int) : Prop := p.length ≤ 20 ∧ (0 ≤ a ∧ a ≤ 999999) ∧ (0 ≤ b ∧ b ≤ 999999) ∧ (0 ≤ c ∧ c ≤ 999999)
theorem fits_of {p : List UInt8} {a b c : Int} (h1 : pkgB p = true) (h2 : verB a b c = true) : Fits p a b c := by
  unfold verB inB at h2
  simp only [Bool.and_eq_true, decide_eq_true_eq] at h2
  exact ⟨pkgB_len h1, h2.1.1, h2.1.2, h2.2⟩
theorem fits_cpin {p : List UInt8} {a b c : Int} {t u : Bool} (h : cpinB p a b c t u = true) (ht : t = true) : Fits p a b c := by
  subst ht
  unfold cpinB at h
  simp only [if_true, Bool.and_eq_true] at h
  exact fits_of h.1.1 h.1.2
def encL (m : Cmd) : List UInt8 := num m.k ++ ((if pinB m.k then pinL m.p m.a m.b m.c else []) ++ ((if decide (m.k = 6) then pinL m.o m.d m.e m.f else []) ++ (if srcB m.k then textL m.s else [])))
/-- A pin, written or not. -/
theorem wPinIf {h : AHeap} {id : Nat} {l : List UInt8} {p : List UInt8} {a b c : Int} (hf : Fits p a b c) (hw : WB h id l) (hn : l.length ≤ 100000) :
    ∃ h', doCall md (aval Tryd.prog md fg) 24 [.ptr id 0, pinV p a b c] h = some (.tup [], h') ∧ WB h' id (l ++ pinL p a b c) ∧ Fr id h h' := by
  obtain ⟨f1, f2, f3, f4⟩ := hf
  exact wPin p (by omega) (by omega) (by omega) (by omega) (by omega) (by omega) (by omega) hw hn
theorem num_len (n : Int) (h : n ≤ 9223372036854775807) : (num n).length ≤ 10 := uvarN_len n.toNat (by omega)
theorem pinL_len {p : List UInt8} {a b c : Int} (hf : Fits p a b c) : (pinL p a b c).length ≤ 60 := by
  obtain ⟨f1, f2, f3, f4⟩ := hf
  have h1 := uvarN_len p.length (by omega)
  have h2 := num_len a (by omega)
  have h3 := num_len b (by omega)
  have h4 := num_len c (by omega)
  unfold pinL textL
  simp only [List.length_append]; omega
theorem fr_push {h : AHeap} {id : Nat} (o : AObj) : Fr id h (h ++ [o]) := ⟨by simp, fun j cs hj e => by
    rw [hget_push]; exact e
    exact Nat.lt_of_not_le fun hle => by rw [hget_out hle] at e; cases e⟩
theorem hget_push' {h : AHeap} {o : AObj} {j : Nat} {cs : List AV} (e : hget h j = .vars cs) : hget (h ++ [o]) j = .vars cs := by
  rw [hget_push]; exact e
  exact Nat.lt_of_not_le fun hle => by rw [hget_out hle] at e; cases e
set_option maxHeartbeats 8000000 in
theorem encode_p (m : Cmd) (hm : m.small) : pcall Tryd.prog md fg 8 [cmdV m] = some (.tup (if m.right then [.val (.string (txt (encL m))), .int 0] else [.val (.string ⟨#[]⟩), .int 2])) := by
  have cr : ∀ h : AHeap, doCall md (aval Tryd.prog md fg) 11 [cmdV m] h = some (.val (.bool m.right), h) := fun h => doCall_pure md11 rfl (cright_p m hm)
  have e : ∃ h, aval Tryd.prog md fg 8 [cmdV m] [] = some (.tup (if m.right then [.val (.string (txt (encL m))), .int 0] else [.val (.string ⟨#[]⟩), .int 2]), h) := by
    cases hr : m.right with
    | false =>
      obtain ⟨k, p, a, b, c, o, d, e, f, s⟩ := m
      rw [aval_of Tryd.func8 body8 Tryd.results8 Tryd.ntmps8 ok8]
      simp (implicitDefEqProofs := false) (disch := omega) only [go_sem, Nat.reduceAdd, Nat.reduceSub, Nat.reduceMul, Nat.reduceLT, Nat.reduceLeDiff, Nat.reduceEqDiff, List.drop_zero, List.take_succ_cons, List.take_zero, List.drop_succ_cons, Bool.and_true, Bool.true_and, Bool.and_false, Bool.false_and, BitVec.reduceOfInt, Nat.zero_add, Nat.mul_one, Nat.add_zero, Int.zero_add, Int.reduceToNat, Nat.reducePow, ↓reduceIte, reduceCtorEq, Int.reduceLE, Int.reduceLT, Int.reduceEq, Int.reduceNe, Int.reduceAdd, Int.reduceSub, Int.reduceMul, Int.reduceNeg, Nat.reduceBEq, show regOf Tryd.f8 0 = Code.region _ _ _ from rfl, show regOf Tryd.f8 1 = Code.region _ _ _ from rfl, show regOf Tryd.f8 2 = Code.region _ _ _ from rfl, cr, hr]
      exact ⟨_, rfl⟩
    | true =>
      obtain ⟨k, p, a, b, c, o, d, e, f, s⟩ := m
      have hr' := hr
      unfold Cmd.right at hr'
      simp only [Bool.and_eq_true, decide_eq_true_eq] at hr'
      obtain ⟨⟨⟨⟨r1, r2⟩, r3⟩, r4⟩, r5⟩ := hr'
      unfold kindB at r1
      simp only [decide_eq_true_eq] at r1
      have g0 : hget [.vars [.int k, .str (txt p), .int a, .int b, .int c, .str (txt o), .int d, .int e, .int f, .str (txt s)], .vars [.slc true []]] 0 = .vars [.int k, .str (txt p), .int a, .int b, .int c, .str (txt o), .int d, .int e, .int f, .str (txt s)] := rfl
      have w0 : WB [.vars [.int k, .str (txt p), .int a, .int b, .int c, .str (txt o), .int d, .int e, .int f, .str (txt s)], .vars [.slc true []]] 1 [] := ⟨by simp, .inl ⟨rfl, rfl⟩⟩
      obtain ⟨h1, e1, w1, f1⟩ := wNum (n := k) (by omega) (by omega) w0 (by simp)
      have g1 := f1.2 0 _ (by omega) g0
      rw [List.nil_append] at w1
      have cp : ∀ h : AHeap, doCall md (aval Tryd.prog md fg) 23 [.int k] h = some (partsV k, h) := fun h => doCall_pure md23 rfl (partsOf_p k)
      unfold partsV at cp
      have nk := num_len k (by omega)
      have hsz := txt_size s
      unfold encL
      dsimp only
      have fp : pinB k = true → Fits p a b c := fun h => fits_cpin r2 h
      have fo : decide (k = 6) = true → Fits o d e f := fun h => fits_cpin r3 h
      generalize pinB k = x at *
      generalize decide (k = 6) = y at *
      generalize srcB k = z at *
      have w2 : WB (h1 ++ [.vars [.bool x, .bool y, .bool z]]) 1 (num k) := WB_push w1
      have g2 : hget (h1 ++ [.vars [.bool x, .bool y, .bool z]]) 0 = .vars [.int k, .str (txt p), .int a, .int b, .int c, .str (txt o), .int d, .int e, .int f, .str (txt s)] := hget_push' g1
      have q2 : hget (h1 ++ [.vars [.bool x, .bool y, .bool z]]) h1.length = .vars [.bool x, .bool y, .bool z] := hget_last
      obtain ⟨h3, e3, w3, f3⟩ : ∃ h3, (if x then doCall md (aval Tryd.prog md fg) 24 [.ptr 1 0, pinV p a b c] (h1 ++ [.vars [.bool x, .bool y, .bool z]]) = some (.tup [], h3) else h3 = h1 ++ [.vars [.bool x, .bool y, .bool z]]) ∧ WB h3 1 (num k ++ (if x then pinL p a b c else [])) ∧ Fr 1 (h1 ++ [.vars [.bool x, .bool y, .bool z]]) h3 := by
        cases x with
        | false => exact ⟨_, rfl, by simpa using w2, Fr.refl _ _⟩
        | true =>
          obtain ⟨h', k1, k2, k3⟩ := wPinIf (fp rfl) w2 (by omega)
          exact ⟨h', k1, k2, k3⟩
      have lx : (if x then pinL p a b c else []).length ≤ 60 := by
        cases x with
        | false => simp
        | true => exact pinL_len (fp rfl)
      have hlt : 1 < h1.length := w1.1
      have g3 := f3.2 0 _ (by omega) g2
      have q3 := f3.2 h1.length _ (by omega) q2
      obtain ⟨h4, e4, w4, f4⟩ : ∃ h4, (if y then doCall md (aval Tryd.prog md fg) 24 [.ptr 1 0, pinV o d e f] h3 = some (.tup [], h4) else h4 = h3) ∧ WB h4 1 ((num k ++ (if x then pinL p a b c else [])) ++ (if y then pinL o d e f else [])) ∧ Fr 1 h3 h4 := by
        cases y with
        | false => exact ⟨_, rfl, by simpa using w3, Fr.refl _ _⟩
        | true =>
          obtain ⟨h', k1, k2, k3⟩ := wPinIf (fo rfl) w3 (by rw [List.length_append]; omega)
          exact ⟨h', k1, k2, k3⟩
      have ly : (if y then pinL o d e f else []).length ≤ 60 := by
        cases y with
        | false => simp
        | true => exact pinL_len (fo rfl)
      have g4 := f4.2 0 _ (by omega) g3
      have q4 := f4.2 h1.length _ (by omega) q3
      obtain ⟨h5, e5, w5, f5⟩ : ∃ h5, (if z then doCall md (aval Tryd.prog md fg) 25 [.ptr 1 0, .slc true [.val (.string (txt s))]] h4 = some (.tup [], h5) else h5 = h4) ∧ WB h5 1 (((num k ++ (if x then pinL p a b c else [])) ++ (if y then pinL o d e f else [])) ++ (if z then textL s else [])) ∧ Fr 1 h4 h5 := by
        cases z with
        | false => exact ⟨_, rfl, by simpa using w4, Fr.refl _ _⟩
        | true =>
          obtain ⟨h', k1, k2, k3⟩ := wT_c w4 (by simp only [List.length_append]; omega) (by omega : s.length ≤ 100000)
          exact ⟨h', k1, k2, k3⟩
      have es := wS_c w5
      rw [List.append_assoc, List.append_assoc] at es
      refine ⟨h5, ?_⟩
      rw [aval_of Tryd.func8 body8 Tryd.results8 Tryd.ntmps8 ok8]
      cases x <;> cases y <;> cases z
      all_goals simp only [Bool.false_eq_true, if_false, if_true] at e3 e4 e5 es ⊢
      all_goals try subst e3
      all_goals try subst e4
      all_goals try subst e5
      all_goals first | (have _ := e3) | (have e3 := trivial)
      all_goals first | (have _ := e4) | (have e4 := trivial)
      all_goals first | (have _ := e5) | (have e5 := trivial)
      all_goals simp (implicitDefEqProofs := false) (disch := omega) only [go_sem, Nat.reduceAdd, Nat.reduceSub, Nat.reduceMul, Nat.reduceLT, Nat.reduceLeDiff, Nat.reduceEqDiff, List.drop_zero, List.take_succ_cons, List.take_zero, List.drop_succ_cons, Bool.and_true, Bool.true_and, Bool.and_false, Bool.false_and, BitVec.reduceOfInt, Nat.zero_add, Nat.mul_one, Nat.add_zero, Int.zero_add, Int.reduceToNat, Nat.reducePow, ↓reduceIte, reduceCtorEq, Int.reduceLE, Int.reduceLT, Int.reduceEq, Int.reduceNe, Int.reduceAdd, Int.reduceSub, Int.reduceMul, Int.reduceNeg, Nat.reduceBEq, show regOf Tryd.f8 0 = Code.region _ _ _ from rfl, show regOf Tryd.f8 1 = Code.region _ _ _ from rfl, show regOf Tryd.f8 2 = Code.region _ _ _ from rfl, show regOf Tryd.f8 3 = Code.region _ _ _ from rfl, show regOf Tryd.f8 4 = Code.region _ _ _ from rfl, show regOf Tryd.f8 5 = Code.region _ _ _ from rfl, show regOf Tryd.f8 6 = Code.region _ _ _ from rfl, show regOf Tryd.f8 7 = Code.region _ _ _ from rfl, show regOf Tryd.f8 8 = Code.region _ _ _ from rfl, show regOf Tryd.f8 9 = Code.region _ _ _ from rfl, show regOf Tryd.f8 10 = Code.region _ _ _ from rfl, show regOf Tryd.f8 11 = Code.region _ _ _ from rfl, show regOf Tryd.f8 12 = Code.region _ _ _ from rfl, cr, hr, e1, g1, cp, hget_last, set_last, g2, q2, g3, q3, g4, q4, e3, e4, e5, es, callD_one md25, callD_one md24]
  obtain ⟨h, e⟩ := e
  rw [pcall_eq, e]
  cases m.right <;> exact pureRes_solid rfl
end Go.Proofs.YtfloombnadnmaaaDoor
namespace Go.Proofs.YtfloombnadnmaaaDoor
open Go Go.Ab Go.Proofs
set_option maxRecDepth 100000
set_option linter.unusedSimpArgs false
set_option linter.unusedVariables false
theorem rnum_p {n : Int} (h0 : 0 ≤ n) (h1 : n ≤ 9223372036854775807) : pcall Tryd.prog md fg 27 [.int n] = some (.val (.string (txt (num n)))) := by
  have c : ∀ h : AHeap, doCall md (aval Tryd.prog md fg) 50 [.val (.int .u64 n)] h = some (.val (.string (txt (num n))), h) := fun h => by
    have hx : v64 (bv n) = .val (.int .u64 n) := by show AV.val (Value.int .u64 ((bv n).toNat : Int)) = _; rw [bv_int h0 h1]
    have hy : uvarT (bv n) = txt (num n) := by unfold uvarT num; rw [bv_nat h0 h1]; rfl
    have := doCall_pure (h := h) md50 rfl (refUvarint_p (bv n))
    rw [hx, hy] at this
    exact this
  have e : ∃ h, aval Tryd.prog md fg 27 [.int n] [] = some (.val (.string (txt (num n))), h) := by
    rw [aval_of Tryd.func27 body27 Tryd.results27 Tryd.ntmps27 ok27]
    simp (implicitDefEqProofs := false) (disch := omega) only [go_sem, Nat.reduceAdd, Nat.reduceSub, Nat.reduceMul, Nat.reduceLT, Nat.reduceLeDiff, Nat.reduceEqDiff, List.drop_zero, List.take_succ_cons, List.take_zero, List.drop_succ_cons, Bool.and_true, Bool.true_and, Bool.and_false, Bool.false_and, BitVec.reduceOfInt, Nat.zero_add, Nat.mul_one, Nat.add_zero, Int.zero_add, Int.reduceToNat, Nat.reducePow, ↓reduceIte, reduceCtorEq, Int.reduceLE, Int.reduceLT, Int.reduceEq, Int.reduceNe, Int.reduceAdd, Int.reduceSub, Int.reduceMul, Int.reduceNeg, Nat.reduceBEq, show regOf Tryd.f27 0 = Code.region _ _ _ from rfl, show regOf Tryd.f27 1 = Code.region _ _ _ from rfl, wrap_u64, c]
    exact ⟨_, rfl⟩
  obtain ⟨h, e⟩ := e
  rw [pcall_eq, e, pureRes_solid rfl]
theorem rtold_p {p : List UInt8} {a b c : Int} (hf : Fits p a b c) : pcall Tryd.prog md fg 29 [pinV p a b c] = some (.val (.string (txt (pinL p a b c)))) := by
  obtain ⟨f1, f2, f3, f4⟩ := hf
  have cn : ∀ (n : Int) (h : AHeap), 0 ≤ n → n ≤ 9223372036854775807 → doCall md (aval Tryd.prog md fg) 27 [.int n] h = some (.val (.string (txt (num n))), h) := fun n h h0 h1 => doCall_pure md27 rfl (rnum_p h0 h1)
  have ct : ∀ (h : AHeap), doCall md (aval Tryd.prog md fg) 31 [.val (.string (txt p))] h = some (.val (.string (txt (textL p))), h) := fun h => doCall_pure md31 rfl (refText_p p (by omega))
  have na := num_len a (by omega)
  have nb := num_len b (by omega)
  have nc := num_len c (by omega)
  have np : (textL p).length ≤ 30 := by have := uvarN_len p.length (by omega); unfold textL; rw [List.length_append]; omega
  have e : ∃ h, aval Tryd.prog md fg 29 [pinV p a b c] [] = some (.val (.string (txt (pinL p a b c))), h) := by
    unfold pinL
    rw [aval_of Tryd.func29 body29 Tryd.results29 Tryd.ntmps29 ok29]
    simp (implicitDefEqProofs := false) (disch := first | omega | (simp only [List.length_append]; omega)) only [go_sem, Nat.reduceAdd, Nat.reduceSub, Nat.reduceMul, Nat.reduceLT, Nat.reduceLeDiff, Nat.reduceEqDiff, List.drop_zero, List.take_succ_cons, List.take_zero, List.drop_succ_cons, Bool.and_true, Bool.true_and, Bool.and_false, Bool.false_and, BitVec.reduceOfInt, Nat.zero_add, Nat.mul_one, Nat.add_zero, Int.zero_add, Int.reduceToNat, Nat.reducePow, ↓reduceIte, reduceCtorEq, Int.reduceLE, Int.reduceLT, Int.reduceEq, Int.reduceNe, Int.reduceAdd, Int.reduceSub, Int.reduceMul, Int.reduceNeg, Nat.reduceBEq, show regOf Tryd.f29 0 = Code.region _ _ _ from rfl, show regOf Tryd.f29 1 = Code.region _ _ _ from rfl, cn, ct, cat2, List.append_assoc]
    exact ⟨_, rfl⟩
  obtain ⟨h, e⟩ := e
  rw [pcall_eq, e, pureRes_solid rfl]
set_option maxHeartbeats 8000000 in
theorem rencode_p (m : Cmd) (hm : m.small) : pcall Tryd.prog md fg 9 [cmdV m] = some (.tup (if m.right then [.val (.string (txt (encL m))), .int 0] else [.val (.string ⟨#[]⟩), .int 2])) := by
  have cr : ∀ h : AHeap, doCall md (aval Tryd.prog md fg) 12 [cmdV m] h = some (.val (.bool m.right), h) := fun h => doCall_pure md12 rfl (rright2_p m hm)
  have e : ∃ h, aval Tryd.prog md fg 9 [cmdV m] [] = some (.tup (if m.right then [.val (.string (txt (encL m))), .int 0] else [.val (.string ⟨#[]⟩), .int 2]), h) := by
    cases hr : m.right with
    | false =>
      obtain ⟨k, p, a, b, c, o, d, e, f, s⟩ := m
      rw [aval_of Tryd.func9 body9 Tryd.results9 Tryd.ntmps9 ok9]
      simp (implicitDefEqProofs := false) (disch := omega) only [go_sem, Nat.reduceAdd, Nat.reduceSub, Nat.reduceMul, Nat.reduceLT, Nat.reduceLeDiff, Nat.reduceEqDiff, List.drop_zero, List.take_succ_cons, List.take_zero, List.drop_succ_cons, Bool.and_true, Bool.true_and, Bool.and_false, Bool.false_and, BitVec.reduceOfInt, Nat.zero_add, Nat.mul_one, Nat.add_zero, Int.zero_add, Int.reduceToNat, Nat.reducePow, ↓reduceIte, reduceCtorEq, Int.reduceLE, Int.reduceLT, Int.reduceEq, Int.reduceNe, Int.reduceAdd, Int.reduceSub, Int.reduceMul, Int.reduceNeg, Nat.reduceBEq, show regOf Tryd.f9 0 = Code.region _ _ _ from rfl, show regOf Tryd.f9 1 = Code.region _ _ _ from rfl, show regOf Tryd.f9 2 = Code.region _ _ _ from rfl, cr, hr]
      exact ⟨_, rfl⟩
    | true =>
      obtain ⟨k, p, a, b, c, o, d, e, f, s⟩ := m
      have hr' := hr
      unfold Cmd.right at hr'
      simp only [Bool.and_eq_true, decide_eq_true_eq] at hr'
      obtain ⟨⟨⟨⟨r1, r2⟩, r3⟩, r4⟩, r5⟩ := hr'
      unfold kindB at r1
      simp only [decide_eq_true_eq] at r1
      have nk := num_len k (by omega)
      have cn : ∀ (h : AHeap), doCall md (aval Tryd.prog md fg) 27 [.int k] h = some (.val (.string (txt (num k))), h) := fun h => doCall_pure md27 rfl (rnum_p (by omega) (by omega))
      have c1 : ∀ (h : AHeap), doCall md (aval Tryd.prog md fg) 28 [.int k] h = some (.val (.bool (pinB k)), h) := fun h => doCall_pure md28 rfl (hasPin_p k)
      have c2 : ∀ (h : AHeap), doCall md (aval Tryd.prog md fg) 30 [.int k] h = some (.val (.bool (srcB k)), h) := fun h => doCall_pure md30 rfl (hasSource_p k)
      have c3 : ∀ (h : AHeap), doCall md (aval Tryd.prog md fg) 31 [.val (.string (txt s))] h = some (.val (.string (txt (textL s))), h) := fun h => doCall_pure md31 rfl (refText_p s (by omega))
      have hsL : (textL s).length ≤ 20010 := by have := uvarN_len s.length (by omega); unfold textL; rw [List.length_append]; omega
      have hk6 : (k == 6) = decide (k = 6) := rfl
      unfold encL
      dsimp only
      have c4 : pinB k = true → (∀ (h : AHeap), doCall md (aval Tryd.prog md fg) 29 [pinV p a b c] h = some (.val (.string (txt (pinL p a b c))), h)) ∧ (pinL p a b c).length ≤ 60 := fun h => ⟨fun g => doCall_pure md29 rfl (rtold_p (fits_cpin r2 h)), pinL_len (fits_cpin r2 h)⟩
      have c5 : decide (k = 6) = true → (∀ (h : AHeap), doCall md (aval Tryd.prog md fg) 29 [pinV o d e f] h = some (.val (.string (txt (pinL o d e f))), h)) ∧ (pinL o d e f).length ≤ 60 := fun h => ⟨fun g => doCall_pure md29 rfl (rtold_p (fits_cpin r3 h)), pinL_len (fits_cpin r3 h)⟩
      rw [aval_of Tryd.func9 body9 Tryd.results9 Tryd.ntmps9 ok9]
      clear r2 r3 r5
      generalize pinB k = x at *
      generalize decide (k = 6) = y at *
      generalize srcB k = z at *
      cases x <;> cases y <;> cases z
      all_goals first | (obtain ⟨c6, n6⟩ := c4 rfl) | (obtain ⟨c6, n6⟩ : True ∧ True := ⟨trivial, trivial⟩)
      all_goals first | (obtain ⟨c7, n7⟩ := c5 rfl) | (obtain ⟨c7, n7⟩ : True ∧ True := ⟨trivial, trivial⟩)
      all_goals simp (implicitDefEqProofs := false) (disch := first | omega | (simp only [List.length_append]; omega)) only [go_sem, Nat.reduceAdd, Nat.reduceSub, Nat.reduceMul, Nat.reduceLT, Nat.reduceLeDiff, Nat.reduceEqDiff, List.drop_zero, List.take_succ_cons, List.take_zero, List.drop_succ_cons, Bool.and_true, Bool.true_and, Bool.and_false, Bool.false_and, BitVec.reduceOfInt, Nat.zero_add, Nat.mul_one, Nat.add_zero, Int.zero_add, Int.reduceToNat, Nat.reducePow, ↓reduceIte, reduceCtorEq, Int.reduceLE, Int.reduceLT, Int.reduceEq, Int.reduceNe, Int.reduceAdd, Int.reduceSub, Int.reduceMul, Int.reduceNeg, Nat.reduceBEq, show regOf Tryd.f9 0 = Code.region _ _ _ from rfl, show regOf Tryd.f9 1 = Code.region _ _ _ from rfl, show regOf Tryd.f9 2 = Code.region _ _ _ from rfl, show regOf Tryd.f9 3 = Code.region _ _ _ from rfl, show regOf Tryd.f9 4 = Code.region _ _ _ from rfl, show regOf Tryd.f9 5 = Code.region _ _ _ from rfl, show regOf Tryd.f9 6 = Code.region _ _ _ from rfl, show regOf Tryd.f9 7 = Code.region _ _ _ from rfl, show regOf Tryd.f9 8 = Code.region _ _ _ from rfl, show regOf Tryd.f9 9 = Code.region _ _ _ from rfl, show regOf Tryd.f9 10 = Code.region _ _ _ from rfl, cr, hr, cn, c1, c2, c3, c6, c7, hk6, cat2, List.append_assoc, List.append_nil, List.nil_append, Bool.false_eq_true]
      all_goals exact ⟨_, rfl⟩
  obtain ⟨h, e⟩ := e
  rw [pcall_eq, e]
  cases m.right <;> exact pureRes_solid rfl
end Go.Proofs.YtfloombnadnmaaaDoor
namespace Go.Proofs.YtfloombnadnmaaaDoor
open Go Go.Ab Go.Proofs
set_option maxRecDepth 100000
set_option linter.unusedSimpArgs false
set_option linter.unusedVariables false
/-- A call that turns one closed object and makes others that are forgotten. -/
theorem doCall_turn {f : FuncId} {vs : List AV} {h h' : AHeap} {id : Nat} {o : AObj} {r : AV} (hm : md f = 1) (e : aval Tryd.prog md fg f vs h = some (r, h')) (hb : below h.length r = true) (hid : id < h.length)
    (ht : h'.take h.length = h.set id o) (ho : belowO h.length o = true) : doCall md (aval Tryd.prog md fg) f vs h = some (r, h.set id o) := by
  rw [← ht]
  refine doCall_ref (by omega) (by omega) (by omega) e hb ?_
  intro i hi
  have e1 : h'[i]? = (h.set id o)[i]? := by rw [← ht, List.getElem?_take_of_lt hi]
  by_cases hii : id = i
  · subst hii
    right
    unfold hget
    rw [List.getD_eq_getElem?_getD, e1, List.getElem?_set_self hid]; exact ho
  · left; rw [e1, List.getElem?_set_ne hii]
def cN (x : BitVec 64) : Int := min (x.toNat : Int) 4611686018427387904
section
variable {h : AHeap} {id : Nat} {s : List UInt8} {b : Bool}
theorem rNum (hr : hget h id = RO s b) (hid : id < h.length) (hs : s.length < 2 ^ 62) : doCall md (aval Tryd.prog md fg) 35 [.agg [.ptr id 0]] h = some (.int (cN (uA s b)), h.set id (RO (uS s b).1 (uS s b).2)) := by
  have g0 : hget (h ++ [.vars [.ptr id 0]]) id = RO s b := by rw [hget_push hid]; exact hr
  have gl : hget (h ++ [.vars [.ptr id 0]]) h.length = .vars [.ptr id 0] := hget_last
  have cu := rU_c g0 (by simp; omega) hs
  refine doCall_turn (h' := (h ++ [AObj.vars [.ptr id 0]]).set id (RO (uS s b).1 (uS s b).2)) (by decide) ?_ rfl hid (by rw [List.set_append_left _ _ hid, List.take_left']; simp) rfl
  unfold cN
  generalize uA s b = x at *
  rw [aval_of Tryd.func35 body35 Tryd.results35 Tryd.ntmps35 ok35]
  have hx := x.isLt
  simp (implicitDefEqProofs := false) (disch := omega) only [go_sem, Nat.reduceAdd, Nat.reduceSub, Nat.reduceMul, Nat.reduceLT, Nat.reduceLeDiff, Nat.reduceEqDiff, List.drop_zero, List.take_succ_cons, List.take_zero, List.drop_succ_cons, Bool.and_true, Bool.true_and, Bool.and_false, Bool.false_and, BitVec.reduceOfInt, Nat.zero_add, Nat.mul_one, Nat.add_zero, Int.zero_add, Int.reduceToNat, Nat.reducePow, ↓reduceIte, reduceCtorEq, Int.reduceLE, Int.reduceLT, Int.reduceEq, Int.reduceNe, Int.reduceAdd, Int.reduceSub, Int.reduceMul, Int.reduceNeg, Nat.reduceBEq, show regOf Tryd.f35 0 = Code.region _ _ _ from rfl, show regOf Tryd.f35 1 = Code.region _ _ _ from rfl, gl, cu]
  have e : (if (4611686018427387904 : Int) < (x.toNat : Int) then (4611686018427387904 : Int) else (x.toNat : Int)) = min (x.toNat : Int) 4611686018427387904 := by
    rw [Int.min_def]; split <;> split <;> omega
  rw [e]
end
theorem small_p (x : BitVec 64) : pcall Tryd.prog md fg 39 [v64 x] = some (.int (min (x.toNat : Int) 1000000)) := by
  have e : aval Tryd.prog md fg 39 [v64 x] [] = some (.int (min (x.toNat : Int) 1000000), []) := by
    rw [aval_of Tryd.func39 body39 Tryd.results39 Tryd.ntmps39 ok39]
    by_cases h1 : (x.toNat : Int) > 1000000
    · rw [Int.min_eq_right (by omega)]
      simp (implicitDefEqProofs := false) (disch := omega) only [go_sem, Nat.reduceAdd, Nat.reduceSub, Nat.reduceMul, Nat.reduceLT, Nat.reduceLeDiff, Nat.reduceEqDiff, List.drop_zero, List.take_succ_cons, List.take_zero, List.drop_succ_cons, Bool.and_true, Bool.true_and, Bool.and_false, Bool.false_and, BitVec.reduceOfInt, Nat.zero_add, Nat.mul_one, Nat.add_zero, Int.zero_add, Int.reduceToNat, Nat.reducePow, ↓reduceIte, reduceCtorEq, Int.reduceLE, Int.reduceLT, Int.reduceEq, Int.reduceNe, Int.reduceAdd, Int.reduceSub, Int.reduceMul, Int.reduceNeg, Nat.reduceBEq, show regOf Tryd.f39 0 = Code.region _ _ _ from rfl, show regOf Tryd.f39 1 = Code.region _ _ _ from rfl, show regOf Tryd.f39 2 = Code.region _ _ _ from rfl, show regOf Tryd.f39 3 = Code.region _ _ _ from rfl, h1]
    · rw [Int.min_eq_left (by omega)]
      simp (implicitDefEqProofs := false) (disch := omega) only [go_sem, Nat.reduceAdd, Nat.reduceSub, Nat.reduceMul, Nat.reduceLT, Nat.reduceLeDiff, Nat.reduceEqDiff, List.drop_zero, List.take_succ_cons, List.take_zero, List.drop_succ_cons, Bool.and_true, Bool.true_and, Bool.and_false, Bool.false_and, BitVec.reduceOfInt, Nat.zero_add, Nat.mul_one, Nat.add_zero, Int.zero_add, Int.reduceToNat, Nat.reducePow, ↓reduceIte, reduceCtorEq, Int.reduceLE, Int.reduceLT, Int.reduceEq, Int.reduceNe, Int.reduceAdd, Int.reduceSub, Int.reduceMul, Int.reduceNeg, Nat.reduceBEq, show regOf Tryd.f39 0 = Code.region _ _ _ from rfl, show regOf Tryd.f39 1 = Code.region _ _ _ from rfl, show regOf Tryd.f39 2 = Code.region _ _ _ from rfl, show regOf Tryd.f39 3 = Code.region _ _ _ from rfl, h1, wrap_i64]
  rw [pcall_eq, e, pureRes_solid rfl]
end Go.Proofs.YtfloombnadnmaaaDoor
namespace Go.Proofs.YtfloombnadnmaaaDoor
open Go Go.Ab Go.Proofs
set_option maxRecDepth 100000
set_option linter.unusedSimpArgs false
set_option linter.unusedVariables false
/-- A reader's states while a pin is read. -/
def st1 (s : List UInt8) (b : Bool) := tS s b
def st2 (s : List UInt8) (b : Bool) := uS (st1 s b).1 (st1 s b).2
def st3 (s : List UInt8) (b : Bool) := uS (st2 s b).1 (st2 s b).2
def st4 (s : List UInt8) (b : Bool) := uS (st3 s b).1 (st3 s b).2
def pa (s : List UInt8) (b : Bool) := uA (st1 s b).1 (st1 s b).2
def pb (s : List UInt8) (b : Bool) := uA (st2 s b).1 (st2 s b).2
def pc (s : List UInt8) (b : Bool) := uA (st3 s b).1 (st3 s b).2
theorem st1_len (s : List UInt8) (b : Bool) : (st1 s b).1.length ≤ s.length := tS_len s b
theorem st2_len (s : List UInt8) (b : Bool) : (st2 s b).1.length ≤ s.length := Nat.le_trans (uS_len _ _) (st1_len s b)
theorem st3_len (s : List UInt8) (b : Bool) : (st3 s b).1.length ≤ s.length := Nat.le_trans (uS_len _ _) (st2_len s b)
theorem st4_len (s : List UInt8) (b : Bool) : (st4 s b).1.length ≤ s.length := Nat.le_trans (uS_len _ _) (st3_len s b)
theorem tail_nil (p : List Nat → Prop) : (∀ T ∈ (subs []).tail, p T) ↔ True := by simp [subs]
theorem subs_nil_all (p : List Nat → Prop) : (∀ T ∈ subs [], p T) ↔ p [] := by simp [subs]
section
variable {h : AHeap} {id : Nat}
/-! ### A memory, and some of one's own behind it -/
theorem sa_set (l : AHeap) (X : AObj) (hid : id < h.length) : (h ++ l).set id X = h.set id X ++ l := List.set_append_left _ _ hid
theorem sa_get0 (A : AObj) (l : AHeap) : hget (h ++ A :: l) h.length = A := by
  unfold hget; rw [List.getD_eq_getElem?_getD, List.getElem?_append_right (Nat.le_refl _), Nat.sub_self]; rfl
theorem sa_get1 (A B : AObj) (l : AHeap) : hget (h ++ A :: B :: l) (h.length + 1) = B := by
  unfold hget; rw [List.getD_eq_getElem?_getD, List.getElem?_append_right (by omega), show h.length + 1 - h.length = 1 by omega]; rfl
theorem sa_get2 (A B C : AObj) (l : AHeap) : hget (h ++ A :: B :: C :: l) (h.length + 2) = C := by
  unfold hget; rw [List.getD_eq_getElem?_getD, List.getElem?_append_right (by omega), show h.length + 2 - h.length = 2 by omega]; rfl
theorem sa_set0 (A D : AObj) (l : AHeap) : (h ++ A :: l).set h.length D = h ++ D :: l := by
  rw [List.set_append_right _ _ (Nat.le_refl _), Nat.sub_self]; rfl
theorem sa_set1 (A B D : AObj) (l : AHeap) : (h ++ A :: B :: l).set (h.length + 1) D = h ++ A :: D :: l := by
  rw [List.set_append_right _ _ (by omega), show h.length + 1 - h.length = 1 by omega]; rfl
theorem sa_set2 (A B C D : AObj) (l : AHeap) : (h ++ A :: B :: C :: l).set (h.length + 2) D = h ++ A :: B :: D :: l := by
  rw [List.set_append_right _ _ (by omega), show h.length + 2 - h.length = 2 by omega]; rfl
theorem sa_id (l : AHeap) (hid : id < h.length) : hget (h ++ l) id = hget h id := by
  unfold hget; rw [List.getD_eq_getElem?_getD, List.getElem?_append_left hid, ← List.getD_eq_getElem?_getD]
theorem sb_get0 {n : Nat} (A : AObj) (l : AHeap) (hn : h.length = n) : hget (h ++ A :: l) n = A := by subst hn; exact sa_get0 A l
theorem sb_get1 {n : Nat} (A B : AObj) (l : AHeap) (hn : h.length = n) : hget (h ++ A :: B :: l) (n + 1) = B := by subst hn; exact sa_get1 A B l
theorem sb_get2 {n : Nat} (A B C : AObj) (l : AHeap) (hn : h.length = n) : hget (h ++ A :: B :: C :: l) (n + 2) = C := by subst hn; exact sa_get2 A B C l
theorem sb_set0 {n : Nat} (A D : AObj) (l : AHeap) (hn : h.length = n) : (h ++ A :: l).set n D = h ++ D :: l := by subst hn; exact sa_set0 A D l
theorem sb_set1 {n : Nat} (A B D : AObj) (l : AHeap) (hn : h.length = n) : (h ++ A :: B :: l).set (n + 1) D = h ++ A :: D :: l := by subst hn; exact sa_set1 A B D l
theorem sb_set2 {n : Nat} (A B C D : AObj) (l : AHeap) (hn : h.length = n) : (h ++ A :: B :: C :: l).set (n + 2) D = h ++ A :: B :: D :: l := by subst hn; exact sa_set2 A B C D l
theorem rNum_l {s : List UInt8} {b : Bool} (l : AHeap) (hr : hget h id = RO s b) (hid : id < h.length) (hs : s.length < 2 ^ 62) : doCall md (aval Tryd.prog md fg) 35 [.agg [.ptr id 0]] (h ++ l) = some (.int (cN (uA s b)), h.set id (RO (uS s b).1 (uS s b).2) ++ l) := by
  rw [← sa_set l _ hid]
  exact rNum (by rw [sa_id l hid]; exact hr) (by simp; omega) hs
theorem rT_l {s : List UInt8} {b : Bool} (l : AHeap) (hr : hget h id = RO s b) (hid : id < h.length) (hs : s.length < 2 ^ 62) : doCall md (aval Tryd.prog md fg) 37 [.ptr id 0] (h ++ l) = some (.val (.string (txt (tA s b))), h.set id (RO (tS s b).1 (tS s b).2) ++ l) := by
  rw [← sa_set l _ hid]
  exact rT_c (by rw [sa_id l hid]; exact hr) (by simp; omega) hs
set_option maxHeartbeats 8000000 in
theorem rPin {s : List UInt8} {b : Bool} (hr : hget h id = RO s b) (hid : id < h.length) (hs : s.length < 2 ^ 62) : doCall md (aval Tryd.prog md fg) 36 [.agg [.ptr id 0]] h = some (pinV (tA s b) (cN (pa s b)) (cN (pb s b)) (cN (pc s b)), h.set id (RO (st4 s b).1 (st4 s b).2)) := by
  have k1 := st1_len s b
  have k2 := st2_len s b
  have k3 := st3_len s b
  have cT := fun l => rT_l l hr hid hs
  have E : ∀ X : AObj, hget (h.set id X) id = X := fun X => hget_set_eq hid
  have L : ∀ X : AObj, (h.set id X).length = h.length := fun X => by simp
  have n1 := fun l => rNum_l (h := h.set id (RO (st1 s b).1 (st1 s b).2)) l (E _) (by rw [L]; exact hid) (by omega)
  have n2 := fun l => rNum_l (h := h.set id (RO (st2 s b).1 (st2 s b).2)) l (E _) (by rw [L]; exact hid) (by omega)
  have n3 := fun l => rNum_l (h := h.set id (RO (st3 s b).1 (st3 s b).2)) l (E _) (by rw [L]; exact hid) (by omega)
  rw [List.set_set] at n1 n2 n3
  refine doCall_turn (h' := h.set id (RO (st4 s b).1 (st4 s b).2) ++ [AObj.vars [.ptr id 0], AObj.vars [.str (txt (tA s b)), .int (cN (pa s b)), .int (cN (pb s b)), .int (cN (pc s b))], AObj.vars [.str (txt (tA s b)), .int (cN (pa s b)), .int (cN (pb s b)), .int (cN (pc s b))]]) (by decide) ?_ rfl hid (by rw [List.take_left']; simp) rfl
  change ∀ l, _ = some (_, h.set id (RO (st2 s b).1 (st2 s b).2) ++ l) at n1
  change ∀ l, _ = some (_, h.set id (RO (st3 s b).1 (st3 s b).2) ++ l) at n2
  change ∀ l, _ = some (_, h.set id (RO (st4 s b).1 (st4 s b).2) ++ l) at n3
  change ∀ l, _ = some (_, h.set id (RO (st1 s b).1 (st1 s b).2) ++ l) at cT
  generalize (RO (st1 s b).1 (st1 s b).2) = R1 at *
  generalize (RO (st2 s b).1 (st2 s b).2) = R2 at *
  generalize (RO (st3 s b).1 (st3 s b).2) = R3 at *
  generalize (RO (st4 s b).1 (st4 s b).2) = R4 at *
  rw [aval_of Tryd.func36 body36 Tryd.results36 Tryd.ntmps36 ok36]
  simp (implicitDefEqProofs := false) (maxSteps := 1000000) (disch := first | omega | exact List.length_set) only [go_sem, Nat.reduceAdd, Nat.reduceSub, Nat.reduceMul, Nat.reduceLT, Nat.reduceLeDiff, Nat.reduceEqDiff, List.drop_zero, List.take_succ_cons, List.take_zero, List.drop_succ_cons, Bool.and_true, Bool.true_and, Bool.and_false, Bool.false_and, BitVec.reduceOfInt, Nat.zero_add, Nat.mul_one, Nat.add_zero, Int.zero_add, Int.reduceToNat, Nat.reducePow, ↓reduceIte, reduceCtorEq, Int.reduceLE, Int.reduceLT, Int.reduceEq, Int.reduceNe, Int.reduceAdd, Int.reduceSub, Int.reduceMul, Int.reduceNeg, Nat.reduceBEq, show regOf Tryd.f36 0 = Code.region _ _ _ from rfl, show regOf Tryd.f36 1 = Code.region _ _ _ from rfl, List.append_assoc, List.cons_append, List.nil_append, List.length_append, List.length_cons, List.length_nil, List.length_set, sb_get0, sb_get1, sb_get2, sb_set0, sb_set1, sb_set2, cT, n1, n2, n3]
  simp (implicitDefEqProofs := false) (maxSteps := 400000) (disch := first | omega | exact List.length_set) only [go_sem, Nat.reduceAdd, Nat.reduceSub, Nat.reduceMul, Nat.reduceLT, Nat.reduceLeDiff, Nat.reduceEqDiff, List.drop_zero, List.take_succ_cons, List.take_zero, List.drop_succ_cons, Bool.and_true, Bool.true_and, Bool.and_false, Bool.false_and, BitVec.reduceOfInt, Nat.zero_add, Nat.mul_one, Nat.add_zero, Int.zero_add, Int.reduceToNat, Nat.reducePow, ↓reduceIte, reduceCtorEq, Int.reduceLE, Int.reduceLT, Int.reduceEq, Int.reduceNe, Int.reduceAdd, Int.reduceSub, Int.reduceMul, Int.reduceNeg, Nat.reduceBEq, show regOf Tryd.f36 2 = Code.region _ _ _ from rfl, show regOf Tryd.f36 3 = Code.region _ _ _ from rfl, ↓tail_nil, ↓subs_nil_all, ↓List.forall_mem_cons, ↓all_nil, md35, Bool.true_or, List.append_assoc, List.cons_append, List.nil_append, List.length_append, List.length_cons, List.length_nil, List.length_set, sb_get0, sb_get1, sb_get2, sb_set0, sb_set1, sb_set2, cT, n1, n2, n3, aresults, tupOf, Option.map_some]
  rfl
end
end Go.Proofs.YtfloombnadnmaaaDoor
