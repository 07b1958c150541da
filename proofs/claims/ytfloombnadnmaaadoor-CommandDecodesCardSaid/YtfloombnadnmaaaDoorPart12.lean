/- Parts of the proof, each with its own heading: Commands: which are right as the document says. Commands: writers of some numbers at once. Commands: writers of numbers and pins. Commands: a command's bytes. Commands: a command's bytes as the document says. Commands: readers of numbers and pins. Commands: pins read. Commands: pins read as the document says. Commands: what is decoded. Commands: what is decoded as the document says. Commands: what is decoded has just these bytes, and back. Commands: the chapter's examples; an error's number. -/
import Derived.Test.YtfloombnadnmaaaDoorPart11
namespace Go.Proofs.YtfloombnadnmaaaDoor
open Go Go.Ab Go.Proofs
set_option maxRecDepth 100000
set_option linter.unusedSimpArgs false
set_option linter.unusedVariables false
set_option maxHeartbeats 8000000 in
theorem rright2_p (m : Cmd) (hm : m.small) : pcall Tryd.prog md fg 12 [cmdV m] = some (.val (.bool m.right)) := by
  obtain ⟨k, p, a, b, c, o, d, e, f, s⟩ := m
  obtain ⟨hp, ho, hs⟩ := hm
  dsimp only at hp ho hs
  have c1 : ∀ h : AHeap, doCall md (aval Tryd.prog md fg) 28 [.int k] h = some (.val (.bool (pinB k)), h) := fun h => doCall_pure md28 rfl (hasPin_p k)
  have c2 : ∀ (h : AHeap), doCall md (aval Tryd.prog md fg) 33 [pinV p a b c] h = some (.val (.bool (rpinB p a b c)), h) := fun h => doCall_pure md33 rfl (rpin_p p hp a b c)
  have c3 : ∀ (h : AHeap), doCall md (aval Tryd.prog md fg) 33 [pinV o d e f] h = some (.val (.bool (rpinB o d e f)), h) := fun h => doCall_pure md33 rfl (rpin_p o ho d e f)
  have c4 : ∀ (h : AHeap), doCall md (aval Tryd.prog md fg) 30 [.int k] h = some (.val (.bool (srcB k)), h) := fun h => doCall_pure md30 rfl (hasSource_p k)
  have hsz := txt_size s
  have fin : ∀ t : Bool, Cmd.right ⟨k, p, a, b, c, o, d, e, f, s⟩ = t → (∃ h, aval Tryd.prog md fg 12 [cmdV ⟨k, p, a, b, c, o, d, e, f, s⟩] [] = some (.val (.bool t), h)) → ∃ h, aval Tryd.prog md fg 12 [cmdV ⟨k, p, a, b, c, o, d, e, f, s⟩] [] = some (.val (.bool (Cmd.right ⟨k, p, a, b, c, o, d, e, f, s⟩)), h) := fun t e1 e2 => by rw [e1]; exact e2
  have e : ∃ h, aval Tryd.prog md fg 12 [cmdV ⟨k, p, a, b, c, o, d, e, f, s⟩] [] = some (.val (.bool (Cmd.right ⟨k, p, a, b, c, o, d, e, f, s⟩)), h) := by
    by_cases k1 : k < 1
    · refine fin false (by unfold Cmd.right kindB; dsimp only; rw [decide_eq_false (by omega)]; rfl) ?_
      rw [aval_of Tryd.func12 body12 Tryd.results12 Tryd.ntmps12 ok12]
      simp (implicitDefEqProofs := false) (disch := omega) only [go_sem, Nat.reduceAdd, Nat.reduceSub, Nat.reduceMul, Nat.reduceLT, Nat.reduceLeDiff, Nat.reduceEqDiff, List.drop_zero, List.take_succ_cons, List.take_zero, List.drop_succ_cons, Bool.and_true, Bool.true_and, Bool.and_false, Bool.false_and, BitVec.reduceOfInt, Nat.zero_add, Nat.mul_one, Nat.add_zero, Int.zero_add, Int.reduceToNat, Nat.reducePow, ↓reduceIte, reduceCtorEq, Int.reduceLE, Int.reduceLT, Int.reduceEq, Int.reduceNe, Int.reduceAdd, Int.reduceSub, Int.reduceMul, Int.reduceNeg, Nat.reduceBEq, show regOf Tryd.f12 0 = Code.region _ _ _ from rfl, show regOf Tryd.f12 1 = Code.region _ _ _ from rfl, show regOf Tryd.f12 2 = Code.region _ _ _ from rfl, show regOf Tryd.f12 3 = Code.region _ _ _ from rfl, k1]; exact ⟨_, rfl⟩
    by_cases k2 : k > 10
    · refine fin false (by unfold Cmd.right kindB; dsimp only; rw [decide_eq_false (by omega)]; rfl) ?_
      rw [aval_of Tryd.func12 body12 Tryd.results12 Tryd.ntmps12 ok12]
      simp (implicitDefEqProofs := false) (disch := omega) only [go_sem, Nat.reduceAdd, Nat.reduceSub, Nat.reduceMul, Nat.reduceLT, Nat.reduceLeDiff, Nat.reduceEqDiff, List.drop_zero, List.take_succ_cons, List.take_zero, List.drop_succ_cons, Bool.and_true, Bool.true_and, Bool.and_false, Bool.false_and, BitVec.reduceOfInt, Nat.zero_add, Nat.mul_one, Nat.add_zero, Int.zero_add, Int.reduceToNat, Nat.reducePow, ↓reduceIte, reduceCtorEq, Int.reduceLE, Int.reduceLT, Int.reduceEq, Int.reduceNe, Int.reduceAdd, Int.reduceSub, Int.reduceMul, Int.reduceNeg, Nat.reduceBEq, show regOf Tryd.f12 0 = Code.region _ _ _ from rfl, show regOf Tryd.f12 1 = Code.region _ _ _ from rfl, show regOf Tryd.f12 2 = Code.region _ _ _ from rfl, show regOf Tryd.f12 3 = Code.region _ _ _ from rfl, k1, k2]; exact ⟨_, rfl⟩
    have hk : kindB k = true := by unfold kindB; simp; omega
    have tail : ∀ x : Bool, cpinB p a b c (pinB k) (decide (k = 5)) = x → Cmd.right ⟨k, p, a, b, c, o, d, e, f, s⟩ = (x && cpinB o d e f (decide (k = 6)) false && decide (s.length ≤ 20000) && (srcB k || decide (s = []))) := by
      intro x hx
      unfold Cmd.right; dsimp only; rw [hk, hx, Bool.true_and]
    cases h1 : pinB k with
    | true =>
      cases h2 : rpinB p a b c with
      | false =>
        refine fin false (by rw [tail false (by unfold cpinB; rw [h1, if_pos rfl]; unfold rpinB at h2; rw [h2]; rfl)]; rfl) ?_
        rw [aval_of Tryd.func12 body12 Tryd.results12 Tryd.ntmps12 ok12]
        simp (implicitDefEqProofs := false) (disch := omega) only [go_sem, Nat.reduceAdd, Nat.reduceSub, Nat.reduceMul, Nat.reduceLT, Nat.reduceLeDiff, Nat.reduceEqDiff, List.drop_zero, List.take_succ_cons, List.take_zero, List.drop_succ_cons, Bool.and_true, Bool.true_and, Bool.and_false, Bool.false_and, BitVec.reduceOfInt, Nat.zero_add, Nat.mul_one, Nat.add_zero, Int.zero_add, Int.reduceToNat, Nat.reducePow, ↓reduceIte, reduceCtorEq, Int.reduceLE, Int.reduceLT, Int.reduceEq, Int.reduceNe, Int.reduceAdd, Int.reduceSub, Int.reduceMul, Int.reduceNeg, Nat.reduceBEq, show regOf Tryd.f12 0 = Code.region _ _ _ from rfl, show regOf Tryd.f12 1 = Code.region _ _ _ from rfl, show regOf Tryd.f12 2 = Code.region _ _ _ from rfl, show regOf Tryd.f12 3 = Code.region _ _ _ from rfl, k1, k2, c1, c2, h1, h2]; exact ⟨_, rfl⟩
      | true =>
        by_cases k5 : k = 5
        · subst k5
          cases h3 : verZ a b c with
          | false =>
            refine fin false (by rw [tail false (by unfold cpinB; rw [h1, if_pos rfl]; unfold rpinB at h2; rw [h2, h3]; rfl)]; rfl) ?_
            rw [aval_of Tryd.func12 body12 Tryd.results12 Tryd.ntmps12 ok12]
            simp (implicitDefEqProofs := false) (disch := omega) only [go_sem, Nat.reduceAdd, Nat.reduceSub, Nat.reduceMul, Nat.reduceLT, Nat.reduceLeDiff, Nat.reduceEqDiff, List.drop_zero, List.take_succ_cons, List.take_zero, List.drop_succ_cons, Bool.and_true, Bool.true_and, Bool.and_false, Bool.false_and, BitVec.reduceOfInt, Nat.zero_add, Nat.mul_one, Nat.add_zero, Int.zero_add, Int.reduceToNat, Nat.reducePow, ↓reduceIte, reduceCtorEq, Int.reduceLE, Int.reduceLT, Int.reduceEq, Int.reduceNe, Int.reduceAdd, Int.reduceSub, Int.reduceMul, Int.reduceNeg, Nat.reduceBEq, show regOf Tryd.f12 0 = Code.region _ _ _ from rfl, show regOf Tryd.f12 1 = Code.region _ _ _ from rfl, show regOf Tryd.f12 2 = Code.region _ _ _ from rfl, show regOf Tryd.f12 4 = Code.region _ _ _ from rfl, show regOf Tryd.f12 5 = Code.region _ _ _ from rfl, c1, c2, h1, h2, abin_agg, eq23z, bind_some, aeqb_neq, h3]; exact ⟨_, rfl⟩
          | true =>
            cases h6 : pinZ o d e f with
            | false =>
              refine fin false (by rw [tail true (by unfold cpinB; rw [h1, if_pos rfl]; unfold rpinB at h2; rw [h2, h3]; rfl), show cpinB o d e f (decide ((5 : Int) = 6)) false = false by unfold cpinB; rw [decide_eq_false (by decide)]; exact h6]; rfl) ?_
              rw [aval_of Tryd.func12 body12 Tryd.results12 Tryd.ntmps12 ok12]
              simp (implicitDefEqProofs := false) (disch := omega) only [go_sem, Nat.reduceAdd, Nat.reduceSub, Nat.reduceMul, Nat.reduceLT, Nat.reduceLeDiff, Nat.reduceEqDiff, List.drop_zero, List.take_succ_cons, List.take_zero, List.drop_succ_cons, Bool.and_true, Bool.true_and, Bool.and_false, Bool.false_and, BitVec.reduceOfInt, Nat.zero_add, Nat.mul_one, Nat.add_zero, Int.zero_add, Int.reduceToNat, Nat.reducePow, ↓reduceIte, reduceCtorEq, Int.reduceLE, Int.reduceLT, Int.reduceEq, Int.reduceNe, Int.reduceAdd, Int.reduceSub, Int.reduceMul, Int.reduceNeg, Nat.reduceBEq, show regOf Tryd.f12 0 = Code.region _ _ _ from rfl, show regOf Tryd.f12 1 = Code.region _ _ _ from rfl, show regOf Tryd.f12 2 = Code.region _ _ _ from rfl, show regOf Tryd.f12 4 = Code.region _ _ _ from rfl, show regOf Tryd.f12 5 = Code.region _ _ _ from rfl, c1, c2, h1, h2, eq23z, h3, abin_agg, eq25z, bind_some, aeqb_neq, h6]; exact ⟨_, rfl⟩
            | true =>
              have co : cpinB o d e f (decide ((5 : Int) = 6)) false = true := by unfold cpinB; rw [decide_eq_false (by decide)]; exact h6
              by_cases h4 : s.length ≤ 20000
              · cases h5 : srcB 5 with
                | true =>
                  refine fin true (by rw [tail true (by unfold cpinB; rw [h1, if_pos rfl]; unfold rpinB at h2; rw [h2, h3]; rfl), co, decide_eq_true h4, h5]; rfl) ?_
                  rw [aval_of Tryd.func12 body12 Tryd.results12 Tryd.ntmps12 ok12]
                  simp (implicitDefEqProofs := false) (disch := omega) only [go_sem, Nat.reduceAdd, Nat.reduceSub, Nat.reduceMul, Nat.reduceLT, Nat.reduceLeDiff, Nat.reduceEqDiff, List.drop_zero, List.take_succ_cons, List.take_zero, List.drop_succ_cons, Bool.and_true, Bool.true_and, Bool.and_false, Bool.false_and, BitVec.reduceOfInt, Nat.zero_add, Nat.mul_one, Nat.add_zero, Int.zero_add, Int.reduceToNat, Nat.reducePow, ↓reduceIte, reduceCtorEq, Int.reduceLE, Int.reduceLT, Int.reduceEq, Int.reduceNe, Int.reduceAdd, Int.reduceSub, Int.reduceMul, Int.reduceNeg, Nat.reduceBEq, show regOf Tryd.f12 0 = Code.region _ _ _ from rfl, show regOf Tryd.f12 1 = Code.region _ _ _ from rfl, show regOf Tryd.f12 2 = Code.region _ _ _ from rfl, show regOf Tryd.f12 4 = Code.region _ _ _ from rfl, show regOf Tryd.f12 6 = Code.region _ _ _ from rfl, c1, c2, h1, h2, eq23z, h3, abin_agg, eq25z, bind_some, aeqb_neq, h6, c4, h5, hsz]; exact ⟨_, rfl⟩
                | false =>
                  refine fin (decide (s = [])) (by rw [tail true (by unfold cpinB; rw [h1, if_pos rfl]; unfold rpinB at h2; rw [h2, h3]; rfl), co, decide_eq_true h4, h5]; simp) ?_
                  rw [aval_of Tryd.func12 body12 Tryd.results12 Tryd.ntmps12 ok12]
                  simp (implicitDefEqProofs := false) (disch := omega) only [go_sem, Nat.reduceAdd, Nat.reduceSub, Nat.reduceMul, Nat.reduceLT, Nat.reduceLeDiff, Nat.reduceEqDiff, List.drop_zero, List.take_succ_cons, List.take_zero, List.drop_succ_cons, Bool.and_true, Bool.true_and, Bool.and_false, Bool.false_and, BitVec.reduceOfInt, Nat.zero_add, Nat.mul_one, Nat.add_zero, Int.zero_add, Int.reduceToNat, Nat.reducePow, ↓reduceIte, reduceCtorEq, Int.reduceLE, Int.reduceLT, Int.reduceEq, Int.reduceNe, Int.reduceAdd, Int.reduceSub, Int.reduceMul, Int.reduceNeg, Nat.reduceBEq, show regOf Tryd.f12 0 = Code.region _ _ _ from rfl, show regOf Tryd.f12 1 = Code.region _ _ _ from rfl, show regOf Tryd.f12 2 = Code.region _ _ _ from rfl, show regOf Tryd.f12 4 = Code.region _ _ _ from rfl, show regOf Tryd.f12 6 = Code.region _ _ _ from rfl, c1, c2, h1, h2, eq23z, h3, abin_agg, eq25z, bind_some, aeqb_neq, h6, c4, h5, hsz, txt_eq_nil]; exact ⟨_, rfl⟩
              · refine fin false (by rw [tail true (by unfold cpinB; rw [h1, if_pos rfl]; unfold rpinB at h2; rw [h2, h3]; rfl), co, decide_eq_false h4]; rfl) ?_
                rw [aval_of Tryd.func12 body12 Tryd.results12 Tryd.ntmps12 ok12]
                simp (implicitDefEqProofs := false) (disch := omega) only [go_sem, Nat.reduceAdd, Nat.reduceSub, Nat.reduceMul, Nat.reduceLT, Nat.reduceLeDiff, Nat.reduceEqDiff, List.drop_zero, List.take_succ_cons, List.take_zero, List.drop_succ_cons, Bool.and_true, Bool.true_and, Bool.and_false, Bool.false_and, BitVec.reduceOfInt, Nat.zero_add, Nat.mul_one, Nat.add_zero, Int.zero_add, Int.reduceToNat, Nat.reducePow, ↓reduceIte, reduceCtorEq, Int.reduceLE, Int.reduceLT, Int.reduceEq, Int.reduceNe, Int.reduceAdd, Int.reduceSub, Int.reduceMul, Int.reduceNeg, Nat.reduceBEq, show regOf Tryd.f12 0 = Code.region _ _ _ from rfl, show regOf Tryd.f12 1 = Code.region _ _ _ from rfl, show regOf Tryd.f12 2 = Code.region _ _ _ from rfl, show regOf Tryd.f12 4 = Code.region _ _ _ from rfl, show regOf Tryd.f12 6 = Code.region _ _ _ from rfl, c1, c2, h1, h2, eq23z, h3, abin_agg, eq25z, bind_some, aeqb_neq, h6, hsz]; exact ⟨_, rfl⟩
        · by_cases k6 : k = 6
          · subst k6
            cases h6 : rpinB o d e f with
            | false =>
              refine fin false (by rw [tail true (by unfold cpinB; rw [h1, if_pos rfl]; unfold rpinB at h2; rw [h2]; rfl), show cpinB o d e f (decide ((6 : Int) = 6)) false = false by unfold cpinB; rw [decide_eq_true rfl, if_pos rfl]; unfold rpinB at h6; rw [h6]; rfl]; rfl) ?_
              rw [aval_of Tryd.func12 body12 Tryd.results12 Tryd.ntmps12 ok12]
              simp (implicitDefEqProofs := false) (disch := omega) only [go_sem, Nat.reduceAdd, Nat.reduceSub, Nat.reduceMul, Nat.reduceLT, Nat.reduceLeDiff, Nat.reduceEqDiff, List.drop_zero, List.take_succ_cons, List.take_zero, List.drop_succ_cons, Bool.and_true, Bool.true_and, Bool.and_false, Bool.false_and, BitVec.reduceOfInt, Nat.zero_add, Nat.mul_one, Nat.add_zero, Int.zero_add, Int.reduceToNat, Nat.reducePow, ↓reduceIte, reduceCtorEq, Int.reduceLE, Int.reduceLT, Int.reduceEq, Int.reduceNe, Int.reduceAdd, Int.reduceSub, Int.reduceMul, Int.reduceNeg, Nat.reduceBEq, show regOf Tryd.f12 0 = Code.region _ _ _ from rfl, show regOf Tryd.f12 1 = Code.region _ _ _ from rfl, show regOf Tryd.f12 2 = Code.region _ _ _ from rfl, show regOf Tryd.f12 4 = Code.region _ _ _ from rfl, show regOf Tryd.f12 5 = Code.region _ _ _ from rfl, c1, c2, h1, h2, c3, h6]; exact ⟨_, rfl⟩
            | true =>
              have co : cpinB o d e f (decide ((6 : Int) = 6)) false = true := by unfold cpinB; rw [decide_eq_true rfl, if_pos rfl]; unfold rpinB at h6; rw [h6]; rfl
              by_cases h4 : s.length ≤ 20000
              · cases h5 : srcB 6 with
                | true =>
                  refine fin true (by rw [tail true (by unfold cpinB; rw [h1, if_pos rfl]; unfold rpinB at h2; rw [h2]; rfl), co, decide_eq_true h4, h5]; rfl) ?_
                  rw [aval_of Tryd.func12 body12 Tryd.results12 Tryd.ntmps12 ok12]
                  simp (implicitDefEqProofs := false) (disch := omega) only [go_sem, Nat.reduceAdd, Nat.reduceSub, Nat.reduceMul, Nat.reduceLT, Nat.reduceLeDiff, Nat.reduceEqDiff, List.drop_zero, List.take_succ_cons, List.take_zero, List.drop_succ_cons, Bool.and_true, Bool.true_and, Bool.and_false, Bool.false_and, BitVec.reduceOfInt, Nat.zero_add, Nat.mul_one, Nat.add_zero, Int.zero_add, Int.reduceToNat, Nat.reducePow, ↓reduceIte, reduceCtorEq, Int.reduceLE, Int.reduceLT, Int.reduceEq, Int.reduceNe, Int.reduceAdd, Int.reduceSub, Int.reduceMul, Int.reduceNeg, Nat.reduceBEq, show regOf Tryd.f12 0 = Code.region _ _ _ from rfl, show regOf Tryd.f12 1 = Code.region _ _ _ from rfl, show regOf Tryd.f12 2 = Code.region _ _ _ from rfl, show regOf Tryd.f12 4 = Code.region _ _ _ from rfl, show regOf Tryd.f12 6 = Code.region _ _ _ from rfl, c1, c2, h1, h2, c3, h6, c4, h5, hsz]; exact ⟨_, rfl⟩
                | false =>
                  refine fin (decide (s = [])) (by rw [tail true (by unfold cpinB; rw [h1, if_pos rfl]; unfold rpinB at h2; rw [h2]; rfl), co, decide_eq_true h4, h5]; simp) ?_
                  rw [aval_of Tryd.func12 body12 Tryd.results12 Tryd.ntmps12 ok12]
                  simp (implicitDefEqProofs := false) (disch := omega) only [go_sem, Nat.reduceAdd, Nat.reduceSub, Nat.reduceMul, Nat.reduceLT, Nat.reduceLeDiff, Nat.reduceEqDiff, List.drop_zero, List.take_succ_cons, List.take_zero, List.drop_succ_cons, Bool.and_true, Bool.true_and, Bool.and_false, Bool.false_and, BitVec.reduceOfInt, Nat.zero_add, Nat.mul_one, Nat.add_zero, Int.zero_add, Int.reduceToNat, Nat.reducePow, ↓reduceIte, reduceCtorEq, Int.reduceLE, Int.reduceLT, Int.reduceEq, Int.reduceNe, Int.reduceAdd, Int.reduceSub, Int.reduceMul, Int.reduceNeg, Nat.reduceBEq, show regOf Tryd.f12 0 = Code.region _ _ _ from rfl, show regOf Tryd.f12 1 = Code.region _ _ _ from rfl, show regOf Tryd.f12 2 = Code.region _ _ _ from rfl, show regOf Tryd.f12 4 = Code.region _ _ _ from rfl, show regOf Tryd.f12 6 = Code.region _ _ _ from rfl, c1, c2, h1, h2, c3, h6, c4, h5, hsz, txt_eq_nil]; exact ⟨_, rfl⟩
              · refine fin false (by rw [tail true (by unfold cpinB; rw [h1, if_pos rfl]; unfold rpinB at h2; rw [h2]; rfl), co, decide_eq_false h4]; rfl) ?_
                rw [aval_of Tryd.func12 body12 Tryd.results12 Tryd.ntmps12 ok12]
                simp (implicitDefEqProofs := false) (disch := omega) only [go_sem, Nat.reduceAdd, Nat.reduceSub, Nat.reduceMul, Nat.reduceLT, Nat.reduceLeDiff, Nat.reduceEqDiff, List.drop_zero, List.take_succ_cons, List.take_zero, List.drop_succ_cons, Bool.and_true, Bool.true_and, Bool.and_false, Bool.false_and, BitVec.reduceOfInt, Nat.zero_add, Nat.mul_one, Nat.add_zero, Int.zero_add, Int.reduceToNat, Nat.reducePow, ↓reduceIte, reduceCtorEq, Int.reduceLE, Int.reduceLT, Int.reduceEq, Int.reduceNe, Int.reduceAdd, Int.reduceSub, Int.reduceMul, Int.reduceNeg, Nat.reduceBEq, show regOf Tryd.f12 0 = Code.region _ _ _ from rfl, show regOf Tryd.f12 1 = Code.region _ _ _ from rfl, show regOf Tryd.f12 2 = Code.region _ _ _ from rfl, show regOf Tryd.f12 4 = Code.region _ _ _ from rfl, show regOf Tryd.f12 6 = Code.region _ _ _ from rfl, c1, c2, h1, h2, c3, h6, hsz]; exact ⟨_, rfl⟩
          ·
            cases h6 : pinZ o d e f with
            | false =>
              refine fin false (by rw [tail true (by unfold cpinB; rw [h1, if_pos rfl, decide_eq_false k5]; unfold rpinB at h2; rw [h2]; rfl), show cpinB o d e f (decide ((k : Int) = 6)) false = false by unfold cpinB; rw [decide_eq_false k6]; exact h6]; rfl) ?_
              rw [aval_of Tryd.func12 body12 Tryd.results12 Tryd.ntmps12 ok12]
              simp (implicitDefEqProofs := false) (disch := omega) only [go_sem, Nat.reduceAdd, Nat.reduceSub, Nat.reduceMul, Nat.reduceLT, Nat.reduceLeDiff, Nat.reduceEqDiff, List.drop_zero, List.take_succ_cons, List.take_zero, List.drop_succ_cons, Bool.and_true, Bool.true_and, Bool.and_false, Bool.false_and, BitVec.reduceOfInt, Nat.zero_add, Nat.mul_one, Nat.add_zero, Int.zero_add, Int.reduceToNat, Nat.reducePow, ↓reduceIte, reduceCtorEq, Int.reduceLE, Int.reduceLT, Int.reduceEq, Int.reduceNe, Int.reduceAdd, Int.reduceSub, Int.reduceMul, Int.reduceNeg, Nat.reduceBEq, show regOf Tryd.f12 0 = Code.region _ _ _ from rfl, show regOf Tryd.f12 1 = Code.region _ _ _ from rfl, show regOf Tryd.f12 2 = Code.region _ _ _ from rfl, show regOf Tryd.f12 4 = Code.region _ _ _ from rfl, show regOf Tryd.f12 5 = Code.region _ _ _ from rfl, c1, c2, h1, h2, k1, k2, k5, k6, abin_agg, eq25z, bind_some, aeqb_neq, h6]; exact ⟨_, rfl⟩
            | true =>
              have co : cpinB o d e f (decide ((k : Int) = 6)) false = true := by unfold cpinB; rw [decide_eq_false k6]; exact h6
              by_cases h4 : s.length ≤ 20000
              · cases h5 : srcB k with
                | true =>
                  refine fin true (by rw [tail true (by unfold cpinB; rw [h1, if_pos rfl, decide_eq_false k5]; unfold rpinB at h2; rw [h2]; rfl), co, decide_eq_true h4, h5]; rfl) ?_
                  rw [aval_of Tryd.func12 body12 Tryd.results12 Tryd.ntmps12 ok12]
                  simp (implicitDefEqProofs := false) (disch := omega) only [go_sem, Nat.reduceAdd, Nat.reduceSub, Nat.reduceMul, Nat.reduceLT, Nat.reduceLeDiff, Nat.reduceEqDiff, List.drop_zero, List.take_succ_cons, List.take_zero, List.drop_succ_cons, Bool.and_true, Bool.true_and, Bool.and_false, Bool.false_and, BitVec.reduceOfInt, Nat.zero_add, Nat.mul_one, Nat.add_zero, Int.zero_add, Int.reduceToNat, Nat.reducePow, ↓reduceIte, reduceCtorEq, Int.reduceLE, Int.reduceLT, Int.reduceEq, Int.reduceNe, Int.reduceAdd, Int.reduceSub, Int.reduceMul, Int.reduceNeg, Nat.reduceBEq, show regOf Tryd.f12 0 = Code.region _ _ _ from rfl, show regOf Tryd.f12 1 = Code.region _ _ _ from rfl, show regOf Tryd.f12 2 = Code.region _ _ _ from rfl, show regOf Tryd.f12 4 = Code.region _ _ _ from rfl, show regOf Tryd.f12 6 = Code.region _ _ _ from rfl, c1, c2, h1, h2, k1, k2, k5, k6, abin_agg, eq25z, bind_some, aeqb_neq, h6, c4, h5, hsz]; exact ⟨_, rfl⟩
                | false =>
                  refine fin (decide (s = [])) (by rw [tail true (by unfold cpinB; rw [h1, if_pos rfl, decide_eq_false k5]; unfold rpinB at h2; rw [h2]; rfl), co, decide_eq_true h4, h5]; simp) ?_
                  rw [aval_of Tryd.func12 body12 Tryd.results12 Tryd.ntmps12 ok12]
                  simp (implicitDefEqProofs := false) (disch := omega) only [go_sem, Nat.reduceAdd, Nat.reduceSub, Nat.reduceMul, Nat.reduceLT, Nat.reduceLeDiff, Nat.reduceEqDiff, List.drop_zero, List.take_succ_cons, List.take_zero, List.drop_succ_cons, Bool.and_true, Bool.true_and, Bool.and_false, Bool.false_and, BitVec.reduceOfInt, Nat.zero_add, Nat.mul_one, Nat.add_zero, Int.zero_add, Int.reduceToNat, Nat.reducePow, ↓reduceIte, reduceCtorEq, Int.reduceLE, Int.reduceLT, Int.reduceEq, Int.reduceNe, Int.reduceAdd, Int.reduceSub, Int.reduceMul, Int.reduceNeg, Nat.reduceBEq, show regOf Tryd.f12 0 = Code.region _ _ _ from rfl, show regOf Tryd.f12 1 = Code.region _ _ _ from rfl, show regOf Tryd.f12 2 = Code.region _ _ _ from rfl, show regOf Tryd.f12 4 = Code.region _ _ _ from rfl, show regOf Tryd.f12 6 = Code.region _ _ _ from rfl, c1, c2, h1, h2, k1, k2, k5, k6, abin_agg, eq25z, bind_some, aeqb_neq, h6, c4, h5, hsz, txt_eq_nil]; exact ⟨_, rfl⟩
              · refine fin false (by rw [tail true (by unfold cpinB; rw [h1, if_pos rfl, decide_eq_false k5]; unfold rpinB at h2; rw [h2]; rfl), co, decide_eq_false h4]; rfl) ?_
                rw [aval_of Tryd.func12 body12 Tryd.results12 Tryd.ntmps12 ok12]
                simp (implicitDefEqProofs := false) (disch := omega) only [go_sem, Nat.reduceAdd, Nat.reduceSub, Nat.reduceMul, Nat.reduceLT, Nat.reduceLeDiff, Nat.reduceEqDiff, List.drop_zero, List.take_succ_cons, List.take_zero, List.drop_succ_cons, Bool.and_true, Bool.true_and, Bool.and_false, Bool.false_and, BitVec.reduceOfInt, Nat.zero_add, Nat.mul_one, Nat.add_zero, Int.zero_add, Int.reduceToNat, Nat.reducePow, ↓reduceIte, reduceCtorEq, Int.reduceLE, Int.reduceLT, Int.reduceEq, Int.reduceNe, Int.reduceAdd, Int.reduceSub, Int.reduceMul, Int.reduceNeg, Nat.reduceBEq, show regOf Tryd.f12 0 = Code.region _ _ _ from rfl, show regOf Tryd.f12 1 = Code.region _ _ _ from rfl, show regOf Tryd.f12 2 = Code.region _ _ _ from rfl, show regOf Tryd.f12 4 = Code.region _ _ _ from rfl, show regOf Tryd.f12 6 = Code.region _ _ _ from rfl, c1, c2, h1, h2, k1, k2, k5, k6, abin_agg, eq25z, bind_some, aeqb_neq, h6, hsz]; exact ⟨_, rfl⟩
    | false =>
      cases h2 : pinZ p a b c with
      | false =>
        refine fin false (by rw [tail false (by unfold cpinB; rw [h1]; exact h2)]; rfl) ?_
        rw [aval_of Tryd.func12 body12 Tryd.results12 Tryd.ntmps12 ok12]
        simp (implicitDefEqProofs := false) (disch := omega) only [go_sem, Nat.reduceAdd, Nat.reduceSub, Nat.reduceMul, Nat.reduceLT, Nat.reduceLeDiff, Nat.reduceEqDiff, List.drop_zero, List.take_succ_cons, List.take_zero, List.drop_succ_cons, Bool.and_true, Bool.true_and, Bool.and_false, Bool.false_and, BitVec.reduceOfInt, Nat.zero_add, Nat.mul_one, Nat.add_zero, Int.zero_add, Int.reduceToNat, Nat.reducePow, ↓reduceIte, reduceCtorEq, Int.reduceLE, Int.reduceLT, Int.reduceEq, Int.reduceNe, Int.reduceAdd, Int.reduceSub, Int.reduceMul, Int.reduceNeg, Nat.reduceBEq, show regOf Tryd.f12 0 = Code.region _ _ _ from rfl, show regOf Tryd.f12 1 = Code.region _ _ _ from rfl, show regOf Tryd.f12 2 = Code.region _ _ _ from rfl, show regOf Tryd.f12 3 = Code.region _ _ _ from rfl, k1, k2, c1, c2, h1, h2, abin_agg, eq25z, bind_some, aeqb_neq]; exact ⟨_, rfl⟩
      | true =>
        have k5 : ¬ k = 5 := by rintro rfl; cases h1
        have k6 : ¬ k = 6 := by rintro rfl; cases h1
        cases h6 : pinZ o d e f with
        | false =>
          refine fin false (by rw [tail true (by unfold cpinB; rw [h1]; exact h2), show cpinB o d e f (decide ((k : Int) = 6)) false = false by unfold cpinB; rw [decide_eq_false k6]; exact h6]; rfl) ?_
          rw [aval_of Tryd.func12 body12 Tryd.results12 Tryd.ntmps12 ok12]
          simp (implicitDefEqProofs := false) (disch := omega) only [go_sem, Nat.reduceAdd, Nat.reduceSub, Nat.reduceMul, Nat.reduceLT, Nat.reduceLeDiff, Nat.reduceEqDiff, List.drop_zero, List.take_succ_cons, List.take_zero, List.drop_succ_cons, Bool.and_true, Bool.true_and, Bool.and_false, Bool.false_and, BitVec.reduceOfInt, Nat.zero_add, Nat.mul_one, Nat.add_zero, Int.zero_add, Int.reduceToNat, Nat.reducePow, ↓reduceIte, reduceCtorEq, Int.reduceLE, Int.reduceLT, Int.reduceEq, Int.reduceNe, Int.reduceAdd, Int.reduceSub, Int.reduceMul, Int.reduceNeg, Nat.reduceBEq, show regOf Tryd.f12 0 = Code.region _ _ _ from rfl, show regOf Tryd.f12 1 = Code.region _ _ _ from rfl, show regOf Tryd.f12 2 = Code.region _ _ _ from rfl, show regOf Tryd.f12 4 = Code.region _ _ _ from rfl, show regOf Tryd.f12 5 = Code.region _ _ _ from rfl, c1, c2, h1, h2, abin_agg, eq25z, bind_some, aeqb_neq, k1, k2, k5, k6, abin_agg, eq25z, bind_some, aeqb_neq, h6]; exact ⟨_, rfl⟩
        | true =>
          have co : cpinB o d e f (decide ((k : Int) = 6)) false = true := by unfold cpinB; rw [decide_eq_false k6]; exact h6
          by_cases h4 : s.length ≤ 20000
          · cases h5 : srcB k with
            | true =>
              refine fin true (by rw [tail true (by unfold cpinB; rw [h1]; exact h2), co, decide_eq_true h4, h5]; rfl) ?_
              rw [aval_of Tryd.func12 body12 Tryd.results12 Tryd.ntmps12 ok12]
              simp (implicitDefEqProofs := false) (disch := omega) only [go_sem, Nat.reduceAdd, Nat.reduceSub, Nat.reduceMul, Nat.reduceLT, Nat.reduceLeDiff, Nat.reduceEqDiff, List.drop_zero, List.take_succ_cons, List.take_zero, List.drop_succ_cons, Bool.and_true, Bool.true_and, Bool.and_false, Bool.false_and, BitVec.reduceOfInt, Nat.zero_add, Nat.mul_one, Nat.add_zero, Int.zero_add, Int.reduceToNat, Nat.reducePow, ↓reduceIte, reduceCtorEq, Int.reduceLE, Int.reduceLT, Int.reduceEq, Int.reduceNe, Int.reduceAdd, Int.reduceSub, Int.reduceMul, Int.reduceNeg, Nat.reduceBEq, show regOf Tryd.f12 0 = Code.region _ _ _ from rfl, show regOf Tryd.f12 1 = Code.region _ _ _ from rfl, show regOf Tryd.f12 2 = Code.region _ _ _ from rfl, show regOf Tryd.f12 4 = Code.region _ _ _ from rfl, show regOf Tryd.f12 6 = Code.region _ _ _ from rfl, c1, c2, h1, h2, abin_agg, eq25z, bind_some, aeqb_neq, k1, k2, k5, k6, abin_agg, eq25z, bind_some, aeqb_neq, h6, c4, h5, hsz]; exact ⟨_, rfl⟩
            | false =>
              refine fin (decide (s = [])) (by rw [tail true (by unfold cpinB; rw [h1]; exact h2), co, decide_eq_true h4, h5]; simp) ?_
              rw [aval_of Tryd.func12 body12 Tryd.results12 Tryd.ntmps12 ok12]
              simp (implicitDefEqProofs := false) (disch := omega) only [go_sem, Nat.reduceAdd, Nat.reduceSub, Nat.reduceMul, Nat.reduceLT, Nat.reduceLeDiff, Nat.reduceEqDiff, List.drop_zero, List.take_succ_cons, List.take_zero, List.drop_succ_cons, Bool.and_true, Bool.true_and, Bool.and_false, Bool.false_and, BitVec.reduceOfInt, Nat.zero_add, Nat.mul_one, Nat.add_zero, Int.zero_add, Int.reduceToNat, Nat.reducePow, ↓reduceIte, reduceCtorEq, Int.reduceLE, Int.reduceLT, Int.reduceEq, Int.reduceNe, Int.reduceAdd, Int.reduceSub, Int.reduceMul, Int.reduceNeg, Nat.reduceBEq, show regOf Tryd.f12 0 = Code.region _ _ _ from rfl, show regOf Tryd.f12 1 = Code.region _ _ _ from rfl, show regOf Tryd.f12 2 = Code.region _ _ _ from rfl, show regOf Tryd.f12 4 = Code.region _ _ _ from rfl, show regOf Tryd.f12 6 = Code.region _ _ _ from rfl, c1, c2, h1, h2, abin_agg, eq25z, bind_some, aeqb_neq, k1, k2, k5, k6, abin_agg, eq25z, bind_some, aeqb_neq, h6, c4, h5, hsz, txt_eq_nil]; exact ⟨_, rfl⟩
          · refine fin false (by rw [tail true (by unfold cpinB; rw [h1]; exact h2), co, decide_eq_false h4]; rfl) ?_
            rw [aval_of Tryd.func12 body12 Tryd.results12 Tryd.ntmps12 ok12]
            simp (implicitDefEqProofs := false) (disch := omega) only [go_sem, Nat.reduceAdd, Nat.reduceSub, Nat.reduceMul, Nat.reduceLT, Nat.reduceLeDiff, Nat.reduceEqDiff, List.drop_zero, List.take_succ_cons, List.take_zero, List.drop_succ_cons, Bool.and_true, Bool.true_and, Bool.and_false, Bool.false_and, BitVec.reduceOfInt, Nat.zero_add, Nat.mul_one, Nat.add_zero, Int.zero_add, Int.reduceToNat, Nat.reducePow, ↓reduceIte, reduceCtorEq, Int.reduceLE, Int.reduceLT, Int.reduceEq, Int.reduceNe, Int.reduceAdd, Int.reduceSub, Int.reduceMul, Int.reduceNeg, Nat.reduceBEq, show regOf Tryd.f12 0 = Code.region _ _ _ from rfl, show regOf Tryd.f12 1 = Code.region _ _ _ from rfl, show regOf Tryd.f12 2 = Code.region _ _ _ from rfl, show regOf Tryd.f12 4 = Code.region _ _ _ from rfl, show regOf Tryd.f12 6 = Code.region _ _ _ from rfl, c1, c2, h1, h2, abin_agg, eq25z, bind_some, aeqb_neq, k1, k2, k5, k6, abin_agg, eq25z, bind_some, aeqb_neq, h6, hsz]; exact ⟨_, rfl⟩
  obtain ⟨h, e⟩ := e
  rw [pcall_eq, e, pureRes_solid rfl]
end Go.Proofs.YtfloombnadnmaaaDoor
namespace Go.Proofs.YtfloombnadnmaaaDoor
open Go Go.Ab Go.Proofs
set_option maxRecDepth 100000
set_option linter.unusedSimpArgs false
set_option linter.unusedVariables false
/-- The bytes of some numbers. -/
def uvs : List (BitVec 64) → List UInt8
  | [] => []
  | x :: r => uvarN x.toNat ++ uvs r
theorem uvs_len : ∀ l : List (BitVec 64), (uvs l).length ≤ 10 * l.length
  | [] => by simp [uvs]
  | x :: r => by
    have := uvarN_len x.toNat x.isLt
    have := uvs_len r
    simp only [uvs, List.length_append, List.length_cons]; omega
theorem wUs_loop {id : Nat} (L : List (BitVec 64)) (hL : L.length < 1000000) : ∀ (r : List (BitVec 64)) (i : Nat) (h : AHeap) (l : List UInt8), L.drop i = r → i ≤ L.length → WB h id l → l.length + 10 * r.length ≤ 140737488355328 → ∃ h',
    lrun Tryd.prog md fg (fg 49) (loopOf Tryd.f49 0) (fg 49 1) ([.ptr id 0, .unk, .unk, .unk, .unk, .unk, .unk, .unk, .slc true (L.map v64), .int L.length, .int i, .unk, .unk, .unk, .unk, .unk, .unk, .unk, .unk, .unk, .unk, .unk, .unk, .unk, .unk]) h = some (.exit 0, [.ptr id 0, .unk, .unk, .unk, .unk, .unk, .unk, .unk, .slc true (L.map v64), .int L.length, .int L.length, .unk, .unk, .unk, .unk, .unk, .unk, .unk, .unk, .unk, .unk, .unk, .unk, .unk, .unk], h') ∧ WB h' id (l ++ uvs r) ∧ Fr id h h'
  | [], i, h, l, hd, hi, hw, hn => by
    have : i = L.length := by have := congrArg List.length hd; simp at this; omega
    subst this
    refine ⟨h, ?_, by rw [uvs, List.append_nil]; exact hw, Fr.refl _ _⟩
    rw [lrun_atC loop49_0]
    simp (implicitDefEqProofs := false) (disch := omega) only [go_sem, Nat.reduceAdd, Nat.reduceSub, Nat.reduceMul, Nat.reduceLT, Nat.reduceLeDiff, Nat.reduceEqDiff, List.drop_zero, List.take_succ_cons, List.take_zero, List.drop_succ_cons, Bool.and_true, Bool.true_and, Bool.and_false, Bool.false_and, BitVec.reduceOfInt, Nat.zero_add, Nat.mul_one, Nat.add_zero, Int.zero_add, Int.reduceToNat, Nat.reducePow, ↓reduceIte, reduceCtorEq, Int.reduceLE, Int.reduceLT, Int.reduceEq, Int.reduceNe, Int.reduceAdd, Int.reduceSub, Int.reduceMul, Int.reduceNeg, Nat.reduceBEq, show regOf Tryd.f49 2 = Code.region _ _ _ from rfl, show regOf Tryd.f49 3 = Code.region _ _ _ from rfl, show regOf Tryd.f49 4 = Code.region _ _ _ from rfl, show regOf Tryd.f49 5 = Code.region _ _ _ from rfl]
  | x :: r, i, h, l, hd, hi, hw, hn => by
    have hx : L[i]? = some x := by have := congrArg (·[0]?) hd; simpa using this
    have hlt : i < L.length := (List.getElem?_eq_some_iff.1 hx).1
    have hd' : L.drop (i + 1) = r := by rw [← List.tail_drop, hd]; rfl
    have hu := uvarN_len x.toNat x.isLt
    simp only [List.length_cons] at hn
    obtain ⟨bv, v, h1, e1, e2, e3, e4, e5, e6, e7⟩ := wb_app (xs := uvarN x.toNat) hw (.val (.int .u8 0)) (by omega)
    have cu : ∀ g, doCall md (aval Tryd.prog md fg) 61 [v64 x] g = some (.val (.string (txt (uvarN x.toNat))), g) := fun g => doCall_pure md61 rfl (uvarint_p x)
    obtain ⟨h', k1, k2, k3⟩ := wUs_loop L hL r (i + 1) _ _ hd' (by omega) e6 (by rw [List.length_append]; omega)
    refine ⟨h', ?_, by rw [uvs, ← List.append_assoc]; exact k2, e7.trans k3⟩
    rw [← k1]
    rw [lrun_atC loop49_0]
    have ht : ((i : Int)).toNat = i := by omega
    simp (implicitDefEqProofs := false) (disch := omega) only [go_sem, Nat.reduceAdd, Nat.reduceSub, Nat.reduceMul, Nat.reduceLT, Nat.reduceLeDiff, Nat.reduceEqDiff, List.drop_zero, List.take_succ_cons, List.take_zero, List.drop_succ_cons, Bool.and_true, Bool.true_and, Bool.and_false, Bool.false_and, BitVec.reduceOfInt, Nat.zero_add, Nat.mul_one, Nat.add_zero, Int.zero_add, Int.reduceToNat, Nat.reducePow, ↓reduceIte, reduceCtorEq, Int.reduceLE, Int.reduceLT, Int.reduceEq, Int.reduceNe, Int.reduceAdd, Int.reduceSub, Int.reduceMul, Int.reduceNeg, Nat.reduceBEq, show regOf Tryd.f49 2 = Code.region _ _ _ from rfl, show regOf Tryd.f49 3 = Code.region _ _ _ from rfl, show regOf Tryd.f49 4 = Code.region _ _ _ from rfl, show regOf Tryd.f49 5 = Code.region _ _ _ from rfl, List.getElem?_map, ht, hx, Option.map_some, cu, e1, e2, e3, e4, e5, txt_list, thenDraw_append, thenDraw_store]
    all_goals (congr 1 <;> simp only [List.cons.injEq, AV.val.injEq, Value.int.injEq, Value.bool.injEq, true_and, and_true] <;> omega)
theorem wUs {h : AHeap} {id : Nat} {l : List UInt8} (L : List (BitVec 64)) (hL : L.length < 1000000) (hw : WB h id l) (hn : l.length + 10 * L.length ≤ 140737488355328) :
    ∃ h', doCall md (aval Tryd.prog md fg) 49 [.ptr id 0, .slc true (L.map v64)] h = some (.tup [], h') ∧ WB h' id (l ++ uvs L) ∧ Fr id h h' := by
  obtain ⟨h', e, w, f⟩ := wUs_loop (id := id) L hL L 0 h l (by simp) (by omega) hw hn
  refine doCall_fr (by decide) (?_ : aval Tryd.prog md fg 49 [.ptr id 0, .slc true (L.map v64)] h = some (.tup [], h')) hw w f
  simp only [Int.natCast_zero] at e
  rw [aval_of Tryd.func49 body49 Tryd.results49 Tryd.ntmps49 ok49]
  simp (implicitDefEqProofs := false) (disch := omega) only [go_sem, Nat.reduceAdd, Nat.reduceSub, Nat.reduceMul, Nat.reduceLT, Nat.reduceLeDiff, Nat.reduceEqDiff, List.drop_zero, List.take_succ_cons, List.take_zero, List.drop_succ_cons, Bool.and_true, Bool.true_and, Bool.and_false, Bool.false_and, BitVec.reduceOfInt, Nat.zero_add, Nat.mul_one, Nat.add_zero, Int.zero_add, Int.reduceToNat, Nat.reducePow, ↓reduceIte, reduceCtorEq, Int.reduceLE, Int.reduceLT, Int.reduceEq, Int.reduceNe, Int.reduceAdd, Int.reduceSub, Int.reduceMul, Int.reduceNeg, Nat.reduceBEq, show regOf Tryd.f49 0 = Code.region _ _ _ from rfl, show regOf Tryd.f49 1 = Code.region _ _ _ from rfl, List.length_map, e]
end Go.Proofs.YtfloombnadnmaaaDoor
namespace Go.Proofs.YtfloombnadnmaaaDoor
open Go Go.Ab Go.Proofs
set_option maxRecDepth 100000
set_option linter.unusedSimpArgs false
set_option linter.unusedVariables false
theorem callD_one {P : Program} {mo : FuncId → Nat} {f : FuncId} (hm : mo f = 1) {xs : Array Operand} {ts : Array TypeId} {d0 d : Option Tmp} {ty : TypeId} {pos : String} {aft : Array Edge} {g : Option (Nat × Bool)} {env : Env} (h0 : AHeap) (v : AV) (h' : AHeap) (k : Env → AHeap → Option (Env × AHeap)) :
    callD P mo ⟨d0, .call ⟨.value (.func f), xs, ts⟩, ty, pos, aft, g⟩ h0 (some (v, h')) d k env = k (aput env d v) h' := callD_eff _ _ _ _ _ (by rw [eff_func, hm]; rfl)
def num (n : Int) : List UInt8 := uvarN n.toNat
def bv (n : Int) : BitVec 64 := BitVec.ofNat 64 n.toNat
theorem bv_int {n : Int} (h0 : 0 ≤ n) (h1 : n ≤ 9223372036854775807) : ((bv n).toNat : Int) = n := by
  unfold bv; rw [BitVec.toNat_ofNat, Nat.mod_eq_of_lt (by omega)]; omega
theorem bv_nat {n : Int} (h0 : 0 ≤ n) (h1 : n ≤ 9223372036854775807) : (bv n).toNat = n.toNat := by
  unfold bv; rw [BitVec.toNat_ofNat, Nat.mod_eq_of_lt (by omega)]
theorem uvs1 {n : Int} (h0 : 0 ≤ n) (h1 : n ≤ 9223372036854775807) : uvs [bv n] = num n := by
  unfold num; simp only [uvs, List.append_nil, bv_nat h0 h1]
theorem wNum {h : AHeap} {id : Nat} {l : List UInt8} {n : Int} (h0 : 0 ≤ n) (h1 : n ≤ 9223372036854775807) (hw : WB h id l) (hn : l.length ≤ 1000000) :
    ∃ h', doCall md (aval Tryd.prog md fg) 22 [.ptr id 0, .int n] h = some (.tup [], h') ∧ WB h' id (l ++ num n) ∧ Fr id h h' := by
  obtain ⟨h', e, w, f⟩ := wUs (id := id) [bv n] (by simp) hw (by simp; omega)
  rw [uvs1 h0 h1] at w
  refine doCall_fr (by decide) (?_ : aval Tryd.prog md fg 22 [.ptr id 0, .int n] h = some (.tup [], h')) hw w f
  simp only [List.map_cons, List.map_nil, v64, bv_int h0 h1] at e
  rw [aval_of Tryd.func22 body22 Tryd.results22 Tryd.ntmps22 ok22]
  simp (implicitDefEqProofs := false) (disch := omega) only [go_sem, Nat.reduceAdd, Nat.reduceSub, Nat.reduceMul, Nat.reduceLT, Nat.reduceLeDiff, Nat.reduceEqDiff, List.drop_zero, List.take_succ_cons, List.take_zero, List.drop_succ_cons, Bool.and_true, Bool.true_and, Bool.and_false, Bool.false_and, BitVec.reduceOfInt, Nat.zero_add, Nat.mul_one, Nat.add_zero, Int.zero_add, Int.reduceToNat, Nat.reducePow, ↓reduceIte, reduceCtorEq, Int.reduceLE, Int.reduceLT, Int.reduceEq, Int.reduceNe, Int.reduceAdd, Int.reduceSub, Int.reduceMul, Int.reduceNeg, Nat.reduceBEq, show regOf Tryd.f22 0 = Code.region _ _ _ from rfl, wrap_u64, e]
def pinL (p : List UInt8) (a b c : Int) : List UInt8 := textL p ++ (num a ++ (num b ++ num c))
theorem wPin {h : AHeap} {id : Nat} {l : List UInt8} (p : List UInt8) (hp : p.length ≤ 100000) {a b c : Int} (a0 : 0 ≤ a) (a1 : a ≤ 9223372036854775807) (b0 : 0 ≤ b) (b1 : b ≤ 9223372036854775807) (c0 : 0 ≤ c) (c1 : c ≤ 9223372036854775807)
    (hw : WB h id l) (hn : l.length ≤ 100000) :
    ∃ h', doCall md (aval Tryd.prog md fg) 24 [.ptr id 0, pinV p a b c] h = some (.tup [], h') ∧ WB h' id (l ++ pinL p a b c) ∧ Fr id h h' := by
  have hid := hw.1
  have w0 : WB (h ++ [.vars [.str (txt p), .int a, .int b, .int c]]) id l := WB_push hw
  have f0 : Fr id h (h ++ [.vars [.str (txt p), .int a, .int b, .int c]]) := ⟨by simp, fun j cs hj e => by
    rw [hget_push]; exact e
    exact Nat.lt_of_not_le fun hle => by rw [hget_out hle] at e; cases e⟩
  have g0 : hget (h ++ [.vars [.str (txt p), .int a, .int b, .int c]]) h.length = .vars [.str (txt p), .int a, .int b, .int c] := hget_last
  obtain ⟨h1, e1, w1, f1⟩ := wT_c w0 hn hp
  have g1 := f1.2 h.length _ (by omega) g0
  have hlen := uvarN_len p.length (by omega)
  obtain ⟨h2, e2, w2, f2⟩ := wUs (id := id) [bv a, bv b, bv c] (by simp) w1 (by simp [textL]; omega)
  have e3 : uvs [bv a, bv b, bv c] = num a ++ (num b ++ num c) := by
    unfold num; simp only [uvs, List.append_nil, bv_nat a0 a1, bv_nat b0 b1, bv_nat c0 c1]
  rw [e3, List.append_assoc] at w2
  refine doCall_fr (by decide) (?_ : aval Tryd.prog md fg 24 [.ptr id 0, pinV p a b c] h = some (.tup [], h2)) hw w2 (f0.trans (f1.trans f2))
  simp only [List.map_cons, List.map_nil, v64, bv_int a0 a1, bv_int b0 b1, bv_int c0 c1] at e2
  rw [aval_of Tryd.func24 body24 Tryd.results24 Tryd.ntmps24 ok24]
  simp (implicitDefEqProofs := false) (disch := omega) only [go_sem, Nat.reduceAdd, Nat.reduceSub, Nat.reduceMul, Nat.reduceLT, Nat.reduceLeDiff, Nat.reduceEqDiff, List.drop_zero, List.take_succ_cons, List.take_zero, List.drop_succ_cons, Bool.and_true, Bool.true_and, Bool.and_false, Bool.false_and, BitVec.reduceOfInt, Nat.zero_add, Nat.mul_one, Nat.add_zero, Int.zero_add, Int.reduceToNat, Nat.reducePow, ↓reduceIte, reduceCtorEq, Int.reduceLE, Int.reduceLT, Int.reduceEq, Int.reduceNe, Int.reduceAdd, Int.reduceSub, Int.reduceMul, Int.reduceNeg, Nat.reduceBEq, show regOf Tryd.f24 0 = Code.region _ _ _ from rfl, show regOf Tryd.f24 1 = Code.region _ _ _ from rfl, show regOf Tryd.f24 2 = Code.region _ _ _ from rfl, wrap_u64, g0, e1, g1, e2, callD_one md25, callD_one md49]
end Go.Proofs.YtfloombnadnmaaaDoor
namespace Go.Proofs.YtfloombnadnmaaaDoor
open Go Go.Ab Go.Proofs
set_option maxRecDepth 100000
set_option linter.unusedSimpArgs false
set_option linter.unusedVariables false
theorem pkgB_len {p : List UInt8} (h : pkgB p = true) : p.length ≤ 20 := by
  cases p with
  | nil => simp
  | cons c r => unfold pkgB at h; simp only [Bool.and_eq_true, decide_eq_true_eq] at h; simp; omega
/-- What may be written of a pin. -/
def Fits (p : List UInt8) (a b c : Int) : Prop := p.length ≤ 20 ∧ (0 ≤ a ∧ a ≤ 999999) ∧ (0 ≤ b ∧ b ≤ 999999) ∧ (0 ≤ c ∧ c ≤ 999999)
theorem fits_of {p : List UInt8} {a b c : Int} (h1 : pkgB p = true) (h2 : verB a b c = true) : Fits p a b c := by
  unfold verB inB at h2
  simp only [Bool.and_eq_true, decide_eq_true_eq] at h2
  exact ⟨pkgB_len h1, h2.1.1, h2.1.2, h2.2⟩
theorem fits_cpin {p : List UInt8} {a b c : Int} {t u : Bool} (h : cpinB p a b c t u = true) (ht : t = true) : Fits p a b c := by
  subst ht
  unfold cpinB at h
  simp only [if_true, Bool.and_eq_true] at h
  exact fits_of h.1.1 h.1.2
def encL (m : Cmd) : List UInt8 := num m.k ++ ((if pinB m.k then pinL m.p m.a m.b m.c else []) ++ ((if decide (m.k = 6) then pinL m.o m.d m.e m.f else []) ++ (if srcB m.k then textL m.s else [])))
/-- A pin, written or not. -/
theorem wPinIf {h : AHeap} {id : Nat} {l : List UInt8} {p : List UInt8} {a b c : Int} (hf : Fits p a b c) (hw : WB h id l) (hn : l.length ≤ 100000) :
    ∃ h', doCall md (aval Tryd.prog md fg) 24 [.ptr id 0, pinV p a b c] h = some (.tup [], h') ∧ WB h' id (l ++ pinL p a b c) ∧ Fr id h h' := by
  obtain ⟨f1, f2, f3, f4⟩ := hf
  exact wPin p (by omega) (by omega) (by omega) (by omega) (by omega) (by omega) (by omega) hw hn
theorem num_len (n : Int) (h : n ≤ 9223372036854775807) : (num n).length ≤ 10 := uvarN_len n.toNat (by omega)
theorem pinL_len {p : List UInt8} {a b c : Int} (hf : Fits p a b c) : (pinL p a b c).length ≤ 60 := by
  obtain ⟨f1, f2, f3, f4⟩ := hf
  have h1 := uvarN_len p.length (by omega)
  have h2 := num_len a (by omega)
  have h3 := num_len b (by omega)
  have h4 := num_len c (by omega)
  unfold pinL textL
  simp only [List.length_append]; omega
theorem fr_push {h : AHeap} {id : Nat} (o : AObj) : Fr id h (h ++ [o]) := ⟨by simp, fun j cs hj e => by
    rw [hget_push]; exact e
    exact Nat.lt_of_not_le fun hle => by rw [hget_out hle] at e; cases e⟩
theorem hget_push' {h : AHeap} {o : AObj} {j : Nat} {cs : List AV} (e : hget h j = .vars cs) : hget (h ++ [o]) j = .vars cs := by
  rw [hget_push]; exact e
  exact Nat.lt_of_not_le fun hle => by rw [hget_out hle] at e; cases e
set_option maxHeartbeats 8000000 in
theorem encode_p (m : Cmd) (hm : m.small) : pcall Tryd.prog md fg 8 [cmdV m] = some (.tup (if m.right then [.val (.string (txt (encL m))), .int 0] else [.val (.string ⟨#[]⟩), .int 2])) := by
  have cr : ∀ h : AHeap, doCall md (aval Tryd.prog md fg) 11 [cmdV m] h = some (.val (.bool m.right), h) := fun h => doCall_pure md11 rfl (cright_p m hm)
  have e : ∃ h, aval Tryd.prog md fg 8 [cmdV m] [] = some (.tup (if m.right then [.val (.string (txt (encL m))), .int 0] else [.val (.string ⟨#[]⟩), .int 2]), h) := by
    cases hr : m.right with
    | false =>
      obtain ⟨k, p, a, b, c, o, d, e, f, s⟩ := m
      rw [aval_of Tryd.func8 body8 Tryd.results8 Tryd.ntmps8 ok8]
      simp (implicitDefEqProofs := false) (disch := omega) only [go_sem, Nat.reduceAdd, Nat.reduceSub, Nat.reduceMul, Nat.reduceLT, Nat.reduceLeDiff, Nat.reduceEqDiff, List.drop_zero, List.take_succ_cons, List.take_zero, List.drop_succ_cons, Bool.and_true, Bool.true_and, Bool.and_false, Bool.false_and, BitVec.reduceOfInt, Nat.zero_add, Nat.mul_one, Nat.add_zero, Int.zero_add, Int.reduceToNat, Nat.reducePow, ↓reduceIte, reduceCtorEq, Int.reduceLE, Int.reduceLT, Int.reduceEq, Int.reduceNe, Int.reduceAdd, Int.reduceSub, Int.reduceMul, Int.reduceNeg, Nat.reduceBEq, show regOf Tryd.f8 0 = Code.region _ _ _ from rfl, show regOf Tryd.f8 1 = Code.region _ _ _ from rfl, show regOf Tryd.f8 2 = Code.region _ _ _ from rfl, cr, hr]
      exact ⟨_, rfl⟩
    | true =>
      obtain ⟨k, p, a, b, c, o, d, e, f, s⟩ := m
      have hr' := hr
      unfold Cmd.right at hr'
      simp only [Bool.and_eq_true, decide_eq_true_eq] at hr'
      obtain ⟨⟨⟨⟨r1, r2⟩, r3⟩, r4⟩, r5⟩ := hr'
      unfold kindB at r1
      simp only [decide_eq_true_eq] at r1
      have g0 : hget [.vars [.int k, .str (txt p), .int a, .int b, .int c, .str (txt o), .int d, .int e, .int f, .str (txt s)], .vars [.slc true []]] 0 = .vars [.int k, .str (txt p), .int a, .int b, .int c, .str (txt o), .int d, .int e, .int f, .str (txt s)] := rfl
      have w0 : WB [.vars [.int k, .str (txt p), .int a, .int b, .int c, .str (txt o), .int d, .int e, .int f, .str (txt s)], .vars [.slc true []]] 1 [] := ⟨by simp, .inl ⟨rfl, rfl⟩⟩
      obtain ⟨h1, e1, w1, f1⟩ := wNum (n := k) (by omega) (by omega) w0 (by simp)
      have g1 := f1.2 0 _ (by omega) g0
      rw [List.nil_append] at w1
      have cp : ∀ h : AHeap, doCall md (aval Tryd.prog md fg) 23 [.int k] h = some (partsV k, h) := fun h => doCall_pure md23 rfl (partsOf_p k)
      unfold partsV at cp
      have nk := num_len k (by omega)
      have hsz := txt_size s
      unfold encL
      dsimp only
      have fp : pinB k = true → Fits p a b c := fun h => fits_cpin r2 h
      have fo : decide (k = 6) = true → Fits o d e f := fun h => fits_cpin r3 h
      generalize pinB k = x at *
      generalize decide (k = 6) = y at *
      generalize srcB k = z at *
      have w2 : WB (h1 ++ [.vars [.bool x, .bool y, .bool z]]) 1 (num k) := WB_push w1
      have g2 : hget (h1 ++ [.vars [.bool x, .bool y, .bool z]]) 0 = .vars [.int k, .str (txt p), .int a, .int b, .int c, .str (txt o), .int d, .int e, .int f, .str (txt s)] := hget_push' g1
      have q2 : hget (h1 ++ [.vars [.bool x, .bool y, .bool z]]) h1.length = .vars [.bool x, .bool y, .bool z] := hget_last
      obtain ⟨h3, e3, w3, f3⟩ : ∃ h3, (if x then doCall md (aval Tryd.prog md fg) 24 [.ptr 1 0, pinV p a b c] (h1 ++ [.vars [.bool x, .bool y, .bool z]]) = some (.tup [], h3) else h3 = h1 ++ [.vars [.bool x, .bool y, .bool z]]) ∧ WB h3 1 (num k ++ (if x then pinL p a b c else [])) ∧ Fr 1 (h1 ++ [.vars [.bool x, .bool y, .bool z]]) h3 := by
        cases x with
        | false => exact ⟨_, rfl, by simpa using w2, Fr.refl _ _⟩
        | true =>
          obtain ⟨h', k1, k2, k3⟩ := wPinIf (fp rfl) w2 (by omega)
          exact ⟨h', k1, k2, k3⟩
      have lx : (if x then pinL p a b c else []).length ≤ 60 := by
        cases x with
        | false => simp
        | true => exact pinL_len (fp rfl)
      have hlt : 1 < h1.length := w1.1
      have g3 := f3.2 0 _ (by omega) g2
      have q3 := f3.2 h1.length _ (by omega) q2
      obtain ⟨h4, e4, w4, f4⟩ : ∃ h4, (if y then doCall md (aval Tryd.prog md fg) 24 [.ptr 1 0, pinV o d e f] h3 = some (.tup [], h4) else h4 = h3) ∧ WB h4 1 ((num k ++ (if x then pinL p a b c else [])) ++ (if y then pinL o d e f else [])) ∧ Fr 1 h3 h4 := by
        cases y with
        | false => exact ⟨_, rfl, by simpa using w3, Fr.refl _ _⟩
        | true =>
          obtain ⟨h', k1, k2, k3⟩ := wPinIf (fo rfl) w3 (by rw [List.length_append]; omega)
          exact ⟨h', k1, k2, k3⟩
      have ly : (if y then pinL o d e f else []).length ≤ 60 := by
        cases y with
        | false => simp
        | true => exact pinL_len (fo rfl)
      have g4 := f4.2 0 _ (by omega) g3
      have q4 := f4.2 h1.length _ (by omega) q3
      obtain ⟨h5, e5, w5, f5⟩ : ∃ h5, (if z then doCall md (aval Tryd.prog md fg) 25 [.ptr 1 0, .slc true [.val (.string (txt s))]] h4 = some (.tup [], h5) else h5 = h4) ∧ WB h5 1 (((num k ++ (if x then pinL p a b c else [])) ++ (if y then pinL o d e f else [])) ++ (if z then textL s else [])) ∧ Fr 1 h4 h5 := by
        cases z with
        | false => exact ⟨_, rfl, by simpa using w4, Fr.refl _ _⟩
        | true =>
          obtain ⟨h', k1, k2, k3⟩ := wT_c w4 (by simp only [List.length_append]; omega) (by omega : s.length ≤ 100000)
          exact ⟨h', k1, k2, k3⟩
      have es := wS_c w5
      rw [List.append_assoc, List.append_assoc] at es
      refine ⟨h5, ?_⟩
      rw [aval_of Tryd.func8 body8 Tryd.results8 Tryd.ntmps8 ok8]
      cases x <;> cases y <;> cases z
      all_goals simp only [Bool.false_eq_true, if_false, if_true] at e3 e4 e5 es ⊢
      all_goals try subst e3
      all_goals try subst e4
      all_goals try subst e5
      all_goals first | (have _ := e3) | (have e3 := trivial)
      all_goals first | (have _ := e4) | (have e4 := trivial)
      all_goals first | (have _ := e5) | (have e5 := trivial)
      all_goals simp (implicitDefEqProofs := false) (disch := omega) only [go_sem, Nat.reduceAdd, Nat.reduceSub, Nat.reduceMul, Nat.reduceLT, Nat.reduceLeDiff, Nat.reduceEqDiff, List.drop_zero, List.take_succ_cons, List.take_zero, List.drop_succ_cons, Bool.and_true, Bool.true_and, Bool.and_false, Bool.false_and, BitVec.reduceOfInt, Nat.zero_add, Nat.mul_one, Nat.add_zero, Int.zero_add, Int.reduceToNat, Nat.reducePow, ↓reduceIte, reduceCtorEq, Int.reduceLE, Int.reduceLT, Int.reduceEq, Int.reduceNe, Int.reduceAdd, Int.reduceSub, Int.reduceMul, Int.reduceNeg, Nat.reduceBEq, show regOf Tryd.f8 0 = Code.region _ _ _ from rfl, show regOf Tryd.f8 1 = Code.region _ _ _ from rfl, show regOf Tryd.f8 2 = Code.region _ _ _ from rfl, show regOf Tryd.f8 3 = Code.region _ _ _ from rfl, show regOf Tryd.f8 4 = Code.region _ _ _ from rfl, show regOf Tryd.f8 5 = Code.region _ _ _ from rfl, show regOf Tryd.f8 6 = Code.region _ _ _ from rfl, show regOf Tryd.f8 7 = Code.region _ _ _ from rfl, show regOf Tryd.f8 8 = Code.region _ _ _ from rfl, show regOf Tryd.f8 9 = Code.region _ _ _ from rfl, show regOf Tryd.f8 10 = Code.region _ _ _ from rfl, show regOf Tryd.f8 11 = Code.region _ _ _ from rfl, show regOf Tryd.f8 12 = Code.region _ _ _ from rfl, cr, hr, e1, g1, cp, hget_last, set_last, g2, q2, g3, q3, g4, q4, e3, e4, e5, es, callD_one md25, callD_one md24]
  obtain ⟨h, e⟩ := e
  rw [pcall_eq, e]
  cases m.right <;> exact pureRes_solid rfl
end Go.Proofs.YtfloombnadnmaaaDoor
namespace Go.Proofs.YtfloombnadnmaaaDoor
open Go Go.Ab Go.Proofs
set_option maxRecDepth 100000
set_option linter.unusedSimpArgs false
set_option linter.unusedVariables false
theorem rnum_p {n : Int} (h0 : 0 ≤ n) (h1 : n ≤ 9223372036854775807) : pcall Tryd.prog md fg 27 [.int n] = some (.val (.string (txt (num n)))) := by
  have c : ∀ h : AHeap, doCall md (aval Tryd.prog md fg) 50 [.val (.int .u64 n)] h = some (.val (.string (txt (num n))), h) := fun h => by
    have hx : v64 (bv n) = .val (.int .u64 n) := by show AV.val (Value.int .u64 ((bv n).toNat : Int)) = _; rw [bv_int h0 h1]
    have hy : uvarT (bv n) = txt (num n) := by unfold uvarT num; rw [bv_nat h0 h1]; rfl
    have := doCall_pure (h := h) md50 rfl (refUvarint_p (bv n))
    rw [hx, hy] at this
    exact this
  have e : ∃ h, aval Tryd.prog md fg 27 [.int n] [] = some (.val (.string (txt (num n))), h) := by
    rw [aval_of Tryd.func27 body27 Tryd.results27 Tryd.ntmps27 ok27]
    simp (implicitDefEqProofs := false) (disch := omega) only [go_sem, Nat.reduceAdd, Nat.reduceSub, Nat.reduceMul, Nat.reduceLT, Nat.reduceLeDiff, Nat.reduceEqDiff, List.drop_zero, List.take_succ_cons, List.take_zero, List.drop_succ_cons, Bool.and_true, Bool.true_and, Bool.and_false, Bool.false_and, BitVec.reduceOfInt, Nat.zero_add, Nat.mul_one, Nat.add_zero, Int.zero_add, Int.reduceToNat, Nat.reducePow, ↓reduceIte, reduceCtorEq, Int.reduceLE, Int.reduceLT, Int.reduceEq, Int.reduceNe, Int.reduceAdd, Int.reduceSub, Int.reduceMul, Int.reduceNeg, Nat.reduceBEq, show regOf Tryd.f27 0 = Code.region _ _ _ from rfl, show regOf Tryd.f27 1 = Code.region _ _ _ from rfl, wrap_u64, c]
    exact ⟨_, rfl⟩
  obtain ⟨h, e⟩ := e
  rw [pcall_eq, e, pureRes_solid rfl]
theorem rtold_p {p : List UInt8} {a b c : Int} (hf : Fits p a b c) : pcall Tryd.prog md fg 29 [pinV p a b c] = some (.val (.string (txt (pinL p a b c)))) := by
  obtain ⟨f1, f2, f3, f4⟩ := hf
  have cn : ∀ (n : Int) (h : AHeap), 0 ≤ n → n ≤ 9223372036854775807 → doCall md (aval Tryd.prog md fg) 27 [.int n] h = some (.val (.string (txt (num n))), h) := fun n h h0 h1 => doCall_pure md27 rfl (rnum_p h0 h1)
  have ct : ∀ (h : AHeap), doCall md (aval Tryd.prog md fg) 31 [.val (.string (txt p))] h = some (.val (.string (txt (textL p))), h) := fun h => doCall_pure md31 rfl (refText_p p (by omega))
  have na := num_len a (by omega)
  have nb := num_len b (by omega)
  have nc := num_len c (by omega)
  have np : (textL p).length ≤ 30 := by have := uvarN_len p.length (by omega); unfold textL; rw [List.length_append]; omega
  have e : ∃ h, aval Tryd.prog md fg 29 [pinV p a b c] [] = some (.val (.string (txt (pinL p a b c))), h) := by
    unfold pinL
    rw [aval_of Tryd.func29 body29 Tryd.results29 Tryd.ntmps29 ok29]
    simp (implicitDefEqProofs := false) (disch := first | omega | (simp only [List.length_append]; omega)) only [go_sem, Nat.reduceAdd, Nat.reduceSub, Nat.reduceMul, Nat.reduceLT, Nat.reduceLeDiff, Nat.reduceEqDiff, List.drop_zero, List.take_succ_cons, List.take_zero, List.drop_succ_cons, Bool.and_true, Bool.true_and, Bool.and_false, Bool.false_and, BitVec.reduceOfInt, Nat.zero_add, Nat.mul_one, Nat.add_zero, Int.zero_add, Int.reduceToNat, Nat.reducePow, ↓reduceIte, reduceCtorEq, Int.reduceLE, Int.reduceLT, Int.reduceEq, Int.reduceNe, Int.reduceAdd, Int.reduceSub, Int.reduceMul, Int.reduceNeg, Nat.reduceBEq, show regOf Tryd.f29 0 = Code.region _ _ _ from rfl, show regOf Tryd.f29 1 = Code.region _ _ _ from rfl, cn, ct, cat2, List.append_assoc]
    exact ⟨_, rfl⟩
  obtain ⟨h, e⟩ := e
  rw [pcall_eq, e, pureRes_solid rfl]
set_option maxHeartbeats 8000000 in
theorem rencode_p (m : Cmd) (hm : m.small) : pcall Tryd.prog md fg 9 [cmdV m] = some (.tup (if m.right then [.val (.string (txt (encL m))), .int 0] else [.val (.string ⟨#[]⟩), .int 2])) := by
  have cr : ∀ h : AHeap, doCall md (aval Tryd.prog md fg) 12 [cmdV m] h = some (.val (.bool m.right), h) := fun h => doCall_pure md12 rfl (rright2_p m hm)
  have e : ∃ h, aval Tryd.prog md fg 9 [cmdV m] [] = some (.tup (if m.right then [.val (.string (txt (encL m))), .int 0] else [.val (.string ⟨#[]⟩), .int 2]), h) := by
    cases hr : m.right with
    | false =>
      obtain ⟨k, p, a, b, c, o, d, e, f, s⟩ := m
      rw [aval_of Tryd.func9 body9 Tryd.results9 Tryd.ntmps9 ok9]
      simp (implicitDefEqProofs := false) (disch := omega) only [go_sem, Nat.reduceAdd, Nat.reduceSub, Nat.reduceMul, Nat.reduceLT, Nat.reduceLeDiff, Nat.reduceEqDiff, List.drop_zero, List.take_succ_cons, List.take_zero, List.drop_succ_cons, Bool.and_true, Bool.true_and, Bool.and_false, Bool.false_and, BitVec.reduceOfInt, Nat.zero_add, Nat.mul_one, Nat.add_zero, Int.zero_add, Int.reduceToNat, Nat.reducePow, ↓reduceIte, reduceCtorEq, Int.reduceLE, Int.reduceLT, Int.reduceEq, Int.reduceNe, Int.reduceAdd, Int.reduceSub, Int.reduceMul, Int.reduceNeg, Nat.reduceBEq, show regOf Tryd.f9 0 = Code.region _ _ _ from rfl, show regOf Tryd.f9 1 = Code.region _ _ _ from rfl, show regOf Tryd.f9 2 = Code.region _ _ _ from rfl, cr, hr]
      exact ⟨_, rfl⟩
    | true =>
      obtain ⟨k, p, a, b, c, o, d, e, f, s⟩ := m
      have hr' := hr
      unfold Cmd.right at hr'
      simp only [Bool.and_eq_true, decide_eq_true_eq] at hr'
      obtain ⟨⟨⟨⟨r1, r2⟩, r3⟩, r4⟩, r5⟩ := hr'
      unfold kindB at r1
      simp only [decide_eq_true_eq] at r1
      have nk := num_len k (by omega)
      have cn : ∀ (h : AHeap), doCall md (aval Tryd.prog md fg) 27 [.int k] h = some (.val (.string (txt (num k))), h) := fun h => doCall_pure md27 rfl (rnum_p (by omega) (by omega))
      have c1 : ∀ (h : AHeap), doCall md (aval Tryd.prog md fg) 28 [.int k] h = some (.val (.bool (pinB k)), h) := fun h => doCall_pure md28 rfl (hasPin_p k)
      have c2 : ∀ (h : AHeap), doCall md (aval Tryd.prog md fg) 30 [.int k] h = some (.val (.bool (srcB k)), h) := fun h => doCall_pure md30 rfl (hasSource_p k)
      have c3 : ∀ (h : AHeap), doCall md (aval Tryd.prog md fg) 31 [.val (.string (txt s))] h = some (.val (.string (txt (textL s))), h) := fun h => doCall_pure md31 rfl (refText_p s (by omega))
      have hsL : (textL s).length ≤ 20010 := by have := uvarN_len s.length (by omega); unfold textL; rw [List.length_append]; omega
      have hk6 : (k == 6) = decide (k = 6) := rfl
      unfold encL
      dsimp only
      have c4 : pinB k = true → (∀ (h : AHeap), doCall md (aval Tryd.prog md fg) 29 [pinV p a b c] h = some (.val (.string (txt (pinL p a b c))), h)) ∧ (pinL p a b c).length ≤ 60 := fun h => ⟨fun g => doCall_pure md29 rfl (rtold_p (fits_cpin r2 h)), pinL_len (fits_cpin r2 h)⟩
      have c5 : decide (k = 6) = true → (∀ (h : AHeap), doCall md (aval Tryd.prog md fg) 29 [pinV o d e f] h = some (.val (.string (txt (pinL o d e f))), h)) ∧ (pinL o d e f).length ≤ 60 := fun h => ⟨fun g => doCall_pure md29 rfl (rtold_p (fits_cpin r3 h)), pinL_len (fits_cpin r3 h)⟩
      rw [aval_of Tryd.func9 body9 Tryd.results9 Tryd.ntmps9 ok9]
      clear r2 r3 r5
      generalize pinB k = x at *
      generalize decide (k = 6) = y at *
      generalize srcB k = z at *
      cases x <;> cases y <;> cases z
      all_goals first | (obtain ⟨c6, n6⟩ := c4 rfl) | (obtain ⟨c6, n6⟩ : True ∧ True := ⟨trivial, trivial⟩)
      all_goals first | (obtain ⟨c7, n7⟩ := c5 rfl) | (obtain ⟨c7, n7⟩ : True ∧ True := ⟨trivial, trivial⟩)
      all_goals simp (implicitDefEqProofs := false) (disch := first | omega | (simp only [List.length_append]; omega)) only [go_sem, Nat.reduceAdd, Nat.reduceSub, Nat.reduceMul, Nat.reduceLT, Nat.reduceLeDiff, Nat.reduceEqDiff, List.drop_zero, List.take_succ_cons, List.take_zero, List.drop_succ_cons, Bool.and_true, Bool.true_and, Bool.and_false, Bool.false_and, BitVec.reduceOfInt, Nat.zero_add, Nat.mul_one, Nat.add_zero, Int.zero_add, Int.reduceToNat, Nat.reducePow, ↓reduceIte, reduceCtorEq, Int.reduceLE, Int.reduceLT, Int.reduceEq, Int.reduceNe, Int.reduceAdd, Int.reduceSub, Int.reduceMul, Int.reduceNeg, Nat.reduceBEq, show regOf Tryd.f9 0 = Code.region _ _ _ from rfl, show regOf Tryd.f9 1 = Code.region _ _ _ from rfl, show regOf Tryd.f9 2 = Code.region _ _ _ from rfl, show regOf Tryd.f9 3 = Code.region _ _ _ from rfl, show regOf Tryd.f9 4 = Code.region _ _ _ from rfl, show regOf Tryd.f9 5 = Code.region _ _ _ from rfl, show regOf Tryd.f9 6 = Code.region _ _ _ from rfl, show regOf Tryd.f9 7 = Code.region _ _ _ from rfl, show regOf Tryd.f9 8 = Code.region _ _ _ from rfl, show regOf Tryd.f9 9 = Code.region _ _ _ from rfl, show regOf Tryd.f9 10 = Code.region _ _ _ from rfl, cr, hr, cn, c1, c2, c3, c6, c7, hk6, cat2, List.append_assoc, List.append_nil, List.nil_append, Bool.false_eq_true]
      all_goals exact ⟨_, rfl⟩
  obtain ⟨h, e⟩ := e
  rw [pcall_eq, e]
  cases m.right <;> exact pureRes_solid rfl
end Go.Proofs.YtfloombnadnmaaaDoor
namespace Go.Proofs.YtfloombnadnmaaaDoor
open Go Go.Ab Go.Proofs
set_option maxRecDepth 100000
set_option linter.unusedSimpArgs false
set_option linter.unusedVariables false
/-- A call that turns one closed object and makes others that are forgotten. -/
theorem doCall_turn {f : FuncId} {vs : List AV} {h h' : AHeap} {id : Nat} {o : AObj} {r : AV} (hm : md f = 1) (e : aval Tryd.prog md fg f vs h = some (r, h')) (hb : below h.length r = true) (hid : id < h.length)
    (ht : h'.take h.length = h.set id o) (ho : belowO h.length o = true) : doCall md (aval Tryd.prog md fg) f vs h = some (r, h.set id o) := by
  rw [← ht]
  refine doCall_ref (by omega) (by omega) (by omega) e hb ?_
  intro i hi
  have e1 : h'[i]? = (h.set id o)[i]? := by rw [← ht, List.getElem?_take_of_lt hi]
  by_cases hii : id = i
  · subst hii
    right
    unfold hget
    rw [List.getD_eq_getElem?_getD, e1, List.getElem?_set_self hid]; exact ho
  · left; rw [e1, List.getElem?_set_ne hii]
def cN (x : BitVec 64) : Int := min (x.toNat : Int) 4611686018427387904
section
variable {h : AHeap} {id : Nat} {s : List UInt8} {b : Bool}
theorem rNum (hr : hget h id = RO s b) (hid : id < h.length) (hs : s.length < 2 ^ 62) : doCall md (aval Tryd.prog md fg) 35 [.agg [.ptr id 0]] h = some (.int (cN (uA s b)), h.set id (RO (uS s b).1 (uS s b).2)) := by
  have g0 : hget (h ++ [.vars [.ptr id 0]]) id = RO s b := by rw [hget_push hid]; exact hr
  have gl : hget (h ++ [.vars [.ptr id 0]]) h.length = .vars [.ptr id 0] := hget_last
  have cu := rU_c g0 (by simp; omega) hs
  refine doCall_turn (h' := (h ++ [AObj.vars [.ptr id 0]]).set id (RO (uS s b).1 (uS s b).2)) (by decide) ?_ rfl hid (by rw [List.set_append_left _ _ hid, List.take_left']; simp) rfl
  unfold cN
  generalize uA s b = x at *
  rw [aval_of Tryd.func35 body35 Tryd.results35 Tryd.ntmps35 ok35]
  have hx := x.isLt
  simp (implicitDefEqProofs := false) (disch := omega) only [go_sem, Nat.reduceAdd, Nat.reduceSub, Nat.reduceMul, Nat.reduceLT, Nat.reduceLeDiff, Nat.reduceEqDiff, List.drop_zero, List.take_succ_cons, List.take_zero, List.drop_succ_cons, Bool.and_true, Bool.true_and, Bool.and_false, Bool.false_and, BitVec.reduceOfInt, Nat.zero_add, Nat.mul_one, Nat.add_zero, Int.zero_add, Int.reduceToNat, Nat.reducePow, ↓reduceIte, reduceCtorEq, Int.reduceLE, Int.reduceLT, Int.reduceEq, Int.reduceNe, Int.reduceAdd, Int.reduceSub, Int.reduceMul, Int.reduceNeg, Nat.reduceBEq, show regOf Tryd.f35 0 = Code.region _ _ _ from rfl, show regOf Tryd.f35 1 = Code.region _ _ _ from rfl, gl, cu]
  have e : (if (4611686018427387904 : Int) < (x.toNat : Int) then (4611686018427387904 : Int) else (x.toNat : Int)) = min (x.toNat : Int) 4611686018427387904 := by
    rw [Int.min_def]; split <;> split <;> omega
  rw [e]
end
theorem small_p (x : BitVec 64) : pcall Tryd.prog md fg 39 [v64 x] = some (.int (min (x.toNat : Int) 1000000)) := by
  have e : aval Tryd.prog md fg 39 [v64 x] [] = some (.int (min (x.toNat : Int) 1000000), []) := by
    rw [aval_of Tryd.func39 body39 Tryd.results39 Tryd.ntmps39 ok39]
    by_cases h1 : (x.toNat : Int) > 1000000
    · rw [Int.min_eq_right (by omega)]
      simp (implicitDefEqProofs := false) (disch := omega) only [go_sem, Nat.reduceAdd, Nat.reduceSub, Nat.reduceMul, Nat.reduceLT, Nat.reduceLeDiff, Nat.reduceEqDiff, List.drop_zero, List.take_succ_cons, List.take_zero, List.drop_succ_cons, Bool.and_true, Bool.true_and, Bool.and_false, Bool.false_and, BitVec.reduceOfInt, Nat.zero_add, Nat.mul_one, Nat.add_zero, Int.zero_add, Int.reduceToNat, Nat.reducePow, ↓reduceIte, reduceCtorEq, Int.reduceLE, Int.reduceLT, Int.reduceEq, Int.reduceNe, Int.reduceAdd, Int.reduceSub, Int.reduceMul, Int.reduceNeg, Nat.reduceBEq, show regOf Tryd.f39 0 = Code.region _ _ _ from rfl, show regOf Tryd.f39 1 = Code.region _ _ _ from rfl, show regOf Tryd.f39 2 = Code.region _ _ _ from rfl, show regOf Tryd.f39 3 = Code.region _ _ _ from rfl, h1]
    · rw [Int.min_eq_left (by omega)]
      simp (implicitDefEqProofs := false) (disch := omega) only [go_sem, Nat.reduceAdd, Nat.reduceSub, Nat.reduceMul, Nat.reduceLT, Nat.reduceLeDiff, Nat.reduceEqDiff, List.drop_zero, List.take_succ_cons, List.take_zero, List.drop_succ_cons, Bool.and_true, Bool.true_and, Bool.and_false, Bool.false_and, BitVec.reduceOfInt, Nat.zero_add, Nat.mul_one, Nat.add_zero, Int.zero_add, Int.reduceToNat, Nat.reducePow, ↓reduceIte, reduceCtorEq, Int.reduceLE, Int.reduceLT, Int.reduceEq, Int.reduceNe, Int.reduceAdd, Int.reduceSub, Int.reduceMul, Int.reduceNeg, Nat.reduceBEq, show regOf Tryd.f39 0 = Code.region _ _ _ from rfl, show regOf Tryd.f39 1 = Code.region _ _ _ from rfl, show regOf Tryd.f39 2 = Code.region _ _ _ from rfl, show regOf Tryd.f39 3 = Code.region _ _ _ from rfl, h1, wrap_i64]
  rw [pcall_eq, e, pureRes_solid rfl]
end Go.Proofs.YtfloombnadnmaaaDoor
namespace Go.Proofs.YtfloombnadnmaaaDoor
open Go Go.Ab Go.Proofs
set_option maxRecDepth 100000
set_option linter.unusedSimpArgs false
set_option linter.unusedVariables false
/-- A reader's states while a pin is read. -/
def st1 (s : List UInt8) (b : Bool) := tS s b
def st2 (s : List UInt8) (b : Bool) := uS (st1 s b).1 (st1 s b).2
def st3 (s : List UInt8) (b : Bool) := uS (st2 s b).1 (st2 s b).2
def st4 (s : List UInt8) (b : Bool) := uS (st3 s b).1 (st3 s b).2
def pa (s : List UInt8) (b : Bool) := uA (st1 s b).1 (st1 s b).2
def pb (s : List UInt8) (b : Bool) := uA (st2 s b).1 (st2 s b).2
def pc (s : List UInt8) (b : Bool) := uA (st3 s b).1 (st3 s b).2
theorem st1_len (s : List UInt8) (b : Bool) : (st1 s b).1.length ≤ s.length := tS_len s b
theorem st2_len (s : List UInt8) (b : Bool) : (st2 s b).1.length ≤ s.length := Nat.le_trans (uS_len _ _) (st1_len s b)
theorem st3_len (s : List UInt8) (b : Bool) : (st3 s b).1.length ≤ s.length := Nat.le_trans (uS_len _ _) (st2_len s b)
theorem st4_len (s : List UInt8) (b : Bool) : (st4 s b).1.length ≤ s.length := Nat.le_trans (uS_len _ _) (st3_len s b)
theorem tail_nil (p : List Nat → Prop) : (∀ T ∈ (subs []).tail, p T) ↔ True := by simp [subs]
theorem subs_nil_all (p : List Nat → Prop) : (∀ T ∈ subs [], p T) ↔ p [] := by simp [subs]
section
variable {h : AHeap} {id : Nat}
/-! ### A memory, and some of one's own behind it -/
theorem sa_set (l : AHeap) (X : AObj) (hid : id < h.length) : (h ++ l).set id X = h.set id X ++ l := List.set_append_left _ _ hid
theorem sa_get0 (A : AObj) (l : AHeap) : hget (h ++ A :: l) h.length = A := by
  unfold hget; rw [List.getD_eq_getElem?_getD, List.getElem?_append_right (Nat.le_refl _), Nat.sub_self]; rfl
theorem sa_get1 (A B : AObj) (l : AHeap) : hget (h ++ A :: B :: l) (h.length + 1) = B := by
  unfold hget; rw [List.getD_eq_getElem?_getD, List.getElem?_append_right (by omega), show h.length + 1 - h.length = 1 by omega]; rfl
theorem sa_get2 (A B C : AObj) (l : AHeap) : hget (h ++ A :: B :: C :: l) (h.length + 2) = C := by
  unfold hget; rw [List.getD_eq_getElem?_getD, List.getElem?_append_right (by omega), show h.length + 2 - h.length = 2 by omega]; rfl
theorem sa_set0 (A D : AObj) (l : AHeap) : (h ++ A :: l).set h.length D = h ++ D :: l := by
  rw [List.set_append_right _ _ (Nat.le_refl _), Nat.sub_self]; rfl
theorem sa_set1 (A B D : AObj) (l : AHeap) : (h ++ A :: B :: l).set (h.length + 1) D = h ++ A :: D :: l := by
  rw [List.set_append_right _ _ (by omega), show h.length + 1 - h.length = 1 by omega]; rfl
theorem sa_set2 (A B C D : AObj) (l : AHeap) : (h ++ A :: B :: C :: l).set (h.length + 2) D = h ++ A :: B :: D :: l := by
  rw [List.set_append_right _ _ (by omega), show h.length + 2 - h.length = 2 by omega]; rfl
theorem sa_id (l : AHeap) (hid : id < h.length) : hget (h ++ l) id = hget h id := by
  unfold hget; rw [List.getD_eq_getElem?_getD, List.getElem?_append_left hid, ← List.getD_eq_getElem?_getD]
theorem sb_get0 {n : Nat} (A : AObj) (l : AHeap) (hn : h.length = n) : hget (h ++ A :: l) n = A := by subst hn; exact sa_get0 A l
theorem sb_get1 {n : Nat} (A B : AObj) (l : AHeap) (hn : h.length = n) : hget (h ++ A :: B :: l) (n + 1) = B := by subst hn; exact sa_get1 A B l
theorem sb_get2 {n : Nat} (A B C : AObj) (l : AHeap) (hn : h.length = n) : hget (h ++ A :: B :: C :: l) (n + 2) = C := by subst hn; exact sa_get2 A B C l
theorem sb_set0 {n : Nat} (A D : AObj) (l : AHeap) (hn : h.length = n) : (h ++ A :: l).set n D = h ++ D :: l := by subst hn; exact sa_set0 A D l
theorem sb_set1 {n : Nat} (A B D : AObj) (l : AHeap) (hn : h.length = n) : (h ++ A :: B :: l).set (n + 1) D = h ++ A :: D :: l := by subst hn; exact sa_set1 A B D l
theorem sb_set2 {n : Nat} (A B C D : AObj) (l : AHeap) (hn : h.length = n) : (h ++ A :: B :: C :: l).set (n + 2) D = h ++ A :: B :: D :: l := by subst hn; exact sa_set2 A B C D l
theorem rNum_l {s : List UInt8} {b : Bool} (l : AHeap) (hr : hget h id = RO s b) (hid : id < h.length) (hs : s.length < 2 ^ 62) : doCall md (aval Tryd.prog md fg) 35 [.agg [.ptr id 0]] (h ++ l) = some (.int (cN (uA s b)), h.set id (RO (uS s b).1 (uS s b).2) ++ l) := by
  rw [← sa_set l _ hid]
  exact rNum (by rw [sa_id l hid]; exact hr) (by simp; omega) hs
theorem rT_l {s : List UInt8} {b : Bool} (l : AHeap) (hr : hget h id = RO s b) (hid : id < h.length) (hs : s.length < 2 ^ 62) : doCall md (aval Tryd.prog md fg) 37 [.ptr id 0] (h ++ l) = some (.val (.string (txt (tA s b))), h.set id (RO (tS s b).1 (tS s b).2) ++ l) := by
  rw [← sa_set l _ hid]
  exact rT_c (by rw [sa_id l hid]; exact hr) (by simp; omega) hs
set_option maxHeartbeats 8000000 in
theorem rPin {s : List UInt8} {b : Bool} (hr : hget h id = RO s b) (hid : id < h.length) (hs : s.length < 2 ^ 62) : doCall md (aval Tryd.prog md fg) 36 [.agg [.ptr id 0]] h = some (pinV (tA s b) (cN (pa s b)) (cN (pb s b)) (cN (pc s b)), h.set id (RO (st4 s b).1 (st4 s b).2)) := by
  have k1 := st1_len s b
  have k2 := st2_len s b
  have k3 := st3_len s b
  have cT := fun l => rT_l l hr hid hs
  have E : ∀ X : AObj, hget (h.set id X) id = X := fun X => hget_set_eq hid
  have L : ∀ X : AObj, (h.set id X).length = h.length := fun X => by simp
  have n1 := fun l => rNum_l (h := h.set id (RO (st1 s b).1 (st1 s b).2)) l (E _) (by rw [L]; exact hid) (by omega)
  have n2 := fun l => rNum_l (h := h.set id (RO (st2 s b).1 (st2 s b).2)) l (E _) (by rw [L]; exact hid) (by omega)
  have n3 := fun l => rNum_l (h := h.set id (RO (st3 s b).1 (st3 s b).2)) l (E _) (by rw [L]; exact hid) (by omega)
  rw [List.set_set] at n1 n2 n3
  refine doCall_turn (h' := h.set id (RO (st4 s b).1 (st4 s b).2) ++ [AObj.vars [.ptr id 0], AObj.vars [.str (txt (tA s b)), .int (cN (pa s b)), .int (cN (pb s b)), .int (cN (pc s b))], AObj.vars [.str (txt (tA s b)), .int (cN (pa s b)), .int (cN (pb s b)), .int (cN (pc s b))]]) (by decide) ?_ rfl hid (by rw [List.take_left']; simp) rfl
  change ∀ l, _ = some (_, h.set id (RO (st2 s b).1 (st2 s b).2) ++ l) at n1
  change ∀ l, _ = some (_, h.set id (RO (st3 s b).1 (st3 s b).2) ++ l) at n2
  change ∀ l, _ = some (_, h.set id (RO (st4 s b).1 (st4 s b).2) ++ l) at n3
  change ∀ l, _ = some (_, h.set id (RO (st1 s b).1 (st1 s b).2) ++ l) at cT
  generalize (RO (st1 s b).1 (st1 s b).2) = R1 at *
  generalize (RO (st2 s b).1 (st2 s b).2) = R2 at *
  generalize (RO (st3 s b).1 (st3 s b).2) = R3 at *
  generalize (RO (st4 s b).1 (st4 s b).2) = R4 at *
  rw [aval_of Tryd.func36 body36 Tryd.results36 Tryd.ntmps36 ok36]
  simp (implicitDefEqProofs := false) (maxSteps := 1000000) (disch := first | omega | exact List.length_set) only [go_sem, Nat.reduceAdd, Nat.reduceSub, Nat.reduceMul, Nat.reduceLT, Nat.reduceLeDiff, Nat.reduceEqDiff, List.drop_zero, List.take_succ_cons, List.take_zero, List.drop_succ_cons, Bool.and_true, Bool.true_and, Bool.and_false, Bool.false_and, BitVec.reduceOfInt, Nat.zero_add, Nat.mul_one, Nat.add_zero, Int.zero_add, Int.reduceToNat, Nat.reducePow, ↓reduceIte, reduceCtorEq, Int.reduceLE, Int.reduceLT, Int.reduceEq, Int.reduceNe, Int.reduceAdd, Int.reduceSub, Int.reduceMul, Int.reduceNeg, Nat.reduceBEq, show regOf Tryd.f36 0 = Code.region _ _ _ from rfl, show regOf Tryd.f36 1 = Code.region _ _ _ from rfl, List.append_assoc, List.cons_append, List.nil_append, List.length_append, List.length_cons, List.length_nil, List.length_set, sb_get0, sb_get1, sb_get2, sb_set0, sb_set1, sb_set2, cT, n1, n2, n3]
  simp (implicitDefEqProofs := false) (maxSteps := 400000) (disch := first | omega | exact List.length_set) only [go_sem, Nat.reduceAdd, Nat.reduceSub, Nat.reduceMul, Nat.reduceLT, Nat.reduceLeDiff, Nat.reduceEqDiff, List.drop_zero, List.take_succ_cons, List.take_zero, List.drop_succ_cons, Bool.and_true, Bool.true_and, Bool.and_false, Bool.false_and, BitVec.reduceOfInt, Nat.zero_add, Nat.mul_one, Nat.add_zero, Int.zero_add, Int.reduceToNat, Nat.reducePow, ↓reduceIte, reduceCtorEq, Int.reduceLE, Int.reduceLT, Int.reduceEq, Int.reduceNe, Int.reduceAdd, Int.reduceSub, Int.reduceMul, Int.reduceNeg, Nat.reduceBEq, show regOf Tryd.f36 2 = Code.region _ _ _ from rfl, show regOf Tryd.f36 3 = Code.region _ _ _ from rfl, ↓tail_nil, ↓subs_nil_all, ↓List.forall_mem_cons, ↓all_nil, md35, Bool.true_or, List.append_assoc, List.cons_append, List.nil_append, List.length_append, List.length_cons, List.length_nil, List.length_set, sb_get0, sb_get1, sb_get2, sb_set0, sb_set1, sb_set2, cT, n1, n2, n3, aresults, tupOf, Option.map_some]
  rfl
end
end Go.Proofs.YtfloombnadnmaaaDoor
namespace Go.Proofs.YtfloombnadnmaaaDoor
open Go Go.Ab Go.Proofs
set_option maxRecDepth 100000
set_option linter.unusedSimpArgs false
set_option linter.unusedVariables false
def sN (x : BitVec 64) : Int := min (x.toNat : Int) 1000000
section
variable {h : AHeap} {id : Nat}
theorem qU_l {s : List UInt8} {b : Bool} (l : AHeap) (hr : hget h id = RO s b) (hid : id < h.length) (hs : s.length < 2 ^ 62) : doCall md (aval Tryd.prog md fg) 40 [.ptr id 0] (h ++ l) = some (v64 (uA s b), h.set id (RO (uS s b).1 (uS s b).2) ++ l) := by
  rw [← sa_set l _ hid]
  exact qU_c (by rw [sa_id l hid]; exact hr) (by simp; omega) hs
theorem qT_l {s : List UInt8} {b : Bool} (l : AHeap) (hr : hget h id = RO s b) (hid : id < h.length) (hs : s.length < 2 ^ 62) : doCall md (aval Tryd.prog md fg) 42 [.ptr id 0] (h ++ l) = some (.val (.string (txt (tA s b))), h.set id (RO (tS s b).1 (tS s b).2) ++ l) := by
  rw [← sa_set l _ hid]
  exact qT_c (by rw [sa_id l hid]; exact hr) (by simp; omega) hs
set_option maxHeartbeats 8000000 in
theorem qRead {s : List UInt8} {b : Bool} (hr : hget h id = RO s b) (hid : id < h.length) (hs : s.length < 2 ^ 62) : doCall md (aval Tryd.prog md fg) 41 [.ptr id 0] h = some (pinV (tA s b) (sN (pa s b)) (sN (pb s b)) (sN (pc s b)), h.set id (RO (st4 s b).1 (st4 s b).2)) := by
  have k1 := st1_len s b
  have k2 := st2_len s b
  have k3 := st3_len s b
  have cT := fun l => qT_l l hr hid hs
  have E : ∀ X : AObj, hget (h.set id X) id = X := fun X => hget_set_eq hid
  have L : ∀ X : AObj, (h.set id X).length = h.length := fun X => by simp
  have n1 := fun l => qU_l (h := h.set id (RO (st1 s b).1 (st1 s b).2)) l (E _) (by rw [L]; exact hid) (by omega)
  have n2 := fun l => qU_l (h := h.set id (RO (st2 s b).1 (st2 s b).2)) l (E _) (by rw [L]; exact hid) (by omega)
  have n3 := fun l => qU_l (h := h.set id (RO (st3 s b).1 (st3 s b).2)) l (E _) (by rw [L]; exact hid) (by omega)
  have cS : ∀ (x : BitVec 64) (g : AHeap), doCall md (aval Tryd.prog md fg) 39 [v64 x] g = some (.int (sN x), g) := fun x g => doCall_pure md39 rfl (small_p x)
  rw [List.set_set] at n1 n2 n3
  refine doCall_turn (h' := h.set id (RO (st4 s b).1 (st4 s b).2) ++ [AObj.vars [.str (txt (tA s b)), .int (sN (pa s b)), .int (sN (pb s b)), .int (sN (pc s b))], AObj.vars [.str (txt (tA s b)), .int (sN (pa s b)), .int (sN (pb s b)), .int (sN (pc s b))]]) (by decide) ?_ rfl hid (by rw [List.take_left']; simp) rfl
  change ∀ l, _ = some (_, h.set id (RO (st2 s b).1 (st2 s b).2) ++ l) at n1
  change ∀ l, _ = some (_, h.set id (RO (st3 s b).1 (st3 s b).2) ++ l) at n2
  change ∀ l, _ = some (_, h.set id (RO (st4 s b).1 (st4 s b).2) ++ l) at n3
  change ∀ l, _ = some (_, h.set id (RO (st1 s b).1 (st1 s b).2) ++ l) at cT
  generalize (RO (st1 s b).1 (st1 s b).2) = R1 at *
  generalize (RO (st2 s b).1 (st2 s b).2) = R2 at *
  generalize (RO (st3 s b).1 (st3 s b).2) = R3 at *
  generalize (RO (st4 s b).1 (st4 s b).2) = R4 at *
  rw [aval_of Tryd.func41 body41 Tryd.results41 Tryd.ntmps41 ok41]
  simp (implicitDefEqProofs := false) (maxSteps := 1000000) (disch := first | omega | exact List.length_set) only [go_sem, Nat.reduceAdd, Nat.reduceSub, Nat.reduceMul, Nat.reduceLT, Nat.reduceLeDiff, Nat.reduceEqDiff, List.drop_zero, List.take_succ_cons, List.take_zero, List.drop_succ_cons, Bool.and_true, Bool.true_and, Bool.and_false, Bool.false_and, BitVec.reduceOfInt, Nat.zero_add, Nat.mul_one, Nat.add_zero, Int.zero_add, Int.reduceToNat, Nat.reducePow, ↓reduceIte, reduceCtorEq, Int.reduceLE, Int.reduceLT, Int.reduceEq, Int.reduceNe, Int.reduceAdd, Int.reduceSub, Int.reduceMul, Int.reduceNeg, Nat.reduceBEq, show regOf Tryd.f41 0 = Code.region _ _ _ from rfl, show regOf Tryd.f41 1 = Code.region _ _ _ from rfl, show regOf Tryd.f41 2 = Code.region _ _ _ from rfl, show regOf Tryd.f41 3 = Code.region _ _ _ from rfl, show regOf Tryd.f41 4 = Code.region _ _ _ from rfl, show regOf Tryd.f41 5 = Code.region _ _ _ from rfl, List.append_assoc, List.cons_append, List.nil_append, List.length_append, List.length_cons, List.length_nil, List.length_set, sb_get0, sb_get1, sb_get2, sb_set0, sb_set1, sb_set2, cT, n1, n2, n3, cS, aresults, tupOf, Option.map_some]
  rfl
end
end Go.Proofs.YtfloombnadnmaaaDoor
namespace Go.Proofs.YtfloombnadnmaaaDoor
open Go Go.Ab Go.Proofs
set_option maxRecDepth 100000
set_option linter.unusedSimpArgs false
set_option linter.unusedVariables false
/-- A reader's state behind a pin, if there is one; behind a text, if there is one. -/
def dS (x : Bool) (s : List UInt8 × Bool) : List UInt8 × Bool := if x then st4 s.1 s.2 else s
def dS4 (z : Bool) (s : List UInt8 × Bool) : List UInt8 × Bool := if z then tS s.1 s.2 else s
def dP (x : Bool) (s : List UInt8 × Bool) : List UInt8 := if x then tA s.1 s.2 else []
def dA (nf : BitVec 64 → Int) (x : Bool) (s : List UInt8 × Bool) : Int := if x then nf (pa s.1 s.2) else 0
def dB (nf : BitVec 64 → Int) (x : Bool) (s : List UInt8 × Bool) : Int := if x then nf (pb s.1 s.2) else 0
def dC (nf : BitVec 64 → Int) (x : Bool) (s : List UInt8 × Bool) : Int := if x then nf (pc s.1 s.2) else 0
def d1 (s : List UInt8) : List UInt8 × Bool := uS s false
def d2 (x : Bool) (s : List UInt8) := dS x (d1 s)
def d3 (x y : Bool) (s : List UInt8) := dS y (d2 x s)
def d4 (x y z : Bool) (s : List UInt8) := dS4 z (d3 x y s)
def dM (nf : BitVec 64 → Int) (k : Int) (x y z : Bool) (s : List UInt8) : Cmd :=
  ⟨k, dP x (d1 s), dA nf x (d1 s), dB nf x (d1 s), dC nf x (d1 s), dP y (d2 x s), dA nf y (d2 x s), dB nf y (d2 x s), dC nf y (d2 x s), dP z (d3 x y s)⟩
def decOk (nf : BitVec 64 → Int) (k : Int) (x y z : Bool) (s : List UInt8) : Bool := (!(d4 x y z s).2 && (d4 x y z s).1.isEmpty) && (dM nf k x y z s).right
/-- The command that bytes are. -/
def dec (nf : BitVec 64 → Int) (s : List UInt8) : Option Cmd :=
  let k := nf (uA s false)
  if decOk nf k (pinB k) (decide (k = 6)) (srcB k) s then some (dM nf k (pinB k) (decide (k = 6)) (srcB k) s) else none
abbrev zeroV : AV := .agg [.int 0, .str ⟨#[]⟩, .int 0, .int 0, .int 0, .str ⟨#[]⟩, .int 0, .int 0, .int 0, .str ⟨#[]⟩]
def decV : Option Cmd → AV
  | some m => .tup [cmdV m, .int 0]
  | none => .tup [zeroV, .int 8]
theorem d1_len (s : List UInt8) : (d1 s).1.length ≤ s.length := uS_len s false
theorem dS_len (x : Bool) (s : List UInt8 × Bool) : (dS x s).1.length ≤ s.1.length := by
  unfold dS; split
  · exact st4_len s.1 s.2
  · exact Nat.le_refl _
theorem d2_len (x : Bool) (s : List UInt8) : (d2 x s).1.length ≤ s.length := Nat.le_trans (dS_len _ _) (d1_len s)
theorem d3_len (x y : Bool) (s : List UInt8) : (d3 x y s).1.length ≤ s.length := Nat.le_trans (dS_len _ _) (d2_len x s)
theorem tA_len (s : List UInt8) (b : Bool) : (tA s b).length ≤ s.length := by
  unfold tA; split
  · simp
  · have := uS_len s b; simp; omega
theorem dP_len (x : Bool) (s : List UInt8 × Bool) : (dP x s).length ≤ s.1.length := by
  unfold dP; split
  · exact tA_len _ _
  · simp
theorem dM_small (nf : BitVec 64 → Int) (k : Int) (x y z : Bool) {s : List UInt8} (hs : s.length < 9223372036854775808) : (dM nf k x y z s).small :=
  ⟨Nat.lt_of_le_of_lt (Nat.le_trans (dP_len _ _) (d1_len s)) hs, Nat.lt_of_le_of_lt (Nat.le_trans (dP_len _ _) (d2_len x s)) hs, Nat.lt_of_le_of_lt (Nat.le_trans (dP_len _ _) (d3_len x y s)) hs⟩
theorem right_kind {m : Cmd} (h : m.right = true) : kindB m.k = true := by
  unfold Cmd.right at h
  simp only [Bool.and_eq_true] at h
  exact h.1.1.1.1
theorem dS_f (s : List UInt8 × Bool) : dS false s = s := rfl
theorem dS4_f (s : List UInt8 × Bool) : dS4 false s = s := rfl
theorem dP_f (s : List UInt8 × Bool) : txt (dP false s) = ⟨#[]⟩ := rfl
theorem dA_f (nf : BitVec 64 → Int) (s : List UInt8 × Bool) : dA nf false s = 0 := rfl
theorem dB_f (nf : BitVec 64 → Int) (s : List UInt8 × Bool) : dB nf false s = 0 := rfl
theorem dC_f (nf : BitVec 64 → Int) (s : List UInt8 × Bool) : dC nf false s = 0 := rfl
abbrev RO2 (s : List UInt8 × Bool) : AObj := RO s.1 s.2
set_option maxHeartbeats 16000000 in
theorem decode_p {s : List UInt8} (hs : s.length < 2 ^ 62) : pcall Tryd.prog md fg 15 [.str (txt s)] = some (decV (dec cN s)) := by
  have e : ∃ h, aval Tryd.prog md fg 15 [.str (txt s)] [] = some (decV (dec cN s), h) := by
    have cn : ∀ h : AHeap, doCall md (aval Tryd.prog md fg) 34 [.str (txt s)] h = some (.ptr h.length 0, h ++ [RO s false]) := fun h => doCall_keep (by decide) (by decide) (by decide) (newReader (txt s) h) (by simp [below])
    have c35 : ∀ (A B : AObj), doCall md (aval Tryd.prog md fg) 35 [.agg [.ptr 1 0]] [A, RO s false, B] = some (.int (cN (uA s false)), [A, RO2 (d1 s), B]) := fun A B => rNum (h := [A, RO s false, B]) (id := 1) rfl (by simp) hs
    have l1 := d1_len s
    unfold dec
    dsimp only
    rw [apply_ite decV, ← Bool.cond_eq_ite]
    unfold decOk
    generalize cN (uA s false) = k at *
    have c36 : ∀ (t : List UInt8 × Bool) (A B C D : AObj), t.1.length ≤ s.length → doCall md (aval Tryd.prog md fg) 36 [.agg [.ptr 1 0]] [A, RO2 t, B, C, D] = some (.agg [.str (txt (dP true t)), .int (dA cN true t), .int (dB cN true t), .int (dC cN true t)], [A, RO2 (dS true t), B, C, D]) := fun t A B C D ht => rPin (h := [A, RO2 t, B, C, D]) (id := 1) rfl (by simp) (by omega)
    have c37 : ∀ (t : List UInt8 × Bool) (A B C D : AObj), t.1.length ≤ s.length → doCall md (aval Tryd.prog md fg) 37 [.ptr 1 0] [A, RO2 t, B, C, D] = some (.val (.string (txt (dP true t))), [A, RO2 (dS4 true t), B, C, D]) := fun t A B C D ht => rT_c (h := [A, RO2 t, B, C, D]) (id := 1) rfl (by simp) (by omega)
    have c38 : ∀ (t : List UInt8 × Bool) (A B C D : AObj), doCall md (aval Tryd.prog md fg) 38 [.ptr 1 0] [A, RO2 t, B, C, D] = some (.val (.bool (!t.2 && t.1.isEmpty)), [A, RO2 t, B, C, D]) := fun t A B C D => rDone_c (h := [A, RO2 t, B, C, D]) (id := 1) rfl
    have cp : ∀ h : AHeap, doCall md (aval Tryd.prog md fg) 23 [.int k] h = some (partsV k, h) := fun h => doCall_pure md23 rfl (partsOf_p k)
    unfold partsV at cp
    have cr : ∀ (x y z : Bool) (h : AHeap), doCall md (aval Tryd.prog md fg) 11 [cmdV (dM cN k x y z s)] h = some (.val (.bool (dM cN k x y z s).right), h) := fun x y z h => doCall_pure md11 rfl (cright_p _ (dM_small cN k x y z (by omega)))
    have hk : ∀ x y z, (dM cN k x y z s).right = true → kindB k = true := fun x y z h => right_kind h
    generalize pinB k = x at *
    generalize decide (k = 6) = y at *
    generalize srcB k = z at *
    generalize kindB k = w at *
    have cr := cr x y z
    have hk := hk x y z
    have l2 := d2_len x s
    have l3 := d3_len x y s
    generalize hrg : (dM cN k x y z s).right = rg at *
    clear hrg
    show ∃ h, aval Tryd.prog md fg 15 [.str (txt s)] [] = some (cond ((!(d4 x y z s).2 && (d4 x y z s).1.isEmpty) && rg) (.tup [cmdV (dM cN k x y z s), .int 0]) (.tup [zeroV, .int 8]), h)
    dsimp only [dM, cmdV, d4, d3, d2] at cr l2 l3 ⊢
    generalize hD : (!(dS4 z (dS y (dS x (d1 s)))).2 && (dS4 z (dS y (dS x (d1 s)))).1.isEmpty) = D at *
    rw [aval_of Tryd.func15 body15 Tryd.results15 Tryd.ntmps15 ok15]
    simp (disch := first | omega) only [go_sem, Nat.reduceAdd, Nat.reduceSub, Nat.reduceMul, Nat.reduceLT, Nat.reduceLeDiff, Nat.reduceEqDiff, List.drop_zero, List.take_succ_cons, List.take_zero, List.drop_succ_cons, Bool.and_true, Bool.true_and, Bool.and_false, Bool.false_and, BitVec.reduceOfInt, Nat.zero_add, Nat.mul_one, Nat.add_zero, Int.zero_add, Int.reduceToNat, Nat.reducePow, ↓reduceIte, reduceCtorEq, Int.reduceLE, Int.reduceLT, Int.reduceEq, Int.reduceNe, Int.reduceAdd, Int.reduceSub, Int.reduceMul, Int.reduceNeg, Nat.reduceBEq, show regOf Tryd.f15 0 = Code.region _ _ _ from rfl, show regOf Tryd.f15 1 = Code.region _ _ _ from rfl, show regOf Tryd.f15 2 = Code.region _ _ _ from rfl, show regOf Tryd.f15 3 = Code.region _ _ _ from rfl, cn, c35, cp]
    cases x <;> cases y <;> cases z
    all_goals try simp only [dS_f, dS4_f, dP_f, dA_f, dB_f, dC_f] at cr l2 l3 hD ⊢
    all_goals simp (disch := first | omega) only [go_sem, Nat.reduceAdd, Nat.reduceSub, Nat.reduceMul, Nat.reduceLT, Nat.reduceLeDiff, Nat.reduceEqDiff, List.drop_zero, List.take_succ_cons, List.take_zero, List.drop_succ_cons, Bool.and_true, Bool.true_and, Bool.and_false, Bool.false_and, BitVec.reduceOfInt, Nat.zero_add, Nat.mul_one, Nat.add_zero, Int.zero_add, Int.reduceToNat, Nat.reducePow, ↓reduceIte, reduceCtorEq, Int.reduceLE, Int.reduceLT, Int.reduceEq, Int.reduceNe, Int.reduceAdd, Int.reduceSub, Int.reduceMul, Int.reduceNeg, Nat.reduceBEq, show regOf Tryd.f15 4 = Code.region _ _ _ from rfl, show regOf Tryd.f15 5 = Code.region _ _ _ from rfl, show regOf Tryd.f15 6 = Code.region _ _ _ from rfl, show regOf Tryd.f15 7 = Code.region _ _ _ from rfl, show regOf Tryd.f15 8 = Code.region _ _ _ from rfl, show regOf Tryd.f15 9 = Code.region _ _ _ from rfl, c36, c37, c38]
    all_goals cases w <;> cases D <;> cases rg
    all_goals first | (exact absurd (hk rfl) (by decide)) | (simp (disch := first | omega) only [go_sem, Nat.reduceAdd, Nat.reduceSub, Nat.reduceMul, Nat.reduceLT, Nat.reduceLeDiff, Nat.reduceEqDiff, List.drop_zero, List.take_succ_cons, List.take_zero, List.drop_succ_cons, Bool.and_true, Bool.true_and, Bool.and_false, Bool.false_and, BitVec.reduceOfInt, Nat.zero_add, Nat.mul_one, Nat.add_zero, Int.zero_add, Int.reduceToNat, Nat.reducePow, ↓reduceIte, reduceCtorEq, Int.reduceLE, Int.reduceLT, Int.reduceEq, Int.reduceNe, Int.reduceAdd, Int.reduceSub, Int.reduceMul, Int.reduceNeg, Nat.reduceBEq, show regOf Tryd.f15 10 = Code.region _ _ _ from rfl, show regOf Tryd.f15 11 = Code.region _ _ _ from rfl, show regOf Tryd.f15 12 = Code.region _ _ _ from rfl, cr, hD, c38, aresults, tupOf, Option.map_some]; exact ⟨_, rfl⟩)
  obtain ⟨h, e⟩ := e
  rw [pcall_eq, e]
  cases dec cN s <;> exact pureRes_solid rfl
end Go.Proofs.YtfloombnadnmaaaDoor
namespace Go.Proofs.YtfloombnadnmaaaDoor
open Go Go.Ab Go.Proofs
set_option maxRecDepth 100000
set_option linter.unusedSimpArgs false
set_option linter.unusedVariables false
set_option maxHeartbeats 16000000 in
theorem rdecode_p {s : List UInt8} (hs : s.length < 2 ^ 62) : pcall Tryd.prog md fg 16 [.str (txt s)] = some (decV (dec sN s)) := by
  have e : ∃ h, aval Tryd.prog md fg 16 [.str (txt s)] [] = some (decV (dec sN s), h) := by
    have c40 : ∀ (A : AObj), doCall md (aval Tryd.prog md fg) 40 [.ptr 1 0] [A, RO s false] = some (v64 (uA s false), [A, RO2 (d1 s)]) := fun A => qU_c (h := [A, RO s false]) (id := 1) rfl (by simp) hs
    have c39 : ∀ (g : AHeap), doCall md (aval Tryd.prog md fg) 39 [v64 (uA s false)] g = some (.int (sN (uA s false)), g) := fun g => doCall_pure md39 rfl (small_p _)
    have l1 := d1_len s
    unfold dec
    dsimp only
    rw [apply_ite decV, ← Bool.cond_eq_ite]
    unfold decOk
    generalize sN (uA s false) = k at *
    have c41 : ∀ (t : List UInt8 × Bool) (A B : AObj), t.1.length ≤ s.length → doCall md (aval Tryd.prog md fg) 41 [.ptr 1 0] [A, RO2 t, B] = some (.agg [.str (txt (dP true t)), .int (dA sN true t), .int (dB sN true t), .int (dC sN true t)], [A, RO2 (dS true t), B]) := fun t A B ht => qRead (h := [A, RO2 t, B]) (id := 1) rfl (by simp) (by omega)
    have c42 : ∀ (t : List UInt8 × Bool) (A B : AObj), t.1.length ≤ s.length → doCall md (aval Tryd.prog md fg) 42 [.ptr 1 0] [A, RO2 t, B] = some (.val (.string (txt (dP true t))), [A, RO2 (dS4 true t), B]) := fun t A B ht => qT_c (h := [A, RO2 t, B]) (id := 1) rfl (by simp) (by omega)
    have c28 : ∀ h : AHeap, doCall md (aval Tryd.prog md fg) 28 [.int k] h = some (.val (.bool (pinB k)), h) := fun h => doCall_pure md28 rfl (hasPin_p k)
    have c30 : ∀ h : AHeap, doCall md (aval Tryd.prog md fg) 30 [.int k] h = some (.val (.bool (srcB k)), h) := fun h => doCall_pure md30 rfl (hasSource_p k)
    have cr : ∀ (x y z : Bool) (h : AHeap), doCall md (aval Tryd.prog md fg) 12 [cmdV (dM sN k x y z s)] h = some (.val (.bool (dM sN k x y z s).right), h) := fun x y z h => doCall_pure md12 rfl (rright2_p _ (dM_small sN k x y z (by omega)))
    have hk6 : (k == 6) = decide (k = 6) := rfl
    generalize pinB k = x at *
    generalize decide (k = 6) = y at *
    generalize srcB k = z at *
    have cr := cr x y z
    have l2 := d2_len x s
    have l3 := d3_len x y s
    generalize hrg : (dM sN k x y z s).right = rg at *
    clear hrg
    show ∃ h, aval Tryd.prog md fg 16 [.str (txt s)] [] = some (cond ((!(d4 x y z s).2 && (d4 x y z s).1.isEmpty) && rg) (.tup [cmdV (dM sN k x y z s), .int 0]) (.tup [zeroV, .int 8]), h)
    dsimp only [dM, cmdV, d4, d3, d2] at cr l2 l3 ⊢
    generalize hT : dS4 z (dS y (dS x (d1 s))) = T at *
    rw [aval_of Tryd.func16 body16 Tryd.results16 Tryd.ntmps16 ok16]
    simp (disch := first | omega) only [go_sem, Nat.reduceAdd, Nat.reduceSub, Nat.reduceMul, Nat.reduceLT, Nat.reduceLeDiff, Nat.reduceEqDiff, List.drop_zero, List.take_succ_cons, List.take_zero, List.drop_succ_cons, Bool.and_true, Bool.true_and, Bool.and_false, Bool.false_and, BitVec.reduceOfInt, Nat.zero_add, Nat.mul_one, Nat.add_zero, Int.zero_add, Int.reduceToNat, Nat.reducePow, ↓reduceIte, reduceCtorEq, Int.reduceLE, Int.reduceLT, Int.reduceEq, Int.reduceNe, Int.reduceAdd, Int.reduceSub, Int.reduceMul, Int.reduceNeg, Nat.reduceBEq, show regOf Tryd.f16 0 = Code.region _ _ _ from rfl, show regOf Tryd.f16 1 = Code.region _ _ _ from rfl, show regOf Tryd.f16 2 = Code.region _ _ _ from rfl, c40, c39]
    cases x <;> cases y <;> cases z
    all_goals try simp only [dS_f, dS4_f, dP_f, dA_f, dB_f, dC_f] at cr l2 l3 hT ⊢
    all_goals simp (disch := first | omega) only [go_sem, Nat.reduceAdd, Nat.reduceSub, Nat.reduceMul, Nat.reduceLT, Nat.reduceLeDiff, Nat.reduceEqDiff, List.drop_zero, List.take_succ_cons, List.take_zero, List.drop_succ_cons, Bool.and_true, Bool.true_and, Bool.and_false, Bool.false_and, BitVec.reduceOfInt, Nat.zero_add, Nat.mul_one, Nat.add_zero, Int.zero_add, Int.reduceToNat, Nat.reducePow, ↓reduceIte, reduceCtorEq, Int.reduceLE, Int.reduceLT, Int.reduceEq, Int.reduceNe, Int.reduceAdd, Int.reduceSub, Int.reduceMul, Int.reduceNeg, Nat.reduceBEq, show regOf Tryd.f16 3 = Code.region _ _ _ from rfl, show regOf Tryd.f16 4 = Code.region _ _ _ from rfl, show regOf Tryd.f16 5 = Code.region _ _ _ from rfl, show regOf Tryd.f16 6 = Code.region _ _ _ from rfl, show regOf Tryd.f16 7 = Code.region _ _ _ from rfl, show regOf Tryd.f16 8 = Code.region _ _ _ from rfl, c41, c42, c28, c30, hk6]
    all_goals simp only [hT]
    all_goals obtain ⟨u, bb⟩ := T
    all_goals dsimp only [RO2, RO]
    all_goals have hu := txt_eq_nil u
    all_goals cases bb <;> cases u <;> cases rg
    all_goals simp only [reduceCtorEq] at hu
    all_goals simp (disch := first | omega) only [go_sem, Nat.reduceAdd, Nat.reduceSub, Nat.reduceMul, Nat.reduceLT, Nat.reduceLeDiff, Nat.reduceEqDiff, List.drop_zero, List.take_succ_cons, List.take_zero, List.drop_succ_cons, Bool.and_true, Bool.true_and, Bool.and_false, Bool.false_and, BitVec.reduceOfInt, Nat.zero_add, Nat.mul_one, Nat.add_zero, Int.zero_add, Int.reduceToNat, Nat.reducePow, ↓reduceIte, reduceCtorEq, Int.reduceLE, Int.reduceLT, Int.reduceEq, Int.reduceNe, Int.reduceAdd, Int.reduceSub, Int.reduceMul, Int.reduceNeg, Nat.reduceBEq, show regOf Tryd.f16 9 = Code.region _ _ _ from rfl, show regOf Tryd.f16 10 = Code.region _ _ _ from rfl, show regOf Tryd.f16 11 = Code.region _ _ _ from rfl, cr, hu, aresults, tupOf, Option.map_some]
    all_goals exact ⟨_, rfl⟩
  obtain ⟨h, e⟩ := e
  rw [pcall_eq, e]
  cases dec sN s <;> exact pureRes_solid rfl
end Go.Proofs.YtfloombnadnmaaaDoor
namespace Go.Proofs.YtfloombnadnmaaaDoor
open Go Go.Ab Go.Proofs
set_option maxRecDepth 100000
set_option linter.unusedSimpArgs false
set_option linter.unusedVariables false
theorem cN_eq {x : BitVec 64} (h : x.toNat ≤ 999999) : cN x = (x.toNat : Int) := by unfold cN; rw [Int.min_eq_left (by omega)]
theorem sN_eq {x : BitVec 64} (h : x.toNat ≤ 999999) : sN x = (x.toNat : Int) := by unfold sN; rw [Int.min_eq_left (by omega)]
theorem cN_big {x : BitVec 64} (h : ¬ x.toNat ≤ 999999) : 999999 < cN x := by unfold cN; rw [Int.min_def]; split <;> omega
theorem sN_big {x : BitVec 64} (h : ¬ x.toNat ≤ 999999) : 999999 < sN x := by unfold sN; rw [Int.min_def]; split <;> omega
theorem cN_le {x : BitVec 64} (h : cN x ≤ 999999) : x.toNat ≤ 999999 := Decidable.byContradiction fun hn => by have := cN_big hn; omega
theorem num_cN {x : BitVec 64} (h : cN x ≤ 999999) : num (cN x) = uvarN x.toNat := by
  unfold num; rw [cN_eq (cN_le h)]; rfl
theorem st4_ok {s : List UInt8} {b : Bool} (h : (st4 s b).2 = false) : b = false ∧ textL (tA s b) ++ (uvarN (pa s b).toNat ++ (uvarN (pb s b).toNat ++ (uvarN (pc s b).toNat ++ (st4 s b).1))) = s := by
  obtain ⟨h3, e3⟩ := uS_ok (s := (st3 s b).1) (b := (st3 s b).2) h
  obtain ⟨h2, e2⟩ := uS_ok (s := (st2 s b).1) (b := (st2 s b).2) h3
  obtain ⟨h1, e1⟩ := uS_ok (s := (st1 s b).1) (b := (st1 s b).2) h2
  obtain ⟨h0, e0⟩ := tS_ok (s := s) (b := b) h1
  refine ⟨h0, ?_⟩
  show textL (tA s b) ++ (uvarN (uA (st1 s b).1 (st1 s b).2).toNat ++ (uvarN (uA (st2 s b).1 (st2 s b).2).toNat ++ (uvarN (uA (st3 s b).1 (st3 s b).2).toNat ++ (uS (st3 s b).1 (st3 s b).2).1))) = s
  rw [e3]
  show textL (tA s b) ++ (uvarN (uA (st1 s b).1 (st1 s b).2).toNat ++ (uvarN (uA (st2 s b).1 (st2 s b).2).toNat ++ (uS (st2 s b).1 (st2 s b).2).1)) = s
  rw [e2]
  show textL (tA s b) ++ (uvarN (uA (st1 s b).1 (st1 s b).2).toNat ++ (uS (st1 s b).1 (st1 s b).2).1) = s
  rw [e1]
  exact e0
theorem dS4_ok {z : Bool} {t : List UInt8 × Bool} (h : (dS4 z t).2 = false) : t.2 = false ∧ (if z then textL (dP z t) else []) ++ (dS4 z t).1 = t.1 := by
  cases z with
  | false => exact ⟨h, rfl⟩
  | true => exact tS_ok h
theorem dS_ok {x : Bool} {t : List UInt8 × Bool} (h : (dS x t).2 = false) (hf : x = true → Fits (dP x t) (dA cN x t) (dB cN x t) (dC cN x t)) : t.2 = false ∧ (if x then pinL (dP x t) (dA cN x t) (dB cN x t) (dC cN x t) else []) ++ (dS x t).1 = t.1 := by
  cases x with
  | false => exact ⟨h, rfl⟩
  | true =>
    obtain ⟨h0, e0⟩ := st4_ok (s := t.1) (b := t.2) h
    refine ⟨h0, ?_⟩
    obtain ⟨_, f2, f3, f4⟩ := hf rfl
    show (textL (tA t.1 t.2) ++ (num (cN (pa t.1 t.2)) ++ (num (cN (pb t.1 t.2)) ++ num (cN (pc t.1 t.2))))) ++ (st4 t.1 t.2).1 = t.1
    rw [num_cN f2.2, num_cN f3.2, num_cN f4.2]
    simpa only [List.append_assoc] using e0
theorem decOk_parts {nf : BitVec 64 → Int} {k : Int} {x y z : Bool} {s : List UInt8} (h : decOk nf k x y z s = true) : (d4 x y z s).2 = false ∧ (d4 x y z s).1 = [] ∧ (dM nf k x y z s).right = true := by
  unfold decOk at h
  simp only [Bool.and_eq_true, Bool.not_eq_true', List.isEmpty_iff] at h
  exact ⟨h.1.1, h.1.2, h.2⟩
/-- What is decoded has these bytes. -/
theorem dec_enc {s : List UInt8} {m : Cmd} (h : dec cN s = some m) : m.right = true ∧ encL m = s := by
  unfold dec at h
  dsimp only at h
  by_cases hd : decOk cN (cN (uA s false)) (pinB (cN (uA s false))) (decide (cN (uA s false) = 6)) (srcB (cN (uA s false))) s = true
  · rw [if_pos hd] at h
    cases h
    obtain ⟨h1, h2, h3⟩ := decOk_parts hd
    refine ⟨h3, ?_⟩
    have hr := h3
    unfold Cmd.right at hr
    simp only [Bool.and_eq_true, decide_eq_true_eq] at hr
    obtain ⟨⟨⟨⟨r1, r2⟩, r3⟩, r4⟩, r5⟩ := hr
    have hk : kindB (cN (uA s false)) = true := r1
    have k10 : cN (uA s false) ≤ 999999 := by unfold kindB at hk; simp only [decide_eq_true_eq] at hk; omega
    obtain ⟨o3, e3⟩ := dS4_ok h1
    obtain ⟨o2, e2⟩ := dS_ok o3 (fun hx => fits_cpin r3 hx)
    obtain ⟨o1, e1⟩ := dS_ok o2 (fun hx => fits_cpin r2 hx)
    obtain ⟨_, e0⟩ := uS_ok o1
    unfold encL
    show num (cN (uA s false)) ++ ((if pinB (cN (uA s false)) then pinL (dP _ (d1 s)) (dA cN _ (d1 s)) (dB cN _ (d1 s)) (dC cN _ (d1 s)) else []) ++ ((if decide (cN (uA s false) = 6) then pinL (dP _ (d2 _ s)) (dA cN _ (d2 _ s)) (dB cN _ (d2 _ s)) (dC cN _ (d2 _ s)) else []) ++ (if srcB (cN (uA s false)) then textL (dP _ (d3 _ _ s)) else []))) = s
    rw [num_cN k10]
    have e3' := e3
    unfold d4 at h2
    rw [h2, List.append_nil] at e3'
    rw [e3']
    unfold d3
    rw [e2]
    unfold d2
    rw [e1]
    exact e0
  · rw [if_neg hd] at h; cases h
theorem inB_nf (x : BitVec 64) : inB (cN x) = inB (sN x) := by
  by_cases h : x.toNat ≤ 999999
  · rw [cN_eq h, sN_eq h]
  · have h1 := cN_big h
    have h2 := sN_big h
    unfold inB
    rw [decide_eq_false (by omega), decide_eq_false (by omega)]
theorem nf_of_inB {x : BitVec 64} (h : inB (cN x) = true) : cN x = sN x := by
  unfold inB at h
  simp only [decide_eq_true_eq] at h
  rw [cN_eq (cN_le h.2), sN_eq (cN_le h.2)]
theorem cpin_nf (x u : Bool) (t : List UInt8 × Bool) : cpinB (dP x t) (dA cN x t) (dB cN x t) (dC cN x t) x u = cpinB (dP x t) (dA sN x t) (dB sN x t) (dC sN x t) x u := by
  cases x with
  | false => rfl
  | true =>
    unfold cpinB dA dB dC
    simp only [if_true]
    by_cases hv : verB (cN (pa t.1 t.2)) (cN (pb t.1 t.2)) (cN (pc t.1 t.2)) = true
    · have hv' := hv
      unfold verB at hv'
      simp only [Bool.and_eq_true] at hv'
      rw [nf_of_inB hv'.1.1, nf_of_inB hv'.1.2, nf_of_inB hv'.2]
    · have hv2 : ¬ verB (sN (pa t.1 t.2)) (sN (pb t.1 t.2)) (sN (pc t.1 t.2)) = true := by
        unfold verB at hv ⊢
        rw [← inB_nf, ← inB_nf, ← inB_nf]; exact hv
      simp only [Bool.not_eq_true] at hv hv2
      rw [hv, hv2]; simp
theorem dABC_nf {x u : Bool} {t : List UInt8 × Bool} (h : cpinB (dP x t) (dA cN x t) (dB cN x t) (dC cN x t) x u = true) : dA cN x t = dA sN x t ∧ dB cN x t = dB sN x t ∧ dC cN x t = dC sN x t := by
  cases x with
  | false => exact ⟨rfl, rfl, rfl⟩
  | true =>
    obtain ⟨_, f2, f3, f4⟩ := fits_cpin h rfl
    have g2 : cN (pa t.1 t.2) ≤ 999999 := f2.2
    have g3 : cN (pb t.1 t.2) ≤ 999999 := f3.2
    have g4 : cN (pc t.1 t.2) ≤ 999999 := f4.2
    refine ⟨?_, ?_, ?_⟩
    · show cN (pa t.1 t.2) = sN (pa t.1 t.2); rw [cN_eq (cN_le g2), sN_eq (cN_le g2)]
    · show cN (pb t.1 t.2) = sN (pb t.1 t.2); rw [cN_eq (cN_le g3), sN_eq (cN_le g3)]
    · show cN (pc t.1 t.2) = sN (pc t.1 t.2); rw [cN_eq (cN_le g4), sN_eq (cN_le g4)]
theorem dM_right_nf (k : Int) (s : List UInt8) : (dM cN k (pinB k) (decide (k = 6)) (srcB k) s).right = (dM sN k (pinB k) (decide (k = 6)) (srcB k) s).right := by
  unfold Cmd.right dM
  dsimp only
  rw [cpin_nf, cpin_nf]
theorem dM_nf {k : Int} {s : List UInt8} (h : (dM cN k (pinB k) (decide (k = 6)) (srcB k) s).right = true) : dM cN k (pinB k) (decide (k = 6)) (srcB k) s = dM sN k (pinB k) (decide (k = 6)) (srcB k) s := by
  unfold Cmd.right dM at h
  dsimp only at h
  simp only [Bool.and_eq_true, decide_eq_true_eq] at h
  obtain ⟨⟨⟨⟨r1, r2⟩, r3⟩, r4⟩, r5⟩ := h
  obtain ⟨a1, a2, a3⟩ := dABC_nf r2
  obtain ⟨b1, b2, b3⟩ := dABC_nf r3
  unfold dM
  rw [a1, a2, a3, b1, b2, b3]
/-- Both read the same. -/
theorem dec_same (s : List UInt8) : dec cN s = dec sN s := by
  unfold dec
  dsimp only
  by_cases h : (uA s false).toNat ≤ 999999
  · rw [cN_eq h, sN_eq h]
    generalize ((uA s false).toNat : Int) = k
    have e := dM_right_nf k s
    have e2 : decOk cN k (pinB k) (decide (k = 6)) (srcB k) s = decOk sN k (pinB k) (decide (k = 6)) (srcB k) s := by unfold decOk; rw [e]
    rw [← e2]
    by_cases hd : decOk cN k (pinB k) (decide (k = 6)) (srcB k) s = true
    · rw [if_pos hd, if_pos hd, dM_nf (decOk_parts hd).2.2]
    · rw [if_neg hd, if_neg hd]
  · have b1 := cN_big h
    have b2 := sN_big h
    have no : ∀ (nf : BitVec 64 → Int) (k : Int) (x y z : Bool), 999999 < k → ¬ decOk nf k x y z s = true := fun nf k x y z hk hd => by
      have := right_kind (decOk_parts hd).2.2
      unfold kindB at this
      simp only [decide_eq_true_eq] at this
      have e : (dM nf k x y z s).k = k := rfl
      omega
    rw [if_neg (no _ _ _ _ _ b1), if_neg (no _ _ _ _ _ b2)]
/-! ### Back -/
theorem n_back {n : Int} (h0 : 0 ≤ n) (h1 : n ≤ 999999) (r : List UInt8) : cN (uA (num n ++ r) false) = n ∧ uS (num n ++ r) false = (r, false) := by
  have e : num n = uvarN (bv n).toNat := by unfold num; rw [bv_nat h0 (by omega)]
  obtain ⟨a, b⟩ := u_back (bv n) r
  rw [e]
  refine ⟨?_, b⟩
  rw [a, cN_eq (by rw [bv_nat h0 (by omega)]; omega), bv_int h0 (by omega)]
theorem pin_back {p : List UInt8} {a b c : Int} (hf : Fits p a b c) (r : List UInt8) : dS true (pinL p a b c ++ r, false) = (r, false) ∧ dP true (pinL p a b c ++ r, false) = p ∧ dA cN true (pinL p a b c ++ r, false) = a ∧ dB cN true (pinL p a b c ++ r, false) = b ∧ dC cN true (pinL p a b c ++ r, false) = c := by
  obtain ⟨f1, f2, f3, f4⟩ := hf
  have e : pinL p a b c ++ r = textL p ++ (num a ++ (num b ++ (num c ++ r))) := by unfold pinL; simp only [List.append_assoc]
  rw [e]
  obtain ⟨t1, t2⟩ := t_back p (num a ++ (num b ++ (num c ++ r))) (by omega)
  obtain ⟨a1, a2⟩ := n_back f2.1 f2.2 (num b ++ (num c ++ r))
  obtain ⟨b1, b2⟩ := n_back f3.1 f3.2 (num c ++ r)
  obtain ⟨c1, c2⟩ := n_back f4.1 f4.2 r
  unfold dS dP dA dB dC pa pb pc st4 st3 st2 st1
  simp only [if_true, t1, t2, a1, a2, b1, b2, c1, c2, and_self]
theorem pin_backIf {x u : Bool} {p : List UInt8} {a b c : Int} (h : cpinB p a b c x u = true) (r : List UInt8) : dS x ((if x then pinL p a b c else []) ++ r, false) = (r, false) ∧ dP x ((if x then pinL p a b c else []) ++ r, false) = p ∧ dA cN x ((if x then pinL p a b c else []) ++ r, false) = a ∧ dB cN x ((if x then pinL p a b c else []) ++ r, false) = b ∧ dC cN x ((if x then pinL p a b c else []) ++ r, false) = c := by
  cases x with
  | true => exact pin_back (fits_cpin h rfl) r
  | false =>
    unfold cpinB pinZ verZ at h
    simp only [Bool.false_eq_true, if_false, Bool.and_eq_true, decide_eq_true_eq] at h
    obtain ⟨rfl, rfl, rfl, rfl⟩ := h
    exact ⟨rfl, rfl, rfl, rfl, rfl⟩
theorem dec_back {m : Cmd} (h : m.right = true) : dec cN (encL m) = some m := by
  obtain ⟨k, p, a, b, c, o, d, e, f, s⟩ := m
  have hr := h
  unfold Cmd.right at hr
  dsimp only at hr
  simp only [Bool.and_eq_true, decide_eq_true_eq] at hr
  obtain ⟨⟨⟨⟨r1, r2⟩, r3⟩, r4⟩, r5⟩ := hr
  have hk : 1 ≤ k ∧ k ≤ 10 := by unfold kindB at r1; simpa only [decide_eq_true_eq] using r1
  obtain ⟨n1, n2⟩ := n_back (n := k) (by omega) (by omega) ((if pinB k then pinL p a b c else []) ++ ((if decide (k = 6) then pinL o d e f else []) ++ (if srcB k then textL s else [])))
  obtain ⟨p1, p2, p3, p4, p5⟩ := pin_backIf r2 ((if decide (k = 6) then pinL o d e f else []) ++ (if srcB k then textL s else []))
  obtain ⟨q1, q2, q3, q4, q5⟩ := pin_backIf r3 (if srcB k then textL s else [])
  obtain ⟨z1, z2⟩ : dS4 (srcB k) (if srcB k then textL s else [], false) = ([], false) ∧ dP (srcB k) (if srcB k then textL s else [], false) = s := by
    cases hz : srcB k with
    | false =>
      rw [hz] at r5
      have r6 : s = [] := by simpa using r5
      subst r6; exact ⟨rfl, rfl⟩
    | true =>
      obtain ⟨t1, t2⟩ := t_back s [] (by omega)
      rw [List.append_nil] at t1 t2
      exact ⟨t2, t1⟩
  unfold dec
  dsimp only
  show (if decOk cN (cN (uA (num k ++ _) false)) _ _ _ _ = true then _ else none) = _
  unfold encL
  dsimp only
  rw [n1]
  have em : dM cN k (pinB k) (decide (k = 6)) (srcB k) (num k ++ ((if pinB k then pinL p a b c else []) ++ ((if decide (k = 6) then pinL o d e f else []) ++ (if srcB k then textL s else [])))) = ⟨k, p, a, b, c, o, d, e, f, s⟩ := by
    unfold dM d3 d2 d1
    rw [n2, p1, p2, p3, p4, p5, q1, q2, q3, q4, q5, z2]
  have ed : d4 (pinB k) (decide (k = 6)) (srcB k) (num k ++ ((if pinB k then pinL p a b c else []) ++ ((if decide (k = 6) then pinL o d e f else []) ++ (if srcB k then textL s else [])))) = ([], false) := by
    unfold d4 d3 d2 d1
    rw [n2, p1, q1, z1]
  unfold decOk
  rw [em, ed, h]
  rfl
end Go.Proofs.YtfloombnadnmaaaDoor
namespace Go.Proofs.YtfloombnadnmaaaDoor
open Go Go.Ab Go.Proofs
set_option maxRecDepth 100000
set_option linter.unusedSimpArgs false
set_option linter.unusedVariables false
theorem alive_p : pcall Tryd.prog md fg 7 [] = some (.bool true) := pcall_strue okKnown 200 (by decide +kernel)
theorem no_p (n : Int) : pcall Tryd.prog md fg 10 [.int n] = some (.int n) := by
  have e : aval Tryd.prog md fg 10 [.int n] [] = some (.int n, []) := by
    rw [aval_of Tryd.func10 body10 Tryd.results10 Tryd.ntmps10 ok10]
    simp (implicitDefEqProofs := false) (disch := omega) only [go_sem, Nat.reduceAdd, Nat.reduceSub, Nat.reduceMul, Nat.reduceLT, Nat.reduceLeDiff, Nat.reduceEqDiff, List.drop_zero, List.take_succ_cons, List.take_zero, List.drop_succ_cons, Bool.and_true, Bool.true_and, Bool.and_false, Bool.false_and, BitVec.reduceOfInt, Nat.zero_add, Nat.mul_one, Nat.add_zero, Int.zero_add, Int.reduceToNat, Nat.reducePow, ↓reduceIte, reduceCtorEq, Int.reduceLE, Int.reduceLT, Int.reduceEq, Int.reduceNe, Int.reduceAdd, Int.reduceSub, Int.reduceMul, Int.reduceNeg, Nat.reduceBEq, show regOf Tryd.f10 0 = Code.region _ _ _ from rfl, show regOf Tryd.f10 1 = Code.region _ _ _ from rfl]
  rw [pcall_eq, e, pureRes_solid rfl]
end Go.Proofs.YtfloombnadnmaaaDoor
