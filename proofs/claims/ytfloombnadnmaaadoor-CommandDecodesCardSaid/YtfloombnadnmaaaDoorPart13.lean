/- Parts of the proof, each with its own heading: CommandDecodes and CommandEncodes are true of every input. A row that lists variables: the given statement out of what the abstract machine answers. What the laws of touchstonelaw23 share: closed facts of the program, and arguments of its types as abstract values. -/
import Derived.Test.YtfloombnadnmaaaDoorPart12
import Derived.LaidMore
import Derived.Lay
import Derived.Test.YtfloombnadnmaaaDoorRows
namespace Go.Proofs.YtfloombnadnmaaaDoor
open Go Go.Ab Go.Proofs
set_option maxRecDepth 100000
set_option linter.unusedSimpArgs false
set_option linter.unusedVariables false
theorem eq27 (k a b c d e f k' a' b' c' d' e' f' : Int) (p o s p' o' s' : ByteArray) : aeqS Tryd.prog 27 (.agg [.int k, .str p, .int a, .int b, .int c, .str o, .int d, .int e, .int f, .str s]) (.agg [.int k', .str p', .int a', .int b', .int c', .str o', .int d', .int e', .int f', .str s']) = some ((k == k') && (((p.data.toList == p'.data.toList) && (((a == a') && ((b == b') && ((c == c') && true))) && true)) && (((o.data.toList == o'.data.toList) && (((d == d') && ((e == e') && ((f == f') && true))) && true)) && ((s.data.toList == s'.data.toList) && true)))) := by kernel_rfl
theorem eq27s (k a b c d e f : Int) (p o s : ByteArray) : aeqS Tryd.prog 27 (.agg [.int k, .str p, .int a, .int b, .int c, .str o, .int d, .int e, .int f, .str s]) (.agg [.int k, .str p, .int a, .int b, .int c, .str o, .int d, .int e, .int f, .str s]) = some true := by
  rw [eq27]; simp
theorem dec_small {nf : BitVec 64 → Int} {s : List UInt8} {m : Cmd} (hs : s.length < 9223372036854775808) (h : dec nf s = some m) : m.small := by
  unfold dec at h
  dsimp only at h
  split at h
  · cases h; exact dM_small _ _ _ _ _ hs
  · cases h
theorem alive_c (h : AHeap) : doCall md (aval Tryd.prog md fg) 7 [] h = some (.val (.bool true), h) := doCall_pure md7 rfl alive_p
theorem no_c (n : Int) (h : AHeap) : doCall md (aval Tryd.prog md fg) 10 [.int n] h = some (.int n, h) := doCall_pure md10 rfl (no_p n)
set_option maxHeartbeats 8000000 in
theorem commandDecodes (s : ByteArray) : pcall Tryd.prog md fg 4 [.str s] = some (.bool true) := by
  obtain ⟨S, rfl⟩ := txt_of s
  have hz := txt_size S
  have e : ∃ h, aval Tryd.prog md fg 4 [.str (txt S)] [] = some (.bool true, h) := by
    by_cases h1 : S.length ≤ 4000
    · have c15 : ∀ h : AHeap, doCall md (aval Tryd.prog md fg) 15 [.str (txt S)] h = some (decV (dec sN S), h) := fun h => doCall_pure md15 rfl (by rw [← dec_same]; exact decode_p (by omega))
      have c16 : ∀ h : AHeap, doCall md (aval Tryd.prog md fg) 16 [.str (txt S)] h = some (decV (dec sN S), h) := fun h => doCall_pure md16 rfl (rdecode_p (by omega))
      cases hd : dec sN S with
      | none =>
        rw [hd] at c15 c16
        simp only [decV] at c15 c16
        rw [aval_of Tryd.func4 body4 Tryd.results4 Tryd.ntmps4 ok4]
        simp (implicitDefEqProofs := false) (disch := omega) only [go_sem, Nat.reduceAdd, Nat.reduceSub, Nat.reduceMul, Nat.reduceLT, Nat.reduceLeDiff, Nat.reduceEqDiff, List.drop_zero, List.take_succ_cons, List.take_zero, List.drop_succ_cons, Bool.and_true, Bool.true_and, Bool.and_false, Bool.false_and, BitVec.reduceOfInt, Nat.zero_add, Nat.mul_one, Nat.add_zero, Int.zero_add, Int.reduceToNat, Nat.reducePow, ↓reduceIte, reduceCtorEq, Int.reduceLE, Int.reduceLT, Int.reduceEq, Int.reduceNe, Int.reduceAdd, Int.reduceSub, Int.reduceMul, Int.reduceNeg, Nat.reduceBEq, show regOf Tryd.f4 0 = Code.region _ _ _ from rfl, show regOf Tryd.f4 1 = Code.region _ _ _ from rfl, show regOf Tryd.f4 2 = Code.region _ _ _ from rfl, show regOf Tryd.f4 3 = Code.region _ _ _ from rfl, show regOf Tryd.f4 4 = Code.region _ _ _ from rfl, show regOf Tryd.f4 5 = Code.region _ _ _ from rfl, show regOf Tryd.f4 6 = Code.region _ _ _ from rfl, show regOf Tryd.f4 7 = Code.region _ _ _ from rfl, show regOf Tryd.f4 8 = Code.region _ _ _ from rfl, show regOf Tryd.f4 9 = Code.region _ _ _ from rfl, show regOf Tryd.f4 10 = Code.region _ _ _ from rfl, c15, c16, no_c, alive_c, abin_agg, eq27s, bind_some, aeqb_neq, Bool.not_true]
        exact ⟨_, rfl⟩
      | some m =>
        have hm := dec_small (by omega) hd
        rw [← dec_same] at hd
        obtain ⟨hr, he⟩ := dec_enc hd
        have c8 : ∀ h : AHeap, doCall md (aval Tryd.prog md fg) 8 [cmdV m] h = some (.tup [.val (.string (txt S)), .int 0], h) := fun h => doCall_pure md8 rfl (by rw [encode_p m hm, hr, he]; rfl)
        rw [← dec_same, hd] at c15 c16
        simp only [decV] at c15 c16
        obtain ⟨k, p, a, b, c, o, d, e, f, s⟩ := m
        rw [aval_of Tryd.func4 body4 Tryd.results4 Tryd.ntmps4 ok4]
        simp (implicitDefEqProofs := false) (disch := omega) only [go_sem, Nat.reduceAdd, Nat.reduceSub, Nat.reduceMul, Nat.reduceLT, Nat.reduceLeDiff, Nat.reduceEqDiff, List.drop_zero, List.take_succ_cons, List.take_zero, List.drop_succ_cons, Bool.and_true, Bool.true_and, Bool.and_false, Bool.false_and, BitVec.reduceOfInt, Nat.zero_add, Nat.mul_one, Nat.add_zero, Int.zero_add, Int.reduceToNat, Nat.reducePow, ↓reduceIte, reduceCtorEq, Int.reduceLE, Int.reduceLT, Int.reduceEq, Int.reduceNe, Int.reduceAdd, Int.reduceSub, Int.reduceMul, Int.reduceNeg, Nat.reduceBEq, show regOf Tryd.f4 0 = Code.region _ _ _ from rfl, show regOf Tryd.f4 1 = Code.region _ _ _ from rfl, show regOf Tryd.f4 2 = Code.region _ _ _ from rfl, show regOf Tryd.f4 3 = Code.region _ _ _ from rfl, show regOf Tryd.f4 4 = Code.region _ _ _ from rfl, show regOf Tryd.f4 5 = Code.region _ _ _ from rfl, show regOf Tryd.f4 6 = Code.region _ _ _ from rfl, show regOf Tryd.f4 7 = Code.region _ _ _ from rfl, show regOf Tryd.f4 8 = Code.region _ _ _ from rfl, show regOf Tryd.f4 9 = Code.region _ _ _ from rfl, show regOf Tryd.f4 10 = Code.region _ _ _ from rfl, c15, c16, c8, no_c, alive_c, abin_agg, eq27s, bind_some, aeqb_neq, Bool.not_true]
        exact ⟨_, rfl⟩
    · rw [aval_of Tryd.func4 body4 Tryd.results4 Tryd.ntmps4 ok4]
      simp (implicitDefEqProofs := false) (disch := omega) only [go_sem, Nat.reduceAdd, Nat.reduceSub, Nat.reduceMul, Nat.reduceLT, Nat.reduceLeDiff, Nat.reduceEqDiff, List.drop_zero, List.take_succ_cons, List.take_zero, List.drop_succ_cons, Bool.and_true, Bool.true_and, Bool.and_false, Bool.false_and, BitVec.reduceOfInt, Nat.zero_add, Nat.mul_one, Nat.add_zero, Int.zero_add, Int.reduceToNat, Nat.reducePow, ↓reduceIte, reduceCtorEq, Int.reduceLE, Int.reduceLT, Int.reduceEq, Int.reduceNe, Int.reduceAdd, Int.reduceSub, Int.reduceMul, Int.reduceNeg, Nat.reduceBEq, show regOf Tryd.f4 0 = Code.region _ _ _ from rfl, show regOf Tryd.f4 1 = Code.region _ _ _ from rfl, show regOf Tryd.f4 2 = Code.region _ _ _ from rfl, alive_c]
      exact ⟨_, rfl⟩
  obtain ⟨h, e⟩ := e
  rw [pcall_eq, e, pureRes_solid rfl]
theorem encL_len (m : Cmd) (hp : m.p.length ≤ 30000) (ho : m.o.length ≤ 30000) (hs : m.s.length ≤ 30000) (hr : m.right = true) : (encL m).length ≤ 100000 := by
  have hr' := hr
  unfold Cmd.right at hr'
  simp only [Bool.and_eq_true, decide_eq_true_eq] at hr'
  obtain ⟨⟨⟨⟨r1, r2⟩, r3⟩, r4⟩, r5⟩ := hr'
  unfold kindB at r1
  simp only [decide_eq_true_eq] at r1
  have nk := num_len m.k (by omega)
  have hsL : (textL m.s).length ≤ 30010 := by have := uvarN_len m.s.length (by omega); unfold textL; rw [List.length_append]; omega
  have h1 : (if pinB m.k then pinL m.p m.a m.b m.c else []).length ≤ 60 := by
    split
    · rename_i h; exact pinL_len (fits_cpin r2 h)
    · simp
  have h2 : (if decide (m.k = 6) then pinL m.o m.d m.e m.f else []).length ≤ 60 := by
    split
    · rename_i h; exact pinL_len (fits_cpin r3 h)
    · simp
  have h3 : (if srcB m.k then textL m.s else []).length ≤ 30010 := by
    split
    · exact hsL
    · simp
  unfold encL
  simp only [List.length_append]
  omega
theorem wrap_hi {n : Int} (h1 : 9223372036854775808 ≤ n) (h2 : n < 18446744073709551616) : IntKind.i64.wrap n = n - 18446744073709551616 := by
  unfold IntKind.wrap
  simp only [IntKind.signed, IntKind.bits]
  simp
  omega
theorem right_short {m : Cmd} (h : m.right = true) : m.p.length ≤ 20 ∧ m.o.length ≤ 20 := by
  unfold Cmd.right at h
  simp only [Bool.and_eq_true, decide_eq_true_eq] at h
  have key : ∀ {p : List UInt8} {a b c : Int} {x u : Bool}, cpinB p a b c x u = true → p.length ≤ 20 := fun {p a b c x u} h => by
    cases x with
    | true => exact (fits_cpin h rfl).1
    | false =>
      unfold cpinB pinZ at h
      simp only [Bool.false_eq_true, if_false, Bool.and_eq_true, decide_eq_true_eq] at h
      rw [h.1]; simp
  exact ⟨key h.1.1.1.2, key h.1.1.2⟩
set_option maxHeartbeats 8000000 in
theorem commandEncodes (m : Cmd) (kd : Int) (hp : m.p.length < 9223372036854775808) (ho : m.o.length < 9223372036854775808) (hs : m.s.length < 9223372036854775808) : pcall Tryd.prog md fg 3 [cmdV m, .int kd] = some (.bool true) := by
  have hm : m.small := ⟨hp, ho, hs⟩
  have c8 : ∀ h : AHeap, doCall md (aval Tryd.prog md fg) 8 [cmdV m] h = some (.tup (if m.right then [.val (.string (txt (encL m))), .int 0] else [.val (.string ⟨#[]⟩), .int 2]), h) := fun h => doCall_pure md8 rfl (encode_p m hm)
  have c9 : ∀ h : AHeap, doCall md (aval Tryd.prog md fg) 9 [cmdV m] h = some (.tup (if m.right then [.val (.string (txt (encL m))), .int 0] else [.val (.string ⟨#[]⟩), .int 2]), h) := fun h => doCall_pure md9 rfl (rencode_p m hm)
  have c11 : ∀ h : AHeap, doCall md (aval Tryd.prog md fg) 11 [cmdV m] h = some (.val (.bool m.right), h) := fun h => doCall_pure md11 rfl (cright_p m hm)
  have c12 : ∀ h : AHeap, doCall md (aval Tryd.prog md fg) 12 [cmdV m] h = some (.val (.bool m.right), h) := fun h => doCall_pure md12 rfl (rright2_p m hm)
  have c13 : ∀ h : AHeap, doCall md (aval Tryd.prog md fg) 13 [.int kd] h = some (.val (.bool (mutB kd)), h) := fun h => doCall_pure md13 rfl (mutates_p kd)
  have c14 : ∀ h : AHeap, doCall md (aval Tryd.prog md fg) 14 [.int kd] h = some (.val (.bool (mutB kd)), h) := fun h => doCall_pure md14 rfl (rmutates_p kd)
  have e : ∃ h, aval Tryd.prog md fg 3 [cmdV m, .int kd] [] = some (.bool true, h) := by
    have zp := txt_size m.p
    have zo := txt_size m.o
    have zs := txt_size m.s
    by_cases h1 : m.s.length ≤ 21000
    · by_cases h2 : m.p.length + m.o.length ≤ 2000
      · cases hr : m.right with
        | false =>
          simp only [hr, Bool.false_eq_true, if_false] at c8 c9 c11 c12
          obtain ⟨k, p, a, b, c, o, d, e, f, s⟩ := m
          dsimp only at *
          rw [aval_of Tryd.func3 body3 Tryd.results3 Tryd.ntmps3 ok3]
          generalize mutB kd = mb at *
          cases mb <;>
          · simp (implicitDefEqProofs := false) (disch := omega) only [go_sem, Nat.reduceAdd, Nat.reduceSub, Nat.reduceMul, Nat.reduceLT, Nat.reduceLeDiff, Nat.reduceEqDiff, List.drop_zero, List.take_succ_cons, List.take_zero, List.drop_succ_cons, Bool.and_true, Bool.true_and, Bool.and_false, Bool.false_and, BitVec.reduceOfInt, Nat.zero_add, Nat.mul_one, Nat.add_zero, Int.zero_add, Int.reduceToNat, Nat.reducePow, ↓reduceIte, reduceCtorEq, Int.reduceLE, Int.reduceLT, Int.reduceEq, Int.reduceNe, Int.reduceAdd, Int.reduceSub, Int.reduceMul, Int.reduceNeg, Nat.reduceBEq, show regOf Tryd.f3 0 = Code.region _ _ _ from rfl, show regOf Tryd.f3 1 = Code.region _ _ _ from rfl, show regOf Tryd.f3 2 = Code.region _ _ _ from rfl, show regOf Tryd.f3 3 = Code.region _ _ _ from rfl, show regOf Tryd.f3 4 = Code.region _ _ _ from rfl, show regOf Tryd.f3 5 = Code.region _ _ _ from rfl, show regOf Tryd.f3 6 = Code.region _ _ _ from rfl, show regOf Tryd.f3 7 = Code.region _ _ _ from rfl, show regOf Tryd.f3 8 = Code.region _ _ _ from rfl, show regOf Tryd.f3 9 = Code.region _ _ _ from rfl, show regOf Tryd.f3 10 = Code.region _ _ _ from rfl, c8, c9, c11, c12, c13, c14, no_c, alive_c]
            exact ⟨_, rfl⟩
        | true =>
          have hd := dec_back hr
          have hl := encL_len m (by omega) (by omega) (by omega) hr
          have c15 : ∀ h : AHeap, doCall md (aval Tryd.prog md fg) 15 [.str (txt (encL m))] h = some (decV (dec cN (encL m)), h) := fun h => doCall_pure md15 rfl (decode_p (by omega))
          rw [hd] at c15
          simp only [decV] at c15
          simp only [hr, if_true] at c8 c9 c11 c12
          generalize txt (encL m) = E at *
          obtain ⟨k, p, a, b, c, o, d, e, f, s⟩ := m
          dsimp only at *
          rw [aval_of Tryd.func3 body3 Tryd.results3 Tryd.ntmps3 ok3]
          generalize mutB kd = mb at *
          cases mb <;>
          · simp (implicitDefEqProofs := false) (disch := omega) only [go_sem, Nat.reduceAdd, Nat.reduceSub, Nat.reduceMul, Nat.reduceLT, Nat.reduceLeDiff, Nat.reduceEqDiff, List.drop_zero, List.take_succ_cons, List.take_zero, List.drop_succ_cons, Bool.and_true, Bool.true_and, Bool.and_false, Bool.false_and, BitVec.reduceOfInt, Nat.zero_add, Nat.mul_one, Nat.add_zero, Int.zero_add, Int.reduceToNat, Nat.reducePow, ↓reduceIte, reduceCtorEq, Int.reduceLE, Int.reduceLT, Int.reduceEq, Int.reduceNe, Int.reduceAdd, Int.reduceSub, Int.reduceMul, Int.reduceNeg, Nat.reduceBEq, show regOf Tryd.f3 0 = Code.region _ _ _ from rfl, show regOf Tryd.f3 1 = Code.region _ _ _ from rfl, show regOf Tryd.f3 2 = Code.region _ _ _ from rfl, show regOf Tryd.f3 3 = Code.region _ _ _ from rfl, show regOf Tryd.f3 4 = Code.region _ _ _ from rfl, show regOf Tryd.f3 5 = Code.region _ _ _ from rfl, show regOf Tryd.f3 6 = Code.region _ _ _ from rfl, show regOf Tryd.f3 7 = Code.region _ _ _ from rfl, show regOf Tryd.f3 8 = Code.region _ _ _ from rfl, show regOf Tryd.f3 9 = Code.region _ _ _ from rfl, show regOf Tryd.f3 10 = Code.region _ _ _ from rfl, c8, c9, c11, c12, c13, c14, c15, no_c, alive_c, abin_agg, eq27s, bind_some, aeqb_eql]
            exact ⟨_, rfl⟩
      · by_cases h3 : m.p.length + m.o.length ≤ 9223372036854775807
        · obtain ⟨k, p, a, b, c, o, d, e, f, s⟩ := m
          dsimp only at *
          rw [aval_of Tryd.func3 body3 Tryd.results3 Tryd.ntmps3 ok3]
          simp (implicitDefEqProofs := false) (disch := omega) only [go_sem, Nat.reduceAdd, Nat.reduceSub, Nat.reduceMul, Nat.reduceLT, Nat.reduceLeDiff, Nat.reduceEqDiff, List.drop_zero, List.take_succ_cons, List.take_zero, List.drop_succ_cons, Bool.and_true, Bool.true_and, Bool.and_false, Bool.false_and, BitVec.reduceOfInt, Nat.zero_add, Nat.mul_one, Nat.add_zero, Int.zero_add, Int.reduceToNat, Nat.reducePow, ↓reduceIte, reduceCtorEq, Int.reduceLE, Int.reduceLT, Int.reduceEq, Int.reduceNe, Int.reduceAdd, Int.reduceSub, Int.reduceMul, Int.reduceNeg, Nat.reduceBEq, show regOf Tryd.f3 0 = Code.region _ _ _ from rfl, show regOf Tryd.f3 1 = Code.region _ _ _ from rfl, show regOf Tryd.f3 2 = Code.region _ _ _ from rfl, alive_c]
          exact ⟨_, rfl⟩
        · have hr : m.right = false := by
            cases hr : m.right with
            | false => rfl
            | true => have := right_short hr; omega
          simp only [hr, Bool.false_eq_true, if_false] at c8 c9 c11 c12
          obtain ⟨k, p, a, b, c, o, d, e, f, s⟩ := m
          dsimp only at *
          rw [aval_of Tryd.func3 body3 Tryd.results3 Tryd.ntmps3 ok3]
          generalize mutB kd = mb at *
          cases mb <;>
          · simp (implicitDefEqProofs := false) (disch := omega) only [go_sem, Nat.reduceAdd, Nat.reduceSub, Nat.reduceMul, Nat.reduceLT, Nat.reduceLeDiff, Nat.reduceEqDiff, List.drop_zero, List.take_succ_cons, List.take_zero, List.drop_succ_cons, Bool.and_true, Bool.true_and, Bool.and_false, Bool.false_and, BitVec.reduceOfInt, Nat.zero_add, Nat.mul_one, Nat.add_zero, Int.zero_add, Int.reduceToNat, Nat.reducePow, ↓reduceIte, reduceCtorEq, Int.reduceLE, Int.reduceLT, Int.reduceEq, Int.reduceNe, Int.reduceAdd, Int.reduceSub, Int.reduceMul, Int.reduceNeg, Nat.reduceBEq, show regOf Tryd.f3 0 = Code.region _ _ _ from rfl, show regOf Tryd.f3 1 = Code.region _ _ _ from rfl, show regOf Tryd.f3 2 = Code.region _ _ _ from rfl, show regOf Tryd.f3 3 = Code.region _ _ _ from rfl, show regOf Tryd.f3 4 = Code.region _ _ _ from rfl, show regOf Tryd.f3 5 = Code.region _ _ _ from rfl, show regOf Tryd.f3 6 = Code.region _ _ _ from rfl, show regOf Tryd.f3 7 = Code.region _ _ _ from rfl, show regOf Tryd.f3 8 = Code.region _ _ _ from rfl, show regOf Tryd.f3 9 = Code.region _ _ _ from rfl, show regOf Tryd.f3 10 = Code.region _ _ _ from rfl, c8, c9, c11, c12, c13, c14, no_c, alive_c, wrap_hi]
            exact ⟨_, rfl⟩
    · obtain ⟨k, p, a, b, c, o, d, e, f, s⟩ := m
      dsimp only at *
      rw [aval_of Tryd.func3 body3 Tryd.results3 Tryd.ntmps3 ok3]
      simp (implicitDefEqProofs := false) (disch := omega) only [go_sem, Nat.reduceAdd, Nat.reduceSub, Nat.reduceMul, Nat.reduceLT, Nat.reduceLeDiff, Nat.reduceEqDiff, List.drop_zero, List.take_succ_cons, List.take_zero, List.drop_succ_cons, Bool.and_true, Bool.true_and, Bool.and_false, Bool.false_and, BitVec.reduceOfInt, Nat.zero_add, Nat.mul_one, Nat.add_zero, Int.zero_add, Int.reduceToNat, Nat.reducePow, ↓reduceIte, reduceCtorEq, Int.reduceLE, Int.reduceLT, Int.reduceEq, Int.reduceNe, Int.reduceAdd, Int.reduceSub, Int.reduceMul, Int.reduceNeg, Nat.reduceBEq, show regOf Tryd.f3 0 = Code.region _ _ _ from rfl, show regOf Tryd.f3 1 = Code.region _ _ _ from rfl, show regOf Tryd.f3 2 = Code.region _ _ _ from rfl, alive_c]
      exact ⟨_, rfl⟩
  obtain ⟨h, e⟩ := e
  rw [pcall_eq, e, pureRes_solid rfl]
end Go.Proofs.YtfloombnadnmaaaDoor
namespace Go.Ab
open Go.ChangeShapes Go.WideShapes Go.RowKit
theorem law_lifted_laid {C : Checked} {md : FuncId → Nat} {fg : FuncId → Nat → List Bool} {os : Os} {H : Type} {enc : TypeId × Value → H} {f : FuncId} {fn : Func} {s : ChangeSpec} {conds : List PathCond} {X : World → Array Value → Prop}
    (hX : ∀ (w w' : World) (args : Array Value), w.heap = w'.heap → X w args → X w' args)
    (own : ownKnob C.prog.godebug = none) (started : os.Started) (noInit : C.prog.inits.idxOf? f = none) (hfn : C.prog.funcs[f]? = some fn)
    (witness : ∃ (w : World) (tape : Tape) (i : Input), w.os = os ∧ (w.forCall tape i).Shaped C.prog ∧ i.vars = [] ∧ Input.okWide C.prog (w.forCall tape i) .any w.heap.size f i ∧
      ((s.pre enc C.prog fn conds false (w.forCall tape i).memory i.args ∧ X (w.forCall tape i).memory i.args) ∧ sizedMet enc C.prog fn (OpenSpec.ofChange s) false (w.forCall tape i).memory i.args) ∧ ({} : Assume).holds C.prog (lone (Frame.enter C.prog f i.args .normal) [] (w.forCall tape i)))
    (hvars : s.vars = []) {bt : TypeId} (hres : fn.resultTypes = #[bt]) (hbt : C.prog.underlying bt = some .bool) (hmix : C.prog.follows .mixedOrders = true) {ts : List TypeId} (hts : plainTypes C.prog ts = true)
    (hp : ∀ t ∈ fn.params.toList, t ∈ ts) (hrd : ∀ t ∈ fn.params.toList, C.prog.readableRec t = true ∧ t < C.prog.types.size) (laid : laidOutB C.prog = true)
    (hspec : ∀ ds : List (DataW H), ds.length = fn.params.toList.length → s.fn H (ds ++ []) = { results := [.lit (.bool true)], args := ds })
    (hall : ∀ avs, WTAll C.prog fn.params.toList avs → pcall C.prog md fg f avs = some (.val (.bool true))) :
    ReturnsInHanded {} C os f .any (fun w args => (s.pre enc C.prog fn conds false w args ∧ X w args) ∧ sizedMet enc C.prog fn (OpenSpec.ofChange s) false w args) (s.post enc C.prog fn false true false false) := by
  refine returnsInHanded_of_change_and hX own started noInit hfn witness ?_
  intro W base args ds gs before hval hW _ _ _ _
  have hW' := hW
  obtain ⟨p, q, hA, hV, rfl, hfz, hnd⟩ := hW
  rw [hvars] at hV
  obtain ⟨rfl, rfl⟩ : gs = [] ∧ q = [] := by
    cases gs with
    | nil => exact ⟨rfl, hV⟩
    | cons _ _ => exact hV.elim
  refine (law_calls hmix hts hp hall hA (fun j t v ht hv => hval j t v (by simpa using ht) hv)).mono fun e W' ⟨he, bel⟩ => ?_
  subst he
  have hs := hspec ds (trodAll_len hA)
  refine ⟨_, rfl, ds, [], p ++ [], [], p, [], hW', ?_, ?_, ?_, bel.frame _, fun h => by cases h⟩
  · rw [hs, hres]
    exact trodAll_mk1 (shut_bool hbt _)
  · rw [hs]; exact trodAll_stays laid bel hrd hA
  · rw [hs, hvars]; rfl
end Go.Ab
namespace Go.Proofs.YtfloombnadnmaaaDoor
open Go Go.Ab Go.Proofs Go.RowKit Go.ChangeShapes Go.WideShapes
set_option maxRecDepth 100000
theorem own : ownKnob Tryd.prog.godebug = none := by kernel_rfl
theorem laidOut : laidOutB Tryd.prog = true := by kernel_rfl
theorem mixed : Tryd.prog.follows .mixedOrders = true := by kernel_rfl
theorem WT_str {n : Nat} {a : AV} (h : WT Tryd.prog n 9 a) : ∃ s : ByteArray, a = .val (.string s) ∧ s.size ≤ maxLen := by
  cases n with
  | zero => exact h.elim
  | succ n => unfold WT at h; rw [und_9] at h; exact h
theorem WT_i64 {n t : Nat} {a : AV} (ht : Tryd.prog.underlying t = some (.int .i64)) (h : WT Tryd.prog n t a) : ∃ x, a = .int x ∧ -9223372036854775808 ≤ x ∧ x ≤ 9223372036854775807 := by
  cases n with
  | zero => exact h.elim
  | succ n =>
    unfold WT at h; rw [ht] at h
    obtain ⟨x, rfl, hw⟩ := h
    have hw' : (decide (-9223372036854775808 ≤ x) && decide (x ≤ 9223372036854775807)) = true := hw
    simp only [Bool.and_eq_true, decide_eq_true_eq] at hw'
    exact ⟨x, rfl, hw'⟩
theorem allF {fs : List Field} {p : Field → Prop} (h : ∀ f ∈ fs.toArray, p f) : ∀ f ∈ fs, p f := fun f hf => h f (List.mem_toArray.2 hf)
theorem WT_ver {n : Nat} {a : AV} (h : WT Tryd.prog n 23 a) : ∃ x y z : Int, a = .agg [.int x, .int y, .int z] ∧ (-9223372036854775808 ≤ x ∧ x ≤ 9223372036854775807) ∧ (-9223372036854775808 ≤ y ∧ y ≤ 9223372036854775807) ∧ (-9223372036854775808 ≤ z ∧ z ≤ 9223372036854775807) := by
  cases n with
  | zero => exact h.elim
  | succ n =>
    unfold WT at h
    rw [Tryd.underlying23] at h
    obtain ⟨cs, rfl, hl, hf⟩ := h
    have hl : cs.length = 3 := hl
    match cs, hl with
    | [a0, a1, a2], _ =>
      have hf := allF hf
      simp only [List.forall_mem_cons] at hf
      obtain ⟨f0, f1, f2, _⟩ := hf
      obtain ⟨x, e0, x1, x2⟩ := WT_i64 und_3 (show WT Tryd.prog n 3 a0 from f0)
      obtain ⟨y, e1, y1, y2⟩ := WT_i64 und_3 (show WT Tryd.prog n 3 a1 from f1)
      obtain ⟨z, e2, z1, z2⟩ := WT_i64 und_3 (show WT Tryd.prog n 3 a2 from f2)
      subst e0; subst e1; subst e2
      exact ⟨x, y, z, rfl, ⟨x1, x2⟩, ⟨y1, y2⟩, ⟨z1, z2⟩⟩
theorem WT_pin {n : Nat} {a : AV} (h : WT Tryd.prog n 25 a) : ∃ (p : List UInt8) (x y z : Int), a = pinV p x y z ∧ p.length < 9223372036854775808 ∧ (-9223372036854775808 ≤ x ∧ x ≤ 9223372036854775807) ∧ (-9223372036854775808 ≤ y ∧ y ≤ 9223372036854775807) ∧ (-9223372036854775808 ≤ z ∧ z ≤ 9223372036854775807) := by
  cases n with
  | zero => exact h.elim
  | succ n =>
    unfold WT at h
    rw [Tryd.underlying25] at h
    obtain ⟨cs, rfl, hl, hf⟩ := h
    have hl : cs.length = 4 := hl
    match cs, hl with
    | [a0, a1, a2, a3], _ =>
      have hf := allF hf
      simp only [List.forall_mem_cons] at hf
      obtain ⟨f0, f1, _⟩ := hf
      obtain ⟨s, e0, hs⟩ := WT_str (show WT Tryd.prog n 9 a0 from f0)
      obtain ⟨x, y, z, e1, hx⟩ := WT_ver (show WT Tryd.prog n 23 (.agg [a1, a2, a3]) from f1)
      subst e0
      cases e1
      obtain ⟨S, rfl⟩ := txt_of s
      have := txt_size S
      unfold maxLen at hs
      exact ⟨S, x, y, z, rfl, by omega, hx⟩
theorem WT_cmd {n : Nat} {a : AV} (h : WT Tryd.prog n 27 a) : ∃ m : Cmd, a = cmdV m ∧ m.p.length < 9223372036854775808 ∧ m.o.length < 9223372036854775808 ∧ m.s.length < 9223372036854775808 := by
  cases n with
  | zero => exact h.elim
  | succ n =>
    unfold WT at h
    rw [Tryd.underlying27] at h
    obtain ⟨cs, rfl, hl, hf⟩ := h
    have hl : cs.length = 10 := hl
    match cs, hl with
    | [a0, a1, a2, a3, a4, a5, a6, a7, a8, a9], _ =>
      have hf := allF hf
      simp only [List.forall_mem_cons] at hf
      obtain ⟨f0, f1, f2, f3, _⟩ := hf
      obtain ⟨k, e0, _, _⟩ := WT_i64 und_3 (show WT Tryd.prog n 3 a0 from f0)
      obtain ⟨p, x, y, z, e1, hp, _⟩ := WT_pin (show WT Tryd.prog n 25 (.agg [a1, a2, a3, a4]) from f1)
      obtain ⟨o, u, v, w, e2, ho, _⟩ := WT_pin (show WT Tryd.prog n 25 (.agg [a5, a6, a7, a8]) from f2)
      obtain ⟨s, e3, hs⟩ := WT_str (show WT Tryd.prog n 9 a9 from f3)
      subst e0; subst e3
      cases e1; cases e2
      obtain ⟨S, rfl⟩ := txt_of s
      have := txt_size S
      unfold maxLen at hs
      exact ⟨⟨k, p, x, y, z, o, u, v, w, S⟩, rfl, hp, ho, by dsimp only; omega⟩
end Go.Proofs.YtfloombnadnmaaaDoor
