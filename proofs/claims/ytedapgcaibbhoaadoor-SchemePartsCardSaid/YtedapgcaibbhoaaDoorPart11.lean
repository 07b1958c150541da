/- Parts of the proof, each with its own heading: Above, Same; which types are gone through. SchemeParts is true of every input. What the laws of touchstonelaw14 share: closed facts of the program, and terms as arguments. -/
import Derived.Test.YtedapgcaibbhoaaDoorPart10
import Derived.Test.YtedapgcaibbhoaaDoorRows
set_option linter.unusedSimpArgs false
set_option linter.unusedVariables false
namespace Go.Proofs.YtedapgcaibbhoaaDoor
open Go Go.Ab Go.Proofs
set_option maxRecDepth 100000
set_option linter.unusedSimpArgs false
set_option linter.unusedVariables false
theorem isMapT_47 : isMapT Tryd.prog 47 = true := by kernel_rfl
theorem ofCell_nilmap : ofCell (.map none) = .val (.map none) := rfl
/-- Is one type above another one? -/
def abv (a b : Tm) : Bool := (mS (tsz a) [(a, b)] ([], 0)).isSome
set_option maxHeartbeats 8000000 in
theorem match_c (a b : Tm) (ha : a.fit) (hb : b.fit) (hsz : tsz a ≤ 100000) (h0 : AHeap) (hv : ∀ i < h0.length, ∃ cs, hget h0 i = .vars cs) : ∃ (x : AV) (h' : AHeap), doCall md (aval Tryd.prog md fg) 27 [tmV a, tmV b] h0 = some (.tup [x, .bool (abv a b)], h') := by
  have e : ∃ (x : AV) (h' : AHeap), aval Tryd.prog md fg 27 [tmV a, tmV b] h0 = some (.tup [x, .bool (abv a b)], h') ∧ (below h0.length (.tup [x, .bool (abv a b)]) = false ∨ below h0.length (.tup [x, .bool (abv a b)]) = true ∧ GcOk h0.length h0 h') := by
    have hfit : ∀ p ∈ [(a, b)], p.1.fit ∧ p.2.fit := fun p hp => by rw [List.mem_singleton.1 hp]; exact ⟨ha, hb⟩
    obtain ⟨k, p, m, n, l⟩ := a
    obtain ⟨k', p', m', n', l'⟩ := b
    have ih := m_loop (M := h0.length + 2) (tsz ⟨k, p, m, n, l⟩) [(⟨k, p, m, n, l⟩, ⟨k', p', m', n', l'⟩)] ([], 0) (h0 ++ [AObj.vars [.int k, .str (txt p), .str (txt m), .int n, .slc false (l.map tmV)], AObj.vars [.int k', .str (txt p'), .str (txt m'), .int n', .slc false (l'.map tmV)], AObj.map [] 0, AObj.arr 10 [pairV (⟨k, p, m, n, l⟩, ⟨k', p', m', n', l'⟩)] 0]) (.arr (h0.length + 3) 0 1 0 10) (.val (.map .none)) (.val (.bool false)) (by simp only [psz]; omega) hsz hfit (fun e he => by cases he) (sb_get2 _ _ _ _ rfl) ⟨h0.length + 3, 0, [pairV (⟨k, p, m, n, l⟩, ⟨k', p', m', n', l'⟩)], rfl, by
      unfold hget; rw [List.getD_eq_getElem?_getD, List.getElem?_append_right (by omega), show h0.length + 3 - h0.length = 3 by omega]; rfl, by simp, by simp⟩
    unfold abv
    rw [tmV_mk, tmV_mk]
    rw [pairV_mk] at ih
    generalize mS (tsz ⟨k, p, m, n, l⟩) [(⟨k, p, m, n, l⟩, ⟨k', p', m', n', l'⟩)] ([], 0) = o at *
    cases o with
    | some P =>
      obtain ⟨v', h', a4, a5, e1, e2, e3⟩ := ih
      refine ⟨.mp (h0.length + 2), h', ?_, .inl (by simp [below, belowL])⟩
      rw [aval_of Tryd.func27 body27 Tryd.results27 Tryd.ntmps27 ok27]
      simp (implicitDefEqProofs := false) (disch := first | omega | exact List.length_set) only [go_sem, Nat.reduceAdd, Nat.reduceSub, Nat.reduceMul, Nat.reduceLT, Nat.reduceLeDiff, Nat.reduceEqDiff, List.drop_zero, List.take_succ_cons, List.take_zero, List.drop_succ_cons, Bool.and_true, Bool.true_and, Bool.and_false, Bool.false_and, BitVec.reduceOfInt, Nat.zero_add, Nat.mul_one, Nat.add_zero, Int.zero_add, Int.reduceToNat, Nat.reducePow, ↓reduceIte, reduceCtorEq, Int.reduceLE, Int.reduceLT, Int.reduceEq, Int.reduceNe, Int.reduceAdd, Int.reduceSub, Int.reduceMul, Int.reduceNeg, Nat.reduceBEq, show regOf Tryd.f27 0 = Code.region _ _ _ from rfl, show regOf Tryd.f27 1 = Code.region _ _ _ from rfl, show regOf Tryd.f27 2 = Code.region _ _ _ from rfl, show regOf Tryd.f27 18 = Code.region _ _ _ from rfl, aop_makeMap0, isMapT_47, ofCell_nilmap, b69, List.append_assoc, List.cons_append, List.nil_append, List.length_append, List.length_cons, List.length_nil, sb_get0, sb_get1, sb_get2, sb_set0, sb_set1, e1, Option.isSome_some, aresults, tupOf, Option.map_some]
    | none =>
      obtain ⟨e', h', e1, e2, e3, e4⟩ := ih
      refine ⟨.val (.map .none), h', ?_, .inr ⟨rfl, ?_⟩⟩
      · rw [aval_of Tryd.func27 body27 Tryd.results27 Tryd.ntmps27 ok27]
        simp (implicitDefEqProofs := false) (disch := first | omega | exact List.length_set) only [go_sem, Nat.reduceAdd, Nat.reduceSub, Nat.reduceMul, Nat.reduceLT, Nat.reduceLeDiff, Nat.reduceEqDiff, List.drop_zero, List.take_succ_cons, List.take_zero, List.drop_succ_cons, Bool.and_true, Bool.true_and, Bool.and_false, Bool.false_and, BitVec.reduceOfInt, Nat.zero_add, Nat.mul_one, Nat.add_zero, Int.zero_add, Int.reduceToNat, Nat.reducePow, ↓reduceIte, reduceCtorEq, Int.reduceLE, Int.reduceLT, Int.reduceEq, Int.reduceNe, Int.reduceAdd, Int.reduceSub, Int.reduceMul, Int.reduceNeg, Nat.reduceBEq, show regOf Tryd.f27 0 = Code.region _ _ _ from rfl, show regOf Tryd.f27 1 = Code.region _ _ _ from rfl, show regOf Tryd.f27 2 = Code.region _ _ _ from rfl, show regOf Tryd.f27 18 = Code.region _ _ _ from rfl, aop_makeMap0, isMapT_47, ofCell_nilmap, b69, List.append_assoc, List.cons_append, List.nil_append, List.length_append, List.length_cons, List.length_nil, sb_get0, sb_get1, sb_get2, sb_set0, sb_set1, e1, Option.isSome_none, aresults, tupOf, Option.map_some]
        rw [e2, e3]
      · intro i hi
        left
        obtain ⟨cs, hc⟩ := hv i hi
        have k1 := e4.2 i cs (by rw [hget_app _ hi]; exact hc)
        have hl : i < h'.length := hlt_of k1 (by simp)
        unfold hget at k1 hc
        rw [List.getD_eq_getElem?_getD, List.getElem?_eq_getElem hl] at k1
        rw [List.getD_eq_getElem?_getD, List.getElem?_eq_getElem hi] at hc
        rw [List.getElem?_eq_getElem hl, List.getElem?_eq_getElem hi]
        simp only [Option.getD_some] at k1 hc
        rw [k1, hc]
  obtain ⟨x, h', e, hb⟩ := e
  rcases hb with hb | ⟨hb, hg⟩
  · exact ⟨x, h', doCall_keep (by decide) (by decide) (by decide) e hb⟩
  · exact ⟨x, _, doCall_ref (by decide) (by decide) (by decide) e hb hg⟩
theorem above_p (a b : Tm) (ha : a.fit) (hb : b.fit) (hsz : tsz a ≤ 100000) : pcall Tryd.prog md fg 10 [tmV a, tmV b] = some (.val (.bool (abv a b))) := by
  have e : ∃ h, aval Tryd.prog md fg 10 [tmV a, tmV b] [] = some (.val (.bool (abv a b)), h) := by
    obtain ⟨x, h', c⟩ := match_c a b ha hb hsz [.vars (tmV a).cells, .vars (tmV b).cells] (fun i hi => by
      match i, hi with
      | 0, _ => exact ⟨_, rfl⟩
      | 1, _ => exact ⟨_, rfl⟩)
    generalize abv a b = o at *
    obtain ⟨k, p, m, n, l⟩ := a
    obtain ⟨k', p', m', n', l'⟩ := b
    rw [tmV_mk, tmV_mk] at c ⊢
    change doCall md (aval Tryd.prog md fg) 27 _ [.vars [.int k, .str (txt p), .str (txt m), .int n, .slc false (l.map tmV)], .vars [.int k', .str (txt p'), .str (txt m'), .int n', .slc false (l'.map tmV)]] = _ at c
    rw [aval_of Tryd.func10 body10 Tryd.results10 Tryd.ntmps10 ok10]
    simp (implicitDefEqProofs := false) (disch := omega) only [go_sem, Nat.reduceAdd, Nat.reduceSub, Nat.reduceMul, Nat.reduceLT, Nat.reduceLeDiff, Nat.reduceEqDiff, List.drop_zero, List.take_succ_cons, List.take_zero, List.drop_succ_cons, Bool.and_true, Bool.true_and, Bool.and_false, Bool.false_and, BitVec.reduceOfInt, Nat.zero_add, Nat.mul_one, Nat.add_zero, Int.zero_add, Int.reduceToNat, Nat.reducePow, ↓reduceIte, reduceCtorEq, Int.reduceLE, Int.reduceLT, Int.reduceEq, Int.reduceNe, Int.reduceAdd, Int.reduceSub, Int.reduceMul, Int.reduceNeg, Nat.reduceBEq, show regOf Tryd.f10 0 = Code.region _ _ _ from rfl, show regOf Tryd.f10 1 = Code.region _ _ _ from rfl, show regOf Tryd.f10 2 = Code.region _ _ _ from rfl, c]
    exact ⟨_, rfl⟩
  obtain ⟨h, e⟩ := e
  rw [pcall_eq, e, pureRes_solid rfl]
theorem solid2 (a b : Tm) : solidL [tmV a, tmV b] = true := by simp only [solidL, solid_tm, Bool.and_self]
theorem above_c (a b : Tm) (ha : a.fit) (hb : b.fit) (hsz : tsz a ≤ 100000) (h : AHeap) : doCall md (aval Tryd.prog md fg) 10 [tmV a, tmV b] h = some (.val (.bool (abv a b)), h) := doCall_pure md10 (solid2 a b) (above_p a b ha hb hsz)
theorem same_p (a b : Tm) (ha : a.fit) (hb : b.fit) (hsz : tsz a ≤ 100000) (hsz2 : tsz b ≤ 100000) : pcall Tryd.prog md fg 12 [tmV a, tmV b] = some (.val (.bool (abv a b && abv b a))) := by
  have e : ∃ h, aval Tryd.prog md fg 12 [tmV a, tmV b] [] = some (.val (.bool (abv a b && abv b a)), h) := by
    have c1 := above_c a b ha hb hsz
    have c2 := above_c b a hb ha hsz2
    generalize abv a b = o1 at *
    generalize abv b a = o2 at *
    obtain ⟨k, p, m, n, l⟩ := a
    obtain ⟨k', p', m', n', l'⟩ := b
    rw [tmV_mk, tmV_mk] at c1 c2 ⊢
    rw [aval_of Tryd.func12 body12 Tryd.results12 Tryd.ntmps12 ok12]
    cases o1 <;> simp (implicitDefEqProofs := false) (disch := omega) only [go_sem, Nat.reduceAdd, Nat.reduceSub, Nat.reduceMul, Nat.reduceLT, Nat.reduceLeDiff, Nat.reduceEqDiff, List.drop_zero, List.take_succ_cons, List.take_zero, List.drop_succ_cons, Bool.and_true, Bool.true_and, Bool.and_false, Bool.false_and, BitVec.reduceOfInt, Nat.zero_add, Nat.mul_one, Nat.add_zero, Int.zero_add, Int.reduceToNat, Nat.reducePow, ↓reduceIte, reduceCtorEq, Int.reduceLE, Int.reduceLT, Int.reduceEq, Int.reduceNe, Int.reduceAdd, Int.reduceSub, Int.reduceMul, Int.reduceNeg, Nat.reduceBEq, show regOf Tryd.f12 0 = Code.region _ _ _ from rfl, show regOf Tryd.f12 1 = Code.region _ _ _ from rfl, c1, c2]
    all_goals exact ⟨_, rfl⟩
  obtain ⟨h, e⟩ := e
  rw [pcall_eq, e, pureRes_solid rfl]
theorem same_c (a b : Tm) (ha : a.fit) (hb : b.fit) (hsz : tsz a ≤ 100000) (hsz2 : tsz b ≤ 100000) (h : AHeap) : doCall md (aval Tryd.prog md fg) 12 [tmV a, tmV b] h = some (.val (.bool (abv a b && abv b a)), h) := doCall_pure md12 (solid2 a b) (same_p a b ha hb hsz hsz2)
theorem solid1 (a : Tm) : solidL [tmV a] = true := by simp only [solidL, solid_tm, Bool.and_self]
theorem few_p (a : Tm) (ha : a.fit) : ∃ b : Bool, (b = true → tsz a ≤ 600 ∧ typ a) ∧ pcall Tryd.prog md fg 7 [tmV a] = some (.val (.bool b)) := by
  obtain ⟨w, w0, w1, w2, w3⟩ := W_all a ha 0 (by omega) (by omega)
  obtain ⟨y, y1, y2⟩ := Y_all a ha
  have cw : ∀ h : AHeap, doCall md (aval Tryd.prog md fg) 37 [tmV a, .int 0] h = some (.int w, h) := fun h => doCall_pure md37 (by simp only [solidL, solid_tm, Bool.true_and]; rfl) w3
  have cy : ∀ h : AHeap, doCall md (aval Tryd.prog md fg) 24 [tmV a] h = some (.val (.bool y), h) := fun h => doCall_pure md24 (solid1 a) y2
  have e23 : pcall Tryd.prog md fg 23 [tmV a] = some (.val (.bool (decide (w ≤ 600)))) := by
    have e : ∃ h, aval Tryd.prog md fg 23 [tmV a] [] = some (.val (.bool (decide (w ≤ 600))), h) := by
      clear cy y2 y1 w3 w2
      obtain ⟨k, p, m, n, l⟩ := a
      rw [tmV_mk] at cw ⊢
      rw [aval_of Tryd.func23 body23 Tryd.results23 Tryd.ntmps23 ok23]
      simp (implicitDefEqProofs := false) (disch := omega) only [go_sem, Nat.reduceAdd, Nat.reduceSub, Nat.reduceMul, Nat.reduceLT, Nat.reduceLeDiff, Nat.reduceEqDiff, List.drop_zero, List.take_succ_cons, List.take_zero, List.drop_succ_cons, Bool.and_true, Bool.true_and, Bool.and_false, Bool.false_and, BitVec.reduceOfInt, Nat.zero_add, Nat.mul_one, Nat.add_zero, Int.zero_add, Int.reduceToNat, Nat.reducePow, ↓reduceIte, reduceCtorEq, Int.reduceLE, Int.reduceLT, Int.reduceEq, Int.reduceNe, Int.reduceAdd, Int.reduceSub, Int.reduceMul, Int.reduceNeg, Nat.reduceBEq, show regOf Tryd.f23 0 = Code.region _ _ _ from rfl, show regOf Tryd.f23 1 = Code.region _ _ _ from rfl, cw]
      exact ⟨_, rfl⟩
    obtain ⟨h, e⟩ := e
    rw [pcall_eq, e, pureRes_solid rfl]
  have c23 : ∀ h : AHeap, doCall md (aval Tryd.prog md fg) 23 [tmV a] h = some (.val (.bool (decide (w ≤ 600))), h) := fun h => doCall_pure md23 (solid1 a) e23
  refine ⟨decide (w ≤ 600) && y, fun hb => ?_, ?_⟩
  · simp only [Bool.and_eq_true, decide_eq_true_eq] at hb
    have := w2 (by omega)
    exact ⟨by omega, y1 hb.2⟩
  · have e : ∃ h, aval Tryd.prog md fg 7 [tmV a] [] = some (.val (.bool (decide (w ≤ 600) && y)), h) := by
      clear y1 y2 w3 w2 cw e23
      obtain ⟨k, p, m, n, l⟩ := a
      rw [tmV_mk] at cy c23 ⊢
      generalize decide (w ≤ 600) = b at *
      rw [aval_of Tryd.func7 body7 Tryd.results7 Tryd.ntmps7 ok7]
      cases b <;> simp (implicitDefEqProofs := false) (disch := omega) only [go_sem, Nat.reduceAdd, Nat.reduceSub, Nat.reduceMul, Nat.reduceLT, Nat.reduceLeDiff, Nat.reduceEqDiff, List.drop_zero, List.take_succ_cons, List.take_zero, List.drop_succ_cons, Bool.and_true, Bool.true_and, Bool.and_false, Bool.false_and, BitVec.reduceOfInt, Nat.zero_add, Nat.mul_one, Nat.add_zero, Int.zero_add, Int.reduceToNat, Nat.reducePow, ↓reduceIte, reduceCtorEq, Int.reduceLE, Int.reduceLT, Int.reduceEq, Int.reduceNe, Int.reduceAdd, Int.reduceSub, Int.reduceMul, Int.reduceNeg, Nat.reduceBEq, show regOf Tryd.f7 0 = Code.region _ _ _ from rfl, show regOf Tryd.f7 1 = Code.region _ _ _ from rfl, cy, c23]
      all_goals exact ⟨_, rfl⟩
    obtain ⟨h, e⟩ := e
    rw [pcall_eq, e, pureRes_solid rfl]
theorem alive_p : pcall Tryd.prog md fg 9 [] = some (.bool true) := pcall_strue okKnown 200 (by decide +kernel)
theorem alive_c (h : AHeap) : doCall md (aval Tryd.prog md fg) 9 [] h = some (.val (.bool true), h) := doCall_pure md9 rfl alive_p
end Go.Proofs.YtedapgcaibbhoaaDoor
namespace Go.Proofs.YtedapgcaibbhoaaDoor
open Go Go.Ab Go.Proofs
set_option maxRecDepth 100000
set_option linter.unusedSimpArgs false
set_option linter.unusedVariables false
theorem abv_parts {k : Int} (hk : k ≠ 1) (p m : List UInt8) (l l' : List Tm) : abv ⟨k, p, m, 0, l⟩ ⟨k, p, m, 0, l'⟩ = abv ⟨4, [], [], 0, l⟩ ⟨4, [], [], 0, l'⟩ := by
  unfold abv
  have e : ∀ (k : Int) (p m : List UInt8), k ≠ 1 → mS (tsz ⟨k, p, m, 0, l⟩) [(⟨k, p, m, 0, l⟩, ⟨k, p, m, 0, l'⟩)] ([], 0) = if l.length = l'.length then mS (tszs l) ((l.zip l').reverse ++ []) ([], 0) else none := by
    intro k p m hk
    rw [tsz, Nat.add_comm, mS]
    rw [if_neg (show ¬ (Tm.kind ⟨k, p, m, 0, l⟩ = 1) from hk)]
    by_cases h : l.length = l'.length
    · rw [if_pos h]; exact if_pos ⟨rfl, rfl, rfl, rfl, h⟩
    · rw [if_neg h]; exact if_neg fun hc => h hc.2.2.2.2
  rw [e k p m hk, e 4 [] [] (by decide)]
theorem typ_n {k : Int} {p m : List UInt8} {n : Int} {l : List Tm} (h : typ ⟨k, p, m, n, l⟩) : n = 0 := by rw [typ] at h; exact h.2.2.1
set_option maxHeartbeats 8000000 in
theorem schemeParts (a b : Tm) (ha : a.fit) (hb : b.fit) : pcall Tryd.prog md fg 4 [tmV a, tmV b] = some (.bool true) := by
  have e : ∃ h, aval Tryd.prog md fg 4 [tmV a, tmV b] [] = some (.bool true, h) := by
    obtain ⟨fa, fa1, fa2⟩ := few_p a ha
    obtain ⟨fb, fb1, fb2⟩ := few_p b hb
    have ca : ∀ h : AHeap, doCall md (aval Tryd.prog md fg) 7 [tmV a] h = some (.val (.bool fa), h) := fun h => doCall_pure md7 (solid1 a) fa2
    have cb : ∀ h : AHeap, doCall md (aval Tryd.prog md fg) 7 [tmV b] h = some (.val (.bool fb), h) := fun h => doCall_pure md7 (solid1 b) fb2
    obtain ⟨k, p, m, n, l⟩ := a
    obtain ⟨k', p', m', n', l'⟩ := b
    have hp := str_eq p p'
    have hm := str_eq m m'
    cases fa with
    | false =>
      rw [tmV_mk] at ca
      rw [tmV_mk, tmV_mk]
      rw [aval_of Tryd.func4 body4 Tryd.results4 Tryd.ntmps4 ok4]
      simp (implicitDefEqProofs := false) (disch := omega) only [go_sem, Nat.reduceAdd, Nat.reduceSub, Nat.reduceMul, Nat.reduceLT, Nat.reduceLeDiff, Nat.reduceEqDiff, List.drop_zero, List.take_succ_cons, List.take_zero, List.drop_succ_cons, Bool.and_true, Bool.true_and, Bool.and_false, Bool.false_and, BitVec.reduceOfInt, Nat.zero_add, Nat.mul_one, Nat.add_zero, Int.zero_add, Int.reduceToNat, Nat.reducePow, ↓reduceIte, reduceCtorEq, Int.reduceLE, Int.reduceLT, Int.reduceEq, Int.reduceNe, Int.reduceAdd, Int.reduceSub, Int.reduceMul, Int.reduceNeg, Nat.reduceBEq, show regOf Tryd.f4 0 = Code.region _ _ _ from rfl, show regOf Tryd.f4 1 = Code.region _ _ _ from rfl, show regOf Tryd.f4 2 = Code.region _ _ _ from rfl, ca, alive_c]
      exact ⟨_, rfl⟩
    | true =>
      cases fb with
      | false =>
        rw [tmV_mk] at ca cb
        rw [tmV_mk, tmV_mk]
        rw [aval_of Tryd.func4 body4 Tryd.results4 Tryd.ntmps4 ok4]
        simp (implicitDefEqProofs := false) (disch := omega) only [go_sem, Nat.reduceAdd, Nat.reduceSub, Nat.reduceMul, Nat.reduceLT, Nat.reduceLeDiff, Nat.reduceEqDiff, List.drop_zero, List.take_succ_cons, List.take_zero, List.drop_succ_cons, Bool.and_true, Bool.true_and, Bool.and_false, Bool.false_and, BitVec.reduceOfInt, Nat.zero_add, Nat.mul_one, Nat.add_zero, Int.zero_add, Int.reduceToNat, Nat.reducePow, ↓reduceIte, reduceCtorEq, Int.reduceLE, Int.reduceLT, Int.reduceEq, Int.reduceNe, Int.reduceAdd, Int.reduceSub, Int.reduceMul, Int.reduceNeg, Nat.reduceBEq, show regOf Tryd.f4 0 = Code.region _ _ _ from rfl, show regOf Tryd.f4 1 = Code.region _ _ _ from rfl, show regOf Tryd.f4 2 = Code.region _ _ _ from rfl, ca, cb, alive_c]
        exact ⟨_, rfl⟩
      | true =>
        obtain ⟨s1, t1⟩ := fa1 rfl
        obtain ⟨s2, t2⟩ := fb1 rfl
        obtain rfl := typ_n t1
        obtain rfl := typ_n t2
        by_cases h : k ≠ 1 ∧ k = k' ∧ p = p' ∧ m = m'
        · obtain ⟨hk, rfl, rfl, rfl⟩ := h
          have fx : (⟨4, [], [], 0, l⟩ : Tm).fit := by rw [Tm.fit] at ha ⊢; exact ⟨by simp, by simp, ha.2.2.1, ha.2.2.2⟩
          have fy : (⟨4, [], [], 0, l'⟩ : Tm).fit := by rw [Tm.fit] at hb ⊢; exact ⟨by simp, by simp, hb.2.2.1, hb.2.2.2⟩
          have sx : tsz ⟨4, [], [], 0, l⟩ ≤ 100000 := by simp only [tsz] at s1 ⊢; omega
          have sy : tsz ⟨4, [], [], 0, l'⟩ ≤ 100000 := by simp only [tsz] at s2 ⊢; omega
          have c1 := above_c ⟨k, p, m, 0, l⟩ ⟨k, p, m, 0, l'⟩ ha hb (by omega)
          have c2 := above_c ⟨4, [], [], 0, l⟩ ⟨4, [], [], 0, l'⟩ fx fy sx
          have c3 := same_c ⟨k, p, m, 0, l⟩ ⟨k, p, m, 0, l'⟩ ha hb (by omega) (by omega)
          have c4 := same_c ⟨4, [], [], 0, l⟩ ⟨4, [], [], 0, l'⟩ fx fy sx sy
          rw [abv_parts hk] at c1
          rw [abv_parts hk, abv_parts hk] at c3
          generalize abv ⟨4, [], [], 0, l⟩ ⟨4, [], [], 0, l'⟩ = o1 at *
          generalize abv ⟨4, [], [], 0, l'⟩ ⟨4, [], [], 0, l⟩ = o2 at *
          have ht : txt [] = ⟨#[]⟩ := rfl
          rw [tmV_mk, tmV_mk] at c1 c2 c3 c4
          rw [ht] at c2 c4
          rw [tmV_mk] at ca cb
          rw [tmV_mk, tmV_mk]
          rw [aval_of Tryd.func4 body4 Tryd.results4 Tryd.ntmps4 ok4]
          simp (implicitDefEqProofs := false) (disch := omega) only [go_sem, Nat.reduceAdd, Nat.reduceSub, Nat.reduceMul, Nat.reduceLT, Nat.reduceLeDiff, Nat.reduceEqDiff, List.drop_zero, List.take_succ_cons, List.take_zero, List.drop_succ_cons, Bool.and_true, Bool.true_and, Bool.and_false, Bool.false_and, BitVec.reduceOfInt, Nat.zero_add, Nat.mul_one, Nat.add_zero, Int.zero_add, Int.reduceToNat, Nat.reducePow, ↓reduceIte, reduceCtorEq, Int.reduceLE, Int.reduceLT, Int.reduceEq, Int.reduceNe, Int.reduceAdd, Int.reduceSub, Int.reduceMul, Int.reduceNeg, Nat.reduceBEq, show regOf Tryd.f4 0 = Code.region _ _ _ from rfl, show regOf Tryd.f4 1 = Code.region _ _ _ from rfl, ca, cb, hk]
          simp (implicitDefEqProofs := false) (maxSteps := 400000) (disch := omega) only [go_sem, Nat.reduceAdd, Nat.reduceSub, Nat.reduceMul, Nat.reduceLT, Nat.reduceLeDiff, Nat.reduceEqDiff, List.drop_zero, List.take_succ_cons, List.take_zero, List.drop_succ_cons, Bool.and_true, Bool.true_and, Bool.and_false, Bool.false_and, BitVec.reduceOfInt, Nat.zero_add, Nat.mul_one, Nat.add_zero, Int.zero_add, Int.reduceToNat, Nat.reducePow, ↓reduceIte, reduceCtorEq, Int.reduceLE, Int.reduceLT, Int.reduceEq, Int.reduceNe, Int.reduceAdd, Int.reduceSub, Int.reduceMul, Int.reduceNeg, Nat.reduceBEq, show regOf Tryd.f4 3 = Code.region _ _ _ from rfl, ↓tail_nil, ↓subs_nil_all, ↓List.forall_mem_cons, ↓all_nil, Bool.true_or, subs_two, List.tail_cons, killAt_nil, killAt_cons, List.cons_append, List.nil_append, List.length_cons, List.length_nil]
          generalize (o1 && o2) = o3 at *
          cases o1 <;> cases o3
          all_goals simp (implicitDefEqProofs := false) (disch := omega) only [go_sem, Nat.reduceAdd, Nat.reduceSub, Nat.reduceMul, Nat.reduceLT, Nat.reduceLeDiff, Nat.reduceEqDiff, List.drop_zero, List.take_succ_cons, List.take_zero, List.drop_succ_cons, Bool.and_true, Bool.true_and, Bool.and_false, Bool.false_and, BitVec.reduceOfInt, Nat.zero_add, Nat.mul_one, Nat.add_zero, Int.zero_add, Int.reduceToNat, Nat.reducePow, ↓reduceIte, reduceCtorEq, Int.reduceLE, Int.reduceLT, Int.reduceEq, Int.reduceNe, Int.reduceAdd, Int.reduceSub, Int.reduceMul, Int.reduceNeg, Nat.reduceBEq, show regOf Tryd.f4 4 = Code.region _ _ _ from rfl, c1, c2, c3, c4, alive_c]
          all_goals exact ⟨_, rfl⟩
        · rw [tmV_mk] at ca cb
          rw [tmV_mk, tmV_mk]
          rw [aval_of Tryd.func4 body4 Tryd.results4 Tryd.ntmps4 ok4]
          by_cases h1 : k = 1
          · subst h1
            simp (implicitDefEqProofs := false) (disch := omega) only [go_sem, Nat.reduceAdd, Nat.reduceSub, Nat.reduceMul, Nat.reduceLT, Nat.reduceLeDiff, Nat.reduceEqDiff, List.drop_zero, List.take_succ_cons, List.take_zero, List.drop_succ_cons, Bool.and_true, Bool.true_and, Bool.and_false, Bool.false_and, BitVec.reduceOfInt, Nat.zero_add, Nat.mul_one, Nat.add_zero, Int.zero_add, Int.reduceToNat, Nat.reducePow, ↓reduceIte, reduceCtorEq, Int.reduceLE, Int.reduceLT, Int.reduceEq, Int.reduceNe, Int.reduceAdd, Int.reduceSub, Int.reduceMul, Int.reduceNeg, Nat.reduceBEq, show regOf Tryd.f4 0 = Code.region _ _ _ from rfl, show regOf Tryd.f4 1 = Code.region _ _ _ from rfl, show regOf Tryd.f4 2 = Code.region _ _ _ from rfl, ca, cb, alive_c]
            exact ⟨_, rfl⟩
          · by_cases h2 : k = k'
            · by_cases h3 : p = p'
              · have h4 : ¬ m = m' := fun h4 => h ⟨h1, h2, h3, h4⟩
                subst h2; subst h3
                simp (implicitDefEqProofs := false) (disch := omega) only [go_sem, Nat.reduceAdd, Nat.reduceSub, Nat.reduceMul, Nat.reduceLT, Nat.reduceLeDiff, Nat.reduceEqDiff, List.drop_zero, List.take_succ_cons, List.take_zero, List.drop_succ_cons, Bool.and_true, Bool.true_and, Bool.and_false, Bool.false_and, BitVec.reduceOfInt, Nat.zero_add, Nat.mul_one, Nat.add_zero, Int.zero_add, Int.reduceToNat, Nat.reducePow, ↓reduceIte, reduceCtorEq, Int.reduceLE, Int.reduceLT, Int.reduceEq, Int.reduceNe, Int.reduceAdd, Int.reduceSub, Int.reduceMul, Int.reduceNeg, Nat.reduceBEq, show regOf Tryd.f4 0 = Code.region _ _ _ from rfl, show regOf Tryd.f4 1 = Code.region _ _ _ from rfl, show regOf Tryd.f4 2 = Code.region _ _ _ from rfl, ca, cb, h1, h4, hm, alive_c]
                exact ⟨_, rfl⟩
              · subst h2
                simp (implicitDefEqProofs := false) (disch := omega) only [go_sem, Nat.reduceAdd, Nat.reduceSub, Nat.reduceMul, Nat.reduceLT, Nat.reduceLeDiff, Nat.reduceEqDiff, List.drop_zero, List.take_succ_cons, List.take_zero, List.drop_succ_cons, Bool.and_true, Bool.true_and, Bool.and_false, Bool.false_and, BitVec.reduceOfInt, Nat.zero_add, Nat.mul_one, Nat.add_zero, Int.zero_add, Int.reduceToNat, Nat.reducePow, ↓reduceIte, reduceCtorEq, Int.reduceLE, Int.reduceLT, Int.reduceEq, Int.reduceNe, Int.reduceAdd, Int.reduceSub, Int.reduceMul, Int.reduceNeg, Nat.reduceBEq, show regOf Tryd.f4 0 = Code.region _ _ _ from rfl, show regOf Tryd.f4 1 = Code.region _ _ _ from rfl, show regOf Tryd.f4 2 = Code.region _ _ _ from rfl, ca, cb, h1, h3, hp, alive_c]
                exact ⟨_, rfl⟩
            · simp (implicitDefEqProofs := false) (disch := omega) only [go_sem, Nat.reduceAdd, Nat.reduceSub, Nat.reduceMul, Nat.reduceLT, Nat.reduceLeDiff, Nat.reduceEqDiff, List.drop_zero, List.take_succ_cons, List.take_zero, List.drop_succ_cons, Bool.and_true, Bool.true_and, Bool.and_false, Bool.false_and, BitVec.reduceOfInt, Nat.zero_add, Nat.mul_one, Nat.add_zero, Int.zero_add, Int.reduceToNat, Nat.reducePow, ↓reduceIte, reduceCtorEq, Int.reduceLE, Int.reduceLT, Int.reduceEq, Int.reduceNe, Int.reduceAdd, Int.reduceSub, Int.reduceMul, Int.reduceNeg, Nat.reduceBEq, show regOf Tryd.f4 0 = Code.region _ _ _ from rfl, show regOf Tryd.f4 1 = Code.region _ _ _ from rfl, show regOf Tryd.f4 2 = Code.region _ _ _ from rfl, ca, cb, h1, h2, alive_c]
              exact ⟨_, rfl⟩
  obtain ⟨h, e⟩ := e
  rw [pcall_eq, e, pureRes_solid rfl]
end Go.Proofs.YtedapgcaibbhoaaDoor
namespace Go.Proofs.YtedapgcaibbhoaaDoor
open Go Go.Ab Go.Proofs Go.RowKit Go.ChangeShapes Go.WideShapes
set_option maxRecDepth 100000
theorem own : ownKnob Tryd.prog.godebug = none := by kernel_rfl
theorem laidOut : laidOutB Tryd.prog = true := by kernel_rfl
theorem mixed : Tryd.prog.follows .mixedOrders = true := by kernel_rfl
theorem und3 : Tryd.prog.underlying 3 = some (.int .i64) := by kernel_rfl
theorem und9 : Tryd.prog.underlying 9 = some .string := by kernel_rfl
theorem und22 : Tryd.prog.underlying 22 = some (.slice 24) := by kernel_rfl
theorem WT_str {n : Nat} {a : AV} (h : WT Tryd.prog n 9 a) : ∃ s : ByteArray, a = .val (.string s) ∧ s.size ≤ maxLen := by
  cases n with
  | zero => exact h.elim
  | succ n => unfold WT at h; rw [und9] at h; exact h
theorem WT_i64 {n t : Nat} {a : AV} (ht : Tryd.prog.underlying t = some (.int .i64)) (h : WT Tryd.prog n t a) : ∃ x, a = .int x ∧ -9223372036854775808 ≤ x ∧ x ≤ 9223372036854775807 := by
  cases n with
  | zero => exact h.elim
  | succ n =>
    unfold WT at h; rw [ht] at h
    obtain ⟨x, rfl, hw⟩ := h
    have hw' : (decide (-9223372036854775808 ≤ x) && decide (x ≤ 9223372036854775807)) = true := hw
    simp only [Bool.and_eq_true, decide_eq_true_eq] at hw'
    exact ⟨x, rfl, hw'⟩
theorem allF {fs : List Field} {p : Field → Prop} (h : ∀ f ∈ fs.toArray, p f) : ∀ f ∈ fs, p f := fun f hf => h f (List.mem_toArray.2 hf)
mutual
/-- Numbers as ints. -/
def Tm.num : Tm → Prop | .mk k _ _ n l => (-9223372036854775808 ≤ k ∧ k ≤ 9223372036854775807) ∧ (-9223372036854775808 ≤ n ∧ n ≤ 9223372036854775807) ∧ Tm.nums l
def Tm.nums : List Tm → Prop | [] => True | t :: r => t.num ∧ Tm.nums r
end
theorem fits_of : ∀ {l : List Tm}, (∀ t ∈ l, t.fit ∧ t.num) → Tm.fits l ∧ Tm.nums l
  | [], _ => by rw [Tm.fits, Tm.nums]; exact ⟨trivial, trivial⟩
  | t :: r, h => by
    have h1 := h t (List.mem_cons_self ..)
    have h2 := fits_of fun u hu => h u (List.mem_cons_of_mem _ hu)
    rw [Tm.fits, Tm.nums]; exact ⟨⟨h1.1, h2.1⟩, ⟨h1.2, h2.2⟩⟩
theorem WT_tm : ∀ (n : Nat) {a : AV}, WT Tryd.prog n 24 a → ∃ t : Tm, a = tmV t ∧ t.fit ∧ t.num
  | 0, a, h => h.elim
  | 1, a, h => by
    unfold WT at h
    rw [Tryd.underlying24] at h
    obtain ⟨cs, rfl, hl, hf⟩ := h
    have hf := allF hf
    simp only [List.forall_mem_cons] at hf
    exact hf.1.elim
  | n + 2, a, h => by
    have ih := fun {a : AV} (h : WT Tryd.prog n 24 a) => WT_tm n h
    unfold WT at h
    rw [Tryd.underlying24] at h
    obtain ⟨cs, rfl, hl, hf⟩ := h
    have hl : cs.length = 5 := hl
    match cs, hl with
    | [a0, a1, a2, a3, a4], _ =>
      have hf := allF hf
      simp only [List.forall_mem_cons] at hf
      obtain ⟨f0, f1, f2, f3, f4, _⟩ := hf
      obtain ⟨k, e0, hk⟩ := WT_i64 und3 (show WT Tryd.prog (n + 1) 3 a0 from f0)
      obtain ⟨s, e1, h1⟩ := WT_str (show WT Tryd.prog (n + 1) 9 a1 from f1)
      obtain ⟨t, e2, h2⟩ := WT_str (show WT Tryd.prog (n + 1) 9 a2 from f2)
      obtain ⟨m, e3, hm⟩ := WT_i64 und3 (show WT Tryd.prog (n + 1) 3 a3 from f3)
      have g4 : WT Tryd.prog (n + 1) 22 a4 := f4
      unfold WT at g4
      rw [und22] at g4
      obtain ⟨es, e4, hlen, he⟩ := g4
      subst e0; subst e1; subst e2; subst e3; subst e4
      have key : ∀ es : List AV, (∀ x ∈ es, WT Tryd.prog n 24 x) → ∃ l : List Tm, es = l.map tmV ∧ ∀ t ∈ l, t.fit ∧ t.num := by
        intro es
        induction es with
        | nil => intro _; exact ⟨[], rfl, by simp⟩
        | cons e r ihr =>
          intro h
          obtain ⟨l, e1, e2⟩ := ihr fun y hy => h y (List.mem_cons_of_mem _ hy)
          obtain ⟨t, et, ft⟩ := ih (h e (List.mem_cons_self ..))
          refine ⟨t :: l, by rw [e1, et]; rfl, ?_⟩
          intro u hu
          rcases List.mem_cons.1 hu with hu | hu
          · rw [hu]; exact ft
          · exact e2 u hu
      obtain ⟨l, el, fl⟩ := key es he
      obtain ⟨S, rfl⟩ := txt_of s
      obtain ⟨T, rfl⟩ := txt_of t
      have := txt_size S
      have := txt_size T
      unfold maxLen at h1 h2 hlen
      refine ⟨⟨k, S, T, m, l⟩, by rw [tmV_mk, ← el], ?_, ?_⟩
      · rw [Tm.fit]
        refine ⟨by omega, by omega, ?_, (fits_of fl).1⟩
        have := congrArg List.length el
        rw [List.length_map] at this
        omega
      · rw [Tm.num]; exact ⟨hk, hm, (fits_of fl).2⟩
end Go.Proofs.YtedapgcaibbhoaaDoor
