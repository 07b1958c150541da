/- Parts of the proof, each with its own heading: Above, Same; which types are gone through. SchemeParts is true of every input. What the laws of touchstonelaw14 share: closed facts of the program, and terms as arguments. Whether two terms are the same, as the document says. The document's match. The document's match, by the program. The document's match: done; Above and Match as the document says. The document's Match and Above. Names: Index and Contains. -/
import Derived.Test.YtedapgcaibbhoaaDoorPart10
import Derived.Test.YtedapgcaibbhoaaDoorRows
set_option linter.unusedSimpArgs false
set_option linter.unusedVariables false
namespace Go.Proofs.YtedapgcaibbhoaaDoor
open Go Go.Ab Go.Proofs
set_option maxRecDepth 100000
set_option linter.unusedSimpArgs false
set_option linter.unusedVariables false
theorem isMapT_47 : isMapT Tryd.prog 47 = true := by kernel_rfl
theorem ofCell_nilmap : ofCell (.map none) = .val (.map none) := rfl
/-- Is one type above another one? -/
def abv (a b : Tm) : Bool := (mS (tsz a) [(a, b)] ([], 0)).isSome
set_option maxHeartbeats 8000000 in
theorem match_c (a b : Tm) (ha : a.fit) (hb : b.fit) (hsz : tsz a ≤ 100000) (h0 : AHeap) (hv : ∀ i < h0.length, ∃ cs, hget h0 i = .vars cs) : ∃ (x : AV) (h' : AHeap), doCall md (aval Tryd.prog md fg) 27 [tmV a, tmV b] h0 = some (.tup [x, .bool (abv a b)], h') := by
  have e : ∃ (x : AV) (h' : AHeap), aval Tryd.prog md fg 27 [tmV a, tmV b] h0 = some (.tup [x, .bool (abv a b)], h') ∧ (below h0.length (.tup [x, .bool (abv a b)]) = false ∨ below h0.length (.tup [x, .bool (abv a b)]) = true ∧ GcOk h0.length h0 h') := by
    have hfit : ∀ p ∈ [(a, b)], p.1.fit ∧ p.2.fit := fun p hp => by rw [List.mem_singleton.1 hp]; exact ⟨ha, hb⟩
    obtain ⟨k, p, m, n, l⟩ := a
    obtain ⟨k', p', m', n', l'⟩ := b
    have ih := m_loop (M := h0.length + 2) (tsz ⟨k, p, m, n, l⟩) [(⟨k, p, m, n, l⟩, ⟨k', p', m', n', l'⟩)] ([], 0) (h0 ++ [AObj.vars [.int k, .str (txt p), .str (txt m), .int n, .slc false (l.map tmV)], AObj.vars [.int k', .str (txt p'), .str (txt m'), .int n', .slc false (l'.map tmV)], AObj.map [] 0, AObj.arr 10 [pairV (⟨k, p, m, n, l⟩, ⟨k', p', m', n', l'⟩)] 0]) (.arr (h0.length + 3) 0 1 0 10) (.val (.map .none)) (.val (.bool false)) (by simp only [psz]; omega) hsz hfit (fun e he => by cases he) (sb_get2 _ _ _ _ rfl) ⟨h0.length + 3, 0, [pairV (⟨k, p, m, n, l⟩, ⟨k', p', m', n', l'⟩)], rfl, by
      unfold hget; rw [List.getD_eq_getElem?_getD, List.getElem?_append_right (by omega), show h0.length + 3 - h0.length = 3 by omega]; rfl, by simp, by simp⟩
    unfold abv
    rw [tmV_mk, tmV_mk]
    rw [pairV_mk] at ih
    generalize mS (tsz ⟨k, p, m, n, l⟩) [(⟨k, p, m, n, l⟩, ⟨k', p', m', n', l'⟩)] ([], 0) = o at *
    cases o with
    | some P =>
      obtain ⟨v', h', a4, a5, e1, e2, e3⟩ := ih
      refine ⟨.mp (h0.length + 2), h', ?_, .inl (by simp [below, belowL])⟩
      rw [aval_of Tryd.func27 body27 Tryd.results27 Tryd.ntmps27 ok27]
      simp (implicitDefEqProofs := false) (disch := first | omega | exact List.length_set) only [go_sem, Nat.reduceAdd, Nat.reduceSub, Nat.reduceMul, Nat.reduceLT, Nat.reduceLeDiff, Nat.reduceEqDiff, List.drop_zero, List.take_succ_cons, List.take_zero, List.drop_succ_cons, Bool.and_true, Bool.true_and, Bool.and_false, Bool.false_and, BitVec.reduceOfInt, Nat.zero_add, Nat.mul_one, Nat.add_zero, Int.zero_add, Int.reduceToNat, Nat.reducePow, ↓reduceIte, reduceCtorEq, Int.reduceLE, Int.reduceLT, Int.reduceEq, Int.reduceNe, Int.reduceAdd, Int.reduceSub, Int.reduceMul, Int.reduceNeg, Nat.reduceBEq, show regOf Tryd.f27 0 = Code.region _ _ _ from rfl, show regOf Tryd.f27 1 = Code.region _ _ _ from rfl, show regOf Tryd.f27 2 = Code.region _ _ _ from rfl, show regOf Tryd.f27 18 = Code.region _ _ _ from rfl, aop_makeMap0, isMapT_47, ofCell_nilmap, b69, List.append_assoc, List.cons_append, List.nil_append, List.length_append, List.length_cons, List.length_nil, sb_get0, sb_get1, sb_get2, sb_set0, sb_set1, e1, Option.isSome_some, aresults, tupOf, Option.map_some]
    | none =>
      obtain ⟨e', h', e1, e2, e3, e4⟩ := ih
      refine ⟨.val (.map .none), h', ?_, .inr ⟨rfl, ?_⟩⟩
      · rw [aval_of Tryd.func27 body27 Tryd.results27 Tryd.ntmps27 ok27]
        simp (implicitDefEqProofs := false) (disch := first | omega | exact List.length_set) only [go_sem, Nat.reduceAdd, Nat.reduceSub, Nat.reduceMul, Nat.reduceLT, Nat.reduceLeDiff, Nat.reduceEqDiff, List.drop_zero, List.take_succ_cons, List.take_zero, List.drop_succ_cons, Bool.and_true, Bool.true_and, Bool.and_false, Bool.false_and, BitVec.reduceOfInt, Nat.zero_add, Nat.mul_one, Nat.add_zero, Int.zero_add, Int.reduceToNat, Nat.reducePow, ↓reduceIte, reduceCtorEq, Int.reduceLE, Int.reduceLT, Int.reduceEq, Int.reduceNe, Int.reduceAdd, Int.reduceSub, Int.reduceMul, Int.reduceNeg, Nat.reduceBEq, show regOf Tryd.f27 0 = Code.region _ _ _ from rfl, show regOf Tryd.f27 1 = Code.region _ _ _ from rfl, show regOf Tryd.f27 2 = Code.region _ _ _ from rfl, show regOf Tryd.f27 18 = Code.region _ _ _ from rfl, aop_makeMap0, isMapT_47, ofCell_nilmap, b69, List.append_assoc, List.cons_append, List.nil_append, List.length_append, List.length_cons, List.length_nil, sb_get0, sb_get1, sb_get2, sb_set0, sb_set1, e1, Option.isSome_none, aresults, tupOf, Option.map_some]
        rw [e2, e3]
      · intro i hi
        left
        obtain ⟨cs, hc⟩ := hv i hi
        have k1 := e4.2 i cs (by rw [hget_app _ hi]; exact hc)
        have hl : i < h'.length := hlt_of k1 (by simp)
        unfold hget at k1 hc
        rw [List.getD_eq_getElem?_getD, List.getElem?_eq_getElem hl] at k1
        rw [List.getD_eq_getElem?_getD, List.getElem?_eq_getElem hi] at hc
        rw [List.getElem?_eq_getElem hl, List.getElem?_eq_getElem hi]
        simp only [Option.getD_some] at k1 hc
        rw [k1, hc]
  obtain ⟨x, h', e, hb⟩ := e
  rcases hb with hb | ⟨hb, hg⟩
  · exact ⟨x, h', doCall_keep (by decide) (by decide) (by decide) e hb⟩
  · exact ⟨x, _, doCall_ref (by decide) (by decide) (by decide) e hb hg⟩
theorem above_p (a b : Tm) (ha : a.fit) (hb : b.fit) (hsz : tsz a ≤ 100000) : pcall Tryd.prog md fg 10 [tmV a, tmV b] = some (.val (.bool (abv a b))) := by
  have e : ∃ h, aval Tryd.prog md fg 10 [tmV a, tmV b] [] = some (.val (.bool (abv a b)), h) := by
    obtain ⟨x, h', c⟩ := match_c a b ha hb hsz [.vars (tmV a).cells, .vars (tmV b).cells] (fun i hi => by
      match i, hi with
      | 0, _ => exact ⟨_, rfl⟩
      | 1, _ => exact ⟨_, rfl⟩)
    generalize abv a b = o at *
    obtain ⟨k, p, m, n, l⟩ := a
    obtain ⟨k', p', m', n', l'⟩ := b
    rw [tmV_mk, tmV_mk] at c ⊢
    change doCall md (aval Tryd.prog md fg) 27 _ [.vars [.int k, .str (txt p), .str (txt m), .int n, .slc false (l.map tmV)], .vars [.int k', .str (txt p'), .str (txt m'), .int n', .slc false (l'.map tmV)]] = _ at c
    rw [aval_of Tryd.func10 body10 Tryd.results10 Tryd.ntmps10 ok10]
    simp (implicitDefEqProofs := false) (disch := omega) only [go_sem, Nat.reduceAdd, Nat.reduceSub, Nat.reduceMul, Nat.reduceLT, Nat.reduceLeDiff, Nat.reduceEqDiff, List.drop_zero, List.take_succ_cons, List.take_zero, List.drop_succ_cons, Bool.and_true, Bool.true_and, Bool.and_false, Bool.false_and, BitVec.reduceOfInt, Nat.zero_add, Nat.mul_one, Nat.add_zero, Int.zero_add, Int.reduceToNat, Nat.reducePow, ↓reduceIte, reduceCtorEq, Int.reduceLE, Int.reduceLT, Int.reduceEq, Int.reduceNe, Int.reduceAdd, Int.reduceSub, Int.reduceMul, Int.reduceNeg, Nat.reduceBEq, show regOf Tryd.f10 0 = Code.region _ _ _ from rfl, show regOf Tryd.f10 1 = Code.region _ _ _ from rfl, show regOf Tryd.f10 2 = Code.region _ _ _ from rfl, c]
    exact ⟨_, rfl⟩
  obtain ⟨h, e⟩ := e
  rw [pcall_eq, e, pureRes_solid rfl]
theorem solid2 (a b : Tm) : solidL [tmV a, tmV b] = true := by simp only [solidL, solid_tm, Bool.and_self]
theorem above_c (a b : Tm) (ha : a.fit) (hb : b.fit) (hsz : tsz a ≤ 100000) (h : AHeap) : doCall md (aval Tryd.prog md fg) 10 [tmV a, tmV b] h = some (.val (.bool (abv a b)), h) := doCall_pure md10 (solid2 a b) (above_p a b ha hb hsz)
theorem same_p (a b : Tm) (ha : a.fit) (hb : b.fit) (hsz : tsz a ≤ 100000) (hsz2 : tsz b ≤ 100000) : pcall Tryd.prog md fg 12 [tmV a, tmV b] = some (.val (.bool (abv a b && abv b a))) := by
  have e : ∃ h, aval Tryd.prog md fg 12 [tmV a, tmV b] [] = some (.val (.bool (abv a b && abv b a)), h) := by
    have c1 := above_c a b ha hb hsz
    have c2 := above_c b a hb ha hsz2
    generalize abv a b = o1 at *
    generalize abv b a = o2 at *
    obtain ⟨k, p, m, n, l⟩ := a
    obtain ⟨k', p', m', n', l'⟩ := b
    rw [tmV_mk, tmV_mk] at c1 c2 ⊢
    rw [aval_of Tryd.func12 body12 Tryd.results12 Tryd.ntmps12 ok12]
    cases o1 <;> simp (implicitDefEqProofs := false) (disch := omega) only [go_sem, Nat.reduceAdd, Nat.reduceSub, Nat.reduceMul, Nat.reduceLT, Nat.reduceLeDiff, Nat.reduceEqDiff, List.drop_zero, List.take_succ_cons, List.take_zero, List.drop_succ_cons, Bool.and_true, Bool.true_and, Bool.and_false, Bool.false_and, BitVec.reduceOfInt, Nat.zero_add, Nat.mul_one, Nat.add_zero, Int.zero_add, Int.reduceToNat, Nat.reducePow, ↓reduceIte, reduceCtorEq, Int.reduceLE, Int.reduceLT, Int.reduceEq, Int.reduceNe, Int.reduceAdd, Int.reduceSub, Int.reduceMul, Int.reduceNeg, Nat.reduceBEq, show regOf Tryd.f12 0 = Code.region _ _ _ from rfl, show regOf Tryd.f12 1 = Code.region _ _ _ from rfl, c1, c2]
    all_goals exact ⟨_, rfl⟩
  obtain ⟨h, e⟩ := e
  rw [pcall_eq, e, pureRes_solid rfl]
theorem same_c (a b : Tm) (ha : a.fit) (hb : b.fit) (hsz : tsz a ≤ 100000) (hsz2 : tsz b ≤ 100000) (h : AHeap) : doCall md (aval Tryd.prog md fg) 12 [tmV a, tmV b] h = some (.val (.bool (abv a b && abv b a)), h) := doCall_pure md12 (solid2 a b) (same_p a b ha hb hsz hsz2)
theorem solid1 (a : Tm) : solidL [tmV a] = true := by simp only [solidL, solid_tm, Bool.and_self]
theorem few_p (a : Tm) (ha : a.fit) : ∃ b : Bool, (b = true → tsz a ≤ 600 ∧ typ a) ∧ pcall Tryd.prog md fg 7 [tmV a] = some (.val (.bool b)) := by
  obtain ⟨w, w0, w1, w2, w3⟩ := W_all a ha 0 (by omega) (by omega)
  obtain ⟨y, y1, y2⟩ := Y_all a ha
  have cw : ∀ h : AHeap, doCall md (aval Tryd.prog md fg) 37 [tmV a, .int 0] h = some (.int w, h) := fun h => doCall_pure md37 (by simp only [solidL, solid_tm, Bool.true_and]; rfl) w3
  have cy : ∀ h : AHeap, doCall md (aval Tryd.prog md fg) 24 [tmV a] h = some (.val (.bool y), h) := fun h => doCall_pure md24 (solid1 a) y2
  have e23 : pcall Tryd.prog md fg 23 [tmV a] = some (.val (.bool (decide (w ≤ 600)))) := by
    have e : ∃ h, aval Tryd.prog md fg 23 [tmV a] [] = some (.val (.bool (decide (w ≤ 600))), h) := by
      clear cy y2 y1 w3 w2
      obtain ⟨k, p, m, n, l⟩ := a
      rw [tmV_mk] at cw ⊢
      rw [aval_of Tryd.func23 body23 Tryd.results23 Tryd.ntmps23 ok23]
      simp (implicitDefEqProofs := false) (disch := omega) only [go_sem, Nat.reduceAdd, Nat.reduceSub, Nat.reduceMul, Nat.reduceLT, Nat.reduceLeDiff, Nat.reduceEqDiff, List.drop_zero, List.take_succ_cons, List.take_zero, List.drop_succ_cons, Bool.and_true, Bool.true_and, Bool.and_false, Bool.false_and, BitVec.reduceOfInt, Nat.zero_add, Nat.mul_one, Nat.add_zero, Int.zero_add, Int.reduceToNat, Nat.reducePow, ↓reduceIte, reduceCtorEq, Int.reduceLE, Int.reduceLT, Int.reduceEq, Int.reduceNe, Int.reduceAdd, Int.reduceSub, Int.reduceMul, Int.reduceNeg, Nat.reduceBEq, show regOf Tryd.f23 0 = Code.region _ _ _ from rfl, show regOf Tryd.f23 1 = Code.region _ _ _ from rfl, cw]
      exact ⟨_, rfl⟩
    obtain ⟨h, e⟩ := e
    rw [pcall_eq, e, pureRes_solid rfl]
  have c23 : ∀ h : AHeap, doCall md (aval Tryd.prog md fg) 23 [tmV a] h = some (.val (.bool (decide (w ≤ 600))), h) := fun h => doCall_pure md23 (solid1 a) e23
  refine ⟨decide (w ≤ 600) && y, fun hb => ?_, ?_⟩
  · simp only [Bool.and_eq_true, decide_eq_true_eq] at hb
    have := w2 (by omega)
    exact ⟨by omega, y1 hb.2⟩
  · have e : ∃ h, aval Tryd.prog md fg 7 [tmV a] [] = some (.val (.bool (decide (w ≤ 600) && y)), h) := by
      clear y1 y2 w3 w2 cw e23
      obtain ⟨k, p, m, n, l⟩ := a
      rw [tmV_mk] at cy c23 ⊢
      generalize decide (w ≤ 600) = b at *
      rw [aval_of Tryd.func7 body7 Tryd.results7 Tryd.ntmps7 ok7]
      cases b <;> simp (implicitDefEqProofs := false) (disch := omega) only [go_sem, Nat.reduceAdd, Nat.reduceSub, Nat.reduceMul, Nat.reduceLT, Nat.reduceLeDiff, Nat.reduceEqDiff, List.drop_zero, List.take_succ_cons, List.take_zero, List.drop_succ_cons, Bool.and_true, Bool.true_and, Bool.and_false, Bool.false_and, BitVec.reduceOfInt, Nat.zero_add, Nat.mul_one, Nat.add_zero, Int.zero_add, Int.reduceToNat, Nat.reducePow, ↓reduceIte, reduceCtorEq, Int.reduceLE, Int.reduceLT, Int.reduceEq, Int.reduceNe, Int.reduceAdd, Int.reduceSub, Int.reduceMul, Int.reduceNeg, Nat.reduceBEq, show regOf Tryd.f7 0 = Code.region _ _ _ from rfl, show regOf Tryd.f7 1 = Code.region _ _ _ from rfl, cy, c23]
      all_goals exact ⟨_, rfl⟩
    obtain ⟨h, e⟩ := e
    rw [pcall_eq, e, pureRes_solid rfl]
theorem alive_p : pcall Tryd.prog md fg 9 [] = some (.bool true) := pcall_strue okKnown 200 (by decide +kernel)
theorem alive_c (h : AHeap) : doCall md (aval Tryd.prog md fg) 9 [] h = some (.val (.bool true), h) := doCall_pure md9 rfl alive_p
end Go.Proofs.YtedapgcaibbhoaaDoor
namespace Go.Proofs.YtedapgcaibbhoaaDoor
open Go Go.Ab Go.Proofs
set_option maxRecDepth 100000
set_option linter.unusedSimpArgs false
set_option linter.unusedVariables false
theorem abv_parts {k : Int} (hk : k ≠ 1) (p m : List UInt8) (l l' : List Tm) : abv ⟨k, p, m, 0, l⟩ ⟨k, p, m, 0, l'⟩ = abv ⟨4, [], [], 0, l⟩ ⟨4, [], [], 0, l'⟩ := by
  unfold abv
  have e : ∀ (k : Int) (p m : List UInt8), k ≠ 1 → mS (tsz ⟨k, p, m, 0, l⟩) [(⟨k, p, m, 0, l⟩, ⟨k, p, m, 0, l'⟩)] ([], 0) = if l.length = l'.length then mS (tszs l) ((l.zip l').reverse ++ []) ([], 0) else none := by
    intro k p m hk
    rw [tsz, Nat.add_comm, mS]
    rw [if_neg (show ¬ (Tm.kind ⟨k, p, m, 0, l⟩ = 1) from hk)]
    by_cases h : l.length = l'.length
    · rw [if_pos h]; exact if_pos ⟨rfl, rfl, rfl, rfl, h⟩
    · rw [if_neg h]; exact if_neg fun hc => h hc.2.2.2.2
  rw [e k p m hk, e 4 [] [] (by decide)]
theorem typ_n {k : Int} {p m : List UInt8} {n : Int} {l : List Tm} (h : typ ⟨k, p, m, n, l⟩) : n = 0 := by rw [typ] at h; exact h.2.2.1
set_option maxHeartbeats 8000000 in
theorem schemeParts (a b : Tm) (ha : a.fit) (hb : b.fit) : pcall Tryd.prog md fg 4 [tmV a, tmV b] = some (.bool true) := by
  have e : ∃ h, aval Tryd.prog md fg 4 [tmV a, tmV b] [] = some (.bool true, h) := by
    obtain ⟨fa, fa1, fa2⟩ := few_p a ha
    obtain ⟨fb, fb1, fb2⟩ := few_p b hb
    have ca : ∀ h : AHeap, doCall md (aval Tryd.prog md fg) 7 [tmV a] h = some (.val (.bool fa), h) := fun h => doCall_pure md7 (solid1 a) fa2
    have cb : ∀ h : AHeap, doCall md (aval Tryd.prog md fg) 7 [tmV b] h = some (.val (.bool fb), h) := fun h => doCall_pure md7 (solid1 b) fb2
    obtain ⟨k, p, m, n, l⟩ := a
    obtain ⟨k', p', m', n', l'⟩ := b
    have hp := str_eq p p'
    have hm := str_eq m m'
    cases fa with
    | false =>
      rw [tmV_mk] at ca
      rw [tmV_mk, tmV_mk]
      rw [aval_of Tryd.func4 body4 Tryd.results4 Tryd.ntmps4 ok4]
      simp (implicitDefEqProofs := false) (disch := omega) only [go_sem, Nat.reduceAdd, Nat.reduceSub, Nat.reduceMul, Nat.reduceLT, Nat.reduceLeDiff, Nat.reduceEqDiff, List.drop_zero, List.take_succ_cons, List.take_zero, List.drop_succ_cons, Bool.and_true, Bool.true_and, Bool.and_false, Bool.false_and, BitVec.reduceOfInt, Nat.zero_add, Nat.mul_one, Nat.add_zero, Int.zero_add, Int.reduceToNat, Nat.reducePow, ↓reduceIte, reduceCtorEq, Int.reduceLE, Int.reduceLT, Int.reduceEq, Int.reduceNe, Int.reduceAdd, Int.reduceSub, Int.reduceMul, Int.reduceNeg, Nat.reduceBEq, show regOf Tryd.f4 0 = Code.region _ _ _ from rfl, show regOf Tryd.f4 1 = Code.region _ _ _ from rfl, show regOf Tryd.f4 2 = Code.region _ _ _ from rfl, ca, alive_c]
      exact ⟨_, rfl⟩
    | true =>
      cases fb with
      | false =>
        rw [tmV_mk] at ca cb
        rw [tmV_mk, tmV_mk]
        rw [aval_of Tryd.func4 body4 Tryd.results4 Tryd.ntmps4 ok4]
        simp (implicitDefEqProofs := false) (disch := omega) only [go_sem, Nat.reduceAdd, Nat.reduceSub, Nat.reduceMul, Nat.reduceLT, Nat.reduceLeDiff, Nat.reduceEqDiff, List.drop_zero, List.take_succ_cons, List.take_zero, List.drop_succ_cons, Bool.and_true, Bool.true_and, Bool.and_false, Bool.false_and, BitVec.reduceOfInt, Nat.zero_add, Nat.mul_one, Nat.add_zero, Int.zero_add, Int.reduceToNat, Nat.reducePow, ↓reduceIte, reduceCtorEq, Int.reduceLE, Int.reduceLT, Int.reduceEq, Int.reduceNe, Int.reduceAdd, Int.reduceSub, Int.reduceMul, Int.reduceNeg, Nat.reduceBEq, show regOf Tryd.f4 0 = Code.region _ _ _ from rfl, show regOf Tryd.f4 1 = Code.region _ _ _ from rfl, show regOf Tryd.f4 2 = Code.region _ _ _ from rfl, ca, cb, alive_c]
        exact ⟨_, rfl⟩
      | true =>
        obtain ⟨s1, t1⟩ := fa1 rfl
        obtain ⟨s2, t2⟩ := fb1 rfl
        obtain rfl := typ_n t1
        obtain rfl := typ_n t2
        by_cases h : k ≠ 1 ∧ k = k' ∧ p = p' ∧ m = m'
        · obtain ⟨hk, rfl, rfl, rfl⟩ := h
          have fx : (⟨4, [], [], 0, l⟩ : Tm).fit := by rw [Tm.fit] at ha ⊢; exact ⟨by simp, by simp, ha.2.2.1, ha.2.2.2⟩
          have fy : (⟨4, [], [], 0, l'⟩ : Tm).fit := by rw [Tm.fit] at hb ⊢; exact ⟨by simp, by simp, hb.2.2.1, hb.2.2.2⟩
          have sx : tsz ⟨4, [], [], 0, l⟩ ≤ 100000 := by simp only [tsz] at s1 ⊢; omega
          have sy : tsz ⟨4, [], [], 0, l'⟩ ≤ 100000 := by simp only [tsz] at s2 ⊢; omega
          have c1 := above_c ⟨k, p, m, 0, l⟩ ⟨k, p, m, 0, l'⟩ ha hb (by omega)
          have c2 := above_c ⟨4, [], [], 0, l⟩ ⟨4, [], [], 0, l'⟩ fx fy sx
          have c3 := same_c ⟨k, p, m, 0, l⟩ ⟨k, p, m, 0, l'⟩ ha hb (by omega) (by omega)
          have c4 := same_c ⟨4, [], [], 0, l⟩ ⟨4, [], [], 0, l'⟩ fx fy sx sy
          rw [abv_parts hk] at c1
          rw [abv_parts hk, abv_parts hk] at c3
          generalize abv ⟨4, [], [], 0, l⟩ ⟨4, [], [], 0, l'⟩ = o1 at *
          generalize abv ⟨4, [], [], 0, l'⟩ ⟨4, [], [], 0, l⟩ = o2 at *
          have ht : txt [] = ⟨#[]⟩ := rfl
          rw [tmV_mk, tmV_mk] at c1 c2 c3 c4
          rw [ht] at c2 c4
          rw [tmV_mk] at ca cb
          rw [tmV_mk, tmV_mk]
          rw [aval_of Tryd.func4 body4 Tryd.results4 Tryd.ntmps4 ok4]
          simp (implicitDefEqProofs := false) (disch := omega) only [go_sem, Nat.reduceAdd, Nat.reduceSub, Nat.reduceMul, Nat.reduceLT, Nat.reduceLeDiff, Nat.reduceEqDiff, List.drop_zero, List.take_succ_cons, List.take_zero, List.drop_succ_cons, Bool.and_true, Bool.true_and, Bool.and_false, Bool.false_and, BitVec.reduceOfInt, Nat.zero_add, Nat.mul_one, Nat.add_zero, Int.zero_add, Int.reduceToNat, Nat.reducePow, ↓reduceIte, reduceCtorEq, Int.reduceLE, Int.reduceLT, Int.reduceEq, Int.reduceNe, Int.reduceAdd, Int.reduceSub, Int.reduceMul, Int.reduceNeg, Nat.reduceBEq, show regOf Tryd.f4 0 = Code.region _ _ _ from rfl, show regOf Tryd.f4 1 = Code.region _ _ _ from rfl, ca, cb, hk]
          simp (implicitDefEqProofs := false) (maxSteps := 400000) (disch := omega) only [go_sem, Nat.reduceAdd, Nat.reduceSub, Nat.reduceMul, Nat.reduceLT, Nat.reduceLeDiff, Nat.reduceEqDiff, List.drop_zero, List.take_succ_cons, List.take_zero, List.drop_succ_cons, Bool.and_true, Bool.true_and, Bool.and_false, Bool.false_and, BitVec.reduceOfInt, Nat.zero_add, Nat.mul_one, Nat.add_zero, Int.zero_add, Int.reduceToNat, Nat.reducePow, ↓reduceIte, reduceCtorEq, Int.reduceLE, Int.reduceLT, Int.reduceEq, Int.reduceNe, Int.reduceAdd, Int.reduceSub, Int.reduceMul, Int.reduceNeg, Nat.reduceBEq, show regOf Tryd.f4 3 = Code.region _ _ _ from rfl, ↓tail_nil, ↓subs_nil_all, ↓List.forall_mem_cons, ↓all_nil, Bool.true_or, subs_two, List.tail_cons, killAt_nil, killAt_cons, List.cons_append, List.nil_append, List.length_cons, List.length_nil]
          generalize (o1 && o2) = o3 at *
          cases o1 <;> cases o3
          all_goals simp (implicitDefEqProofs := false) (disch := omega) only [go_sem, Nat.reduceAdd, Nat.reduceSub, Nat.reduceMul, Nat.reduceLT, Nat.reduceLeDiff, Nat.reduceEqDiff, List.drop_zero, List.take_succ_cons, List.take_zero, List.drop_succ_cons, Bool.and_true, Bool.true_and, Bool.and_false, Bool.false_and, BitVec.reduceOfInt, Nat.zero_add, Nat.mul_one, Nat.add_zero, Int.zero_add, Int.reduceToNat, Nat.reducePow, ↓reduceIte, reduceCtorEq, Int.reduceLE, Int.reduceLT, Int.reduceEq, Int.reduceNe, Int.reduceAdd, Int.reduceSub, Int.reduceMul, Int.reduceNeg, Nat.reduceBEq, show regOf Tryd.f4 4 = Code.region _ _ _ from rfl, c1, c2, c3, c4, alive_c]
          all_goals exact ⟨_, rfl⟩
        · rw [tmV_mk] at ca cb
          rw [tmV_mk, tmV_mk]
          rw [aval_of Tryd.func4 body4 Tryd.results4 Tryd.ntmps4 ok4]
          by_cases h1 : k = 1
          · subst h1
            simp (implicitDefEqProofs := false) (disch := omega) only [go_sem, Nat.reduceAdd, Nat.reduceSub, Nat.reduceMul, Nat.reduceLT, Nat.reduceLeDiff, Nat.reduceEqDiff, List.drop_zero, List.take_succ_cons, List.take_zero, List.drop_succ_cons, Bool.and_true, Bool.true_and, Bool.and_false, Bool.false_and, BitVec.reduceOfInt, Nat.zero_add, Nat.mul_one, Nat.add_zero, Int.zero_add, Int.reduceToNat, Nat.reducePow, ↓reduceIte, reduceCtorEq, Int.reduceLE, Int.reduceLT, Int.reduceEq, Int.reduceNe, Int.reduceAdd, Int.reduceSub, Int.reduceMul, Int.reduceNeg, Nat.reduceBEq, show regOf Tryd.f4 0 = Code.region _ _ _ from rfl, show regOf Tryd.f4 1 = Code.region _ _ _ from rfl, show regOf Tryd.f4 2 = Code.region _ _ _ from rfl, ca, cb, alive_c]
            exact ⟨_, rfl⟩
          · by_cases h2 : k = k'
            · by_cases h3 : p = p'
              · have h4 : ¬ m = m' := fun h4 => h ⟨h1, h2, h3, h4⟩
                subst h2; subst h3
                simp (implicitDefEqProofs := false) (disch := omega) only [go_sem, Nat.reduceAdd, Nat.reduceSub, Nat.reduceMul, Nat.reduceLT, Nat.reduceLeDiff, Nat.reduceEqDiff, List.drop_zero, List.take_succ_cons, List.take_zero, List.drop_succ_cons, Bool.and_true, Bool.true_and, Bool.and_false, Bool.false_and, BitVec.reduceOfInt, Nat.zero_add, Nat.mul_one, Nat.add_zero, Int.zero_add, Int.reduceToNat, Nat.reducePow, ↓reduceIte, reduceCtorEq, Int.reduceLE, Int.reduceLT, Int.reduceEq, Int.reduceNe, Int.reduceAdd, Int.reduceSub, Int.reduceMul, Int.reduceNeg, Nat.reduceBEq, show regOf Tryd.f4 0 = Code.region _ _ _ from rfl, show regOf Tryd.f4 1 = Code.region _ _ _ from rfl, show regOf Tryd.f4 2 = Code.region _ _ _ from rfl, ca, cb, h1, h4, hm, alive_c]
                exact ⟨_, rfl⟩
              · subst h2
                simp (implicitDefEqProofs := false) (disch := omega) only [go_sem, Nat.reduceAdd, Nat.reduceSub, Nat.reduceMul, Nat.reduceLT, Nat.reduceLeDiff, Nat.reduceEqDiff, List.drop_zero, List.take_succ_cons, List.take_zero, List.drop_succ_cons, Bool.and_true, Bool.true_and, Bool.and_false, Bool.false_and, BitVec.reduceOfInt, Nat.zero_add, Nat.mul_one, Nat.add_zero, Int.zero_add, Int.reduceToNat, Nat.reducePow, ↓reduceIte, reduceCtorEq, Int.reduceLE, Int.reduceLT, Int.reduceEq, Int.reduceNe, Int.reduceAdd, Int.reduceSub, Int.reduceMul, Int.reduceNeg, Nat.reduceBEq, show regOf Tryd.f4 0 = Code.region _ _ _ from rfl, show regOf Tryd.f4 1 = Code.region _ _ _ from rfl, show regOf Tryd.f4 2 = Code.region _ _ _ from rfl, ca, cb, h1, h3, hp, alive_c]
                exact ⟨_, rfl⟩
            · simp (implicitDefEqProofs := false) (disch := omega) only [go_sem, Nat.reduceAdd, Nat.reduceSub, Nat.reduceMul, Nat.reduceLT, Nat.reduceLeDiff, Nat.reduceEqDiff, List.drop_zero, List.take_succ_cons, List.take_zero, List.drop_succ_cons, Bool.and_true, Bool.true_and, Bool.and_false, Bool.false_and, BitVec.reduceOfInt, Nat.zero_add, Nat.mul_one, Nat.add_zero, Int.zero_add, Int.reduceToNat, Nat.reducePow, ↓reduceIte, reduceCtorEq, Int.reduceLE, Int.reduceLT, Int.reduceEq, Int.reduceNe, Int.reduceAdd, Int.reduceSub, Int.reduceMul, Int.reduceNeg, Nat.reduceBEq, show regOf Tryd.f4 0 = Code.region _ _ _ from rfl, show regOf Tryd.f4 1 = Code.region _ _ _ from rfl, show regOf Tryd.f4 2 = Code.region _ _ _ from rfl, ca, cb, h1, h2, alive_c]
              exact ⟨_, rfl⟩
  obtain ⟨h, e⟩ := e
  rw [pcall_eq, e, pureRes_solid rfl]
end Go.Proofs.YtedapgcaibbhoaaDoor
namespace Go.Proofs.YtedapgcaibbhoaaDoor
open Go Go.Ab Go.Proofs Go.RowKit Go.ChangeShapes Go.WideShapes
set_option maxRecDepth 100000
theorem own : ownKnob Tryd.prog.godebug = none := by kernel_rfl
theorem laidOut : laidOutB Tryd.prog = true := by kernel_rfl
theorem mixed : Tryd.prog.follows .mixedOrders = true := by kernel_rfl
theorem und3 : Tryd.prog.underlying 3 = some (.int .i64) := by kernel_rfl
theorem und9 : Tryd.prog.underlying 9 = some .string := by kernel_rfl
theorem und22 : Tryd.prog.underlying 22 = some (.slice 24) := by kernel_rfl
theorem WT_str {n : Nat} {a : AV} (h : WT Tryd.prog n 9 a) : ∃ s : ByteArray, a = .val (.string s) ∧ s.size ≤ maxLen := by
  cases n with
  | zero => exact h.elim
  | succ n => unfold WT at h; rw [und9] at h; exact h
theorem WT_i64 {n t : Nat} {a : AV} (ht : Tryd.prog.underlying t = some (.int .i64)) (h : WT Tryd.prog n t a) : ∃ x, a = .int x ∧ -9223372036854775808 ≤ x ∧ x ≤ 9223372036854775807 := by
  cases n with
  | zero => exact h.elim
  | succ n =>
    unfold WT at h; rw [ht] at h
    obtain ⟨x, rfl, hw⟩ := h
    have hw' : (decide (-9223372036854775808 ≤ x) && decide (x ≤ 9223372036854775807)) = true := hw
    simp only [Bool.and_eq_true, decide_eq_true_eq] at hw'
    exact ⟨x, rfl, hw'⟩
theorem allF {fs : List Field} {p : Field → Prop} (h : ∀ f ∈ fs.toArray, p f) : ∀ f ∈ fs, p f := fun f hf => h f (List.mem_toArray.2 hf)
mutual
/-- Numbers as ints. -/
def Tm.num : Tm → Prop | .mk k _ _ n l => (-9223372036854775808 ≤ k ∧ k ≤ 9223372036854775807) ∧ (-9223372036854775808 ≤ n ∧ n ≤ 9223372036854775807) ∧ Tm.nums l
def Tm.nums : List Tm → Prop | [] => True | t :: r => t.num ∧ Tm.nums r
end
theorem fits_of : ∀ {l : List Tm}, (∀ t ∈ l, t.fit ∧ t.num) → Tm.fits l ∧ Tm.nums l
  | [], _ => by rw [Tm.fits, Tm.nums]; exact ⟨trivial, trivial⟩
  | t :: r, h => by
    have h1 := h t (List.mem_cons_self ..)
    have h2 := fits_of fun u hu => h u (List.mem_cons_of_mem _ hu)
    rw [Tm.fits, Tm.nums]; exact ⟨⟨h1.1, h2.1⟩, ⟨h1.2, h2.2⟩⟩
theorem WT_tm : ∀ (n : Nat) {a : AV}, WT Tryd.prog n 24 a → ∃ t : Tm, a = tmV t ∧ t.fit ∧ t.num
  | 0, a, h => h.elim
  | 1, a, h => by
    unfold WT at h
    rw [Tryd.underlying24] at h
    obtain ⟨cs, rfl, hl, hf⟩ := h
    have hf := allF hf
    simp only [List.forall_mem_cons] at hf
    exact hf.1.elim
  | n + 2, a, h => by
    have ih := fun {a : AV} (h : WT Tryd.prog n 24 a) => WT_tm n h
    unfold WT at h
    rw [Tryd.underlying24] at h
    obtain ⟨cs, rfl, hl, hf⟩ := h
    have hl : cs.length = 5 := hl
    match cs, hl with
    | [a0, a1, a2, a3, a4], _ =>
      have hf := allF hf
      simp only [List.forall_mem_cons] at hf
      obtain ⟨f0, f1, f2, f3, f4, _⟩ := hf
      obtain ⟨k, e0, hk⟩ := WT_i64 und3 (show WT Tryd.prog (n + 1) 3 a0 from f0)
      obtain ⟨s, e1, h1⟩ := WT_str (show WT Tryd.prog (n + 1) 9 a1 from f1)
      obtain ⟨t, e2, h2⟩ := WT_str (show WT Tryd.prog (n + 1) 9 a2 from f2)
      obtain ⟨m, e3, hm⟩ := WT_i64 und3 (show WT Tryd.prog (n + 1) 3 a3 from f3)
      have g4 : WT Tryd.prog (n + 1) 22 a4 := f4
      unfold WT at g4
      rw [und22] at g4
      obtain ⟨es, e4, hlen, he⟩ := g4
      subst e0; subst e1; subst e2; subst e3; subst e4
      have key : ∀ es : List AV, (∀ x ∈ es, WT Tryd.prog n 24 x) → ∃ l : List Tm, es = l.map tmV ∧ ∀ t ∈ l, t.fit ∧ t.num := by
        intro es
        induction es with
        | nil => intro _; exact ⟨[], rfl, by simp⟩
        | cons e r ihr =>
          intro h
          obtain ⟨l, e1, e2⟩ := ihr fun y hy => h y (List.mem_cons_of_mem _ hy)
          obtain ⟨t, et, ft⟩ := ih (h e (List.mem_cons_self ..))
          refine ⟨t :: l, by rw [e1, et]; rfl, ?_⟩
          intro u hu
          rcases List.mem_cons.1 hu with hu | hu
          · rw [hu]; exact ft
          · exact e2 u hu
      obtain ⟨l, el, fl⟩ := key es he
      obtain ⟨S, rfl⟩ := txt_of s
      obtain ⟨T, rfl⟩ := txt_of t
      have := txt_size S
      have := txt_size T
      unfold maxLen at h1 h2 hlen
      refine ⟨⟨k, S, T, m, l⟩, by rw [tmV_mk, ← el], ?_, ?_⟩
      · rw [Tm.fit]
        refine ⟨by omega, by omega, ?_, (fits_of fl).1⟩
        have := congrArg List.length el
        rw [List.length_map] at this
        omega
      · rw [Tm.num]; exact ⟨hk, hm, (fits_of fl).2⟩
end Go.Proofs.YtedapgcaibbhoaaDoor
namespace Go.Proofs.YtedapgcaibbhoaaDoor
open Go Go.Ab Go.Proofs
set_option maxRecDepth 100000
set_option linter.unusedSimpArgs false
set_option linter.unusedVariables false
def Q2 (t : Tm) : Prop := ∀ u : Tm, u.fit → pcall Tryd.prog md fg 14 [tmV t, tmV u] = some (.val (.bool (sameT t u)))
theorem r14_loop (k : Int) (p m : List UInt8) (n : Int) (l : List Tm) (k' : Int) (p' m' : List UInt8) (n' : Int) (l' : List Tm) (hl : l.length ≤ 9223372036854775807) (hll : l.length = l'.length) (hQ : ∀ t ∈ l, Q2 t) (hf : ∀ u ∈ l', u.fit) : ∀ (r : List Tm) (i : Nat), l.drop i = r → i ≤ l.length → ∃ (i' : Int),
    lrun Tryd.prog md fg (fg 14) (loopOf Tryd.f14 0) (fg 14 1) ((.unk :: .unk :: (.ptr 0 0) :: (.ptr 1 0) :: (.val (.bool false)) :: (.int i) :: .unk :: .unk :: .unk :: .unk :: .unk :: .unk :: .unk :: .unk :: .unk :: .unk :: .unk :: .unk :: .unk :: .unk :: .unk :: .unk :: .unk :: .unk :: .unk :: .unk :: .unk :: .unk :: .unk :: .unk :: .unk :: .unk :: .unk :: .unk :: .unk :: .unk :: .unk :: .unk :: .unk :: .unk :: .unk :: .unk :: .unk :: .unk :: .unk :: .unk :: .unk :: .unk :: .unk :: .unk :: .unk :: .unk :: .unk :: .unk :: .unk :: .unk :: .unk :: .unk :: .unk :: .unk :: [] : List AV)) [.vars [.int k, .str (txt p), .str (txt m), .int n, .slc false (l.map tmV)], .vars [.int k', .str (txt p'), .str (txt m'), .int n', .slc false (l'.map tmV)]] = some (if sameTs r (l'.drop i) then .exit 0 else .ret, (.unk :: .unk :: (.ptr 0 0) :: (.ptr 1 0) :: (.val (.bool false)) :: (.int i') :: .unk :: .unk :: .unk :: .unk :: .unk :: .unk :: .unk :: .unk :: .unk :: .unk :: .unk :: .unk :: .unk :: .unk :: .unk :: .unk :: .unk :: .unk :: .unk :: .unk :: .unk :: .unk :: .unk :: .unk :: .unk :: .unk :: .unk :: .unk :: .unk :: .unk :: .unk :: .unk :: .unk :: .unk :: .unk :: .unk :: .unk :: .unk :: .unk :: .unk :: .unk :: .unk :: .unk :: .unk :: .unk :: .unk :: .unk :: .unk :: .unk :: .unk :: .unk :: .unk :: .unk :: .unk :: [] : List AV), [.vars [.int k, .str (txt p), .str (txt m), .int n, .slc false (l.map tmV)], .vars [.int k', .str (txt p'), .str (txt m'), .int n', .slc false (l'.map tmV)]])
  | [], i, hdr, hi => by
    have : i = l.length := by have := congrArg List.length hdr; simp at this; omega
    subst this
    refine ⟨(l.length : Int), ?_⟩
    simp only [sameTs, if_true]
    rw [lrun_atC loop14_0]
    simp (implicitDefEqProofs := false) (disch := omega) only [go_sem, Nat.reduceAdd, Nat.reduceSub, Nat.reduceMul, Nat.reduceLT, Nat.reduceLeDiff, Nat.reduceEqDiff, List.drop_zero, List.take_succ_cons, List.take_zero, List.drop_succ_cons, Bool.and_true, Bool.true_and, Bool.and_false, Bool.false_and, BitVec.reduceOfInt, Nat.zero_add, Nat.mul_one, Nat.add_zero, Int.zero_add, Int.reduceToNat, Nat.reducePow, ↓reduceIte, reduceCtorEq, Int.reduceLE, Int.reduceLT, Int.reduceEq, Int.reduceNe, Int.reduceAdd, Int.reduceSub, Int.reduceMul, Int.reduceNeg, Nat.reduceBEq, show regOf Tryd.f14 4 = Code.region _ _ _ from rfl, List.length_map]
  | ⟨k2, p2, m2, n2, l2⟩ :: r, i, hdr, hi => by
    have hx : l[i]? = some ⟨k2, p2, m2, n2, l2⟩ := by have := congrArg (·[0]?) hdr; simpa using this
    have hlt : i < l.length := (List.getElem?_eq_some_iff.1 hx).1
    have hd' : l.drop (i + 1) = r := by rw [← List.tail_drop, hdr]; rfl
    have ht : ((i : Int)).toNat = i := by omega
    obtain ⟨u, hu⟩ : ∃ u, l'[i]? = some u := ⟨l'[i], List.getElem?_eq_getElem (by omega)⟩
    have hud : l'.drop i = u :: l'.drop (i + 1) := by
      rw [List.drop_eq_getElem_cons (by omega)]
      have := (List.getElem?_eq_some_iff.1 hu).2
      rw [this]
    have hq := hQ _ (List.mem_of_getElem? hx) u (hf u (List.mem_of_getElem? hu))
    have cy : ∀ h : AHeap, doCall md (aval Tryd.prog md fg) 14 [tmV ⟨k2, p2, m2, n2, l2⟩, tmV u] h = some (.val (.bool (sameT ⟨k2, p2, m2, n2, l2⟩ u)), h) := fun h => doCall_pure md14 (solid2 _ _) hq
    rw [hud]
    rw [sameTs]
    obtain ⟨k3, p3, m3, n3, l3⟩ := u
    rw [tmV_mk, tmV_mk] at cy
    generalize sameT ⟨k2, p2, m2, n2, l2⟩ ⟨k3, p3, m3, n3, l3⟩ = b at *
    cases b with
    | true =>
      obtain ⟨i', e2⟩ := r14_loop k p m n l k' p' m' n' l' hl hll hQ hf r (i + 1) hd' (by omega)
      refine ⟨i', ?_⟩
      rw [Bool.true_and, ← e2]
      rw [lrun_atC loop14_0]
      simp (implicitDefEqProofs := false) (disch := omega) only [go_sem, Nat.reduceAdd, Nat.reduceSub, Nat.reduceMul, Nat.reduceLT, Nat.reduceLeDiff, Nat.reduceEqDiff, List.drop_zero, List.take_succ_cons, List.take_zero, List.drop_succ_cons, Bool.and_true, Bool.true_and, Bool.and_false, Bool.false_and, BitVec.reduceOfInt, Nat.zero_add, Nat.mul_one, Nat.add_zero, Int.zero_add, Int.reduceToNat, Nat.reducePow, ↓reduceIte, reduceCtorEq, Int.reduceLE, Int.reduceLT, Int.reduceEq, Int.reduceNe, Int.reduceAdd, Int.reduceSub, Int.reduceMul, Int.reduceNeg, Nat.reduceBEq, show regOf Tryd.f14 4 = Code.region _ _ _ from rfl, show regOf Tryd.f14 5 = Code.region _ _ _ from rfl, show regOf Tryd.f14 6 = Code.region _ _ _ from rfl, show regOf Tryd.f14 7 = Code.region _ _ _ from rfl, List.length_map, List.getElem?_map, ht, hx, hu, Option.map_some, tmV_mk, cy]
      all_goals (congr 1 <;> simp only [List.cons.injEq, AV.val.injEq, Value.int.injEq, Value.bool.injEq, true_and, and_true] <;> omega)
    | false =>
      refine ⟨(i : Int), ?_⟩
      simp only [Bool.false_and, Bool.false_eq_true, if_false]
      rw [lrun_atC loop14_0]
      simp (implicitDefEqProofs := false) (disch := omega) only [go_sem, Nat.reduceAdd, Nat.reduceSub, Nat.reduceMul, Nat.reduceLT, Nat.reduceLeDiff, Nat.reduceEqDiff, List.drop_zero, List.take_succ_cons, List.take_zero, List.drop_succ_cons, Bool.and_true, Bool.true_and, Bool.and_false, Bool.false_and, BitVec.reduceOfInt, Nat.zero_add, Nat.mul_one, Nat.add_zero, Int.zero_add, Int.reduceToNat, Nat.reducePow, ↓reduceIte, reduceCtorEq, Int.reduceLE, Int.reduceLT, Int.reduceEq, Int.reduceNe, Int.reduceAdd, Int.reduceSub, Int.reduceMul, Int.reduceNeg, Nat.reduceBEq, show regOf Tryd.f14 4 = Code.region _ _ _ from rfl, show regOf Tryd.f14 5 = Code.region _ _ _ from rfl, show regOf Tryd.f14 6 = Code.region _ _ _ from rfl, show regOf Tryd.f14 7 = Code.region _ _ _ from rfl, List.length_map, List.getElem?_map, ht, hx, hu, Option.map_some, tmV_mk, cy]
mutual
theorem Q2_all : ∀ t : Tm, t.fit → Q2 t
  | ⟨k, p, m, n, l⟩, hf => by
    rw [Tm.fit] at hf
    obtain ⟨f1, f2, f3, f4⟩ := hf
    have ih := Q2_alls l f4
    intro u hu
    obtain ⟨k', p', m', n', l'⟩ := u
    rw [Tm.fit] at hu
    obtain ⟨g1, g2, g3, g4⟩ := hu
    have e : ∃ h, aval Tryd.prog md fg 14 [tmV ⟨k, p, m, n, l⟩, tmV ⟨k', p', m', n', l'⟩] [] = some (.val (.bool (sameT ⟨k, p, m, n, l⟩ ⟨k', p', m', n', l'⟩)), h) := by
      rw [tmV_mk, tmV_mk, sameT]
      have hp := str_eq p p'
      have hm := str_eq m m'
      have ek : (k == k') = decide (k = k') := rfl
      have en : (n == n') = decide (n = n') := rfl
      rw [ek, en]
      by_cases h1 : k = k'
      · by_cases h2 : p = p'
        · by_cases h3 : m = m'
          · by_cases h4 : n = n'
            · by_cases h5 : l.length = l'.length
              · subst h1; subst h2; subst h3; subst h4
                obtain ⟨i', e2⟩ := r14_loop k p m n l k p m n l' f3 h5 ih (fits_mem g4) l 0 (by simp) (by omega)
                simp only [Int.natCast_zero, List.drop_zero] at e2
                have h6 : ((l.length : Int) = (l'.length : Int)) = True := by simp [h5]
                generalize sameTs l l' = b at *
                rw [aval_of Tryd.func14 body14 Tryd.results14 Tryd.ntmps14 ok14]
                cases b <;> simp only [Bool.false_eq_true, if_false, if_true] at e2 <;>
                · simp (implicitDefEqProofs := false) (disch := omega) only [go_sem, Nat.reduceAdd, Nat.reduceSub, Nat.reduceMul, Nat.reduceLT, Nat.reduceLeDiff, Nat.reduceEqDiff, List.drop_zero, List.take_succ_cons, List.take_zero, List.drop_succ_cons, Bool.and_true, Bool.true_and, Bool.and_false, Bool.false_and, BitVec.reduceOfInt, Nat.zero_add, Nat.mul_one, Nat.add_zero, Int.zero_add, Int.reduceToNat, Nat.reducePow, ↓reduceIte, reduceCtorEq, Int.reduceLE, Int.reduceLT, Int.reduceEq, Int.reduceNe, Int.reduceAdd, Int.reduceSub, Int.reduceMul, Int.reduceNeg, Nat.reduceBEq, show regOf Tryd.f14 0 = Code.region _ _ _ from rfl, show regOf Tryd.f14 1 = Code.region _ _ _ from rfl, show regOf Tryd.f14 3 = Code.region _ _ _ from rfl, show regOf Tryd.f14 8 = Code.region _ _ _ from rfl, List.length_map, h6, e2, decide_eq_true h5]
                  exact ⟨_, rfl⟩
              · have h6 : ¬ (l.length : Int) = (l'.length : Int) := by omega
                rw [aval_of Tryd.func14 body14 Tryd.results14 Tryd.ntmps14 ok14]
                simp (implicitDefEqProofs := false) (disch := omega) only [go_sem, Nat.reduceAdd, Nat.reduceSub, Nat.reduceMul, Nat.reduceLT, Nat.reduceLeDiff, Nat.reduceEqDiff, List.drop_zero, List.take_succ_cons, List.take_zero, List.drop_succ_cons, Bool.and_true, Bool.true_and, Bool.and_false, Bool.false_and, BitVec.reduceOfInt, Nat.zero_add, Nat.mul_one, Nat.add_zero, Int.zero_add, Int.reduceToNat, Nat.reducePow, ↓reduceIte, reduceCtorEq, Int.reduceLE, Int.reduceLT, Int.reduceEq, Int.reduceNe, Int.reduceAdd, Int.reduceSub, Int.reduceMul, Int.reduceNeg, Nat.reduceBEq, show regOf Tryd.f14 0 = Code.region _ _ _ from rfl, show regOf Tryd.f14 1 = Code.region _ _ _ from rfl, show regOf Tryd.f14 2 = Code.region _ _ _ from rfl, List.length_map, h1, h2, h3, h4, h6, hp, hm, decide_eq_false h5]
                exact ⟨_, rfl⟩
            · rw [aval_of Tryd.func14 body14 Tryd.results14 Tryd.ntmps14 ok14]
              simp (implicitDefEqProofs := false) (disch := omega) only [go_sem, Nat.reduceAdd, Nat.reduceSub, Nat.reduceMul, Nat.reduceLT, Nat.reduceLeDiff, Nat.reduceEqDiff, List.drop_zero, List.take_succ_cons, List.take_zero, List.drop_succ_cons, Bool.and_true, Bool.true_and, Bool.and_false, Bool.false_and, BitVec.reduceOfInt, Nat.zero_add, Nat.mul_one, Nat.add_zero, Int.zero_add, Int.reduceToNat, Nat.reducePow, ↓reduceIte, reduceCtorEq, Int.reduceLE, Int.reduceLT, Int.reduceEq, Int.reduceNe, Int.reduceAdd, Int.reduceSub, Int.reduceMul, Int.reduceNeg, Nat.reduceBEq, show regOf Tryd.f14 0 = Code.region _ _ _ from rfl, show regOf Tryd.f14 1 = Code.region _ _ _ from rfl, show regOf Tryd.f14 2 = Code.region _ _ _ from rfl, h1, h2, h3, h4, hp, hm]
              exact ⟨_, rfl⟩
          · rw [aval_of Tryd.func14 body14 Tryd.results14 Tryd.ntmps14 ok14]
            simp (implicitDefEqProofs := false) (disch := omega) only [go_sem, Nat.reduceAdd, Nat.reduceSub, Nat.reduceMul, Nat.reduceLT, Nat.reduceLeDiff, Nat.reduceEqDiff, List.drop_zero, List.take_succ_cons, List.take_zero, List.drop_succ_cons, Bool.and_true, Bool.true_and, Bool.and_false, Bool.false_and, BitVec.reduceOfInt, Nat.zero_add, Nat.mul_one, Nat.add_zero, Int.zero_add, Int.reduceToNat, Nat.reducePow, ↓reduceIte, reduceCtorEq, Int.reduceLE, Int.reduceLT, Int.reduceEq, Int.reduceNe, Int.reduceAdd, Int.reduceSub, Int.reduceMul, Int.reduceNeg, Nat.reduceBEq, show regOf Tryd.f14 0 = Code.region _ _ _ from rfl, show regOf Tryd.f14 1 = Code.region _ _ _ from rfl, show regOf Tryd.f14 2 = Code.region _ _ _ from rfl, h1, h2, h3, hp, hm]
            exact ⟨_, rfl⟩
        · rw [aval_of Tryd.func14 body14 Tryd.results14 Tryd.ntmps14 ok14]
          simp (implicitDefEqProofs := false) (disch := omega) only [go_sem, Nat.reduceAdd, Nat.reduceSub, Nat.reduceMul, Nat.reduceLT, Nat.reduceLeDiff, Nat.reduceEqDiff, List.drop_zero, List.take_succ_cons, List.take_zero, List.drop_succ_cons, Bool.and_true, Bool.true_and, Bool.and_false, Bool.false_and, BitVec.reduceOfInt, Nat.zero_add, Nat.mul_one, Nat.add_zero, Int.zero_add, Int.reduceToNat, Nat.reducePow, ↓reduceIte, reduceCtorEq, Int.reduceLE, Int.reduceLT, Int.reduceEq, Int.reduceNe, Int.reduceAdd, Int.reduceSub, Int.reduceMul, Int.reduceNeg, Nat.reduceBEq, show regOf Tryd.f14 0 = Code.region _ _ _ from rfl, show regOf Tryd.f14 1 = Code.region _ _ _ from rfl, show regOf Tryd.f14 2 = Code.region _ _ _ from rfl, h1, h2, hp, hm]
          exact ⟨_, rfl⟩
      · rw [aval_of Tryd.func14 body14 Tryd.results14 Tryd.ntmps14 ok14]
        simp (implicitDefEqProofs := false) (disch := omega) only [go_sem, Nat.reduceAdd, Nat.reduceSub, Nat.reduceMul, Nat.reduceLT, Nat.reduceLeDiff, Nat.reduceEqDiff, List.drop_zero, List.take_succ_cons, List.take_zero, List.drop_succ_cons, Bool.and_true, Bool.true_and, Bool.and_false, Bool.false_and, BitVec.reduceOfInt, Nat.zero_add, Nat.mul_one, Nat.add_zero, Int.zero_add, Int.reduceToNat, Nat.reducePow, ↓reduceIte, reduceCtorEq, Int.reduceLE, Int.reduceLT, Int.reduceEq, Int.reduceNe, Int.reduceAdd, Int.reduceSub, Int.reduceMul, Int.reduceNeg, Nat.reduceBEq, show regOf Tryd.f14 0 = Code.region _ _ _ from rfl, show regOf Tryd.f14 1 = Code.region _ _ _ from rfl, show regOf Tryd.f14 2 = Code.region _ _ _ from rfl, h1, hp, hm]
        exact ⟨_, rfl⟩
    obtain ⟨h, e⟩ := e
    rw [pcall_eq, e, pureRes_solid rfl]
theorem Q2_alls : ∀ l : List Tm, Tm.fits l → ∀ t ∈ l, Q2 t
  | [], _, t, h => by cases h
  | a :: r, hf, t, h => by
    rw [Tm.fits] at hf
    rcases List.mem_cons.1 h with h | h
    · rw [h]; exact Q2_all a hf.1
    · exact Q2_alls r hf.2 t h
end
theorem rsame_c (t u : Tm) (ht : t.fit) (hu : u.fit) (h : AHeap) : doCall md (aval Tryd.prog md fg) 14 [tmV t, tmV u] h = some (.val (.bool (sameT t u)), h) := doCall_pure md14 (solid2 t u) (Q2_all t ht u hu)
mutual
theorem sameT_iff : ∀ a b : Tm, sameT a b = true ↔ a = b
  | ⟨k, p, m, n, l⟩, ⟨k', p', m', n', l'⟩ => by
    rw [sameT]
    simp only [Bool.and_eq_true, beq_iff_eq, decide_eq_true_eq, Tm.mk.injEq]
    constructor
    · rintro ⟨h1, h2, h3, h4, h5, h6⟩
      exact ⟨h1, h2, h3, h4, (sameTs_iff l l' h5).1 h6⟩
    · rintro ⟨h1, h2, h3, h4, h5⟩
      exact ⟨h1, h2, h3, h4, by rw [h5], (sameTs_iff l l' (by rw [h5])).2 h5⟩
theorem sameTs_iff : ∀ a b : List Tm, a.length = b.length → (sameTs a b = true ↔ a = b)
  | [], [], _ => by simp [sameTs]
  | [], _ :: _, h => by simp at h
  | _ :: _, [], h => by simp at h
  | t :: r, u :: s, h => by
    rw [sameTs]
    simp only [Bool.and_eq_true, List.cons.injEq]
    rw [sameT_iff t u, sameTs_iff r s (by simpa using h)]
end
end Go.Proofs.YtedapgcaibbhoaaDoor
namespace Go.Proofs.YtedapgcaibbhoaaDoor
open Go Go.Ab Go.Proofs
set_option maxRecDepth 100000
set_option linter.unusedSimpArgs false
set_option linter.unusedVariables false
/-- A name and a type. -/
abbrev Vl := List UInt8 × Tm
def vlV (v : Vl) : AV := .agg (.str (txt v.1) :: (tmV v.2).cells)
theorem vlV_mk (s : List UInt8) (k : Int) (p m : List UInt8) (n : Int) (l : List Tm) : vlV (s, ⟨k, p, m, n, l⟩) = .agg [.str (txt s), .int k, .str (txt p), .str (txt m), .int n, .slc false (l.map tmV)] := by
  unfold vlV; rw [tmV_mk]; rfl
theorem solid_vl : ∀ l : List Vl, solidL (l.map vlV) = true
  | [] => rfl
  | ⟨s, t⟩ :: r => by
    rw [List.map_cons, solidL, solid_vl r]
    obtain ⟨k, p, m, n, l⟩ := t
    have := solid_tm ⟨k, p, m, n, l⟩
    rw [tmV_mk] at this
    rw [vlV_mk]
    simp only [solid, solidL] at this ⊢
    rw [this]; rfl
def fv (k : List UInt8) : List Vl → Nat → Option (Nat × Tm)
  | [], _ => none
  | e :: r, i => if e.1 = k then some (i, e.2) else fv k r (i + 1)
theorem fv_at (k : List UInt8) : ∀ (l : List Vl) (i : Nat) (j : Nat) (t : Tm), fv k l i = some (j, t) → i ≤ j ∧ l[j - i]? = some (k, t)
  | [], i, j, t, h => by cases h
  | e :: r, i, j, t, h => by
    unfold fv at h
    split at h
    · rename_i hk
      cases h
      exact ⟨Nat.le_refl _, by rw [Nat.sub_self, ← hk]; rfl⟩
    · obtain ⟨h1, h2⟩ := fv_at k r (i + 1) j t h
      exact ⟨by omega, by rw [show j - i = (j - (i + 1)) + 1 by omega, List.getElem?_cons_succ]; exact h2⟩
theorem find_loop (k : List UInt8) (l : List Vl) (hl : l.length ≤ 9223372036854775807) : ∀ (r : List Vl) (i : Nat) (a4 : AV), l.drop i = r → i ≤ l.length → ∃ (i' : Int) (a' : AV),
    lrun Tryd.prog md fg (fg 43) (loopOf Tryd.f43 0) (fg 43 1) ([.slc false (l.map vlV), .val (.string (txt k)), .unk, .unk, a4, .int i, .unk, .unk, .unk, .unk, .unk, .unk, .unk, .unk, .unk, .unk, .unk, .unk, .unk, .unk]) [] = some (match fv k r i with | some (j, _) => (.ret, [.slc false (l.map vlV), .val (.string (txt k)), .unk, .unk, .int j, .int i', .unk, .unk, .unk, .unk, .unk, .unk, .unk, .unk, .unk, .unk, .unk, .unk, .unk, .unk], []) | none => (.exit 0, [.slc false (l.map vlV), .val (.string (txt k)), .unk, .unk, a', .int i', .unk, .unk, .unk, .unk, .unk, .unk, .unk, .unk, .unk, .unk, .unk, .unk, .unk, .unk], []))
  | [], i, a4, hdr, hi => by
    have : i = l.length := by have := congrArg List.length hdr; simp at this; omega
    subst this
    refine ⟨(l.length : Int), a4, ?_⟩
    simp only [fv]
    rw [lrun_atC loop43_0]
    simp (implicitDefEqProofs := false) (disch := omega) only [go_sem, Nat.reduceAdd, Nat.reduceSub, Nat.reduceMul, Nat.reduceLT, Nat.reduceLeDiff, Nat.reduceEqDiff, List.drop_zero, List.take_succ_cons, List.take_zero, List.drop_succ_cons, Bool.and_true, Bool.true_and, Bool.and_false, Bool.false_and, BitVec.reduceOfInt, Nat.zero_add, Nat.mul_one, Nat.add_zero, Int.zero_add, Int.reduceToNat, Nat.reducePow, ↓reduceIte, reduceCtorEq, Int.reduceLE, Int.reduceLT, Int.reduceEq, Int.reduceNe, Int.reduceAdd, Int.reduceSub, Int.reduceMul, Int.reduceNeg, Nat.reduceBEq, show regOf Tryd.f43 2 = Code.region _ _ _ from rfl, List.length_map]
  | ⟨s, k2, p2, m2, n2, l2⟩ :: r, i, a4, hdr, hi => by
    have hx : l[i]? = some (s, ⟨k2, p2, m2, n2, l2⟩) := by have := congrArg (·[0]?) hdr; simpa using this
    have hlt : i < l.length := (List.getElem?_eq_some_iff.1 hx).1
    have hd' : l.drop (i + 1) = r := by rw [← List.tail_drop, hdr]; rfl
    have ht : ((i : Int)).toNat = i := by omega
    have hs := str_eq s k
    by_cases hk : s = k
    · refine ⟨(i : Int), .unk, ?_⟩
      rw [fv, if_pos hk]
      subst hk
      dsimp only
      rw [lrun_atC loop43_0]
      simp (implicitDefEqProofs := false) (disch := omega) only [go_sem, Nat.reduceAdd, Nat.reduceSub, Nat.reduceMul, Nat.reduceLT, Nat.reduceLeDiff, Nat.reduceEqDiff, List.drop_zero, List.take_succ_cons, List.take_zero, List.drop_succ_cons, Bool.and_true, Bool.true_and, Bool.and_false, Bool.false_and, BitVec.reduceOfInt, Nat.zero_add, Nat.mul_one, Nat.add_zero, Int.zero_add, Int.reduceToNat, Nat.reducePow, ↓reduceIte, reduceCtorEq, Int.reduceLE, Int.reduceLT, Int.reduceEq, Int.reduceNe, Int.reduceAdd, Int.reduceSub, Int.reduceMul, Int.reduceNeg, Nat.reduceBEq, show regOf Tryd.f43 2 = Code.region _ _ _ from rfl, show regOf Tryd.f43 4 = Code.region _ _ _ from rfl, show regOf Tryd.f43 5 = Code.region _ _ _ from rfl, List.length_map, List.getElem?_map, ht, hx, Option.map_some, vlV_mk]
    · obtain ⟨i', a', e⟩ := find_loop k l hl r (i + 1) a4 hd' (by omega)
      refine ⟨i', a', ?_⟩
      rw [fv, if_neg (show ¬ (s, (⟨k2, p2, m2, n2, l2⟩ : Tm)).1 = k from hk), ← e]
      rw [lrun_atC loop43_0]
      simp (implicitDefEqProofs := false) (disch := omega) only [go_sem, Nat.reduceAdd, Nat.reduceSub, Nat.reduceMul, Nat.reduceLT, Nat.reduceLeDiff, Nat.reduceEqDiff, List.drop_zero, List.take_succ_cons, List.take_zero, List.drop_succ_cons, Bool.and_true, Bool.true_and, Bool.and_false, Bool.false_and, BitVec.reduceOfInt, Nat.zero_add, Nat.mul_one, Nat.add_zero, Int.zero_add, Int.reduceToNat, Nat.reducePow, ↓reduceIte, reduceCtorEq, Int.reduceLE, Int.reduceLT, Int.reduceEq, Int.reduceNe, Int.reduceAdd, Int.reduceSub, Int.reduceMul, Int.reduceNeg, Nat.reduceBEq, show regOf Tryd.f43 2 = Code.region _ _ _ from rfl, show regOf Tryd.f43 4 = Code.region _ _ _ from rfl, show regOf Tryd.f43 3 = Code.region _ _ _ from rfl, List.length_map, List.getElem?_map, ht, hx, Option.map_some, vlV_mk, hs, hk]
      all_goals (congr 1 <;> simp only [List.cons.injEq, AV.val.injEq, Value.int.injEq, Value.bool.injEq, true_and, and_true] <;> omega)
def fvI (o : Option (Nat × Tm)) : Int := match o with | some (j, _) => (j : Int) | none => -1
theorem find_p (k : List UInt8) (l : List Vl) (hl : l.length ≤ 9223372036854775807) : pcall Tryd.prog md fg 43 [.slc false (l.map vlV), .val (.string (txt k))] = some (.int (fvI (fv k l 0))) := by
  have e : ∃ h, aval Tryd.prog md fg 43 [.slc false (l.map vlV), .val (.string (txt k))] [] = some (.int (fvI (fv k l 0)), h) := by
    obtain ⟨i', a', e⟩ := find_loop k l hl l 0 (.int 0) (by simp) (by omega)
    simp only [Int.natCast_zero] at e
    rw [aval_of Tryd.func43 body43 Tryd.results43 Tryd.ntmps43 ok43]
    cases hf : fv k l 0 with
    | none =>
      rw [hf] at e
      dsimp only at e
      simp (implicitDefEqProofs := false) (disch := omega) only [go_sem, Nat.reduceAdd, Nat.reduceSub, Nat.reduceMul, Nat.reduceLT, Nat.reduceLeDiff, Nat.reduceEqDiff, List.drop_zero, List.take_succ_cons, List.take_zero, List.drop_succ_cons, Bool.and_true, Bool.true_and, Bool.and_false, Bool.false_and, BitVec.reduceOfInt, Nat.zero_add, Nat.mul_one, Nat.add_zero, Int.zero_add, Int.reduceToNat, Nat.reducePow, ↓reduceIte, reduceCtorEq, Int.reduceLE, Int.reduceLT, Int.reduceEq, Int.reduceNe, Int.reduceAdd, Int.reduceSub, Int.reduceMul, Int.reduceNeg, Nat.reduceBEq, show regOf Tryd.f43 0 = Code.region _ _ _ from rfl, show regOf Tryd.f43 1 = Code.region _ _ _ from rfl, show regOf Tryd.f43 6 = Code.region _ _ _ from rfl, e, fvI]
      exact ⟨_, rfl⟩
    | some q =>
      obtain ⟨j, t⟩ := q
      rw [hf] at e
      dsimp only at e
      simp (implicitDefEqProofs := false) (disch := omega) only [go_sem, Nat.reduceAdd, Nat.reduceSub, Nat.reduceMul, Nat.reduceLT, Nat.reduceLeDiff, Nat.reduceEqDiff, List.drop_zero, List.take_succ_cons, List.take_zero, List.drop_succ_cons, Bool.and_true, Bool.true_and, Bool.and_false, Bool.false_and, BitVec.reduceOfInt, Nat.zero_add, Nat.mul_one, Nat.add_zero, Int.zero_add, Int.reduceToNat, Nat.reducePow, ↓reduceIte, reduceCtorEq, Int.reduceLE, Int.reduceLT, Int.reduceEq, Int.reduceNe, Int.reduceAdd, Int.reduceSub, Int.reduceMul, Int.reduceNeg, Nat.reduceBEq, show regOf Tryd.f43 0 = Code.region _ _ _ from rfl, show regOf Tryd.f43 1 = Code.region _ _ _ from rfl, e, fvI]
      exact ⟨_, rfl⟩
  obtain ⟨h, e⟩ := e
  rw [pcall_eq, e, pureRes_solid rfl]
theorem find_c (k : List UInt8) (l : List Vl) (hl : l.length ≤ 9223372036854775807) (h : AHeap) : doCall md (aval Tryd.prog md fg) 43 [.slc false (l.map vlV), .val (.string (txt k))] h = some (.int (fvI (fv k l 0)), h) := doCall_pure md43 (by simp only [solidL, solid, solid_vl, Bool.not_false, Bool.and_true]) (find_p k l hl)
mutual
/-- The document's match. -/
def rM : List Vl → Tm → Tm → Option (List Vl)
  | l, .mk k p m n ks, s =>
    if k = 1 then (match fv m l 0 with | some (_, t) => if sameT t s then some l else none | none => some (l ++ [(m, s)]))
    else if k = s.kind ∧ p = s.pkg ∧ m = s.name ∧ n = s.n ∧ ks.length = s.kids.length then rMs l ks s.kids else none
def rMs : List Vl → List Tm → List Tm → Option (List Vl)
  | l, [], _ => some l
  | l, _ :: _, [] => some l
  | l, t :: r, u :: s => (rM l t u).bind fun l' => rMs l' r s
end
theorem arr_exp {h : AHeap} {id g k : Nat} {es : List AV} (ho : hget h id = .arr k es g) (hs : solidL es = true) (d : Nat) : exp1 h (d + 1) (.arr id 0 es.length g k) = some (.slc false es, [id]) := by
  have hv : sview h (.arr id 0 es.length g k) = some es := sview_arr _ _ _ _ _ ho rfl
  simp only [exp1, hv, expL_solid hs]
  rfl
theorem pure_arr {h : AHeap} {id g k : Nat} {es : List AV} (b : Value) (ho : hget h id = .arr k es g) (hs : solidL es = true) : pureRes (some (.tup [.arr id 0 es.length g k, .val b], h)) = some (.tup [.slc false es, .val b]) := by
  have e1 : exp1 h 59 (.arr id 0 es.length g k) = some (.slc false es, [id]) := arr_exp ho hs 58
  have hns : solid (.arr id 0 es.length g k) = false := rfl
  have e2 : exp1 h expDepth (.tup [.arr id 0 es.length g k, .val b]) = some (.tup [.slc false es, .val b], [id]) := by
    show exp1 h (59 + 1) _ = _
    rw [exp1]
    have hb : exp1 h 59 (.val b) = some (.val b, []) := rfl
    simp only [solid, solidL, hns, Bool.false_and, Bool.and_false, Bool.true_and, if_false, Bool.false_eq_true, expL, hb, e1, List.nil_append, List.append_nil, Option.map_some]
  unfold pureRes
  dsimp only
  rw [e2]
  dsimp only
  rw [if_pos (by simp [canFrz, ho])]
end Go.Proofs.YtedapgcaibbhoaaDoor
namespace Go.Proofs.YtedapgcaibbhoaaDoor
open Go Go.Ab Go.Proofs
set_option maxRecDepth 100000
set_option linter.unusedSimpArgs false
set_option linter.unusedVariables false
/-- What the document's match answers. -/
def RRes (r : Option AV) (o : Option (List Vl)) : Prop :=
  match o with
  | some l' => r = some (.tup [.slc false (l'.map vlV), .bool true])
  | none => ∃ x, r = some (.tup [x, .bool false]) ∧ solid x = true
def RG (g : Tm) : Prop := ∀ (l : List Vl) (s : Tm), s.fit → (∀ v ∈ l, v.2.fit) → l.length + tsz g ≤ 100000 → RRes (pcall Tryd.prog md fg 30 [.slc false (l.map vlV), tmV g, tmV s]) (rM l g s)
theorem b38 (s : ByteArray) (k : Int) (p m : ByteArray) (n : Int) (l : List AV) : abuild Tryd.prog 38 [(0, .str s), (1, .agg [.int k, .str p, .str m, .int n, .slc false l])] = some (.agg [.str s, .int k, .str p, .str m, .int n, .slc false l]) := by kernel_rfl
/-- A list of values and one more, in an array of one's own. -/
theorem app2 (l : List Vl) (v : Vl) (h : AHeap) (hn : l.length ≤ 100000) : ∃ (v1 : AV) (h1 : AHeap) (g : Nat) (id : Nat) (h2 : AHeap), (∀ z, appT (some (6, 88, z)) h (.slc true []) (some (l.map vlV)) = some (v1, h1)) ∧ (∀ z, appT (some (6, 88, z)) h1 v1 (some [vlV v]) = some (.arr id 0 (l ++ [v]).length g 6, h2)) ∧ hget h2 id = .arr 6 ((l ++ [v]).map vlV) g ∧ KeepV h h1 ∧ KeepV h h2 := by
  have hv : headOk 6 [vlV v] = true := by obtain ⟨s, k, p, m, n, ks⟩ := v; rw [vlV_mk]; rfl
  cases l with
  | nil =>
    refine ⟨.slc true [], h, 0, h.length, h ++ [.arr 6 ([] ++ [vlV v]) 0], fun z => appT_slc0 _ _ _ _ rfl, fun z => ?_, hget_last, ⟨Nat.le_refl _, fun _ _ e => e⟩, keepV_app _ _⟩
    rw [appT_slc _ _ _ _ _ hv rfl (by simp) (by simp)]; rfl
  | cons a r =>
    have ha : headOk 6 ((a :: r).map vlV) = true := by obtain ⟨s, k, p, m, n, ks⟩ := a; rw [List.map_cons, vlV_mk]; rfl
    simp only [List.length_cons] at hn
    refine ⟨.arr h.length 0 (0 + ((a :: r).map vlV).length) 0 6, h ++ [.arr 6 ([] ++ (a :: r).map vlV) 0], 1, h.length, (h ++ [AObj.arr 6 ([] ++ (a :: r).map vlV) 0]).set h.length (AObj.arr 6 (((a :: r).map vlV) ++ [vlV v]) 1), fun z => appT_slc _ _ _ _ _ ha rfl (by simp) (by simp only [List.length_nil, List.length_map, List.length_cons]; omega), fun z => ?_, ?_, keepV_app _ _, (keepV_app h [AObj.arr 6 ([] ++ (a :: r).map vlV) 0]).trans (keepV_set hget_last (by simp))⟩
    · have ho : hget (h ++ [.arr 6 ([] ++ (a :: r).map vlV) 0]) h.length = .arr 6 ((a :: r).map vlV) 0 := by rw [hget_last]; rfl
      rw [Nat.zero_add, appT_arr _ _ _ _ _ _ _ _ ho (by simp) hv (by simp only [List.length_map, List.length_cons, List.length_nil]; omega)]
      simp
    · rw [hget_set_eq (by simp)]; simp
theorem thenDraw_app0 {d : Option Tmp} {ty : TypeId} {pos : String} {aft : Array Edge} {g : Option (Nat × Bool)} {env : Env} {md : FuncId → Nat} {P : Program} (cs : Array Operand) (ts : Array TypeId) (h0 : AHeap) (v : AV) (h' : AHeap) (call : CallF) (k : Env → AHeap → Option (Env × AHeap)) : thenDraw P ⟨d, .call ⟨.builtin .append, cs, ts⟩, ty, pos, aft, g⟩ h0 (some (.value v h')) md call d k env = k (aput env d v) h' := thenDraw_append cs ts h0 v h' call k
theorem r30_loop (k : Int) (p m : List UInt8) (n : Int) (ks : List Tm) (k' : Int) (p' m' : List UInt8) (n' : Int) (ks' : List Tm) (hl : ks.length ≤ 9223372036854775807) (hll : ks.length = ks'.length) (hG : ∀ t ∈ ks, RG t) (hf : ∀ u ∈ ks', u.fit) (hrf : ∀ (l : List Vl) (g s : Tm) (l' : List Vl), s.fit → (∀ v ∈ l, v.2.fit) → rM l g s = some l' → (∀ v ∈ l', v.2.fit) ∧ l'.length ≤ l.length + tsz g) : ∀ (r : List Tm) (i : Nat) (l : List Vl) (a6 a7 : AV), ks.drop i = r → i ≤ ks.length → (∀ v ∈ l, v.2.fit) → l.length + tszs r ≤ 100000 →
    match rMs l r (ks'.drop i) with
    | some l' => ∃ (a6' a7' : AV), lrun Tryd.prog md fg (fg 30) (loopOf Tryd.f30 0) (fg 30 1) (((.slc false (l.map vlV)) :: .unk :: .unk :: .unk :: (.ptr 0 0) :: (.ptr 1 0) :: (a6) :: (a7) :: .unk :: (.int i) :: .unk :: .unk :: .unk :: .unk :: .unk :: .unk :: .unk :: .unk :: .unk :: .unk :: .unk :: .unk :: .unk :: .unk :: .unk :: .unk :: .unk :: .unk :: .unk :: .unk :: .unk :: .unk :: .unk :: .unk :: .unk :: .unk :: .unk :: .unk :: .unk :: .unk :: .unk :: .unk :: .unk :: .unk :: .unk :: .unk :: .unk :: .unk :: .unk :: .unk :: .unk :: .unk :: .unk :: .unk :: .unk :: .unk :: .unk :: .unk :: .unk :: .unk :: .unk :: .unk :: .unk :: .unk :: .unk :: .unk :: .unk :: .unk :: .unk :: .unk :: .unk :: .unk :: .unk :: .unk :: .unk :: .unk :: .unk :: .unk :: .unk :: .unk :: .unk :: .unk :: .unk :: .unk :: .unk :: .unk :: .unk :: .unk :: .unk :: .unk :: .unk :: .unk :: .unk :: .unk :: .unk :: .unk :: .unk :: .unk :: .unk :: [] : List AV)) [.vars [.int k, .str (txt p), .str (txt m), .int n, .slc false (ks.map tmV)], .vars [.int k', .str (txt p'), .str (txt m'), .int n', .slc false (ks'.map tmV)]] = some (.exit 0, ((.slc false (l'.map vlV)) :: .unk :: .unk :: .unk :: (.ptr 0 0) :: (.ptr 1 0) :: (a6') :: (a7') :: .unk :: (.int ks.length) :: .unk :: .unk :: .unk :: .unk :: .unk :: .unk :: .unk :: .unk :: .unk :: .unk :: .unk :: .unk :: .unk :: .unk :: .unk :: .unk :: .unk :: .unk :: .unk :: .unk :: .unk :: .unk :: .unk :: .unk :: .unk :: .unk :: .unk :: .unk :: .unk :: .unk :: .unk :: .unk :: .unk :: .unk :: .unk :: .unk :: .unk :: .unk :: .unk :: .unk :: .unk :: .unk :: .unk :: .unk :: .unk :: .unk :: .unk :: .unk :: .unk :: .unk :: .unk :: .unk :: .unk :: .unk :: .unk :: .unk :: .unk :: .unk :: .unk :: .unk :: .unk :: .unk :: .unk :: .unk :: .unk :: .unk :: .unk :: .unk :: .unk :: .unk :: .unk :: .unk :: .unk :: .unk :: .unk :: .unk :: .unk :: .unk :: .unk :: .unk :: .unk :: .unk :: .unk :: .unk :: .unk :: .unk :: .unk :: .unk :: .unk :: [] : List AV), [.vars [.int k, .str (txt p), .str (txt m), .int n, .slc false (ks.map tmV)], .vars [.int k', .str (txt p'), .str (txt m'), .int n', .slc false (ks'.map tmV)]])
    | none => ∃ e' : Env, lrun Tryd.prog md fg (fg 30) (loopOf Tryd.f30 0) (fg 30 1) (((.slc false (l.map vlV)) :: .unk :: .unk :: .unk :: (.ptr 0 0) :: (.ptr 1 0) :: (a6) :: (a7) :: .unk :: (.int i) :: .unk :: .unk :: .unk :: .unk :: .unk :: .unk :: .unk :: .unk :: .unk :: .unk :: .unk :: .unk :: .unk :: .unk :: .unk :: .unk :: .unk :: .unk :: .unk :: .unk :: .unk :: .unk :: .unk :: .unk :: .unk :: .unk :: .unk :: .unk :: .unk :: .unk :: .unk :: .unk :: .unk :: .unk :: .unk :: .unk :: .unk :: .unk :: .unk :: .unk :: .unk :: .unk :: .unk :: .unk :: .unk :: .unk :: .unk :: .unk :: .unk :: .unk :: .unk :: .unk :: .unk :: .unk :: .unk :: .unk :: .unk :: .unk :: .unk :: .unk :: .unk :: .unk :: .unk :: .unk :: .unk :: .unk :: .unk :: .unk :: .unk :: .unk :: .unk :: .unk :: .unk :: .unk :: .unk :: .unk :: .unk :: .unk :: .unk :: .unk :: .unk :: .unk :: .unk :: .unk :: .unk :: .unk :: .unk :: .unk :: .unk :: [] : List AV)) [.vars [.int k, .str (txt p), .str (txt m), .int n, .slc false (ks.map tmV)], .vars [.int k', .str (txt p'), .str (txt m'), .int n', .slc false (ks'.map tmV)]] = some (.ret, e', [.vars [.int k, .str (txt p), .str (txt m), .int n, .slc false (ks.map tmV)], .vars [.int k', .str (txt p'), .str (txt m'), .int n', .slc false (ks'.map tmV)]]) ∧ e'.getD 6 .und = .slc true [] ∧ e'.getD 7 .und = .val (.bool false)
  | [], i, l, a6, a7, hdr, hi, hv, hn => by
    have : i = ks.length := by have := congrArg List.length hdr; simp at this; omega
    subst this
    rw [rMs]
    dsimp only
    refine ⟨a6, a7, ?_⟩
    rw [lrun_atC loop30_0]
    simp (implicitDefEqProofs := false) (disch := omega) only [go_sem, Nat.reduceAdd, Nat.reduceSub, Nat.reduceMul, Nat.reduceLT, Nat.reduceLeDiff, Nat.reduceEqDiff, List.drop_zero, List.take_succ_cons, List.take_zero, List.drop_succ_cons, Bool.and_true, Bool.true_and, Bool.and_false, Bool.false_and, BitVec.reduceOfInt, Nat.zero_add, Nat.mul_one, Nat.add_zero, Int.zero_add, Int.reduceToNat, Nat.reducePow, ↓reduceIte, reduceCtorEq, Int.reduceLE, Int.reduceLT, Int.reduceEq, Int.reduceNe, Int.reduceAdd, Int.reduceSub, Int.reduceMul, Int.reduceNeg, Nat.reduceBEq, show regOf Tryd.f30 9 = Code.region _ _ _ from rfl, List.length_map]
  | ⟨k2, p2, m2, n2, l2⟩ :: r, i, l, a6, a7, hdr, hi, hv, hn => by
    have hx : ks[i]? = some ⟨k2, p2, m2, n2, l2⟩ := by have := congrArg (·[0]?) hdr; simpa using this
    have hlt : i < ks.length := (List.getElem?_eq_some_iff.1 hx).1
    have hd' : ks.drop (i + 1) = r := by rw [← List.tail_drop, hdr]; rfl
    have ht : ((i : Int)).toNat = i := by omega
    obtain ⟨u, hu⟩ : ∃ u, ks'[i]? = some u := ⟨ks'[i], List.getElem?_eq_getElem (by omega)⟩
    have hud : ks'.drop i = u :: ks'.drop (i + 1) := by
      rw [List.drop_eq_getElem_cons (by omega)]
      have := (List.getElem?_eq_some_iff.1 hu).2
      rw [this]
    have huf := hf u (List.mem_of_getElem? hu)
    simp only [tszs] at hn
    have hq := hG _ (List.mem_of_getElem? hx) l u huf hv (by omega)
    have hrf1 := hrf l ⟨k2, p2, m2, n2, l2⟩ u
    have hs3 : solidL [.slc false (l.map vlV), tmV ⟨k2, p2, m2, n2, l2⟩, tmV u] = true := by simp only [solidL, solid, solid_vl, solid_tm, Bool.not_false, Bool.and_true]
    rw [hud, rMs]
    cases hr : rM l ⟨k2, p2, m2, n2, l2⟩ u with
    | none =>
      rw [hr] at hq
      obtain ⟨x, hq, hx2⟩ := hq
      have cy : ∀ h : AHeap, doCall md (aval Tryd.prog md fg) 30 [.slc false (l.map vlV), tmV ⟨k2, p2, m2, n2, l2⟩, tmV u] h = some (.tup [x, .bool false], h) := fun h => doCall_pure md30 hs3 hq
      obtain ⟨k3, p3, m3, n3, l3⟩ := u
      rw [tmV_mk, tmV_mk] at cy
      dsimp only [Option.bind_none]
      have e : ∃ (e' : Env), lrun Tryd.prog md fg (fg 30) (loopOf Tryd.f30 0) (fg 30 1) (((.slc false (l.map vlV)) :: .unk :: .unk :: .unk :: (.ptr 0 0) :: (.ptr 1 0) :: (a6) :: (a7) :: .unk :: (.int i) :: .unk :: .unk :: .unk :: .unk :: .unk :: .unk :: .unk :: .unk :: .unk :: .unk :: .unk :: .unk :: .unk :: .unk :: .unk :: .unk :: .unk :: .unk :: .unk :: .unk :: .unk :: .unk :: .unk :: .unk :: .unk :: .unk :: .unk :: .unk :: .unk :: .unk :: .unk :: .unk :: .unk :: .unk :: .unk :: .unk :: .unk :: .unk :: .unk :: .unk :: .unk :: .unk :: .unk :: .unk :: .unk :: .unk :: .unk :: .unk :: .unk :: .unk :: .unk :: .unk :: .unk :: .unk :: .unk :: .unk :: .unk :: .unk :: .unk :: .unk :: .unk :: .unk :: .unk :: .unk :: .unk :: .unk :: .unk :: .unk :: .unk :: .unk :: .unk :: .unk :: .unk :: .unk :: .unk :: .unk :: .unk :: .unk :: .unk :: .unk :: .unk :: .unk :: .unk :: .unk :: .unk :: .unk :: .unk :: .unk :: .unk :: [] : List AV)) [.vars [.int k, .str (txt p), .str (txt m), .int n, .slc false (ks.map tmV)], .vars [.int k', .str (txt p'), .str (txt m'), .int n', .slc false (ks'.map tmV)]] = some (.ret, e', [.vars [.int k, .str (txt p), .str (txt m), .int n, .slc false (ks.map tmV)], .vars [.int k', .str (txt p'), .str (txt m'), .int n', .slc false (ks'.map tmV)]]) ∧ e'.getD 6 .und = .slc true [] ∧ e'.getD 7 .und = .val (.bool false) := by
        rw [lrun_atC loop30_0]
        simp (implicitDefEqProofs := false) (disch := omega) only [go_sem, Nat.reduceAdd, Nat.reduceSub, Nat.reduceMul, Nat.reduceLT, Nat.reduceLeDiff, Nat.reduceEqDiff, List.drop_zero, List.take_succ_cons, List.take_zero, List.drop_succ_cons, Bool.and_true, Bool.true_and, Bool.and_false, Bool.false_and, BitVec.reduceOfInt, Nat.zero_add, Nat.mul_one, Nat.add_zero, Int.zero_add, Int.reduceToNat, Nat.reducePow, ↓reduceIte, reduceCtorEq, Int.reduceLE, Int.reduceLT, Int.reduceEq, Int.reduceNe, Int.reduceAdd, Int.reduceSub, Int.reduceMul, Int.reduceNeg, Nat.reduceBEq, show regOf Tryd.f30 9 = Code.region _ _ _ from rfl, show regOf Tryd.f30 11 = Code.region _ _ _ from rfl, show regOf Tryd.f30 12 = Code.region _ _ _ from rfl, show regOf Tryd.f30 13 = Code.region _ _ _ from rfl, ↓tail_nil, ↓subs_nil_all, ↓List.forall_mem_cons, ↓all_nil, md30, Bool.or_self, Bool.false_or, List.length_map, List.getElem?_map, ht, hx, hu, Option.map_some, tmV_mk, cy]
        exact ⟨_, rfl, rfl, rfl⟩
      exact e
    | some l1 =>
      rw [hr] at hq
      have cy : ∀ h : AHeap, doCall md (aval Tryd.prog md fg) 30 [.slc false (l.map vlV), tmV ⟨k2, p2, m2, n2, l2⟩, tmV u] h = some (.tup [.slc false (l1.map vlV), .bool true], h) := fun h => doCall_pure md30 hs3 hq
      obtain ⟨b1, b2⟩ := hrf1 l1 huf hv hr
      have ih := r30_loop k p m n ks k' p' m' n' ks' hl hll hG hf hrf r (i + 1) l1 a6 a7 hd' (by omega) b1 (by omega)
      obtain ⟨k3, p3, m3, n3, l3⟩ := u
      rw [tmV_mk, tmV_mk] at cy
      dsimp only [Option.bind_some]
      have hst : lrun Tryd.prog md fg (fg 30) (loopOf Tryd.f30 0) (fg 30 1) (((.slc false (l.map vlV)) :: .unk :: .unk :: .unk :: (.ptr 0 0) :: (.ptr 1 0) :: (a6) :: (a7) :: .unk :: (.int i) :: .unk :: .unk :: .unk :: .unk :: .unk :: .unk :: .unk :: .unk :: .unk :: .unk :: .unk :: .unk :: .unk :: .unk :: .unk :: .unk :: .unk :: .unk :: .unk :: .unk :: .unk :: .unk :: .unk :: .unk :: .unk :: .unk :: .unk :: .unk :: .unk :: .unk :: .unk :: .unk :: .unk :: .unk :: .unk :: .unk :: .unk :: .unk :: .unk :: .unk :: .unk :: .unk :: .unk :: .unk :: .unk :: .unk :: .unk :: .unk :: .unk :: .unk :: .unk :: .unk :: .unk :: .unk :: .unk :: .unk :: .unk :: .unk :: .unk :: .unk :: .unk :: .unk :: .unk :: .unk :: .unk :: .unk :: .unk :: .unk :: .unk :: .unk :: .unk :: .unk :: .unk :: .unk :: .unk :: .unk :: .unk :: .unk :: .unk :: .unk :: .unk :: .unk :: .unk :: .unk :: .unk :: .unk :: .unk :: .unk :: .unk :: [] : List AV)) [.vars [.int k, .str (txt p), .str (txt m), .int n, .slc false (ks.map tmV)], .vars [.int k', .str (txt p'), .str (txt m'), .int n', .slc false (ks'.map tmV)]] = lrun Tryd.prog md fg (fg 30) (loopOf Tryd.f30 0) (fg 30 1) (((.slc false (l1.map vlV)) :: .unk :: .unk :: .unk :: (.ptr 0 0) :: (.ptr 1 0) :: (a6) :: (a7) :: .unk :: (.int ((i + 1 : Nat) : Int)) :: .unk :: .unk :: .unk :: .unk :: .unk :: .unk :: .unk :: .unk :: .unk :: .unk :: .unk :: .unk :: .unk :: .unk :: .unk :: .unk :: .unk :: .unk :: .unk :: .unk :: .unk :: .unk :: .unk :: .unk :: .unk :: .unk :: .unk :: .unk :: .unk :: .unk :: .unk :: .unk :: .unk :: .unk :: .unk :: .unk :: .unk :: .unk :: .unk :: .unk :: .unk :: .unk :: .unk :: .unk :: .unk :: .unk :: .unk :: .unk :: .unk :: .unk :: .unk :: .unk :: .unk :: .unk :: .unk :: .unk :: .unk :: .unk :: .unk :: .unk :: .unk :: .unk :: .unk :: .unk :: .unk :: .unk :: .unk :: .unk :: .unk :: .unk :: .unk :: .unk :: .unk :: .unk :: .unk :: .unk :: .unk :: .unk :: .unk :: .unk :: .unk :: .unk :: .unk :: .unk :: .unk :: .unk :: .unk :: .unk :: .unk :: [] : List AV)) [.vars [.int k, .str (txt p), .str (txt m), .int n, .slc false (ks.map tmV)], .vars [.int k', .str (txt p'), .str (txt m'), .int n', .slc false (ks'.map tmV)]] := by
        rw [lrun_atC loop30_0]
        simp (implicitDefEqProofs := false) (disch := omega) only [go_sem, Nat.reduceAdd, Nat.reduceSub, Nat.reduceMul, Nat.reduceLT, Nat.reduceLeDiff, Nat.reduceEqDiff, List.drop_zero, List.take_succ_cons, List.take_zero, List.drop_succ_cons, Bool.and_true, Bool.true_and, Bool.and_false, Bool.false_and, BitVec.reduceOfInt, Nat.zero_add, Nat.mul_one, Nat.add_zero, Int.zero_add, Int.reduceToNat, Nat.reducePow, ↓reduceIte, reduceCtorEq, Int.reduceLE, Int.reduceLT, Int.reduceEq, Int.reduceNe, Int.reduceAdd, Int.reduceSub, Int.reduceMul, Int.reduceNeg, Nat.reduceBEq, show regOf Tryd.f30 9 = Code.region _ _ _ from rfl, show regOf Tryd.f30 11 = Code.region _ _ _ from rfl, show regOf Tryd.f30 12 = Code.region _ _ _ from rfl, show regOf Tryd.f30 14 = Code.region _ _ _ from rfl, show regOf Tryd.f30 10 = Code.region _ _ _ from rfl, ↓tail_nil, ↓subs_nil_all, ↓List.forall_mem_cons, ↓all_nil, md30, Bool.or_self, Bool.false_or, List.length_map, List.getElem?_map, ht, hx, hu, Option.map_some, tmV_mk, cy]
        all_goals (congr 1 <;> simp only [List.cons.injEq, AV.val.injEq, Value.int.injEq, Value.bool.injEq, true_and, and_true] <;> omega)
      rw [hst]
      exact ih
mutual
theorem rM_fit : ∀ (g : Tm) (l : List Vl) (s : Tm) (l' : List Vl), s.fit → (∀ v ∈ l, v.2.fit) → rM l g s = some l' → (∀ v ∈ l', v.2.fit) ∧ l'.length ≤ l.length + tsz g
  | ⟨k, p, m, n, ks⟩, l, s, l', hs, hv, h => by
    rw [rM] at h
    rw [tsz]
    split at h
    · cases hf : fv m l 0 with
      | none =>
        rw [hf] at h
        cases h
        refine ⟨fun v hv' => ?_, by simp⟩
        rcases List.mem_append.1 hv' with h | h
        · exact hv v h
        · rw [List.mem_singleton.1 h]; exact hs
      | some q =>
        rw [hf] at h
        obtain ⟨j, t⟩ := q
        dsimp only at h
        split at h
        · cases h; exact ⟨hv, by omega⟩
        · cases h
    · split at h
      · obtain ⟨k', p', m', n', ks'⟩ := s
        rw [Tm.fit] at hs
        obtain ⟨a, b⟩ := rMs_fit ks l ks' l' (fits_mem hs.2.2.2) hv h
        exact ⟨a, by omega⟩
      · cases h
theorem rMs_fit : ∀ (gs : List Tm) (l : List Vl) (ss : List Tm) (l' : List Vl), (∀ u ∈ ss, u.fit) → (∀ v ∈ l, v.2.fit) → rMs l gs ss = some l' → (∀ v ∈ l', v.2.fit) ∧ l'.length ≤ l.length + tszs gs
  | [], l, ss, l', hs, hv, h => by rw [rMs] at h; cases h; exact ⟨hv, by simp [tszs]⟩
  | _ :: _, l, [], l', hs, hv, h => by rw [rMs] at h; cases h; exact ⟨hv, by omega⟩
  | g :: gs, l, s :: ss, l', hs, hv, h => by
    rw [rMs] at h
    cases h1 : rM l g s with
    | none => rw [h1] at h; cases h
    | some l1 =>
      rw [h1] at h
      obtain ⟨a, b⟩ := rM_fit g l s l1 (hs s (List.mem_cons_self ..)) hv h1
      obtain ⟨c, d⟩ := rMs_fit gs l1 ss l' (fun u hu => hs u (List.mem_cons_of_mem _ hu)) a h
      refine ⟨c, ?_⟩
      rw [tszs]; omega
end
end Go.Proofs.YtedapgcaibbhoaaDoor
namespace Go.Proofs.YtedapgcaibbhoaaDoor
open Go Go.Ab Go.Proofs
set_option maxRecDepth 100000
set_option linter.unusedSimpArgs false
set_option linter.unusedVariables false
theorem RRes_of {f : FuncId} {xs : List AV} {h : AHeap} {v : AV} {o : Option (List Vl)} (e : aval Tryd.prog md fg f xs [] = some (v, h)) (hr : RRes (pureRes (some (v, h))) o) : RRes (pcall Tryd.prog md fg f xs) o := by
  rw [pcall_eq, e]; exact hr
theorem solidR (l : List Vl) (b : Bool) : solid (.tup [.slc false (l.map vlV), .bool b]) = true := by simp only [solid, solidL, solid_vl, Bool.not_false, Bool.and_true]
set_option maxHeartbeats 8000000 in
theorem rg_var (p m : List UInt8) (n : Int) (ks : List Tm) (l : List Vl) (s : Tm) (hs : s.fit) (hv : ∀ v ∈ l, v.2.fit) (hn : l.length ≤ 100000) : RRes (pcall Tryd.prog md fg 30 [.slc false (l.map vlV), tmV ⟨1, p, m, n, ks⟩, tmV s]) (rM l ⟨1, p, m, n, ks⟩ s) := by
  have cf := find_c m l (by omega)
  rw [rM, if_pos rfl]
  cases hf : fv m l 0 with
  | some q =>
    obtain ⟨j, t⟩ := q
    rw [hf] at cf
    obtain ⟨_, hj⟩ := fv_at m l 0 j t hf
    rw [Nat.sub_zero] at hj
    have hjl : j < l.length := (List.getElem?_eq_some_iff.1 hj).1
    have cs := rsame_c t s (hv _ (List.mem_of_getElem? hj)) hs
    dsimp only [fvI] at cf ⊢
    obtain ⟨k2, p2, m2, n2, l2⟩ := t
    have hjj : ((j : Int)).toNat = j := by omega
    have e : ∃ h, aval Tryd.prog md fg 30 [.slc false (l.map vlV), tmV ⟨1, p, m, n, ks⟩, tmV s] [] = some (.tup [.slc false (l.map vlV), .bool (sameT ⟨k2, p2, m2, n2, l2⟩ s)], h) := by
      generalize sameT ⟨k2, p2, m2, n2, l2⟩ s = b at *
      obtain ⟨k', p', m', n', l'⟩ := s
      rw [tmV_mk, tmV_mk] at cs ⊢
      rw [aval_of Tryd.func30 body30 Tryd.results30 Tryd.ntmps30 ok30]
      simp (implicitDefEqProofs := false) (disch := omega) only [go_sem, Nat.reduceAdd, Nat.reduceSub, Nat.reduceMul, Nat.reduceLT, Nat.reduceLeDiff, Nat.reduceEqDiff, List.drop_zero, List.take_succ_cons, List.take_zero, List.drop_succ_cons, Bool.and_true, Bool.true_and, Bool.and_false, Bool.false_and, BitVec.reduceOfInt, Nat.zero_add, Nat.mul_one, Nat.add_zero, Int.zero_add, Int.reduceToNat, Nat.reducePow, ↓reduceIte, reduceCtorEq, Int.reduceLE, Int.reduceLT, Int.reduceEq, Int.reduceNe, Int.reduceAdd, Int.reduceSub, Int.reduceMul, Int.reduceNeg, Nat.reduceBEq, show regOf Tryd.f30 0 = Code.region _ _ _ from rfl, show regOf Tryd.f30 1 = Code.region _ _ _ from rfl, show regOf Tryd.f30 2 = Code.region _ _ _ from rfl, show regOf Tryd.f30 3 = Code.region _ _ _ from rfl, cf]
      simp (implicitDefEqProofs := false) (disch := omega) only [go_sem, Nat.reduceAdd, Nat.reduceSub, Nat.reduceMul, Nat.reduceLT, Nat.reduceLeDiff, Nat.reduceEqDiff, List.drop_zero, List.take_succ_cons, List.take_zero, List.drop_succ_cons, Bool.and_true, Bool.true_and, Bool.and_false, Bool.false_and, BitVec.reduceOfInt, Nat.zero_add, Nat.mul_one, Nat.add_zero, Int.zero_add, Int.reduceToNat, Nat.reducePow, ↓reduceIte, reduceCtorEq, Int.reduceLE, Int.reduceLT, Int.reduceEq, Int.reduceNe, Int.reduceAdd, Int.reduceSub, Int.reduceMul, Int.reduceNeg, Nat.reduceBEq, show regOf Tryd.f30 4 = Code.region _ _ _ from rfl, ↓tail_nil, ↓subs_nil_all, ↓List.forall_mem_cons, ↓all_nil, md14, Bool.or_self, Bool.false_or, List.length_map, List.getElem?_map, hjj, hj, Option.map_some, vlV_mk, cs, aresults, tupOf]
      exact ⟨_, rfl⟩
    obtain ⟨h, e⟩ := e
    refine RRes_of e ?_
    rw [pureRes_solid (solidR _ _)]
    cases hb : sameT ⟨k2, p2, m2, n2, l2⟩ s with
    | true => rfl
    | false => exact ⟨_, rfl, by simp only [solid, solid_vl, Bool.not_false, Bool.and_true]⟩
  | none =>
    rw [hf] at cf
    dsimp only [fvI] at cf ⊢
    obtain ⟨k', p', m', n', l'⟩ := s
    obtain ⟨v1, h1, gg, id, h2, a1, a2, a3, a4, a5⟩ := app2 l (m, ⟨k', p', m', n', l'⟩) [.vars [.int 1, .str (txt p), .str (txt m), .int n, .slc false (ks.map tmV)], .vars [.int k', .str (txt p'), .str (txt m'), .int n', .slc false (l'.map tmV)]] hn
    rw [vlV_mk] at a2
    have g10 := a4.2 0 _ rfl
    have g11 := a4.2 1 _ rfl
    have g20 := a5.2 0 _ rfl
    have g21 := a5.2 1 _ rfl
    have e : aval Tryd.prog md fg 30 [.slc false (l.map vlV), tmV ⟨1, p, m, n, ks⟩, tmV ⟨k', p', m', n', l'⟩] [] = some (.tup [.arr id 0 (l ++ [(m, (⟨k', p', m', n', l'⟩ : Tm))]).length gg 6, .bool true], h2) := by
      rw [tmV_mk, tmV_mk]
      rw [aval_of Tryd.func30 body30 Tryd.results30 Tryd.ntmps30 ok30]
      simp (implicitDefEqProofs := false) (disch := omega) only [go_sem, Nat.reduceAdd, Nat.reduceSub, Nat.reduceMul, Nat.reduceLT, Nat.reduceLeDiff, Nat.reduceEqDiff, List.drop_zero, List.take_succ_cons, List.take_zero, List.drop_succ_cons, Bool.and_true, Bool.true_and, Bool.and_false, Bool.false_and, BitVec.reduceOfInt, Nat.zero_add, Nat.mul_one, Nat.add_zero, Int.zero_add, Int.reduceToNat, Nat.reducePow, ↓reduceIte, reduceCtorEq, Int.reduceLE, Int.reduceLT, Int.reduceEq, Int.reduceNe, Int.reduceAdd, Int.reduceSub, Int.reduceMul, Int.reduceNeg, Nat.reduceBEq, show regOf Tryd.f30 0 = Code.region _ _ _ from rfl, show regOf Tryd.f30 1 = Code.region _ _ _ from rfl, show regOf Tryd.f30 2 = Code.region _ _ _ from rfl, show regOf Tryd.f30 3 = Code.region _ _ _ from rfl, cf]
      simp (implicitDefEqProofs := false) (disch := omega) only [go_sem, Nat.reduceAdd, Nat.reduceSub, Nat.reduceMul, Nat.reduceLT, Nat.reduceLeDiff, Nat.reduceEqDiff, List.drop_zero, List.take_succ_cons, List.take_zero, List.drop_succ_cons, Bool.and_true, Bool.true_and, Bool.and_false, Bool.false_and, BitVec.reduceOfInt, Nat.zero_add, Nat.mul_one, Nat.add_zero, Int.zero_add, Int.reduceToNat, Nat.reducePow, ↓reduceIte, reduceCtorEq, Int.reduceLE, Int.reduceLT, Int.reduceEq, Int.reduceNe, Int.reduceAdd, Int.reduceSub, Int.reduceMul, Int.reduceNeg, Nat.reduceBEq, show regOf Tryd.f30 5 = Code.region _ _ _ from rfl, ↓tail_nil, ↓subs_nil_all, ↓List.forall_mem_cons, ↓all_nil, Bool.or_self, Bool.false_or, List.length_map, b38, a1, a2, g10, g11, g20, g21, thenDraw_append, aresults, tupOf, Option.map_some]
    refine RRes_of e ?_
    have hlen : (l ++ [(m, (⟨k', p', m', n', l'⟩ : Tm))]).length = ((l ++ [(m, (⟨k', p', m', n', l'⟩ : Tm))]).map vlV).length := by simp
    rw [hlen, pure_arr (.bool true) a3 (solid_vl _)]
    rfl
set_option maxHeartbeats 8000000 in
theorem rg_node {k : Int} (hk : k ≠ 1) (p m : List UInt8) (n : Int) (ks : List Tm) (hks : ks.length ≤ 9223372036854775807) (hG : ∀ t ∈ ks, RG t) (l : List Vl) (s : Tm) (hs : s.fit) (hv : ∀ v ∈ l, v.2.fit) (hn : l.length + tszs ks ≤ 100000) : RRes (pcall Tryd.prog md fg 30 [.slc false (l.map vlV), tmV ⟨k, p, m, n, ks⟩, tmV s]) (rM l ⟨k, p, m, n, ks⟩ s) := by
  obtain ⟨k', p', m', n', ks'⟩ := s
  rw [Tm.fit] at hs
  obtain ⟨r1, r2, r3, r4⟩ := hs
  rw [rM, if_neg hk]
  have hp := str_eq p p'
  have hm := str_eq m m'
  by_cases hall : k = k' ∧ p = p' ∧ m = m' ∧ n = n' ∧ ks.length = ks'.length
  · rw [if_pos (show k = Tm.kind ⟨k', p', m', n', ks'⟩ ∧ p = Tm.pkg ⟨k', p', m', n', ks'⟩ ∧ m = Tm.name ⟨k', p', m', n', ks'⟩ ∧ n = Tm.n ⟨k', p', m', n', ks'⟩ ∧ ks.length = (Tm.kids ⟨k', p', m', n', ks'⟩).length from hall)]
    obtain ⟨rfl, rfl, rfl, rfl, h5⟩ := hall
    have h6 : ((ks.length : Int) = (ks'.length : Int)) = True := by simp [h5]
    have lp := r30_loop k p m n ks k p m n ks' hks h5 hG (fits_mem r4) (fun l g s l' a b c => rM_fit g l s l' a b c) ks 0 l (.slc true []) (.val (.bool false)) (by simp) (by omega) hv hn
    rw [List.drop_zero] at lp
    simp only [Int.natCast_zero] at lp
    show RRes _ (rMs l ks ks')
    rw [tmV_mk, tmV_mk]
    cases hr : rMs l ks ks' with
    | some l' =>
      rw [hr] at lp
      obtain ⟨a6, a7, lp⟩ := lp
      have e : ∃ h, aval Tryd.prog md fg 30 [.slc false (l.map vlV), .agg [.int k, .str (txt p), .str (txt m), .int n, .slc false (ks.map tmV)], .agg [.int k, .str (txt p), .str (txt m), .int n, .slc false (ks'.map tmV)]] [] = some (.tup [.slc false (l'.map vlV), .bool true], h) := by
        rw [aval_of Tryd.func30 body30 Tryd.results30 Tryd.ntmps30 ok30]
        simp (implicitDefEqProofs := false) (disch := omega) only [go_sem, Nat.reduceAdd, Nat.reduceSub, Nat.reduceMul, Nat.reduceLT, Nat.reduceLeDiff, Nat.reduceEqDiff, List.drop_zero, List.take_succ_cons, List.take_zero, List.drop_succ_cons, Bool.and_true, Bool.true_and, Bool.and_false, Bool.false_and, BitVec.reduceOfInt, Nat.zero_add, Nat.mul_one, Nat.add_zero, Int.zero_add, Int.reduceToNat, Nat.reducePow, ↓reduceIte, reduceCtorEq, Int.reduceLE, Int.reduceLT, Int.reduceEq, Int.reduceNe, Int.reduceAdd, Int.reduceSub, Int.reduceMul, Int.reduceNeg, Nat.reduceBEq, show regOf Tryd.f30 0 = Code.region _ _ _ from rfl, show regOf Tryd.f30 1 = Code.region _ _ _ from rfl, show regOf Tryd.f30 6 = Code.region _ _ _ from rfl, show regOf Tryd.f30 8 = Code.region _ _ _ from rfl, show regOf Tryd.f30 15 = Code.region _ _ _ from rfl, hk, h6, List.length_map, lp, aresults, tupOf, Option.map_some]
        exact ⟨_, rfl⟩
      obtain ⟨h, e⟩ := e
      refine RRes_of e ?_
      rw [pureRes_solid (solidR _ _)]; rfl
    | none =>
      rw [hr] at lp
      obtain ⟨e', lp, x6, x7⟩ := lp
      have e : ∃ h, aval Tryd.prog md fg 30 [.slc false (l.map vlV), .agg [.int k, .str (txt p), .str (txt m), .int n, .slc false (ks.map tmV)], .agg [.int k, .str (txt p), .str (txt m), .int n, .slc false (ks'.map tmV)]] [] = some (.tup [.slc true [], .bool false], h) := by
        rw [aval_of Tryd.func30 body30 Tryd.results30 Tryd.ntmps30 ok30]
        simp (implicitDefEqProofs := false) (disch := omega) only [go_sem, Nat.reduceAdd, Nat.reduceSub, Nat.reduceMul, Nat.reduceLT, Nat.reduceLeDiff, Nat.reduceEqDiff, List.drop_zero, List.take_succ_cons, List.take_zero, List.drop_succ_cons, Bool.and_true, Bool.true_and, Bool.and_false, Bool.false_and, BitVec.reduceOfInt, Nat.zero_add, Nat.mul_one, Nat.add_zero, Int.zero_add, Int.reduceToNat, Nat.reducePow, ↓reduceIte, reduceCtorEq, Int.reduceLE, Int.reduceLT, Int.reduceEq, Int.reduceNe, Int.reduceAdd, Int.reduceSub, Int.reduceMul, Int.reduceNeg, Nat.reduceBEq, show regOf Tryd.f30 0 = Code.region _ _ _ from rfl, show regOf Tryd.f30 1 = Code.region _ _ _ from rfl, show regOf Tryd.f30 6 = Code.region _ _ _ from rfl, show regOf Tryd.f30 8 = Code.region _ _ _ from rfl, hk, h6, List.length_map, lp, aresults, tupOf, Option.map_some]
        rw [x6, x7]
        exact ⟨_, rfl⟩
      obtain ⟨h, e⟩ := e
      refine RRes_of e ?_
      exact ⟨.slc false [], rfl, rfl⟩
  · rw [if_neg (show ¬ (k = Tm.kind ⟨k', p', m', n', ks'⟩ ∧ p = Tm.pkg ⟨k', p', m', n', ks'⟩ ∧ m = Tm.name ⟨k', p', m', n', ks'⟩ ∧ n = Tm.n ⟨k', p', m', n', ks'⟩ ∧ ks.length = (Tm.kids ⟨k', p', m', n', ks'⟩).length) from hall)]
    have e : ∃ h, aval Tryd.prog md fg 30 [.slc false (l.map vlV), tmV ⟨k, p, m, n, ks⟩, tmV ⟨k', p', m', n', ks'⟩] [] = some (.tup [.slc true [], .bool false], h) := by
      rw [tmV_mk, tmV_mk]
      rw [aval_of Tryd.func30 body30 Tryd.results30 Tryd.ntmps30 ok30]
      by_cases h1 : k = k'
      · by_cases h2 : p = p'
        · by_cases h3 : m = m'
          · by_cases h4 : n = n'
            · have h5 : ¬ (ks.length : Int) = (ks'.length : Int) := fun h => hall ⟨h1, h2, h3, h4, by omega⟩
              subst h1; subst h2; subst h3; subst h4
              simp (implicitDefEqProofs := false) (disch := omega) only [go_sem, Nat.reduceAdd, Nat.reduceSub, Nat.reduceMul, Nat.reduceLT, Nat.reduceLeDiff, Nat.reduceEqDiff, List.drop_zero, List.take_succ_cons, List.take_zero, List.drop_succ_cons, Bool.and_true, Bool.true_and, Bool.and_false, Bool.false_and, BitVec.reduceOfInt, Nat.zero_add, Nat.mul_one, Nat.add_zero, Int.zero_add, Int.reduceToNat, Nat.reducePow, ↓reduceIte, reduceCtorEq, Int.reduceLE, Int.reduceLT, Int.reduceEq, Int.reduceNe, Int.reduceAdd, Int.reduceSub, Int.reduceMul, Int.reduceNeg, Nat.reduceBEq, show regOf Tryd.f30 0 = Code.region _ _ _ from rfl, show regOf Tryd.f30 1 = Code.region _ _ _ from rfl, show regOf Tryd.f30 6 = Code.region _ _ _ from rfl, show regOf Tryd.f30 7 = Code.region _ _ _ from rfl, hk, h5, List.length_map, aresults, tupOf, Option.map_some]
              exact ⟨_, rfl⟩
            · subst h1; subst h2; subst h3
              simp (implicitDefEqProofs := false) (disch := omega) only [go_sem, Nat.reduceAdd, Nat.reduceSub, Nat.reduceMul, Nat.reduceLT, Nat.reduceLeDiff, Nat.reduceEqDiff, List.drop_zero, List.take_succ_cons, List.take_zero, List.drop_succ_cons, Bool.and_true, Bool.true_and, Bool.and_false, Bool.false_and, BitVec.reduceOfInt, Nat.zero_add, Nat.mul_one, Nat.add_zero, Int.zero_add, Int.reduceToNat, Nat.reducePow, ↓reduceIte, reduceCtorEq, Int.reduceLE, Int.reduceLT, Int.reduceEq, Int.reduceNe, Int.reduceAdd, Int.reduceSub, Int.reduceMul, Int.reduceNeg, Nat.reduceBEq, show regOf Tryd.f30 0 = Code.region _ _ _ from rfl, show regOf Tryd.f30 1 = Code.region _ _ _ from rfl, show regOf Tryd.f30 6 = Code.region _ _ _ from rfl, show regOf Tryd.f30 7 = Code.region _ _ _ from rfl, hk, h4, aresults, tupOf, Option.map_some]
              exact ⟨_, rfl⟩
          · subst h1; subst h2
            simp (implicitDefEqProofs := false) (disch := omega) only [go_sem, Nat.reduceAdd, Nat.reduceSub, Nat.reduceMul, Nat.reduceLT, Nat.reduceLeDiff, Nat.reduceEqDiff, List.drop_zero, List.take_succ_cons, List.take_zero, List.drop_succ_cons, Bool.and_true, Bool.true_and, Bool.and_false, Bool.false_and, BitVec.reduceOfInt, Nat.zero_add, Nat.mul_one, Nat.add_zero, Int.zero_add, Int.reduceToNat, Nat.reducePow, ↓reduceIte, reduceCtorEq, Int.reduceLE, Int.reduceLT, Int.reduceEq, Int.reduceNe, Int.reduceAdd, Int.reduceSub, Int.reduceMul, Int.reduceNeg, Nat.reduceBEq, show regOf Tryd.f30 0 = Code.region _ _ _ from rfl, show regOf Tryd.f30 1 = Code.region _ _ _ from rfl, show regOf Tryd.f30 6 = Code.region _ _ _ from rfl, show regOf Tryd.f30 7 = Code.region _ _ _ from rfl, hk, h3, hm, aresults, tupOf, Option.map_some]
            exact ⟨_, rfl⟩
        · subst h1
          simp (implicitDefEqProofs := false) (disch := omega) only [go_sem, Nat.reduceAdd, Nat.reduceSub, Nat.reduceMul, Nat.reduceLT, Nat.reduceLeDiff, Nat.reduceEqDiff, List.drop_zero, List.take_succ_cons, List.take_zero, List.drop_succ_cons, Bool.and_true, Bool.true_and, Bool.and_false, Bool.false_and, BitVec.reduceOfInt, Nat.zero_add, Nat.mul_one, Nat.add_zero, Int.zero_add, Int.reduceToNat, Nat.reducePow, ↓reduceIte, reduceCtorEq, Int.reduceLE, Int.reduceLT, Int.reduceEq, Int.reduceNe, Int.reduceAdd, Int.reduceSub, Int.reduceMul, Int.reduceNeg, Nat.reduceBEq, show regOf Tryd.f30 0 = Code.region _ _ _ from rfl, show regOf Tryd.f30 1 = Code.region _ _ _ from rfl, show regOf Tryd.f30 6 = Code.region _ _ _ from rfl, show regOf Tryd.f30 7 = Code.region _ _ _ from rfl, hk, h2, hp, aresults, tupOf, Option.map_some]
          exact ⟨_, rfl⟩
      · simp (implicitDefEqProofs := false) (disch := omega) only [go_sem, Nat.reduceAdd, Nat.reduceSub, Nat.reduceMul, Nat.reduceLT, Nat.reduceLeDiff, Nat.reduceEqDiff, List.drop_zero, List.take_succ_cons, List.take_zero, List.drop_succ_cons, Bool.and_true, Bool.true_and, Bool.and_false, Bool.false_and, BitVec.reduceOfInt, Nat.zero_add, Nat.mul_one, Nat.add_zero, Int.zero_add, Int.reduceToNat, Nat.reducePow, ↓reduceIte, reduceCtorEq, Int.reduceLE, Int.reduceLT, Int.reduceEq, Int.reduceNe, Int.reduceAdd, Int.reduceSub, Int.reduceMul, Int.reduceNeg, Nat.reduceBEq, show regOf Tryd.f30 0 = Code.region _ _ _ from rfl, show regOf Tryd.f30 1 = Code.region _ _ _ from rfl, show regOf Tryd.f30 6 = Code.region _ _ _ from rfl, show regOf Tryd.f30 7 = Code.region _ _ _ from rfl, hk, h1, aresults, tupOf, Option.map_some]
        exact ⟨_, rfl⟩
    obtain ⟨h, e⟩ := e
    refine RRes_of e ?_
    exact ⟨.slc false [], rfl, rfl⟩
mutual
theorem RG_all : ∀ g : Tm, g.fit → RG g
  | ⟨k, p, m, n, ks⟩, hf => by
    rw [Tm.fit] at hf
    obtain ⟨f1, f2, f3, f4⟩ := hf
    have ih := RG_alls ks f4
    intro l s hs hv hn
    rw [tsz] at hn
    by_cases hk : k = 1
    · subst hk; exact rg_var p m n ks l s hs hv (by omega)
    · exact rg_node hk p m n ks f3 ih l s hs hv (by omega)
theorem RG_alls : ∀ gs : List Tm, Tm.fits gs → ∀ t ∈ gs, RG t
  | [], _, t, h => by cases h
  | a :: r, hf, t, h => by
    rw [Tm.fits] at hf
    rcases List.mem_cons.1 h with h | h
    · rw [h]; exact RG_all a hf.1
    · exact RG_alls r hf.2 t h
end
end Go.Proofs.YtedapgcaibbhoaaDoor
namespace Go.Proofs.YtedapgcaibbhoaaDoor
open Go Go.Ab Go.Proofs
set_option maxRecDepth 100000
set_option linter.unusedSimpArgs false
set_option linter.unusedVariables false
/-- A call by value, of what is told as values. -/
theorem doCall_exp {f : FuncId} {xs ys : List AV} {h : AHeap} {r : AV} (hm : md f = 0) (hs : expL (exp1 h expDepth) xs = some (ys, [])) (e : pcall Tryd.prog md fg f ys = some r) : doCall md (aval Tryd.prog md fg) f xs h = some (r, h) := by
  rw [doCall_0 (by omega)]; unfold doCall0
  rw [if_pos (.inl hm), hs]
  simp only [canFrz_nil, if_true]
  rw [← pcall_eq, e]
  simp [frzAll]
theorem exp_nil (h : AHeap) : exp1 h expDepth (.slc true []) = some (.slc false [], []) := rfl
theorem rm_c (g s : Tm) (hg : g.fit) (hs : s.fit) (hz : tsz g ≤ 100000) (h : AHeap) : match rM [] g s with
    | some l' => doCall md (aval Tryd.prog md fg) 30 [.slc true [], tmV g, tmV s] h = some (.tup [.slc false (l'.map vlV), .bool true], h)
    | none => ∃ x, doCall md (aval Tryd.prog md fg) 30 [.slc true [], tmV g, tmV s] h = some (.tup [x, .bool false], h) := by
  have hr := RG_all g hg [] s hs (fun v hv => by cases hv) (by simpa using hz)
  have he : expL (exp1 h expDepth) [.slc true [], tmV g, tmV s] = some ([.slc false (([] : List Vl).map vlV), tmV g, tmV s], []) := by
    simp only [expL, exp_nil, exp1_solid (solid_tm g), exp1_solid (solid_tm s), List.append_nil, List.map_nil]
  cases ho : rM [] g s with
  | some l' =>
    rw [ho] at hr
    exact doCall_exp md30 he hr
  | none =>
    rw [ho] at hr
    obtain ⟨x, hr, _⟩ := hr
    exact ⟨x, doCall_exp md30 he hr⟩
theorem rabove_c (g s : Tm) (hg : g.fit) (hs : s.fit) (hz : tsz g ≤ 100000) (h : AHeap) : doCall md (aval Tryd.prog md fg) 18 [tmV g, tmV s] h = some (.val (.bool (rM [] g s).isSome), h) := by
  have e : ∃ h, aval Tryd.prog md fg 18 [tmV g, tmV s] [] = some (.val (.bool (rM [] g s).isSome), h) := by
    have c := rm_c g s hg hs hz
    generalize rM [] g s = o at *
    obtain ⟨k, p, m, n, l⟩ := g
    obtain ⟨k', p', m', n', l'⟩ := s
    rw [tmV_mk, tmV_mk] at *
    cases o with
    | some r =>
      dsimp only at c
      rw [aval_of Tryd.func18 body18 Tryd.results18 Tryd.ntmps18 ok18]
      simp (implicitDefEqProofs := false) (disch := omega) only [go_sem, Nat.reduceAdd, Nat.reduceSub, Nat.reduceMul, Nat.reduceLT, Nat.reduceLeDiff, Nat.reduceEqDiff, List.drop_zero, List.take_succ_cons, List.take_zero, List.drop_succ_cons, Bool.and_true, Bool.true_and, Bool.and_false, Bool.false_and, BitVec.reduceOfInt, Nat.zero_add, Nat.mul_one, Nat.add_zero, Int.zero_add, Int.reduceToNat, Nat.reducePow, ↓reduceIte, reduceCtorEq, Int.reduceLE, Int.reduceLT, Int.reduceEq, Int.reduceNe, Int.reduceAdd, Int.reduceSub, Int.reduceMul, Int.reduceNeg, Nat.reduceBEq, show regOf Tryd.f18 0 = Code.region _ _ _ from rfl, show regOf Tryd.f18 1 = Code.region _ _ _ from rfl, show regOf Tryd.f18 2 = Code.region _ _ _ from rfl, c, Option.isSome_some]
      exact ⟨_, rfl⟩
    | none =>
      dsimp only at c
      obtain ⟨x, c⟩ := c [.vars [.int k, .str (txt p), .str (txt m), .int n, .slc false (l.map tmV)], .vars [.int k', .str (txt p'), .str (txt m'), .int n', .slc false (l'.map tmV)]]
      rw [aval_of Tryd.func18 body18 Tryd.results18 Tryd.ntmps18 ok18]
      simp (implicitDefEqProofs := false) (disch := omega) only [go_sem, Nat.reduceAdd, Nat.reduceSub, Nat.reduceMul, Nat.reduceLT, Nat.reduceLeDiff, Nat.reduceEqDiff, List.drop_zero, List.take_succ_cons, List.take_zero, List.drop_succ_cons, Bool.and_true, Bool.true_and, Bool.and_false, Bool.false_and, BitVec.reduceOfInt, Nat.zero_add, Nat.mul_one, Nat.add_zero, Int.zero_add, Int.reduceToNat, Nat.reducePow, ↓reduceIte, reduceCtorEq, Int.reduceLE, Int.reduceLT, Int.reduceEq, Int.reduceNe, Int.reduceAdd, Int.reduceSub, Int.reduceMul, Int.reduceNeg, Nat.reduceBEq, show regOf Tryd.f18 0 = Code.region _ _ _ from rfl, show regOf Tryd.f18 1 = Code.region _ _ _ from rfl, show regOf Tryd.f18 2 = Code.region _ _ _ from rfl, c, Option.isSome_none]
      exact ⟨_, rfl⟩
  obtain ⟨h1, e⟩ := e
  exact doCall_pure md18 (solid2 g s) (by rw [pcall_eq, e, pureRes_solid rfl])
/-- What Match answers: what is put, or nothing. -/
def mtV (o : Option (List Vl)) : AV := match o with | some l => .tup [.slc false (l.map vlV), .bool true] | none => .tup [.slc false [], .bool false]
theorem rmatch_c (g s : Tm) (hg : g.fit) (hs : s.fit) (hz : tsz g ≤ 100000) (h : AHeap) : doCall md (aval Tryd.prog md fg) 16 [tmV g, tmV s] h = some (mtV (rM [] g s), h) := by
  refine doCall_pure md16 (solid2 g s) ?_
  have c := rm_c g s hg hs hz
  generalize rM [] g s = o at *
  obtain ⟨k, p, m, n, l⟩ := g
  obtain ⟨k', p', m', n', l'⟩ := s
  rw [tmV_mk, tmV_mk] at *
  cases o with
  | some r =>
    dsimp only at c
    have e : ∃ h, aval Tryd.prog md fg 16 [.agg [.int k, .str (txt p), .str (txt m), .int n, .slc false (l.map tmV)], .agg [.int k', .str (txt p'), .str (txt m'), .int n', .slc false (l'.map tmV)]] [] = some (.tup [.slc false (r.map vlV), .bool true], h) := by
      rw [aval_of Tryd.func16 body16 Tryd.results16 Tryd.ntmps16 ok16]
      simp (implicitDefEqProofs := false) (disch := omega) only [go_sem, Nat.reduceAdd, Nat.reduceSub, Nat.reduceMul, Nat.reduceLT, Nat.reduceLeDiff, Nat.reduceEqDiff, List.drop_zero, List.take_succ_cons, List.take_zero, List.drop_succ_cons, Bool.and_true, Bool.true_and, Bool.and_false, Bool.false_and, BitVec.reduceOfInt, Nat.zero_add, Nat.mul_one, Nat.add_zero, Int.zero_add, Int.reduceToNat, Nat.reducePow, ↓reduceIte, reduceCtorEq, Int.reduceLE, Int.reduceLT, Int.reduceEq, Int.reduceNe, Int.reduceAdd, Int.reduceSub, Int.reduceMul, Int.reduceNeg, Nat.reduceBEq, show regOf Tryd.f16 0 = Code.region _ _ _ from rfl, show regOf Tryd.f16 1 = Code.region _ _ _ from rfl, show regOf Tryd.f16 2 = Code.region _ _ _ from rfl, show regOf Tryd.f16 3 = Code.region _ _ _ from rfl, show regOf Tryd.f16 4 = Code.region _ _ _ from rfl, c, aresults, tupOf, Option.map_some]
      exact ⟨_, rfl⟩
    obtain ⟨h1, e⟩ := e
    rw [pcall_eq, e, pureRes_solid (solidR _ _)]; rfl
  | none =>
    dsimp only at c
    obtain ⟨x, c⟩ := c [.vars [.int k, .str (txt p), .str (txt m), .int n, .slc false (l.map tmV)], .vars [.int k', .str (txt p'), .str (txt m'), .int n', .slc false (l'.map tmV)]]
    have e : ∃ h, aval Tryd.prog md fg 16 [.agg [.int k, .str (txt p), .str (txt m), .int n, .slc false (l.map tmV)], .agg [.int k', .str (txt p'), .str (txt m'), .int n', .slc false (l'.map tmV)]] [] = some (.tup [.slc true [], .bool false], h) := by
      rw [aval_of Tryd.func16 body16 Tryd.results16 Tryd.ntmps16 ok16]
      simp (implicitDefEqProofs := false) (disch := omega) only [go_sem, Nat.reduceAdd, Nat.reduceSub, Nat.reduceMul, Nat.reduceLT, Nat.reduceLeDiff, Nat.reduceEqDiff, List.drop_zero, List.take_succ_cons, List.take_zero, List.drop_succ_cons, Bool.and_true, Bool.true_and, Bool.and_false, Bool.false_and, BitVec.reduceOfInt, Nat.zero_add, Nat.mul_one, Nat.add_zero, Int.zero_add, Int.reduceToNat, Nat.reducePow, ↓reduceIte, reduceCtorEq, Int.reduceLE, Int.reduceLT, Int.reduceEq, Int.reduceNe, Int.reduceAdd, Int.reduceSub, Int.reduceMul, Int.reduceNeg, Nat.reduceBEq, show regOf Tryd.f16 0 = Code.region _ _ _ from rfl, show regOf Tryd.f16 1 = Code.region _ _ _ from rfl, show regOf Tryd.f16 2 = Code.region _ _ _ from rfl, show regOf Tryd.f16 3 = Code.region _ _ _ from rfl, show regOf Tryd.f16 4 = Code.region _ _ _ from rfl, c, aresults, tupOf, Option.map_some]
      exact ⟨_, rfl⟩
    obtain ⟨h1, e⟩ := e
    rw [pcall_eq, e]; rfl
end Go.Proofs.YtedapgcaibbhoaaDoor
namespace Go.Proofs.YtedapgcaibbhoaaDoor
open Go Go.Ab Go.Proofs
set_option maxRecDepth 100000
set_option linter.unusedSimpArgs false
set_option linter.unusedVariables false
abbrev sV (s : List UInt8) : AV := .val (.string (txt s))
def ix (k : List UInt8) : List (List UInt8) → Nat → Option Nat
  | [], _ => none
  | e :: r, i => if k = e then some i else ix k r (i + 1)
theorem ix_mem (k : List UInt8) : ∀ (l : List (List UInt8)) (i : Nat), (ix k l i).isSome = decide (k ∈ l)
  | [], i => by simp [ix]
  | e :: r, i => by
    unfold ix
    by_cases h : k = e
    · rw [if_pos h]; simp [h]
    · rw [if_neg h, ix_mem k r (i + 1)]; simp [h]
theorem solid_names : ∀ l : List (List UInt8), solidL (l.map sV) = true
  | [] => rfl
  | s :: r => by rw [List.map_cons, solidL, solid_names r]; rfl
theorem idx_loop (k : List UInt8) (l : List (List UInt8)) (hl : l.length ≤ 9223372036854775807) : ∀ (r : List (List UInt8)) (i : Nat) (a4 : AV), l.drop i = r → i ≤ l.length → ∃ (i' : Int) (a' : AV),
    lrun Tryd.prog md fg (fg 42) (loopOf Tryd.f42 0) (fg 42 1) ([.slc false (l.map sV), sV k, .unk, .unk, a4, .unk, .unk, .int l.length, .int i, .unk, .unk, .unk, .unk, .unk, .unk, .unk, .unk, .unk, .unk]) [] = some (match ix k r i with | some j => (.ret, [.slc false (l.map sV), sV k, .unk, .unk, .int j, .unk, .unk, .int l.length, .int i', .unk, .unk, .unk, .unk, .unk, .unk, .unk, .unk, .unk, .unk], []) | none => (.exit 0, [.slc false (l.map sV), sV k, .unk, .unk, a', .unk, .unk, .int l.length, .int i', .unk, .unk, .unk, .unk, .unk, .unk, .unk, .unk, .unk, .unk], []))
  | [], i, a4, hdr, hi => by
    have : i = l.length := by have := congrArg List.length hdr; simp at this; omega
    subst this
    refine ⟨(l.length : Int), a4, ?_⟩
    simp only [ix]
    rw [lrun_atC loop42_0]
    simp (implicitDefEqProofs := false) (disch := omega) only [go_sem, Nat.reduceAdd, Nat.reduceSub, Nat.reduceMul, Nat.reduceLT, Nat.reduceLeDiff, Nat.reduceEqDiff, List.drop_zero, List.take_succ_cons, List.take_zero, List.drop_succ_cons, Bool.and_true, Bool.true_and, Bool.and_false, Bool.false_and, BitVec.reduceOfInt, Nat.zero_add, Nat.mul_one, Nat.add_zero, Int.zero_add, Int.reduceToNat, Nat.reducePow, ↓reduceIte, reduceCtorEq, Int.reduceLE, Int.reduceLT, Int.reduceEq, Int.reduceNe, Int.reduceAdd, Int.reduceSub, Int.reduceMul, Int.reduceNeg, Nat.reduceBEq, show regOf Tryd.f42 2 = Code.region _ _ _ from rfl]
  | s :: r, i, a4, hdr, hi => by
    have hx : l[i]? = some s := by have := congrArg (·[0]?) hdr; simpa using this
    have hlt : i < l.length := (List.getElem?_eq_some_iff.1 hx).1
    have hd' : l.drop (i + 1) = r := by rw [← List.tail_drop, hdr]; rfl
    have ht : ((i : Int)).toNat = i := by omega
    have hs := str_eq k s
    by_cases hk : k = s
    · refine ⟨(i : Int), .unk, ?_⟩
      rw [ix, if_pos hk]
      subst hk
      dsimp only
      rw [lrun_atC loop42_0]
      simp (implicitDefEqProofs := false) (disch := omega) only [go_sem, Nat.reduceAdd, Nat.reduceSub, Nat.reduceMul, Nat.reduceLT, Nat.reduceLeDiff, Nat.reduceEqDiff, List.drop_zero, List.take_succ_cons, List.take_zero, List.drop_succ_cons, Bool.and_true, Bool.true_and, Bool.and_false, Bool.false_and, BitVec.reduceOfInt, Nat.zero_add, Nat.mul_one, Nat.add_zero, Int.zero_add, Int.reduceToNat, Nat.reducePow, ↓reduceIte, reduceCtorEq, Int.reduceLE, Int.reduceLT, Int.reduceEq, Int.reduceNe, Int.reduceAdd, Int.reduceSub, Int.reduceMul, Int.reduceNeg, Nat.reduceBEq, show regOf Tryd.f42 2 = Code.region _ _ _ from rfl, show regOf Tryd.f42 3 = Code.region _ _ _ from rfl, show regOf Tryd.f42 4 = Code.region _ _ _ from rfl, show regOf Tryd.f42 5 = Code.region _ _ _ from rfl, List.getElem?_map, ht, hx, Option.map_some]
    · obtain ⟨i', a', e⟩ := idx_loop k l hl r (i + 1) a4 hd' (by omega)
      refine ⟨i', a', ?_⟩
      rw [ix, if_neg hk, ← e]
      rw [lrun_atC loop42_0]
      simp (implicitDefEqProofs := false) (disch := omega) only [go_sem, Nat.reduceAdd, Nat.reduceSub, Nat.reduceMul, Nat.reduceLT, Nat.reduceLeDiff, Nat.reduceEqDiff, List.drop_zero, List.take_succ_cons, List.take_zero, List.drop_succ_cons, Bool.and_true, Bool.true_and, Bool.and_false, Bool.false_and, BitVec.reduceOfInt, Nat.zero_add, Nat.mul_one, Nat.add_zero, Int.zero_add, Int.reduceToNat, Nat.reducePow, ↓reduceIte, reduceCtorEq, Int.reduceLE, Int.reduceLT, Int.reduceEq, Int.reduceNe, Int.reduceAdd, Int.reduceSub, Int.reduceMul, Int.reduceNeg, Nat.reduceBEq, show regOf Tryd.f42 2 = Code.region _ _ _ from rfl, show regOf Tryd.f42 3 = Code.region _ _ _ from rfl, show regOf Tryd.f42 4 = Code.region _ _ _ from rfl, show regOf Tryd.f42 6 = Code.region _ _ _ from rfl, List.getElem?_map, ht, hx, Option.map_some, hs, hk]
      all_goals (congr 1 <;> simp only [List.cons.injEq, AV.val.injEq, Value.int.injEq, Value.bool.injEq, true_and, and_true] <;> omega)
theorem index_p (k : List UInt8) (l : List (List UInt8)) (hl : l.length ≤ 9223372036854775807) : pcall Tryd.prog md fg 42 [.slc false (l.map sV), sV k] = some (.int (match ix k l 0 with | some j => (j : Int) | none => -1)) := by
  have e : ∃ h, aval Tryd.prog md fg 42 [.slc false (l.map sV), sV k] [] = some (.int (match ix k l 0 with | some j => (j : Int) | none => -1), h) := by
    obtain ⟨i', a', e⟩ := idx_loop k l hl l 0 (.int 0) (by simp) (by omega)
    simp only [Int.natCast_zero] at e
    rw [aval_of Tryd.func42 body42 Tryd.results42 Tryd.ntmps42 ok42]
    cases hf : ix k l 0 with
    | none =>
      rw [hf] at e
      dsimp only at e
      simp (implicitDefEqProofs := false) (disch := omega) only [go_sem, Nat.reduceAdd, Nat.reduceSub, Nat.reduceMul, Nat.reduceLT, Nat.reduceLeDiff, Nat.reduceEqDiff, List.drop_zero, List.take_succ_cons, List.take_zero, List.drop_succ_cons, Bool.and_true, Bool.true_and, Bool.and_false, Bool.false_and, BitVec.reduceOfInt, Nat.zero_add, Nat.mul_one, Nat.add_zero, Int.zero_add, Int.reduceToNat, Nat.reducePow, ↓reduceIte, reduceCtorEq, Int.reduceLE, Int.reduceLT, Int.reduceEq, Int.reduceNe, Int.reduceAdd, Int.reduceSub, Int.reduceMul, Int.reduceNeg, Nat.reduceBEq, show regOf Tryd.f42 0 = Code.region _ _ _ from rfl, show regOf Tryd.f42 1 = Code.region _ _ _ from rfl, show regOf Tryd.f42 7 = Code.region _ _ _ from rfl, List.length_map, e]
      exact ⟨_, rfl⟩
    | some j =>
      rw [hf] at e
      dsimp only at e
      simp (implicitDefEqProofs := false) (disch := omega) only [go_sem, Nat.reduceAdd, Nat.reduceSub, Nat.reduceMul, Nat.reduceLT, Nat.reduceLeDiff, Nat.reduceEqDiff, List.drop_zero, List.take_succ_cons, List.take_zero, List.drop_succ_cons, Bool.and_true, Bool.true_and, Bool.and_false, Bool.false_and, BitVec.reduceOfInt, Nat.zero_add, Nat.mul_one, Nat.add_zero, Int.zero_add, Int.reduceToNat, Nat.reducePow, ↓reduceIte, reduceCtorEq, Int.reduceLE, Int.reduceLT, Int.reduceEq, Int.reduceNe, Int.reduceAdd, Int.reduceSub, Int.reduceMul, Int.reduceNeg, Nat.reduceBEq, show regOf Tryd.f42 0 = Code.region _ _ _ from rfl, show regOf Tryd.f42 1 = Code.region _ _ _ from rfl, List.length_map, e]
      exact ⟨_, rfl⟩
  obtain ⟨h, e⟩ := e
  rw [pcall_eq, e, pureRes_solid rfl]
theorem contains_p (k : List UInt8) (l : List (List UInt8)) (hl : l.length ≤ 9223372036854775807) : pcall Tryd.prog md fg 41 [.slc false (l.map sV), sV k] = some (.val (.bool (decide (k ∈ l)))) := by
  have c : ∀ h, doCall md (aval Tryd.prog md fg) 42 [.slc false (l.map sV), sV k] h = some (.int (match ix k l 0 with | some j => (j : Int) | none => -1), h) := fun h => doCall_pure md42 (by simp only [solidL, solid, solid_names, Bool.not_false, Bool.and_true]) (index_p k l hl)
  have e : ∃ h, aval Tryd.prog md fg 41 [.slc false (l.map sV), sV k] [] = some (.val (.bool (decide (k ∈ l))), h) := by
    rw [← ix_mem k l 0]
    rw [aval_of Tryd.func41 body41 Tryd.results41 Tryd.ntmps41 ok41]
    cases hf : ix k l 0 with
    | none =>
      rw [hf] at c
      dsimp only at c
      simp (implicitDefEqProofs := false) (disch := omega) only [go_sem, Nat.reduceAdd, Nat.reduceSub, Nat.reduceMul, Nat.reduceLT, Nat.reduceLeDiff, Nat.reduceEqDiff, List.drop_zero, List.take_succ_cons, List.take_zero, List.drop_succ_cons, Bool.and_true, Bool.true_and, Bool.and_false, Bool.false_and, BitVec.reduceOfInt, Nat.zero_add, Nat.mul_one, Nat.add_zero, Int.zero_add, Int.reduceToNat, Nat.reducePow, ↓reduceIte, reduceCtorEq, Int.reduceLE, Int.reduceLT, Int.reduceEq, Int.reduceNe, Int.reduceAdd, Int.reduceSub, Int.reduceMul, Int.reduceNeg, Nat.reduceBEq, show regOf Tryd.f41 0 = Code.region _ _ _ from rfl, show regOf Tryd.f41 1 = Code.region _ _ _ from rfl, c, Option.isSome_none]
      exact ⟨_, rfl⟩
    | some j =>
      rw [hf] at c
      dsimp only at c
      simp (implicitDefEqProofs := false) (disch := omega) only [go_sem, Nat.reduceAdd, Nat.reduceSub, Nat.reduceMul, Nat.reduceLT, Nat.reduceLeDiff, Nat.reduceEqDiff, List.drop_zero, List.take_succ_cons, List.take_zero, List.drop_succ_cons, Bool.and_true, Bool.true_and, Bool.and_false, Bool.false_and, BitVec.reduceOfInt, Nat.zero_add, Nat.mul_one, Nat.add_zero, Int.zero_add, Int.reduceToNat, Nat.reducePow, ↓reduceIte, reduceCtorEq, Int.reduceLE, Int.reduceLT, Int.reduceEq, Int.reduceNe, Int.reduceAdd, Int.reduceSub, Int.reduceMul, Int.reduceNeg, Nat.reduceBEq, show regOf Tryd.f41 0 = Code.region _ _ _ from rfl, show regOf Tryd.f41 1 = Code.region _ _ _ from rfl, c, Option.isSome_some]
      exact ⟨_, rfl⟩
  obtain ⟨h, e⟩ := e
  rw [pcall_eq, e, pureRes_solid rfl]
end Go.Proofs.YtedapgcaibbhoaaDoor
