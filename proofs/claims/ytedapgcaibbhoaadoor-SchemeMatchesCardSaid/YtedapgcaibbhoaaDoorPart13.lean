/- Parts of the proof, each with its own heading: SchemeMatches is true of every input. SchemeMatches: what its card needs. -/
import Derived.Test.YtedapgcaibbhoaaDoorPart12
set_option linter.unusedSimpArgs false
set_option linter.unusedVariables false
namespace Go.Proofs.YtedapgcaibbhoaaDoor
open Go Go.Ab Go.Proofs
set_option maxRecDepth 100000
set_option linter.unusedSimpArgs false
set_option linter.unusedVariables false
theorem sub_c (g s : Tm) (L : List Vl) (hL : L.length ≤ 100000) (hz : tsz g ≤ 100000) (hs : subT L g = s) {h : AHeap} {v w : AV} (hN : NB h v (L.map Prod.fst)) (hT : TL h w (L.map Prod.snd)) : ∃ h', doCall md (aval Tryd.prog md fg) 11 [tmV g, v, w] h = some (tmV s, h') ∧ ∀ j cs, hget h j = .vars cs → hget h' j = .vars cs := by
  obtain ⟨i1, e1, c1⟩ := nb_exp hN
  obtain ⟨_, i2, e2, c2⟩ := tl_exp hT 59
  have e2 : exp1 h expDepth w = some (.slc false ((L.map Prod.snd).map tmV), i2) := e2
  have he : expL (exp1 h expDepth) [tmV g, v, w] = some ([tmV g, nmV L, byV L], i1 ++ i2) := by
    simp only [expL, exp1_solid (solid_tm g), e1, e2, List.append_nil, List.nil_append]
  have hc : canFrz h (i1 ++ i2) = true := by
    unfold canFrz at c1 c2 ⊢
    rw [List.all_append, c1, c2]; rfl
  have := ST_all L hL g hz
  unfold ST at this
  rw [hs] at this
  exact doCall_frz (by rw [md11]; decide) he hc this
set_option maxHeartbeats 16000000 in
theorem schemeMatches (g s : Tm) (hg : g.fit) (hs : s.fit) : pcall Tryd.prog md fg 5 [tmV g, tmV s] = some (.bool true) := by
  have e : ∃ h, aval Tryd.prog md fg 5 [tmV g, tmV s] [] = some (.bool true, h) := by
    obtain ⟨fa, fa1, fa2⟩ := few_p g hg
    obtain ⟨fb, fb1, fb2⟩ := few_p s hs
    have ca : ∀ h : AHeap, doCall md (aval Tryd.prog md fg) 7 [tmV g] h = some (.val (.bool fa), h) := fun h => doCall_pure md7 (solid1 g) fa2
    have cb : ∀ h : AHeap, doCall md (aval Tryd.prog md fg) 7 [tmV s] h = some (.val (.bool fb), h) := fun h => doCall_pure md7 (solid1 s) fb2
    cases fa with
    | false =>
      clear cb fb1 fb2 fa1 fa2
      obtain ⟨k, p, m, n, l⟩ := g
      obtain ⟨k', p', m', n', l'⟩ := s
      rw [tmV_mk] at ca
      rw [tmV_mk, tmV_mk]
      rw [aval_of Tryd.func5 body5 Tryd.results5 Tryd.ntmps5 ok5]
      simp (implicitDefEqProofs := false) (disch := omega) only [go_sem, Nat.reduceAdd, Nat.reduceSub, Nat.reduceMul, Nat.reduceLT, Nat.reduceLeDiff, Nat.reduceEqDiff, List.drop_zero, List.take_succ_cons, List.take_zero, List.drop_succ_cons, Bool.and_true, Bool.true_and, Bool.and_false, Bool.false_and, BitVec.reduceOfInt, Nat.zero_add, Nat.mul_one, Nat.add_zero, Int.zero_add, Int.reduceToNat, Nat.reducePow, ↓reduceIte, reduceCtorEq, Int.reduceLE, Int.reduceLT, Int.reduceEq, Int.reduceNe, Int.reduceAdd, Int.reduceSub, Int.reduceMul, Int.reduceNeg, Nat.reduceBEq, show regOf Tryd.f5 0 = Code.region _ _ _ from rfl, show regOf Tryd.f5 1 = Code.region _ _ _ from rfl, show regOf Tryd.f5 2 = Code.region _ _ _ from rfl, ca, alive_c]
      exact ⟨_, rfl⟩
    | true =>
      cases fb with
      | false =>
        clear fb1 fb2 fa1 fa2
        obtain ⟨k, p, m, n, l⟩ := g
        obtain ⟨k', p', m', n', l'⟩ := s
        rw [tmV_mk] at ca cb
        rw [tmV_mk, tmV_mk]
        rw [aval_of Tryd.func5 body5 Tryd.results5 Tryd.ntmps5 ok5]
        simp (implicitDefEqProofs := false) (disch := omega) only [go_sem, Nat.reduceAdd, Nat.reduceSub, Nat.reduceMul, Nat.reduceLT, Nat.reduceLeDiff, Nat.reduceEqDiff, List.drop_zero, List.take_succ_cons, List.take_zero, List.drop_succ_cons, Bool.and_true, Bool.true_and, Bool.and_false, Bool.false_and, BitVec.reduceOfInt, Nat.zero_add, Nat.mul_one, Nat.add_zero, Int.zero_add, Int.reduceToNat, Nat.reducePow, ↓reduceIte, reduceCtorEq, Int.reduceLE, Int.reduceLT, Int.reduceEq, Int.reduceNe, Int.reduceAdd, Int.reduceSub, Int.reduceMul, Int.reduceNeg, Nat.reduceBEq, show regOf Tryd.f5 0 = Code.region _ _ _ from rfl, show regOf Tryd.f5 1 = Code.region _ _ _ from rfl, show regOf Tryd.f5 2 = Code.region _ _ _ from rfl, ca, cb, alive_c]
        exact ⟨_, rfl⟩
      | true =>
        obtain ⟨s1, t1⟩ := fa1 rfl
        obtain ⟨s2, t2⟩ := fb1 rfl
        have c15 := match15_c g s hg hs (by omega) t1
        have c16 := rmatch_c g s hg hs (by omega)
        have c10 := above_c g s hg hs (by omega)
        have c12 := same_c g s hg hs (by omega) (by omega)
        have c18 := rabove_c s g hs hg (by omega)
        rw [abv_rM] at c10
        rw [abv_rM, abv_rM] at c12
        have hss := rsame_c s s hs hs
        rw [(sameT_iff s s).2 rfl] at hss
        generalize (rM [] s g).isSome = o2 at *
        cases ho : rM [] g s with
        | none =>
          rw [ho] at c15 c16 c10 c12
          have cu := usame_c [] (by simp) (fun v hv => by cases hv)
          simp only [List.map_nil] at cu
          simp only [mtV, Option.isSome_none, Bool.false_and] at c15 c16 c10 c12
          clear fa1 fa2 fb1 fb2 hss
          obtain ⟨k, p, m, n, l⟩ := g
          obtain ⟨k', p', m', n', l'⟩ := s
          rw [tmV_mk] at ca cb
          rw [tmV_mk, tmV_mk] at c15 c16 c10 c12 c18
          rw [tmV_mk, tmV_mk]
          rw [aval_of Tryd.func5 body5 Tryd.results5 Tryd.ntmps5 ok5]
          simp (implicitDefEqProofs := false) (disch := omega) only [go_sem, Nat.reduceAdd, Nat.reduceSub, Nat.reduceMul, Nat.reduceLT, Nat.reduceLeDiff, Nat.reduceEqDiff, List.drop_zero, List.take_succ_cons, List.take_zero, List.drop_succ_cons, Bool.and_true, Bool.true_and, Bool.and_false, Bool.false_and, BitVec.reduceOfInt, Nat.zero_add, Nat.mul_one, Nat.add_zero, Int.zero_add, Int.reduceToNat, Nat.reducePow, ↓reduceIte, reduceCtorEq, Int.reduceLE, Int.reduceLT, Int.reduceEq, Int.reduceNe, Int.reduceAdd, Int.reduceSub, Int.reduceMul, Int.reduceNeg, Nat.reduceBEq, show regOf Tryd.f5 0 = Code.region _ _ _ from rfl, show regOf Tryd.f5 1 = Code.region _ _ _ from rfl, show regOf Tryd.f5 3 = Code.region _ _ _ from rfl, show regOf Tryd.f5 4 = Code.region _ _ _ from rfl, ca, cb, c15, c16]
          simp (implicitDefEqProofs := false) (disch := omega) only [go_sem, Nat.reduceAdd, Nat.reduceSub, Nat.reduceMul, Nat.reduceLT, Nat.reduceLeDiff, Nat.reduceEqDiff, List.drop_zero, List.take_succ_cons, List.take_zero, List.drop_succ_cons, Bool.and_true, Bool.true_and, Bool.and_false, Bool.false_and, BitVec.reduceOfInt, Nat.zero_add, Nat.mul_one, Nat.add_zero, Int.zero_add, Int.reduceToNat, Nat.reducePow, ↓reduceIte, reduceCtorEq, Int.reduceLE, Int.reduceLT, Int.reduceEq, Int.reduceNe, Int.reduceAdd, Int.reduceSub, Int.reduceMul, Int.reduceNeg, Nat.reduceBEq, show regOf Tryd.f5 5 = Code.region _ _ _ from rfl, show regOf Tryd.f5 7 = Code.region _ _ _ from rfl, show regOf Tryd.f5 8 = Code.region _ _ _ from rfl, cu, c10, c12, c18, alive_c]
          exact ⟨_, rfl⟩
        | some L =>
          obtain ⟨hn1, hsub, P, hP, hin⟩ := rM_all t1 ho
          obtain ⟨hLf, hLl⟩ := rM_fit g [] s L hs (fun v hv => by cases hv) ho
          simp only [List.length_nil] at hLl
          rw [ho] at c15 c16 c10 c12
          have cu := usame_c L (by omega) hLf
          simp only [mtV, Option.isSome_some, Bool.true_and] at c15 c16 c10 c12
          obtain ⟨v2, w2, h2, e2, z0, z1, zN, zT⟩ := g_loop (.vars (tmV g).cells) (.vars (tmV s).cells) _ _ rfl rfl L (by omega) L 0 [.vars (tmV g).cells, .vars (tmV s).cells] (.slc true []) (.slc true []) (by simp) (by omega) rfl rfl (.inl ⟨rfl, by simp⟩) (.inl ⟨rfl, by simp⟩)
          obtain ⟨h3, e3, k3⟩ := sub_c g s L (by omega) (by omega) hsub zN zT
          have y0 := k3 0 _ z0
          have y1 := k3 1 _ z1
          simp only [Int.natCast_zero] at e2
          clear fa1 fa2 fb1 fb2 hin hP hn1 hsub hLf zN zT k3
          obtain ⟨k, p, m, n, l⟩ := g
          obtain ⟨k', p', m', n', l'⟩ := s
          rw [tmV_mk] at ca cb
          rw [tmV_mk, tmV_mk] at c15 c16 c10 c12 c18 e2 e3
          rw [tmV_mk] at z0 z1 y0 y1 hss
          rw [tmV_mk, tmV_mk]
          change hget h2 0 = .vars [.int k, .str (txt p), .str (txt m), .int n, .slc false (l.map tmV)] at z0
          change hget h2 1 = .vars [.int k', .str (txt p'), .str (txt m'), .int n', .slc false (l'.map tmV)] at z1
          change hget h3 0 = .vars [.int k, .str (txt p), .str (txt m), .int n, .slc false (l.map tmV)] at y0
          change hget h3 1 = .vars [.int k', .str (txt p'), .str (txt m'), .int n', .slc false (l'.map tmV)] at y1
          change lrun Tryd.prog md fg (fg 5) (loopOf Tryd.f5 0) (fg 5 1) _ [.vars [.int k, .str (txt p), .str (txt m), .int n, .slc false (l.map tmV)], .vars [.int k', .str (txt p'), .str (txt m'), .int n', .slc false (l'.map tmV)]] = _ at e2
          have hlm : (L.map vlV).length = L.length := by simp
          rw [aval_of Tryd.func5 body5 Tryd.results5 Tryd.ntmps5 ok5]
          simp (implicitDefEqProofs := false) (disch := omega) only [go_sem, Nat.reduceAdd, Nat.reduceSub, Nat.reduceMul, Nat.reduceLT, Nat.reduceLeDiff, Nat.reduceEqDiff, List.drop_zero, List.take_succ_cons, List.take_zero, List.drop_succ_cons, Bool.and_true, Bool.true_and, Bool.and_false, Bool.false_and, BitVec.reduceOfInt, Nat.zero_add, Nat.mul_one, Nat.add_zero, Int.zero_add, Int.reduceToNat, Nat.reducePow, ↓reduceIte, reduceCtorEq, Int.reduceLE, Int.reduceLT, Int.reduceEq, Int.reduceNe, Int.reduceAdd, Int.reduceSub, Int.reduceMul, Int.reduceNeg, Nat.reduceBEq, show regOf Tryd.f5 0 = Code.region _ _ _ from rfl, show regOf Tryd.f5 1 = Code.region _ _ _ from rfl, show regOf Tryd.f5 3 = Code.region _ _ _ from rfl, show regOf Tryd.f5 4 = Code.region _ _ _ from rfl, ca, cb, c15, c16]
          generalize L.map vlV = N at *
          cases o2
          all_goals simp (implicitDefEqProofs := false) (disch := omega) only [go_sem, Nat.reduceAdd, Nat.reduceSub, Nat.reduceMul, Nat.reduceLT, Nat.reduceLeDiff, Nat.reduceEqDiff, List.drop_zero, List.take_succ_cons, List.take_zero, List.drop_succ_cons, Bool.and_true, Bool.true_and, Bool.and_false, Bool.false_and, BitVec.reduceOfInt, Nat.zero_add, Nat.mul_one, Nat.add_zero, Int.zero_add, Int.reduceToNat, Nat.reducePow, ↓reduceIte, reduceCtorEq, Int.reduceLE, Int.reduceLT, Int.reduceEq, Int.reduceNe, Int.reduceAdd, Int.reduceSub, Int.reduceMul, Int.reduceNeg, Nat.reduceBEq, show regOf Tryd.f5 5 = Code.region _ _ _ from rfl, show regOf Tryd.f5 7 = Code.region _ _ _ from rfl, show regOf Tryd.f5 9 = Code.region _ _ _ from rfl, show regOf Tryd.f5 10 = Code.region _ _ _ from rfl, show regOf Tryd.f5 11 = Code.region _ _ _ from rfl, cu, c10, c12, c18, hlm, e2]
          all_goals simp (implicitDefEqProofs := false) (maxSteps := 400000) (disch := omega) only [go_sem, Nat.reduceAdd, Nat.reduceSub, Nat.reduceMul, Nat.reduceLT, Nat.reduceLeDiff, Nat.reduceEqDiff, List.drop_zero, List.take_succ_cons, List.take_zero, List.drop_succ_cons, Bool.and_true, Bool.true_and, Bool.and_false, Bool.false_and, BitVec.reduceOfInt, Nat.zero_add, Nat.mul_one, Nat.add_zero, Int.zero_add, Int.reduceToNat, Nat.reducePow, ↓reduceIte, reduceCtorEq, Int.reduceLE, Int.reduceLT, Int.reduceEq, Int.reduceNe, Int.reduceAdd, Int.reduceSub, Int.reduceMul, Int.reduceNeg, Nat.reduceBEq, show regOf Tryd.f5 16 = Code.region _ _ _ from rfl, ↓tail_nil, ↓subs_nil_all, ↓List.forall_mem_cons, ↓all_nil, md11, md14, md9, Bool.or_self, Bool.false_or, Bool.or_true, Bool.true_or, Option.some_beq_some, Nat.reduceBEq, z0, z1, y0, y1, e3, hss, alive_c]
          all_goals exact ⟨_, rfl⟩
  obtain ⟨h, e⟩ := e
  rw [pcall_eq, e, pureRes_solid rfl]
end Go.Proofs.YtedapgcaibbhoaaDoor
