/- Parts of the proof, each with its own heading: SchemeMatches is true of every input. Names of variables. The program's Subst. The canonical form, by the program. Being above, as a substitution. Canonical forms. How large what comes of a type is; the document's Size. SchemeOrder is true of every input. SchemeOrder: what its card needs. -/
import Derived.Test.YtedapgcaibbhoaaDoorPart12
set_option linter.unusedSimpArgs false
set_option linter.unusedVariables false
namespace Go.Proofs.YtedapgcaibbhoaaDoor
open Go Go.Ab Go.Proofs
set_option maxRecDepth 100000
set_option linter.unusedSimpArgs false
set_option linter.unusedVariables false
theorem sub_c (g s : Tm) (L : List Vl) (hL : L.length ≤ 100000) (hz : tsz g ≤ 100000) (hs : subT L g = s) {h : AHeap} {v w : AV} (hN : NB h v (L.map Prod.fst)) (hT : TL h w (L.map Prod.snd)) : ∃ h', doCall md (aval Tryd.prog md fg) 11 [tmV g, v, w] h = some (tmV s, h') ∧ ∀ j cs, hget h j = .vars cs → hget h' j = .vars cs := by
  obtain ⟨i1, e1, c1⟩ := nb_exp hN
  obtain ⟨_, i2, e2, c2⟩ := tl_exp hT 59
  have e2 : exp1 h expDepth w = some (.slc false ((L.map Prod.snd).map tmV), i2) := e2
  have he : expL (exp1 h expDepth) [tmV g, v, w] = some ([tmV g, nmV L, byV L], i1 ++ i2) := by
    simp only [expL, exp1_solid (solid_tm g), e1, e2, List.append_nil, List.nil_append]
  have hc : canFrz h (i1 ++ i2) = true := by
    unfold canFrz at c1 c2 ⊢
    rw [List.all_append, c1, c2]; rfl
  have := ST_all L hL g hz
  unfold ST at this
  rw [hs] at this
  exact doCall_frz (by rw [md11]; decide) he hc this
set_option maxHeartbeats 16000000 in
theorem schemeMatches (g s : Tm) (hg : g.fit) (hs : s.fit) : pcall Tryd.prog md fg 5 [tmV g, tmV s] = some (.bool true) := by
  have e : ∃ h, aval Tryd.prog md fg 5 [tmV g, tmV s] [] = some (.bool true, h) := by
    obtain ⟨fa, fa1, fa2⟩ := few_p g hg
    obtain ⟨fb, fb1, fb2⟩ := few_p s hs
    have ca : ∀ h : AHeap, doCall md (aval Tryd.prog md fg) 7 [tmV g] h = some (.val (.bool fa), h) := fun h => doCall_pure md7 (solid1 g) fa2
    have cb : ∀ h : AHeap, doCall md (aval Tryd.prog md fg) 7 [tmV s] h = some (.val (.bool fb), h) := fun h => doCall_pure md7 (solid1 s) fb2
    cases fa with
    | false =>
      clear cb fb1 fb2 fa1 fa2
      obtain ⟨k, p, m, n, l⟩ := g
      obtain ⟨k', p', m', n', l'⟩ := s
      rw [tmV_mk] at ca
      rw [tmV_mk, tmV_mk]
      rw [aval_of Tryd.func5 body5 Tryd.results5 Tryd.ntmps5 ok5]
      simp (implicitDefEqProofs := false) (disch := omega) only [go_sem, Nat.reduceAdd, Nat.reduceSub, Nat.reduceMul, Nat.reduceLT, Nat.reduceLeDiff, Nat.reduceEqDiff, List.drop_zero, List.take_succ_cons, List.take_zero, List.drop_succ_cons, Bool.and_true, Bool.true_and, Bool.and_false, Bool.false_and, BitVec.reduceOfInt, Nat.zero_add, Nat.mul_one, Nat.add_zero, Int.zero_add, Int.reduceToNat, Nat.reducePow, ↓reduceIte, reduceCtorEq, Int.reduceLE, Int.reduceLT, Int.reduceEq, Int.reduceNe, Int.reduceAdd, Int.reduceSub, Int.reduceMul, Int.reduceNeg, Nat.reduceBEq, show regOf Tryd.f5 0 = Code.region _ _ _ from rfl, show regOf Tryd.f5 1 = Code.region _ _ _ from rfl, show regOf Tryd.f5 2 = Code.region _ _ _ from rfl, ca, alive_c]
      exact ⟨_, rfl⟩
    | true =>
      cases fb with
      | false =>
        clear fb1 fb2 fa1 fa2
        obtain ⟨k, p, m, n, l⟩ := g
        obtain ⟨k', p', m', n', l'⟩ := s
        rw [tmV_mk] at ca cb
        rw [tmV_mk, tmV_mk]
        rw [aval_of Tryd.func5 body5 Tryd.results5 Tryd.ntmps5 ok5]
        simp (implicitDefEqProofs := false) (disch := omega) only [go_sem, Nat.reduceAdd, Nat.reduceSub, Nat.reduceMul, Nat.reduceLT, Nat.reduceLeDiff, Nat.reduceEqDiff, List.drop_zero, List.take_succ_cons, List.take_zero, List.drop_succ_cons, Bool.and_true, Bool.true_and, Bool.and_false, Bool.false_and, BitVec.reduceOfInt, Nat.zero_add, Nat.mul_one, Nat.add_zero, Int.zero_add, Int.reduceToNat, Nat.reducePow, ↓reduceIte, reduceCtorEq, Int.reduceLE, Int.reduceLT, Int.reduceEq, Int.reduceNe, Int.reduceAdd, Int.reduceSub, Int.reduceMul, Int.reduceNeg, Nat.reduceBEq, show regOf Tryd.f5 0 = Code.region _ _ _ from rfl, show regOf Tryd.f5 1 = Code.region _ _ _ from rfl, show regOf Tryd.f5 2 = Code.region _ _ _ from rfl, ca, cb, alive_c]
        exact ⟨_, rfl⟩
      | true =>
        obtain ⟨s1, t1⟩ := fa1 rfl
        obtain ⟨s2, t2⟩ := fb1 rfl
        have c15 := match15_c g s hg hs (by omega) t1
        have c16 := rmatch_c g s hg hs (by omega)
        have c10 := above_c g s hg hs (by omega)
        have c12 := same_c g s hg hs (by omega) (by omega)
        have c18 := rabove_c s g hs hg (by omega)
        rw [abv_rM] at c10
        rw [abv_rM, abv_rM] at c12
        have hss := rsame_c s s hs hs
        rw [(sameT_iff s s).2 rfl] at hss
        generalize (rM [] s g).isSome = o2 at *
        cases ho : rM [] g s with
        | none =>
          rw [ho] at c15 c16 c10 c12
          have cu := usame_c [] (by simp) (fun v hv => by cases hv)
          simp only [List.map_nil] at cu
          simp only [mtV, Option.isSome_none, Bool.false_and] at c15 c16 c10 c12
          clear fa1 fa2 fb1 fb2 hss
          obtain ⟨k, p, m, n, l⟩ := g
          obtain ⟨k', p', m', n', l'⟩ := s
          rw [tmV_mk] at ca cb
          rw [tmV_mk, tmV_mk] at c15 c16 c10 c12 c18
          rw [tmV_mk, tmV_mk]
          rw [aval_of Tryd.func5 body5 Tryd.results5 Tryd.ntmps5 ok5]
          simp (implicitDefEqProofs := false) (disch := omega) only [go_sem, Nat.reduceAdd, Nat.reduceSub, Nat.reduceMul, Nat.reduceLT, Nat.reduceLeDiff, Nat.reduceEqDiff, List.drop_zero, List.take_succ_cons, List.take_zero, List.drop_succ_cons, Bool.and_true, Bool.true_and, Bool.and_false, Bool.false_and, BitVec.reduceOfInt, Nat.zero_add, Nat.mul_one, Nat.add_zero, Int.zero_add, Int.reduceToNat, Nat.reducePow, ↓reduceIte, reduceCtorEq, Int.reduceLE, Int.reduceLT, Int.reduceEq, Int.reduceNe, Int.reduceAdd, Int.reduceSub, Int.reduceMul, Int.reduceNeg, Nat.reduceBEq, show regOf Tryd.f5 0 = Code.region _ _ _ from rfl, show regOf Tryd.f5 1 = Code.region _ _ _ from rfl, show regOf Tryd.f5 3 = Code.region _ _ _ from rfl, show regOf Tryd.f5 4 = Code.region _ _ _ from rfl, ca, cb, c15, c16]
          simp (implicitDefEqProofs := false) (disch := omega) only [go_sem, Nat.reduceAdd, Nat.reduceSub, Nat.reduceMul, Nat.reduceLT, Nat.reduceLeDiff, Nat.reduceEqDiff, List.drop_zero, List.take_succ_cons, List.take_zero, List.drop_succ_cons, Bool.and_true, Bool.true_and, Bool.and_false, Bool.false_and, BitVec.reduceOfInt, Nat.zero_add, Nat.mul_one, Nat.add_zero, Int.zero_add, Int.reduceToNat, Nat.reducePow, ↓reduceIte, reduceCtorEq, Int.reduceLE, Int.reduceLT, Int.reduceEq, Int.reduceNe, Int.reduceAdd, Int.reduceSub, Int.reduceMul, Int.reduceNeg, Nat.reduceBEq, show regOf Tryd.f5 5 = Code.region _ _ _ from rfl, show regOf Tryd.f5 7 = Code.region _ _ _ from rfl, show regOf Tryd.f5 8 = Code.region _ _ _ from rfl, cu, c10, c12, c18, alive_c]
          exact ⟨_, rfl⟩
        | some L =>
          obtain ⟨hn1, hsub, P, hP, hin⟩ := rM_all t1 ho
          obtain ⟨hLf, hLl⟩ := rM_fit g [] s L hs (fun v hv => by cases hv) ho
          simp only [List.length_nil] at hLl
          rw [ho] at c15 c16 c10 c12
          have cu := usame_c L (by omega) hLf
          simp only [mtV, Option.isSome_some, Bool.true_and] at c15 c16 c10 c12
          obtain ⟨v2, w2, h2, e2, z0, z1, zN, zT⟩ := g_loop (.vars (tmV g).cells) (.vars (tmV s).cells) _ _ rfl rfl L (by omega) L 0 [.vars (tmV g).cells, .vars (tmV s).cells] (.slc true []) (.slc true []) (by simp) (by omega) rfl rfl (.inl ⟨rfl, by simp⟩) (.inl ⟨rfl, by simp⟩)
          obtain ⟨h3, e3, k3⟩ := sub_c g s L (by omega) (by omega) hsub zN zT
          have y0 := k3 0 _ z0
          have y1 := k3 1 _ z1
          simp only [Int.natCast_zero] at e2
          clear fa1 fa2 fb1 fb2 hin hP hn1 hsub hLf zN zT k3
          obtain ⟨k, p, m, n, l⟩ := g
          obtain ⟨k', p', m', n', l'⟩ := s
          rw [tmV_mk] at ca cb
          rw [tmV_mk, tmV_mk] at c15 c16 c10 c12 c18 e2 e3
          rw [tmV_mk] at z0 z1 y0 y1 hss
          rw [tmV_mk, tmV_mk]
          change hget h2 0 = .vars [.int k, .str (txt p), .str (txt m), .int n, .slc false (l.map tmV)] at z0
          change hget h2 1 = .vars [.int k', .str (txt p'), .str (txt m'), .int n', .slc false (l'.map tmV)] at z1
          change hget h3 0 = .vars [.int k, .str (txt p), .str (txt m), .int n, .slc false (l.map tmV)] at y0
          change hget h3 1 = .vars [.int k', .str (txt p'), .str (txt m'), .int n', .slc false (l'.map tmV)] at y1
          change lrun Tryd.prog md fg (fg 5) (loopOf Tryd.f5 0) (fg 5 1) _ [.vars [.int k, .str (txt p), .str (txt m), .int n, .slc false (l.map tmV)], .vars [.int k', .str (txt p'), .str (txt m'), .int n', .slc false (l'.map tmV)]] = _ at e2
          have hlm : (L.map vlV).length = L.length := by simp
          rw [aval_of Tryd.func5 body5 Tryd.results5 Tryd.ntmps5 ok5]
          simp (implicitDefEqProofs := false) (disch := omega) only [go_sem, Nat.reduceAdd, Nat.reduceSub, Nat.reduceMul, Nat.reduceLT, Nat.reduceLeDiff, Nat.reduceEqDiff, List.drop_zero, List.take_succ_cons, List.take_zero, List.drop_succ_cons, Bool.and_true, Bool.true_and, Bool.and_false, Bool.false_and, BitVec.reduceOfInt, Nat.zero_add, Nat.mul_one, Nat.add_zero, Int.zero_add, Int.reduceToNat, Nat.reducePow, ↓reduceIte, reduceCtorEq, Int.reduceLE, Int.reduceLT, Int.reduceEq, Int.reduceNe, Int.reduceAdd, Int.reduceSub, Int.reduceMul, Int.reduceNeg, Nat.reduceBEq, show regOf Tryd.f5 0 = Code.region _ _ _ from rfl, show regOf Tryd.f5 1 = Code.region _ _ _ from rfl, show regOf Tryd.f5 3 = Code.region _ _ _ from rfl, show regOf Tryd.f5 4 = Code.region _ _ _ from rfl, ca, cb, c15, c16]
          generalize L.map vlV = N at *
          cases o2
          all_goals simp (implicitDefEqProofs := false) (disch := omega) only [go_sem, Nat.reduceAdd, Nat.reduceSub, Nat.reduceMul, Nat.reduceLT, Nat.reduceLeDiff, Nat.reduceEqDiff, List.drop_zero, List.take_succ_cons, List.take_zero, List.drop_succ_cons, Bool.and_true, Bool.true_and, Bool.and_false, Bool.false_and, BitVec.reduceOfInt, Nat.zero_add, Nat.mul_one, Nat.add_zero, Int.zero_add, Int.reduceToNat, Nat.reducePow, ↓reduceIte, reduceCtorEq, Int.reduceLE, Int.reduceLT, Int.reduceEq, Int.reduceNe, Int.reduceAdd, Int.reduceSub, Int.reduceMul, Int.reduceNeg, Nat.reduceBEq, show regOf Tryd.f5 5 = Code.region _ _ _ from rfl, show regOf Tryd.f5 7 = Code.region _ _ _ from rfl, show regOf Tryd.f5 9 = Code.region _ _ _ from rfl, show regOf Tryd.f5 10 = Code.region _ _ _ from rfl, show regOf Tryd.f5 11 = Code.region _ _ _ from rfl, cu, c10, c12, c18, hlm, e2]
          all_goals simp (implicitDefEqProofs := false) (maxSteps := 400000) (disch := omega) only [go_sem, Nat.reduceAdd, Nat.reduceSub, Nat.reduceMul, Nat.reduceLT, Nat.reduceLeDiff, Nat.reduceEqDiff, List.drop_zero, List.take_succ_cons, List.take_zero, List.drop_succ_cons, Bool.and_true, Bool.true_and, Bool.and_false, Bool.false_and, BitVec.reduceOfInt, Nat.zero_add, Nat.mul_one, Nat.add_zero, Int.zero_add, Int.reduceToNat, Nat.reducePow, ↓reduceIte, reduceCtorEq, Int.reduceLE, Int.reduceLT, Int.reduceEq, Int.reduceNe, Int.reduceAdd, Int.reduceSub, Int.reduceMul, Int.reduceNeg, Nat.reduceBEq, show regOf Tryd.f5 16 = Code.region _ _ _ from rfl, ↓tail_nil, ↓subs_nil_all, ↓List.forall_mem_cons, ↓all_nil, md11, md14, md9, Bool.or_self, Bool.false_or, Bool.or_true, Bool.true_or, Option.some_beq_some, Nat.reduceBEq, z0, z1, y0, y1, e3, hss, alive_c]
          all_goals exact ⟨_, rfl⟩
  obtain ⟨h, e⟩ := e
  rw [pcall_eq, e, pureRes_solid rfl]
end Go.Proofs.YtedapgcaibbhoaaDoor
namespace Go.Proofs.YtedapgcaibbhoaaDoor
open Go Go.Ab Go.Proofs
set_option maxRecDepth 100000
set_option linter.unusedSimpArgs false
set_option linter.unusedVariables false
def strB (s : List UInt8) (o : Option (AV × AHeap)) : Bool :=
  match o with
  | some (.val (.string t), _) => decide (t = txt s)
  | _ => false
theorem pcall_sstr (k : Nat) {f : FuncId} {vs : List AV} {s : List UInt8} (e : strB s (scall Tryd.prog md fg knows k f vs []) = true) : pcall Tryd.prog md fg f vs = some (.val (.string (txt s))) := by
  unfold strB at e
  split at e
  · rename_i t h hc
    rw [pcall_eq, aval_of_scall okKnown k hc, of_decide_eq_true e, pureRes_solid rfl]
  · cases e
def dec (q : Nat) : List UInt8 := if q < 10 then [UInt8.ofNat (48 + q)] else [UInt8.ofNat (48 + q / 10), UInt8.ofNat (48 + q % 10)]
theorem itoa_all : (List.range 100).all (fun q => strB (dec q) (scall Tryd.prog md fg knows 50 38 [.int (Int.ofNat q)] [])) = true := by decide +kernel
theorem itoa_p (q : Nat) (hq : q < 100) : pcall Tryd.prog md fg 38 [.int (q : Int)] = some (.val (.string (txt (dec q)))) :=
  pcall_sstr 50 (List.all_eq_true.1 itoa_all q (List.mem_range.2 hq))
/-- The i-th name. -/
def vn (i : Nat) : List UInt8 := UInt8.ofNat (97 + i % 26) :: (if i < 26 then [] else dec (i / 26))
theorem u8_eq {a b : Nat} (ha : a < 256) (hb : b < 256) (h : UInt8.ofNat a = UInt8.ofNat b) : a = b := by
  have := congrArg UInt8.toNat h
  simp only [UInt8.toNat_ofNat'] at this
  omega
theorem dec_inj {a b : Nat} (ha : a < 100) (hb : b < 100) (h : dec a = dec b) : a = b := by
  unfold dec at h
  split at h <;> split at h
  · simp only [List.cons.injEq, and_true] at h
    have := u8_eq (by omega) (by omega) h
    omega
  · simp at h
  · simp at h
  · simp only [List.cons.injEq, and_true] at h
    have h1 := u8_eq (by omega) (by omega) h.1
    have h2 := u8_eq (by omega) (by omega) h.2
    omega
theorem dec_ne (a : Nat) : dec a ≠ [] := by unfold dec; split <;> simp
theorem vn_inj {i j : Nat} (hi : i < 2600) (hj : j < 2600) (h : vn i = vn j) : i = j := by
  unfold vn at h
  rw [List.cons.injEq] at h
  obtain ⟨h1, h2⟩ := h
  have h1 := u8_eq (by omega) (by omega) h1
  split at h2 <;> split at h2
  · omega
  · exact absurd h2.symm (dec_ne _)
  · exact absurd h2 (dec_ne _)
  · have := dec_inj (by omega) (by omega) h2
    omega
theorem byte_of (n : Nat) (h : n < 26) : UInt8.ofNat (97#8 + BitVec.ofInt 8 (n : Int)).toNat = UInt8.ofNat (97 + n) := by
  have : ∀ n : Fin 26, UInt8.ofNat (97#8 + BitVec.ofInt 8 (n.val : Int)).toNat = UInt8.ofNat (97 + n.val) := by decide
  exact this ⟨n, h⟩
theorem cat_p (b : UInt8) (l : List UInt8) (hl : l.length ≤ 100) : abin Tryd.prog .add 9 (.val (.string ⟨#[b]⟩)) (.val (.string (txt l))) = some (.val (.string (txt (b :: l)))) := by
  have h1 := txt_size l
  have h2 : (⟨#[b]⟩ : ByteArray).size = 1 := rfl
  rw [abin_cat _ _ _ (by omega)]
  congr 3
theorem name_p (i : Nat) (hi : i < 2600) : pcall Tryd.prog md fg 26 [.int (i : Int)] = some (.val (.string (txt (vn i)))) := by
  have e : ∃ h, aval Tryd.prog md fg 26 [.int (i : Int)] [] = some (.val (.string (txt (vn i))), h) := by
    have hr : abin Tryd.prog .rem 3 (.int (i : Int)) (.int 26) = some (.int ((i % 26 : Nat) : Int)) := by
      rw [abin_rem _ _ _ _ (by omega), Int.tmod_eq_emod_of_nonneg (by omega)]
      rfl
    have hq : abin Tryd.prog .quo 3 (.int (i : Int)) (.int 26) = some (.int ((i / 26 : Nat) : Int)) := by
      rw [abin_quo _ _ _ _ (by omega), Int.tdiv_eq_ediv_of_nonneg (by omega), wrap_i64 (by omega) (by omega)]
      rfl
    have hb := byte_of (i % 26) (by omega)
    by_cases h : i < 26
    · rw [aval_of Tryd.func26 body26 Tryd.results26 Tryd.ntmps26 ok26]
      simp (implicitDefEqProofs := false) (disch := omega) only [go_sem, Nat.reduceAdd, Nat.reduceSub, Nat.reduceMul, Nat.reduceLT, Nat.reduceLeDiff, Nat.reduceEqDiff, List.drop_zero, List.take_succ_cons, List.take_zero, List.drop_succ_cons, Bool.and_true, Bool.true_and, Bool.and_false, Bool.false_and, BitVec.reduceOfInt, Nat.zero_add, Nat.mul_one, Nat.add_zero, Int.zero_add, Int.reduceToNat, Nat.reducePow, ↓reduceIte, reduceCtorEq, Int.reduceLE, Int.reduceLT, Int.reduceEq, Int.reduceNe, Int.reduceAdd, Int.reduceSub, Int.reduceMul, Int.reduceNeg, Nat.reduceBEq, show regOf Tryd.f26 0 = Code.region _ _ _ from rfl, show regOf Tryd.f26 1 = Code.region _ _ _ from rfl, show regOf Tryd.f26 2 = Code.region _ _ _ from rfl, show regOf Tryd.f26 3 = Code.region _ _ _ from rfl, show regOf Tryd.f26 4 = Code.region _ _ _ from rfl, show regOf Tryd.f26 5 = Code.region _ _ _ from rfl, hr]
      rw [hb]
      unfold vn
      rw [if_pos h]
      exact ⟨_, rfl⟩
    · have hc : ∀ h : AHeap, doCall md (aval Tryd.prog md fg) 38 [.int ((i / 26 : Nat) : Int)] h = some (.val (.string (txt (dec (i / 26)))), h) := fun h => doCall_pure md38 rfl (itoa_p _ (by omega))
      have hl : (dec (i / 26)).length ≤ 2 := by unfold dec; split <;> simp
      have hcat := cat_p (UInt8.ofNat (97 + i % 26)) (dec (i / 26)) (by omega)
      rw [aval_of Tryd.func26 body26 Tryd.results26 Tryd.ntmps26 ok26]
      simp (implicitDefEqProofs := false) (disch := omega) only [go_sem, Nat.reduceAdd, Nat.reduceSub, Nat.reduceMul, Nat.reduceLT, Nat.reduceLeDiff, Nat.reduceEqDiff, List.drop_zero, List.take_succ_cons, List.take_zero, List.drop_succ_cons, Bool.and_true, Bool.true_and, Bool.and_false, Bool.false_and, BitVec.reduceOfInt, Nat.zero_add, Nat.mul_one, Nat.add_zero, Int.zero_add, Int.reduceToNat, Nat.reducePow, ↓reduceIte, reduceCtorEq, Int.reduceLE, Int.reduceLT, Int.reduceEq, Int.reduceNe, Int.reduceAdd, Int.reduceSub, Int.reduceMul, Int.reduceNeg, Nat.reduceBEq, show regOf Tryd.f26 0 = Code.region _ _ _ from rfl, show regOf Tryd.f26 1 = Code.region _ _ _ from rfl, show regOf Tryd.f26 2 = Code.region _ _ _ from rfl, show regOf Tryd.f26 3 = Code.region _ _ _ from rfl, show regOf Tryd.f26 4 = Code.region _ _ _ from rfl, show regOf Tryd.f26 5 = Code.region _ _ _ from rfl, hr, hq, hc, hb, hcat]
      unfold vn
      rw [if_neg h]
      exact ⟨_, rfl⟩
  obtain ⟨h, e⟩ := e
  rw [pcall_eq, e, pureRes_solid rfl]
end Go.Proofs.YtedapgcaibbhoaaDoor
namespace Go.Proofs.YtedapgcaibbhoaaDoor
open Go Go.Ab Go.Proofs
set_option maxRecDepth 100000
set_option linter.unusedSimpArgs false
set_option linter.unusedVariables false
def PS (L : List Vl) (t : Tm) : Prop := pcall Tryd.prog md fg 29 [tmV t, nmV L, byV L] = some (tmV (subT L t))
abbrev zT : AV := .agg [.val (.int .i64 0), .val (.string ⟨#[]⟩), .val (.string ⟨#[]⟩), .val (.int .i64 0), .slc true []]
theorem subL_append (L : List Vl) : ∀ a b : List Tm, subL L (a ++ b) = subL L a ++ subL L b := by
  intro a
  induction a with
  | nil => intro b; rw [subL]; rfl
  | cons x a ih => intro b; rw [List.cons_append, subL, subL, ih]; rfl
theorem subL_len (L : List Vl) : ∀ a : List Tm, (subL L a).length = a.length := by
  intro a
  induction a with
  | nil => rw [subL]
  | cons x a ih => rw [subL, List.length_cons, ih, List.length_cons]
theorem subL_take {L : List Vl} {ks : List Tm} {i : Nat} {t : Tm} (hx : ks[i]? = some t) : subL L (ks.take (i + 1)) = subL L (ks.take i) ++ [subT L t] := by
  rw [List.take_add_one, hx, subL_append]
  show _ ++ subL L [_] = _
  rw [subL, subL]
theorem mid_get {α : Type} (A : List α) (z : α) (B : List α) {i : Nat} (h : A.length = i) : (A ++ z :: B)[i]? = some z := by
  subst h; rw [List.getElem?_append_right (Nat.le_refl _), Nat.sub_self]; rfl
theorem mid_set {α : Type} (A : List α) (z x : α) (B : List α) {i : Nat} (h : A.length = i) : (A ++ z :: B).set i x = A ++ x :: B := by
  subst h; rw [List.set_append_right _ _ (Nat.le_refl _), Nat.sub_self]; rfl
theorem septr_mid (A B : List AV) (z0 z1 z2 z3 z4 x0 x1 x2 x3 x4 : AV) (h : AHeap) (id : Nat) {i : Nat} (hA : A.length = i) : septr true 5 (.agg [x0, x1, x2, x3, x4]) 0 5 i 0 h id (.arr 5 (A ++ .agg [z0, z1, z2, z3, z4] :: B) 0) = some (h.set id (.arr 5 (A ++ .agg [x0, x1, x2, x3, x4] :: B) 0)) := by
  have h1 := mid_get A (.agg [z0, z1, z2, z3, z4]) B hA
  have h2 := mid_set A (.agg [z0, z1, z2, z3, z4]) (.agg [x0, x1, x2, x3, x4]) B hA
  simp [septr, h1, h2, AV.cells]
set_option maxHeartbeats 4000000 in
theorem ps_loop (k : Int) (p m : List UInt8) (n : Int) (ks : List Tm) (hks : ks.length ≤ 100000) (L : List Vl) (hS : ∀ t ∈ ks, PS L t) : ∀ (r : List Tm) (i : Nat) (h : AHeap), ks.drop i = r → i ≤ ks.length → hget h 0 = .vars [.int k, .str (txt p), .str (txt m), .int n, .slc false (ks.map tmV)] → hget h 1 = .vars [.int 0, .str ⟨#[]⟩, .str ⟨#[]⟩, .int 0, .slc true []] → hget h 2 = .arr 5 ((subL L (ks.take i)).map tmV ++ List.replicate (ks.length - i) zT) 0 → ∃ h',
    lrun Tryd.prog md fg (fg 29) (loopOf Tryd.f29 0) (fg 29 1) ((.unk :: (nmV L) :: (byV L) :: (.ptr 0 0) :: .unk :: .unk :: (.ptr 1 0) :: .unk :: (.arr 2 0 ks.length 0 5) :: .unk :: .unk :: .unk :: .unk :: .unk :: .unk :: .unk :: .unk :: .unk :: .unk :: .unk :: .unk :: .unk :: .unk :: .unk :: .unk :: .unk :: .unk :: .unk :: .unk :: .unk :: .unk :: .unk :: .unk :: .unk :: .unk :: .unk :: .unk :: .unk :: .unk :: .unk :: (.slc false (ks.map tmV)) :: (.int ks.length) :: (.int i) :: .unk :: .unk :: .unk :: .unk :: .unk :: .unk :: .unk :: .unk :: .unk :: .unk :: .unk :: .unk :: .unk :: .unk :: .unk :: [] : List AV)) h = some (.exit 0, (.unk :: (nmV L) :: (byV L) :: (.ptr 0 0) :: .unk :: .unk :: (.ptr 1 0) :: .unk :: (.arr 2 0 ks.length 0 5) :: .unk :: .unk :: .unk :: .unk :: .unk :: .unk :: .unk :: .unk :: .unk :: .unk :: .unk :: .unk :: .unk :: .unk :: .unk :: .unk :: .unk :: .unk :: .unk :: .unk :: .unk :: .unk :: .unk :: .unk :: .unk :: .unk :: .unk :: .unk :: .unk :: .unk :: .unk :: (.slc false (ks.map tmV)) :: (.int ks.length) :: (.int ks.length) :: .unk :: .unk :: .unk :: .unk :: .unk :: .unk :: .unk :: .unk :: .unk :: .unk :: .unk :: .unk :: .unk :: .unk :: .unk :: [] : List AV), h') ∧ hget h' 0 = .vars [.int k, .str (txt p), .str (txt m), .int n, .slc false (ks.map tmV)] ∧ hget h' 1 = .vars [.int 0, .str ⟨#[]⟩, .str ⟨#[]⟩, .int 0, .slc true []] ∧ hget h' 2 = .arr 5 ((subL L ks).map tmV) 0
  | [], i, h, hdr, hi, g0, g1, g2 => by
    have : i = ks.length := by have := congrArg List.length hdr; simp at this; omega
    subst this
    rw [List.take_length, Nat.sub_self, List.replicate_zero, List.append_nil] at g2
    refine ⟨h, ?_, g0, g1, g2⟩
    rw [lrun_atC loop29_0]
    simp (implicitDefEqProofs := false) (disch := omega) only [go_sem, Nat.reduceAdd, Nat.reduceSub, Nat.reduceMul, Nat.reduceLT, Nat.reduceLeDiff, Nat.reduceEqDiff, List.drop_zero, List.take_succ_cons, List.take_zero, List.drop_succ_cons, Bool.and_true, Bool.true_and, Bool.and_false, Bool.false_and, BitVec.reduceOfInt, Nat.zero_add, Nat.mul_one, Nat.add_zero, Int.zero_add, Int.reduceToNat, Nat.reducePow, ↓reduceIte, reduceCtorEq, Int.reduceLE, Int.reduceLT, Int.reduceEq, Int.reduceNe, Int.reduceAdd, Int.reduceSub, Int.reduceMul, Int.reduceNeg, Nat.reduceBEq, show regOf Tryd.f29 9 = Code.region _ _ _ from rfl]
  | ⟨k2, p2, m2, n2, l2⟩ :: r, i, h, hdr, hi, g0, g1, g2 => by
    have hx : ks[i]? = some ⟨k2, p2, m2, n2, l2⟩ := by have := congrArg (·[0]?) hdr; simpa using this
    have hlt : i < ks.length := (List.getElem?_eq_some_iff.1 hx).1
    have hd' : ks.drop (i + 1) = r := by rw [← List.tail_drop, hdr]; rfl
    have ht : ((i : Int)).toNat = i := by omega
    have hst := hS _ (List.mem_of_getElem? hx)
    have cs : ∀ h, doCall md (aval Tryd.prog md fg) 29 [tmV ⟨k2, p2, m2, n2, l2⟩, nmV L, byV L] h = some (tmV (subT L ⟨k2, p2, m2, n2, l2⟩), h) := fun h => doCall_pure md29 (by simp only [solidL, solid, solid_tm, solid_names, solid_byl, Bool.not_false, Bool.and_true]) hst
    have hl2 : 2 < h.length := hlt_of g2 (by simp)
    have hA : ((subL L (ks.take i)).map tmV).length = i := by rw [List.length_map, subL_len, List.length_take]; omega
    rw [show ks.length - i = (ks.length - (i + 1)) + 1 by omega, List.replicate_succ] at g2
    have hgt := mid_get ((subL L (ks.take i)).map tmV) zT (List.replicate (ks.length - (i + 1)) zT) hA
    have hset := fun x => mid_set ((subL L (ks.take i)).map tmV) zT x (List.replicate (ks.length - (i + 1)) zT) hA
    have hnx : (subL L (ks.take i)).map tmV ++ tmV (subT L ⟨k2, p2, m2, n2, l2⟩) :: List.replicate (ks.length - (i + 1)) zT = (subL L (ks.take (i + 1))).map tmV ++ List.replicate (ks.length - (i + 1)) zT := by
      rw [subL_take hx, List.map_append]; simp
    have q0 := fun l => (hget_app (h := h) l (hlt_of g0 (by simp))).trans g0
    have q1 := fun l => (hget_app (h := h) l (hlt_of g1 (by simp))).trans g1
    have q2 := fun l => (hget_app (h := h) l (hlt_of g2 (by simp))).trans g2
    obtain ⟨h3, e3, y0, y1, y2⟩ := ps_loop k p m n ks hks L hS r (i + 1) ((h ++ [AObj.vars [.int k2, .str (txt p2), .str (txt m2), .int n2, .slc false (l2.map tmV)]]).set 2 (.arr 5 ((subL L (ks.take (i + 1))).map tmV ++ List.replicate (ks.length - (i + 1)) zT) 0)) hd' (by omega) (by rw [hget_set_ne (by decide)]; exact q0 _) (by rw [hget_set_ne (by decide)]; exact q1 _) (hget_set_eq (by simp; omega))
    refine ⟨h3, ?_, y0, y1, y2⟩
    rw [← e3, ← hnx]
    generalize subT L ⟨k2, p2, m2, n2, l2⟩ = T at *
    obtain ⟨k3, p3, m3, n3, l3⟩ := T
    rw [tmV_mk, tmV_mk] at cs
    rw [tmV_mk]
    rw [lrun_atC loop29_0]
    simp (implicitDefEqProofs := false) (disch := first | omega | exact List.length_set) only [go_sem, Nat.reduceAdd, Nat.reduceSub, Nat.reduceMul, Nat.reduceLT, Nat.reduceLeDiff, Nat.reduceEqDiff, List.drop_zero, List.take_succ_cons, List.take_zero, List.drop_succ_cons, Bool.and_true, Bool.true_and, Bool.and_false, Bool.false_and, BitVec.reduceOfInt, Nat.zero_add, Nat.mul_one, Nat.add_zero, Int.zero_add, Int.reduceToNat, Nat.reducePow, ↓reduceIte, reduceCtorEq, Int.reduceLE, Int.reduceLT, Int.reduceEq, Int.reduceNe, Int.reduceAdd, Int.reduceSub, Int.reduceMul, Int.reduceNeg, Nat.reduceBEq, show regOf Tryd.f29 9 = Code.region _ _ _ from rfl, show regOf Tryd.f29 10 = Code.region _ _ _ from rfl, show regOf Tryd.f29 11 = Code.region _ _ _ from rfl, show regOf Tryd.f29 12 = Code.region _ _ _ from rfl, List.length_map, List.getElem?_map, ht, hx, Option.map_some, tmV_mk, hget_last, set_last, q0, q2, cs, septr_mid (hA := hA)]
    all_goals (congr 1 <;> simp only [List.cons.injEq, AV.val.injEq, Value.int.injEq, Value.bool.injEq, true_and, and_true] <;> omega)
theorem amake_22 (h : AHeap) (n : Nat) (hn : n ≤ 100000) : amake Tryd.prog 22 h (.int (n : Int)) (.int (n : Int)) = some (.arr h.length 0 n 0 5, h ++ [.arr 5 (List.replicate n zT) 0]) := by
  unfold amake
  rw [tslice_22, show Go.Ab.asInt (AV.int (n : Int)) = some (n : Int) from rfl]
  dsimp only
  rw [if_pos (by omega), Int.toNat_natCast]
theorem fv_ix (k : List UInt8) : ∀ (l : List Vl) (i : Nat), ix k (l.map Prod.fst) i = (fv k l i).map Prod.fst
  | [], i => rfl
  | e :: r, i => by
    show (if k = e.1 then some i else ix k (r.map Prod.fst) (i + 1)) = _
    unfold fv
    by_cases h : e.1 = k
    · rw [if_pos h, if_pos h.symm]; rfl
    · rw [if_neg h, if_neg (fun h' => h h'.symm)]; exact fv_ix k r (i + 1)
set_option maxHeartbeats 8000000 in
theorem ps_node (k : Int) (p m : List UInt8) (n : Int) (ks : List Tm) (hks : ks.length ≤ 100000) (L : List Vl) (hL : L.length ≤ 100000) (hS : ∀ t ∈ ks, PS L t) : PS L ⟨k, p, m, n, ks⟩ := by
  unfold PS
  have hix : ∀ h, doCall md (aval Tryd.prog md fg) 42 [nmV L, sV m] h = some (.int (fvI (fv m L 0)), h) := fun h => doCall_pure md42 (by simp only [solidL, solid, solid_names, Bool.not_false, Bool.and_true]) (by
    rw [index_p m (L.map Prod.fst) (by simp; omega), fv_ix]
    cases fv m L 0 <;> rfl)
  by_cases hf : ∃ j t, k = 1 ∧ fv m L 0 = some (j, t)
  · obtain ⟨j, t, rfl, hf⟩ := hf
    obtain ⟨_, hj⟩ := fv_at m L 0 j t hf
    rw [Nat.sub_zero] at hj
    have hjl := (List.getElem?_eq_some_iff.1 hj).1
    rw [subT, if_pos rfl, hf]
    rw [hf] at hix
    dsimp only at hix ⊢
    have ht : ((j : Int)).toNat = j := by omega
    have hs := solid_tm t
    obtain ⟨k2, p2, m2, n2, l2⟩ := t
    simp only [tmV_mk] at hs ⊢
    have e : ∃ h, aval Tryd.prog md fg 29 [.agg [.int 1, .str (txt p), .str (txt m), .int n, .slc false (ks.map tmV)], nmV L, byV L] [] = some (.agg [.int k2, .str (txt p2), .str (txt m2), .int n2, .slc false (l2.map tmV)], h) := by
      rw [aval_of Tryd.func29 body29 Tryd.results29 Tryd.ntmps29 ok29]
      simp (implicitDefEqProofs := false) (disch := omega) only [go_sem, Nat.reduceAdd, Nat.reduceSub, Nat.reduceMul, Nat.reduceLT, Nat.reduceLeDiff, Nat.reduceEqDiff, List.drop_zero, List.take_succ_cons, List.take_zero, List.drop_succ_cons, Bool.and_true, Bool.true_and, Bool.and_false, Bool.false_and, BitVec.reduceOfInt, Nat.zero_add, Nat.mul_one, Nat.add_zero, Int.zero_add, Int.reduceToNat, Nat.reducePow, ↓reduceIte, reduceCtorEq, Int.reduceLE, Int.reduceLT, Int.reduceEq, Int.reduceNe, Int.reduceAdd, Int.reduceSub, Int.reduceMul, Int.reduceNeg, Nat.reduceBEq, show regOf Tryd.f29 0 = Code.region _ _ _ from rfl, show regOf Tryd.f29 1 = Code.region _ _ _ from rfl, show regOf Tryd.f29 2 = Code.region _ _ _ from rfl, hix]
      simp only [fvI]
      simp (implicitDefEqProofs := false) (disch := omega) only [go_sem, Nat.reduceAdd, Nat.reduceSub, Nat.reduceMul, Nat.reduceLT, Nat.reduceLeDiff, Nat.reduceEqDiff, List.drop_zero, List.take_succ_cons, List.take_zero, List.drop_succ_cons, Bool.and_true, Bool.true_and, Bool.and_false, Bool.false_and, BitVec.reduceOfInt, Nat.zero_add, Nat.mul_one, Nat.add_zero, Int.zero_add, Int.reduceToNat, Nat.reducePow, ↓reduceIte, reduceCtorEq, Int.reduceLE, Int.reduceLT, Int.reduceEq, Int.reduceNe, Int.reduceAdd, Int.reduceSub, Int.reduceMul, Int.reduceNeg, Nat.reduceBEq, show regOf Tryd.f29 3 = Code.region _ _ _ from rfl, show regOf Tryd.f29 4 = Code.region _ _ _ from rfl, List.length_map, List.getElem?_map, ht, hj, Option.map_some, tmV_mk]
      exact ⟨_, rfl⟩
    obtain ⟨h, e⟩ := e
    rw [pcall_eq, e, pureRes_solid hs]
  · have hsub : subT L ⟨k, p, m, n, ks⟩ = ⟨k, p, m, n, subL L ks⟩ := by
      rw [subT]
      by_cases hk : k = 1
      · rw [if_pos hk]
        cases hfv : fv m L 0 with
        | none => rfl
        | some q => exact absurd ⟨q.1, q.2, hk, hfv⟩ hf
      · rw [if_neg hk]
    rw [hsub]
    by_cases hn : ks = []
    · subst hn
      have hs := solid_tm ⟨k, p, m, n, []⟩
      rw [show subL L [] = [] by rw [subL]]
      rw [tmV_mk] at hs ⊢
      have e : ∃ h, aval Tryd.prog md fg 29 [.agg [.int k, .str (txt p), .str (txt m), .int n, .slc false ([].map tmV)], nmV L, byV L] [] = some (.agg [.int k, .str (txt p), .str (txt m), .int n, .slc false ([].map tmV)], h) := by
        simp only [List.map_nil]
        rw [aval_of Tryd.func29 body29 Tryd.results29 Tryd.ntmps29 ok29]
        by_cases hk : k = 1
        · subst hk
          have hfv : fv m L 0 = none := by
            cases hfv : fv m L 0 with
            | none => rfl
            | some q => exact absurd ⟨q.1, q.2, rfl, hfv⟩ hf
          rw [hfv] at hix
          simp (implicitDefEqProofs := false) (disch := omega) only [go_sem, Nat.reduceAdd, Nat.reduceSub, Nat.reduceMul, Nat.reduceLT, Nat.reduceLeDiff, Nat.reduceEqDiff, List.drop_zero, List.take_succ_cons, List.take_zero, List.drop_succ_cons, Bool.and_true, Bool.true_and, Bool.and_false, Bool.false_and, BitVec.reduceOfInt, Nat.zero_add, Nat.mul_one, Nat.add_zero, Int.zero_add, Int.reduceToNat, Nat.reducePow, ↓reduceIte, reduceCtorEq, Int.reduceLE, Int.reduceLT, Int.reduceEq, Int.reduceNe, Int.reduceAdd, Int.reduceSub, Int.reduceMul, Int.reduceNeg, Nat.reduceBEq, show regOf Tryd.f29 0 = Code.region _ _ _ from rfl, show regOf Tryd.f29 1 = Code.region _ _ _ from rfl, show regOf Tryd.f29 2 = Code.region _ _ _ from rfl, hix]
          simp only [fvI]
          simp (implicitDefEqProofs := false) (disch := omega) only [go_sem, Nat.reduceAdd, Nat.reduceSub, Nat.reduceMul, Nat.reduceLT, Nat.reduceLeDiff, Nat.reduceEqDiff, List.drop_zero, List.take_succ_cons, List.take_zero, List.drop_succ_cons, Bool.and_true, Bool.true_and, Bool.and_false, Bool.false_and, BitVec.reduceOfInt, Nat.zero_add, Nat.mul_one, Nat.add_zero, Int.zero_add, Int.reduceToNat, Nat.reducePow, ↓reduceIte, reduceCtorEq, Int.reduceLE, Int.reduceLT, Int.reduceEq, Int.reduceNe, Int.reduceAdd, Int.reduceSub, Int.reduceMul, Int.reduceNeg, Nat.reduceBEq, show regOf Tryd.f29 3 = Code.region _ _ _ from rfl, show regOf Tryd.f29 5 = Code.region _ _ _ from rfl, show regOf Tryd.f29 6 = Code.region _ _ _ from rfl, List.length_nil]
          exact ⟨_, rfl⟩
        · simp (implicitDefEqProofs := false) (disch := omega) only [go_sem, Nat.reduceAdd, Nat.reduceSub, Nat.reduceMul, Nat.reduceLT, Nat.reduceLeDiff, Nat.reduceEqDiff, List.drop_zero, List.take_succ_cons, List.take_zero, List.drop_succ_cons, Bool.and_true, Bool.true_and, Bool.and_false, Bool.false_and, BitVec.reduceOfInt, Nat.zero_add, Nat.mul_one, Nat.add_zero, Int.zero_add, Int.reduceToNat, Nat.reducePow, ↓reduceIte, reduceCtorEq, Int.reduceLE, Int.reduceLT, Int.reduceEq, Int.reduceNe, Int.reduceAdd, Int.reduceSub, Int.reduceMul, Int.reduceNeg, Nat.reduceBEq, show regOf Tryd.f29 0 = Code.region _ _ _ from rfl, show regOf Tryd.f29 1 = Code.region _ _ _ from rfl, show regOf Tryd.f29 5 = Code.region _ _ _ from rfl, show regOf Tryd.f29 6 = Code.region _ _ _ from rfl, List.length_nil, hk]
          exact ⟨_, rfl⟩
      obtain ⟨h, e⟩ := e
      rw [pcall_eq, e, pureRes_solid hs]
    · have hlen : ¬ (ks.length : Int) = 0 := fun h => hn (List.length_eq_zero_iff.1 (by omega))
      obtain ⟨h2, e2, y0, y1, y2⟩ := ps_loop k p m n ks hks L hS ks 0 [.vars [.int k, .str (txt p), .str (txt m), .int n, .slc false (ks.map tmV)], .vars [.int 0, .str ⟨#[]⟩, .str ⟨#[]⟩, .int 0, .slc true []], .arr 5 (List.replicate ks.length zT) 0] (by simp) (by omega) rfl rfl (by rw [List.take_zero, subL]; rfl)
      simp only [Int.natCast_zero] at e2
      have hl0 : 0 < h2.length := hlt_of y0 (by simp)
      have hl1 : 1 < h2.length := hlt_of y1 (by simp)
      have hn2 : ((ks.length : Int)).toNat = ks.length := by omega
      have z0 : hget (h2.set 0 (.vars [.int k, .str (txt p), .str (txt m), .int n, .arr 2 0 ks.length 0 5])) 0 = .vars [.int k, .str (txt p), .str (txt m), .int n, .arr 2 0 ks.length 0 5] := hget_set_eq hl0
      have z1 : hget (h2.set 0 (.vars [.int k, .str (txt p), .str (txt m), .int n, .arr 2 0 ks.length 0 5])) 1 = _ := (hget_set_ne (by decide)).trans y1
      have z2 : hget ((h2.set 0 (.vars [.int k, .str (txt p), .str (txt m), .int n, .arr 2 0 ks.length 0 5])).set 1 (.vars [.int k, .str (txt p), .str (txt m), .int n, .arr 2 0 ks.length 0 5])) 1 = .vars [.int k, .str (txt p), .str (txt m), .int n, .arr 2 0 ks.length 0 5] := hget_set_eq (by simp; omega)
      have e : aval Tryd.prog md fg 29 [tmV ⟨k, p, m, n, ks⟩, nmV L, byV L] [] = some (.agg [.int k, .str (txt p), .str (txt m), .int n, .arr 2 0 ks.length 0 5], (h2.set 0 (.vars [.int k, .str (txt p), .str (txt m), .int n, .arr 2 0 ks.length 0 5])).set 1 (.vars [.int k, .str (txt p), .str (txt m), .int n, .arr 2 0 ks.length 0 5])) := by
        rw [tmV_mk]
        rw [aval_of Tryd.func29 body29 Tryd.results29 Tryd.ntmps29 ok29]
        by_cases hk : k = 1
        · subst hk
          have hfv : fv m L 0 = none := by
            cases hfv : fv m L 0 with
            | none => rfl
            | some q => exact absurd ⟨q.1, q.2, rfl, hfv⟩ hf
          rw [hfv] at hix
          simp (implicitDefEqProofs := false) (disch := omega) only [go_sem, Nat.reduceAdd, Nat.reduceSub, Nat.reduceMul, Nat.reduceLT, Nat.reduceLeDiff, Nat.reduceEqDiff, List.drop_zero, List.take_succ_cons, List.take_zero, List.drop_succ_cons, Bool.and_true, Bool.true_and, Bool.and_false, Bool.false_and, BitVec.reduceOfInt, Nat.zero_add, Nat.mul_one, Nat.add_zero, Int.zero_add, Int.reduceToNat, Nat.reducePow, ↓reduceIte, reduceCtorEq, Int.reduceLE, Int.reduceLT, Int.reduceEq, Int.reduceNe, Int.reduceAdd, Int.reduceSub, Int.reduceMul, Int.reduceNeg, Nat.reduceBEq, show regOf Tryd.f29 0 = Code.region _ _ _ from rfl, show regOf Tryd.f29 1 = Code.region _ _ _ from rfl, show regOf Tryd.f29 2 = Code.region _ _ _ from rfl, hix]
          simp only [fvI]
          simp (implicitDefEqProofs := false) (disch := omega) only [go_sem, Nat.reduceAdd, Nat.reduceSub, Nat.reduceMul, Nat.reduceLT, Nat.reduceLeDiff, Nat.reduceEqDiff, List.drop_zero, List.take_succ_cons, List.take_zero, List.drop_succ_cons, Bool.and_true, Bool.true_and, Bool.and_false, Bool.false_and, BitVec.reduceOfInt, Nat.zero_add, Nat.mul_one, Nat.add_zero, Int.zero_add, Int.reduceToNat, Nat.reducePow, ↓reduceIte, reduceCtorEq, Int.reduceLE, Int.reduceLT, Int.reduceEq, Int.reduceNe, Int.reduceAdd, Int.reduceSub, Int.reduceMul, Int.reduceNeg, Nat.reduceBEq, show regOf Tryd.f29 3 = Code.region _ _ _ from rfl, show regOf Tryd.f29 5 = Code.region _ _ _ from rfl, show regOf Tryd.f29 7 = Code.region _ _ _ from rfl, show regOf Tryd.f29 8 = Code.region _ _ _ from rfl, List.length_map, hlen, amake_22 (hn := hks), ato2_some, List.length_cons, List.length_nil, List.cons_append, List.nil_append, e2]
          simp (implicitDefEqProofs := false) (disch := omega) only [go_sem, Nat.reduceAdd, Nat.reduceSub, Nat.reduceMul, Nat.reduceLT, Nat.reduceLeDiff, Nat.reduceEqDiff, List.drop_zero, List.take_succ_cons, List.take_zero, List.drop_succ_cons, Bool.and_true, Bool.true_and, Bool.and_false, Bool.false_and, BitVec.reduceOfInt, Nat.zero_add, Nat.mul_one, Nat.add_zero, Int.zero_add, Int.reduceToNat, Nat.reducePow, ↓reduceIte, reduceCtorEq, Int.reduceLE, Int.reduceLT, Int.reduceEq, Int.reduceNe, Int.reduceAdd, Int.reduceSub, Int.reduceMul, Int.reduceNeg, Nat.reduceBEq, show regOf Tryd.f29 13 = Code.region _ _ _ from rfl, show regOf Tryd.f29 14 = Code.region _ _ _ from rfl, y0, z0, z1, z2, aresults, tupOf, Option.map_some]
        · simp (implicitDefEqProofs := false) (disch := omega) only [go_sem, Nat.reduceAdd, Nat.reduceSub, Nat.reduceMul, Nat.reduceLT, Nat.reduceLeDiff, Nat.reduceEqDiff, List.drop_zero, List.take_succ_cons, List.take_zero, List.drop_succ_cons, Bool.and_true, Bool.true_and, Bool.and_false, Bool.false_and, BitVec.reduceOfInt, Nat.zero_add, Nat.mul_one, Nat.add_zero, Int.zero_add, Int.reduceToNat, Nat.reducePow, ↓reduceIte, reduceCtorEq, Int.reduceLE, Int.reduceLT, Int.reduceEq, Int.reduceNe, Int.reduceAdd, Int.reduceSub, Int.reduceMul, Int.reduceNeg, Nat.reduceBEq, show regOf Tryd.f29 0 = Code.region _ _ _ from rfl, show regOf Tryd.f29 1 = Code.region _ _ _ from rfl, show regOf Tryd.f29 5 = Code.region _ _ _ from rfl, show regOf Tryd.f29 7 = Code.region _ _ _ from rfl, show regOf Tryd.f29 8 = Code.region _ _ _ from rfl, hk, List.length_map, hlen, amake_22 (hn := hks), ato2_some, List.length_cons, List.length_nil, List.cons_append, List.nil_append, e2]
          simp (implicitDefEqProofs := false) (disch := omega) only [go_sem, Nat.reduceAdd, Nat.reduceSub, Nat.reduceMul, Nat.reduceLT, Nat.reduceLeDiff, Nat.reduceEqDiff, List.drop_zero, List.take_succ_cons, List.take_zero, List.drop_succ_cons, Bool.and_true, Bool.true_and, Bool.and_false, Bool.false_and, BitVec.reduceOfInt, Nat.zero_add, Nat.mul_one, Nat.add_zero, Int.zero_add, Int.reduceToNat, Nat.reducePow, ↓reduceIte, reduceCtorEq, Int.reduceLE, Int.reduceLT, Int.reduceEq, Int.reduceNe, Int.reduceAdd, Int.reduceSub, Int.reduceMul, Int.reduceNeg, Nat.reduceBEq, show regOf Tryd.f29 13 = Code.region _ _ _ from rfl, show regOf Tryd.f29 14 = Code.region _ _ _ from rfl, y0, z0, z1, z2, aresults, tupOf, Option.map_some]
      have hT : TL h2 (.arr 2 0 ks.length 0 5) (subL L ks) := .inr ⟨2, 0, by rw [subL_len], y2⟩
      rw [pcall_eq, e, tl_pure (tl_set (tl_set hT y0) z1), tmV_mk]
mutual
theorem PS_all (L : List Vl) (hL : L.length ≤ 100000) : ∀ t : Tm, tsz t ≤ 100000 → PS L t
  | ⟨k, p, m, n, ks⟩, h => by
    rw [tsz] at h
    have hl : ∀ l : List Tm, l.length ≤ tszs l := by
      intro l
      induction l with
      | nil => simp
      | cons a b ih => have := tsz_pos a; simp only [tszs, List.length_cons]; omega
    exact ps_node k p m n ks (by have := hl ks; omega) L hL (PS_alls L hL ks (by omega))
theorem PS_alls (L : List Vl) (hL : L.length ≤ 100000) : ∀ l : List Tm, tszs l ≤ 100000 → ∀ t ∈ l, PS L t
  | [], _, t, h => by cases h
  | a :: r, hs, t, h => by
    rw [tszs] at hs
    rcases List.mem_cons.1 h with h | h
    · rw [h]; exact PS_all L hL a (by omega)
    · exact PS_alls L hL r (by omega) t h
end
end Go.Proofs.YtedapgcaibbhoaaDoor
namespace Go.Proofs.YtedapgcaibbhoaaDoor
open Go Go.Ab Go.Proofs
set_option maxRecDepth 100000
set_option linter.unusedSimpArgs false
set_option linter.unusedVariables false
def vT (m : List UInt8) : Tm := ⟨1, [], m, 0, []⟩
/-- Each name's new one. -/
def ren : List (List UInt8) → Nat → List Vl | [], _ => [] | n :: r, i => (n, vT (vn i)) :: ren r (i + 1)
theorem ren_fst : ∀ (l : List (List UInt8)) (i : Nat), (ren l i).map Prod.fst = l
  | [], i => rfl
  | n :: r, i => by rw [ren, List.map_cons, ren_fst r (i + 1)]
theorem ren_len : ∀ (l : List (List UInt8)) (i : Nat), (ren l i).length = l.length
  | [], i => rfl
  | n :: r, i => by rw [ren, List.length_cons, ren_len r (i + 1), List.length_cons]
theorem ren_append : ∀ (a b : List (List UInt8)) (i : Nat), ren (a ++ b) i = ren a i ++ ren b (i + a.length)
  | [], b, i => rfl
  | n :: r, b, i => by rw [List.cons_append, ren, ren, ren_append r b (i + 1), List.cons_append, List.length_cons, show i + 1 + r.length = i + (r.length + 1) by omega]
def canon (t : Tm) : Tm := subT (ren (vsT [] t) 0) t
/-- A variable, as it is built. -/
abbrev vaV (m : List UInt8) : AV := .agg [.int 1, .str ⟨#[]⟩, .str (txt m), .int 0, .slc true []]
/-- The names' new ones, as many as there are before i. -/
def vas : List (List UInt8) → Nat → List AV | [], _ => [] | _ :: r, i => vaV (vn i) :: vas r (i + 1)
theorem vas_append : ∀ (a b : List (List UInt8)) (i : Nat), vas (a ++ b) i = vas a i ++ vas b (i + a.length)
  | [], b, i => by rw [vas]; simp
  | n :: r, b, i => by rw [List.cons_append, vas, vas, vas_append r b (i + 1), List.cons_append, List.length_cons, show i + 1 + r.length = i + (r.length + 1) by omega]
theorem vas_len : ∀ (l : List (List UInt8)) (i : Nat), (vas l i).length = l.length
  | [], i => rfl
  | n :: r, i => by rw [vas, List.length_cons, vas_len r (i + 1), List.length_cons]
theorem va_exp (h : AHeap) (d : Nat) (m : List UInt8) : exp1 h (d + 2) (vaV m) = some (tmV (vT m), []) := by
  unfold vT
  rw [tmV_mk]
  rfl
theorem vas_exp (h : AHeap) (d : Nat) : ∀ (l : List (List UInt8)) (i : Nat), expL (exp1 h (d + 2)) (vas l i) = some (((ren l i).map Prod.snd).map tmV, [])
  | [], i => rfl
  | n :: r, i => by
    rw [vas, ren, expL, va_exp, vas_exp h d r (i + 1)]
    rfl
theorem vas_arr {h : AHeap} {id : Nat} {l : List (List UInt8)} {n : Nat} (hn : l.length = n) (ho : hget h id = .arr 5 (vas l 0) 0) (d : Nat) : exp1 h (d + 3) (.arr id 0 n 0 5) = some (.slc false (((ren l 0).map Prod.snd).map tmV), [id]) := by
  have hv : sview h (.arr id 0 (vas l 0).length 0 5) = some (vas l 0) := sview_arr _ _ _ _ _ ho rfl
  rw [vas_len, hn] at hv
  show exp1 h ((d + 2) + 1) _ = _
  rw [exp1, if_neg (by simp [solid])]
  rw [hv]
  dsimp only
  rw [vas_exp]
  rfl
/-- A call by value, handed arrays that are frozen by it. -/
theorem doCall_frz0 {f : FuncId} {xs ys : List AV} {ids : List Nat} {h : AHeap} {r : AV} (hm : md f = 0) (hs : expL (exp1 h expDepth) xs = some (ys, ids)) (hc : canFrz h ids = true) (e : pcall Tryd.prog md fg f ys = some r) : ∃ h', doCall md (aval Tryd.prog md fg) f xs h = some (r, h') ∧ ∀ j cs, hget h j = .vars cs → hget h' j = .vars cs := by
  rw [doCall_0 (by omega)]; unfold doCall0
  rw [if_pos (.inl hm), hs]
  simp only [hc, if_true]
  rw [← pcall_eq, e]
  by_cases hf : flat r = true
  · exact ⟨h, by simp [hf], fun _ _ e => e⟩
  · exact ⟨frzAll h ids, by simp [hf], fun j cs e => frz_keep ids h j cs e⟩
theorem septr_va (A B : List AV) (z0 z1 z2 z3 z4 x0 x1 x2 x3 x4 : AV) (h : AHeap) (id : Nat) {i : Nat} (hA : A.length = i) : septr true 5 (.agg [x0, x1, x2, x3, x4]) 0 5 i 0 h id (.arr 5 (A ++ .agg [z0, z1, z2, z3, z4] :: B) 0) = some (h.set id (.arr 5 (A ++ .agg [x0, x1, x2, x3, x4] :: B) 0)) := septr_mid A B z0 z1 z2 z3 z4 x0 x1 x2 x3 x4 h id hA
set_option maxHeartbeats 4000000 in
theorem c_loop (B Z : AObj) (N : List (List UInt8)) (hN : N.length < 2600) : ∀ (r : List (List UInt8)) (i : Nat), N.drop i = r → i ≤ N.length →
    lrun Tryd.prog md fg (fg 13) (loopOf Tryd.f13 0) (fg 13 1) ((.unk :: (.ptr 0 0) :: (.ptr 1 0) :: (.slc false (N.map sV)) :: (.arr 2 0 N.length 0 5) :: .unk :: .unk :: .unk :: .unk :: .unk :: .unk :: .unk :: .unk :: (.int N.length) :: (.int i) :: .unk :: .unk :: .unk :: .unk :: .unk :: .unk :: .unk :: .unk :: .unk :: .unk :: .unk :: .unk :: .unk :: [] : List AV)) [B, Z, .arr 5 (vas (N.take i) 0 ++ List.replicate (N.length - i) zT) 0] = some (.exit 0, (.unk :: (.ptr 0 0) :: (.ptr 1 0) :: (.slc false (N.map sV)) :: (.arr 2 0 N.length 0 5) :: .unk :: .unk :: .unk :: .unk :: .unk :: .unk :: .unk :: .unk :: (.int N.length) :: (.int N.length) :: .unk :: .unk :: .unk :: .unk :: .unk :: .unk :: .unk :: .unk :: .unk :: .unk :: .unk :: .unk :: .unk :: [] : List AV), [B, Z, .arr 5 (vas N 0) 0])
  | [], i, hdr, hi => by
    have : i = N.length := by have := congrArg List.length hdr; simp at this; omega
    subst this
    rw [List.take_length, Nat.sub_self, List.replicate_zero, List.append_nil]
    rw [lrun_atC loop13_0]
    simp (implicitDefEqProofs := false) (disch := omega) only [go_sem, Nat.reduceAdd, Nat.reduceSub, Nat.reduceMul, Nat.reduceLT, Nat.reduceLeDiff, Nat.reduceEqDiff, List.drop_zero, List.take_succ_cons, List.take_zero, List.drop_succ_cons, Bool.and_true, Bool.true_and, Bool.and_false, Bool.false_and, BitVec.reduceOfInt, Nat.zero_add, Nat.mul_one, Nat.add_zero, Int.zero_add, Int.reduceToNat, Nat.reducePow, ↓reduceIte, reduceCtorEq, Int.reduceLE, Int.reduceLT, Int.reduceEq, Int.reduceNe, Int.reduceAdd, Int.reduceSub, Int.reduceMul, Int.reduceNeg, Nat.reduceBEq, show regOf Tryd.f13 4 = Code.region _ _ _ from rfl]
  | m :: r, i, hdr, hi => by
    have hx : N[i]? = some m := by have := congrArg (·[0]?) hdr; simpa using this
    have hlt : i < N.length := (List.getElem?_eq_some_iff.1 hx).1
    have hd' : N.drop (i + 1) = r := by rw [← List.tail_drop, hdr]; rfl
    have ht : ((i : Int)).toNat = i := by omega
    have cn : ∀ h, doCall md (aval Tryd.prog md fg) 26 [.int (i : Int)] h = some (.val (.string (txt (vn i))), h) := fun h => doCall_pure md26 rfl (name_p i (by omega))
    have hA : (vas (N.take i) 0).length = i := by rw [vas_len, List.length_take]; omega
    rw [show N.length - i = (N.length - (i + 1)) + 1 by omega, List.replicate_succ]
    have ih := c_loop B Z N hN r (i + 1) hd' (by omega)
    have hnx : vas (N.take i) 0 ++ vaV (vn i) :: List.replicate (N.length - (i + 1)) zT = vas (N.take (i + 1)) 0 ++ List.replicate (N.length - (i + 1)) zT := by
      rw [List.take_add_one, hx, vas_append]
      show _ = (_ ++ vas [m] _) ++ _
      rw [vas, vas, Nat.zero_add, List.length_take, show min i N.length = i by omega, List.append_assoc]
      rfl
    rw [← hnx] at ih
    rw [← ih]
    rw [lrun_atC loop13_0]
    simp (implicitDefEqProofs := false) (disch := first | omega | exact List.length_set) only [go_sem, Nat.reduceAdd, Nat.reduceSub, Nat.reduceMul, Nat.reduceLT, Nat.reduceLeDiff, Nat.reduceEqDiff, List.drop_zero, List.take_succ_cons, List.take_zero, List.drop_succ_cons, Bool.and_true, Bool.true_and, Bool.and_false, Bool.false_and, BitVec.reduceOfInt, Nat.zero_add, Nat.mul_one, Nat.add_zero, Int.zero_add, Int.reduceToNat, Nat.reducePow, ↓reduceIte, reduceCtorEq, Int.reduceLE, Int.reduceLT, Int.reduceEq, Int.reduceNe, Int.reduceAdd, Int.reduceSub, Int.reduceMul, Int.reduceNeg, Nat.reduceBEq, show regOf Tryd.f13 4 = Code.region _ _ _ from rfl, show regOf Tryd.f13 5 = Code.region _ _ _ from rfl, show regOf Tryd.f13 6 = Code.region _ _ _ from rfl, show regOf Tryd.f13 7 = Code.region _ _ _ from rfl, cn, septr_va (hA := hA)]
    all_goals (congr 1 <;> simp only [List.cons.injEq, AV.val.injEq, Value.int.injEq, Value.bool.injEq, true_and, and_true] <;> omega)
set_option maxHeartbeats 4000000 in
theorem canon_p (t : Tm) (ht : t.fit) (hz : tsz t ≤ 100000) (hn : (vsT [] t).length < 2600) : pcall Tryd.prog md fg 13 [tmV t] = some (tmV (canon t)) := by
  have cv : ∀ h, doCall md (aval Tryd.prog md fg) 28 [.slc true [tmV t]] h = some (.slc false ((vsT [] t).map sV), h) := fun h => doCall_exp md28 (by
    have : exp1 h expDepth (.slc true [tmV t]) = some (.slc false [tmV t], []) := by
      show exp1 h (59 + 1) _ = _
      rw [exp1]
      simp only [solid, Bool.not_true, Bool.false_and, Bool.false_eq_true, if_false]
      rw [expL_solid (solid1 t)]; rfl
    simp only [expL, this, List.append_nil]) (vars_p t ht hz)
  have hps := PS_all (ren (vsT [] t) 0) (by rw [ren_len]; omega) t hz
  unfold PS nmV byV at hps
  rw [ren_fst] at hps
  have hcl : pcall Tryd.prog md fg 29 [tmV t, .slc false ((vsT [] t).map sV), .slc false (((ren (vsT [] t) 0).map Prod.snd).map tmV)] = some (tmV (canon t)) := hps
  generalize hN : vsT [] t = N at *
  have hnl : ((N.length : Int)).toNat = N.length := by omega
  obtain ⟨h5, e5, k5⟩ := doCall_frz0 (f := 29) (xs := [tmV t, .slc false (N.map sV), .arr 2 0 N.length 0 5]) (ids := [2]) (h := [.vars (tmV t).cells, .vars [.int 0, .str ⟨#[]⟩, .str ⟨#[]⟩, .int 0, .slc true []], .arr 5 (vas N 0) 0]) md29 (by
    have h1 : ∀ h : AHeap, exp1 h expDepth (tmV t) = some (tmV t, []) := fun h => exp1_solid (solid_tm t)
    have h2 : ∀ h : AHeap, exp1 h expDepth (.slc false (N.map sV)) = some (.slc false (N.map sV), []) := fun h => exp1_solid (by simp only [solid, solid_names, Bool.not_false, Bool.true_and])
    have h3 := vas_arr (h := [.vars (tmV t).cells, .vars [.int 0, .str ⟨#[]⟩, .str ⟨#[]⟩, .int 0, .slc true []], .arr 5 (vas N 0) 0]) (id := 2) (l := N) rfl rfl 57
    simp only [expL, h1, h2]
    rw [show expDepth = 57 + 3 from rfl, h3]
    rfl) rfl hcl
  have hs := solid_tm (canon t)
  generalize canon t = T at *
  have e : ∃ h, aval Tryd.prog md fg 13 [tmV t] [] = some (tmV T, h) := by
    obtain ⟨k, p, m, n, l⟩ := t
    obtain ⟨k', p', m', n', l'⟩ := T
    rw [tmV_mk] at cv e5 ⊢
    rw [tmV_mk] at e5
    rw [tmV_mk]
    have l1 := c_loop (.vars [.int k, .str (txt p), .str (txt m), .int n, .slc false (l.map tmV)]) (.vars [.int 0, .str ⟨#[]⟩, .str ⟨#[]⟩, .int 0, .slc true []]) N hn N 0 (by simp) (by omega)
    simp only [Int.natCast_zero, List.take_zero, vas, List.nil_append, Nat.sub_zero] at l1
    rw [aval_of Tryd.func13 body13 Tryd.results13 Tryd.ntmps13 ok13]
    simp (implicitDefEqProofs := false) (disch := omega) only [go_sem, Nat.reduceAdd, Nat.reduceSub, Nat.reduceMul, Nat.reduceLT, Nat.reduceLeDiff, Nat.reduceEqDiff, List.drop_zero, List.take_succ_cons, List.take_zero, List.drop_succ_cons, Bool.and_true, Bool.true_and, Bool.and_false, Bool.false_and, BitVec.reduceOfInt, Nat.zero_add, Nat.mul_one, Nat.add_zero, Int.zero_add, Int.reduceToNat, Nat.reducePow, ↓reduceIte, reduceCtorEq, Int.reduceLE, Int.reduceLT, Int.reduceEq, Int.reduceNe, Int.reduceAdd, Int.reduceSub, Int.reduceMul, Int.reduceNeg, Nat.reduceBEq, show regOf Tryd.f13 0 = Code.region _ _ _ from rfl, show regOf Tryd.f13 1 = Code.region _ _ _ from rfl, show regOf Tryd.f13 2 = Code.region _ _ _ from rfl, show regOf Tryd.f13 3 = Code.region _ _ _ from rfl, cv, List.length_map, hnl, amake_22 (hn := (by omega : N.length ≤ 100000)), ato2_some, List.length_cons, List.length_nil, List.cons_append, List.nil_append, l1]
    have g1 := k5 1 _ rfl
    have hl1 : 1 < h5.length := hlt_of g1 (by simp)
    have z1 : hget (h5.set 1 (.vars [.int k', .str (txt p'), .str (txt m'), .int n', .slc false (l'.map tmV)])) 1 = .vars [.int k', .str (txt p'), .str (txt m'), .int n', .slc false (l'.map tmV)] := hget_set_eq hl1
    change doCall md (aval Tryd.prog md fg) 29 _ [.vars [.int k, .str (txt p), .str (txt m), .int n, .slc false (l.map tmV)], _, _] = _ at e5
    simp (implicitDefEqProofs := false) (disch := omega) only [go_sem, Nat.reduceAdd, Nat.reduceSub, Nat.reduceMul, Nat.reduceLT, Nat.reduceLeDiff, Nat.reduceEqDiff, List.drop_zero, List.take_succ_cons, List.take_zero, List.drop_succ_cons, Bool.and_true, Bool.true_and, Bool.and_false, Bool.false_and, BitVec.reduceOfInt, Nat.zero_add, Nat.mul_one, Nat.add_zero, Int.zero_add, Int.reduceToNat, Nat.reducePow, ↓reduceIte, reduceCtorEq, Int.reduceLE, Int.reduceLT, Int.reduceEq, Int.reduceNe, Int.reduceAdd, Int.reduceSub, Int.reduceMul, Int.reduceNeg, Nat.reduceBEq, show regOf Tryd.f13 8 = Code.region _ _ _ from rfl, e5, g1, z1, aresults, tupOf, Option.map_some]
    exact ⟨_, rfl⟩
  obtain ⟨h, e⟩ := e
  rw [pcall_eq, e, pureRes_solid hs]
end Go.Proofs.YtedapgcaibbhoaaDoor
namespace Go.Proofs.YtedapgcaibbhoaaDoor
open Go Go.Ab Go.Proofs
set_option maxRecDepth 100000
set_option linter.unusedSimpArgs false
set_option linter.unusedVariables false
mutual
/-- What comes of a type. -/
def sbT (σ : List UInt8 → Tm) : Tm → Tm | .mk k p m n ks => if k = 1 then σ m else .mk k p m n (sbL σ ks)
def sbL (σ : List UInt8 → Tm) : List Tm → List Tm | [] => [] | t :: r => sbT σ t :: sbL σ r
end
mutual
/-- Does a name stand in a type? -/
def occ (x : List UInt8) : Tm → Prop | .mk k _ m _ ks => (k = 1 ∧ x = m) ∨ occs x ks
def occs (x : List UInt8) : List Tm → Prop | [] => False | t :: r => occ x t ∨ occs x r
end
/-- What a list of values puts in. -/
def sg (L : List Vl) (m : List UInt8) : Tm := match fT m L with | some t => t | none => vT m
mutual
theorem subT_sb (L : List Vl) : ∀ t : Tm, typ t → subT L t = sbT (sg L) t
  | ⟨k, p, m, n, ks⟩, ht => by
    rw [typ] at ht
    rw [subT, sbT]
    by_cases hk : k = 1
    · rw [if_pos hk, if_pos hk]
      unfold sg
      rw [← fv_fT m L 0]
      cases hf : fv m L 0 with
      | none =>
        obtain ⟨rfl, rfl⟩ := ht.2.2.2.1 hk
        obtain rfl := ht.2.2.1
        subst hk
        rw [subL]; rfl
      | some q => rfl
    · rw [if_neg hk, if_neg hk, subL_sb L ks ht.2.2.2.2]
theorem subL_sb (L : List Vl) : ∀ l : List Tm, typs l → subL L l = sbL (sg L) l
  | [], _ => by rw [subL, sbL]
  | t :: r, h => by
    rw [typs] at h
    rw [subL, sbL, subT_sb L t h.1, subL_sb L r h.2]
end
mutual
theorem sb_id : ∀ t : Tm, typ t → sbT vT t = t
  | ⟨k, p, m, n, ks⟩, ht => by
    rw [typ] at ht
    rw [sbT]
    by_cases hk : k = 1
    · rw [if_pos hk]
      obtain ⟨rfl, rfl⟩ := ht.2.2.2.1 hk
      obtain rfl := ht.2.2.1
      rw [hk]; rfl
    · rw [if_neg hk, sbs_id ks ht.2.2.2.2]
theorem sbs_id : ∀ l : List Tm, typs l → sbL vT l = l
  | [], _ => by rw [sbL]
  | t :: r, h => by
    rw [typs] at h
    rw [sbL, sb_id t h.1, sbs_id r h.2]
end
mutual
theorem sb_sb (σ τ : List UInt8 → Tm) : ∀ t : Tm, sbT τ (sbT σ t) = sbT (fun m => sbT τ (σ m)) t
  | ⟨k, p, m, n, ks⟩ => by
    rw [sbT, sbT]
    by_cases hk : k = 1
    · rw [if_pos hk, if_pos hk]
    · rw [if_neg hk, if_neg hk, sbT, if_neg hk, sbs_sb σ τ ks]
theorem sbs_sb (σ τ : List UInt8 → Tm) : ∀ l : List Tm, sbL τ (sbL σ l) = sbL (fun m => sbT τ (σ m)) l
  | [] => by rw [sbL, sbL, sbL]
  | t :: r => by rw [sbL, sbL, sbL, sb_sb σ τ t, sbs_sb σ τ r]
end
mutual
theorem sb_congr (σ τ : List UInt8 → Tm) : ∀ t : Tm, (∀ m, occ m t → σ m = τ m) → sbT σ t = sbT τ t
  | ⟨k, p, m, n, ks⟩, h => by
    rw [sbT, sbT]
    by_cases hk : k = 1
    · rw [if_pos hk, if_pos hk]; exact h m (by rw [occ]; exact .inl ⟨hk, rfl⟩)
    · rw [if_neg hk, if_neg hk, sbs_congr σ τ ks fun x hx => h x (by rw [occ]; exact .inr hx)]
theorem sbs_congr (σ τ : List UInt8 → Tm) : ∀ l : List Tm, (∀ m, occs m l → σ m = τ m) → sbL σ l = sbL τ l
  | [], _ => by rw [sbL, sbL]
  | t :: r, h => by
    rw [sbL, sbL, sb_congr σ τ t fun m hm => h m (by rw [occs]; exact .inl hm), sbs_congr σ τ r fun m hm => h m (by rw [occs]; exact .inr hm)]
end
mutual
theorem sb_point (σ τ : List UInt8 → Tm) : ∀ t : Tm, typ t → sbT σ t = sbT τ t → ∀ m, occ m t → σ m = τ m
  | ⟨k, p, m, n, ks⟩, ht, h, x, hx => by
    rw [typ] at ht
    rw [sbT, sbT] at h
    rw [occ] at hx
    by_cases hk : k = 1
    · rw [if_pos hk, if_pos hk] at h
      rcases hx with hx | hx
      · rw [hx.2]; exact h
      · rw [(ht.2.2.2.1 hk).1, occs] at hx; exact hx.elim
    · rw [if_neg hk, if_neg hk] at h
      rcases hx with hx | hx
      · exact absurd hx.1 hk
      · exact sbs_point σ τ ks ht.2.2.2.2 (by injection h) x hx
theorem sbs_point (σ τ : List UInt8 → Tm) : ∀ l : List Tm, typs l → sbL σ l = sbL τ l → ∀ m, occs m l → σ m = τ m
  | [], _, _, x, hx => by rw [occs] at hx; exact hx.elim
  | t :: r, ht, h, x, hx => by
    rw [typs] at ht
    rw [sbL, sbL] at h
    rw [occs] at hx
    rcases hx with hx | hx
    · exact sb_point σ τ t ht.1 (by injection h) x hx
    · exact sbs_point σ τ r ht.2 (by injection h) x hx
end
mutual
theorem sb_typ (σ : List UInt8 → Tm) : ∀ t : Tm, typ t → (∀ m, occ m t → typ (σ m)) → typ (sbT σ t)
  | ⟨k, p, m, n, ks⟩, ht, h => by
    rw [typ] at ht
    rw [sbT]
    by_cases hk : k = 1
    · rw [if_pos hk]; exact h m (by rw [occ]; exact .inl ⟨hk, rfl⟩)
    · rw [if_neg hk, typ]
      exact ⟨ht.1, ht.2.1, ht.2.2.1, fun h => absurd h hk, sbs_typ σ ks ht.2.2.2.2 fun x hx => h x (by rw [occ]; exact .inr hx)⟩
theorem sbs_typ (σ : List UInt8 → Tm) : ∀ l : List Tm, typs l → (∀ m, occs m l → typ (σ m)) → typs (sbL σ l)
  | [], _, _ => by rw [sbL, typs]; trivial
  | t :: r, ht, h => by
    rw [typs] at ht
    rw [sbL, typs]
    exact ⟨sb_typ σ t ht.1 fun m hm => h m (by rw [occs]; exact .inl hm), sbs_typ σ r ht.2 fun m hm => h m (by rw [occs]; exact .inr hm)⟩
end
mutual
theorem typ_sb (σ : List UInt8 → Tm) : ∀ t : Tm, typ t → typ (sbT σ t) → ∀ m, occ m t → typ (σ m)
  | ⟨k, p, m, n, ks⟩, ht, h, x, hx => by
    rw [typ] at ht
    rw [sbT] at h
    rw [occ] at hx
    by_cases hk : k = 1
    · rw [if_pos hk] at h
      rcases hx with hx | hx
      · rw [hx.2]; exact h
      · rw [(ht.2.2.2.1 hk).1, occs] at hx; exact hx.elim
    · rw [if_neg hk, typ] at h
      rcases hx with hx | hx
      · exact absurd hx.1 hk
      · exact typs_sb σ ks ht.2.2.2.2 h.2.2.2.2 x hx
theorem typs_sb (σ : List UInt8 → Tm) : ∀ l : List Tm, typs l → typs (sbL σ l) → ∀ m, occs m l → typ (σ m)
  | [], _, _, x, hx => by rw [occs] at hx; exact hx.elim
  | t :: r, ht, h, x, hx => by
    rw [typs] at ht
    rw [sbL, typs] at h
    rw [occs] at hx
    rcases hx with hx | hx
    · exact typ_sb σ t ht.1 h.1 x hx
    · exact typs_sb σ r ht.2 h.2 x hx
end
theorem sbL_len (σ : List UInt8 → Tm) : ∀ l : List Tm, (sbL σ l).length = l.length
  | [] => by rw [sbL]
  | t :: r => by rw [sbL, List.length_cons, sbL_len σ r, List.length_cons]
mutual
theorem cons_sb (σ : List UInt8 → Tm) : ∀ g : Tm, ∃ c, cons g (sbT σ g) = some c ∧ ∀ v ∈ c, v.2 = σ v.1
  | ⟨k, p, m, n, ks⟩ => by
    rw [sbT, cons]
    by_cases hk : k = 1
    · rw [if_pos hk, if_pos hk]
      exact ⟨_, rfl, fun v hv => by rw [List.mem_singleton.1 hv]⟩
    · rw [if_neg hk, if_neg hk, if_pos ⟨rfl, rfl, rfl, rfl, (sbL_len σ ks).symm⟩]
      exact conss_sb σ ks
theorem conss_sb (σ : List UInt8 → Tm) : ∀ l : List Tm, ∃ c, conss l (sbL σ l) = some c ∧ ∀ v ∈ c, v.2 = σ v.1
  | [] => ⟨[], by rw [sbL, conss], fun v hv => by cases hv⟩
  | t :: r => by
    obtain ⟨c1, h1, k1⟩ := cons_sb σ t
    obtain ⟨c2, h2, k2⟩ := conss_sb σ r
    refine ⟨c1 ++ c2, by rw [sbL, conss, h1, h2]; rfl, fun v hv => ?_⟩
    rcases List.mem_append.1 hv with hv | hv
    · exact k1 v hv
    · exact k2 v hv
end
theorem abv_of (σ : List UInt8 → Tm) (g : Tm) : abv g (sbT σ g) = true := by
  obtain ⟨c, h, k⟩ := cons_sb σ g
  rw [abv_rM, rM_cons, h]
  obtain ⟨l', h2⟩ := addV_ok c [] (fun m s s' a b => (show s = σ m from k _ a).trans (show s' = σ m from k _ b).symm) (fun v _ t ht => by cases ht)
  show (addV [] c).isSome = true
  rw [h2]; rfl
/-- One type is above another one just if that comes of it. -/
theorem abv_iff {g : Tm} (s : Tm) (ht : typ g) : abv g s = true ↔ ∃ σ, sbT σ g = s := by
  constructor
  · intro h
    rw [abv_rM] at h
    obtain ⟨L, hL⟩ := Option.isSome_iff_exists.1 h
    have := (rM_all ht hL).2.1
    exact ⟨sg L, by rw [← subT_sb L g ht]; exact this⟩
  · rintro ⟨σ, rfl⟩
    exact abv_of σ g
theorem abv_refl {a : Tm} (h : typ a) : abv a a = true := (abv_iff a h).2 ⟨vT, sb_id a h⟩
theorem abv_trans {a b c : Tm} (ha : typ a) (hb : typ b) (h1 : abv a b = true) (h2 : abv b c = true) : abv a c = true := by
  obtain ⟨σ, rfl⟩ := (abv_iff b ha).1 h1
  obtain ⟨τ, rfl⟩ := (abv_iff c hb).1 h2
  rw [sb_sb]
  exact abv_of _ a
theorem abv_sub (L : List Vl) {a : Tm} (ha : typ a) : abv a (subT L a) = true := by rw [subT_sb L a ha]; exact abv_of _ a
mutual
theorem mem_vsT (x : List UInt8) : ∀ (t : Tm) (out : List (List UInt8)), x ∈ vsT out t ↔ x ∈ out ∨ occ x t
  | ⟨k, p, m, n, ks⟩, out => by
    rw [vsT, mem_vsL x ks, occ]
    have : x ∈ vadd out k m ↔ x ∈ out ∨ (k = 1 ∧ x = m) := by
      unfold vadd
      by_cases h : k = 1 ∧ m ∉ out
      · rw [if_pos h]; simp [h.1]
      · rw [if_neg h]
        refine ⟨.inl, fun hx => hx.elim id fun ⟨h1, h2⟩ => ?_⟩
        rw [h2]; exact Classical.byContradiction fun hc => h ⟨h1, hc⟩
    rw [this, or_assoc]
theorem mem_vsL (x : List UInt8) : ∀ (l : List Tm) (out : List (List UInt8)), x ∈ vsL out l ↔ x ∈ out ∨ occs x l
  | [], out => by rw [vsL, occs]; simp
  | t :: r, out => by rw [vsL, mem_vsL x r, mem_vsT x t, occs, or_assoc]
end
theorem mem_vs (x : List UInt8) (t : Tm) : x ∈ vsT [] t ↔ occ x t := by rw [mem_vsT]; simp
end Go.Proofs.YtedapgcaibbhoaaDoor
namespace Go.Proofs.YtedapgcaibbhoaaDoor
open Go Go.Ab Go.Proofs
set_option maxRecDepth 100000
set_option linter.unusedSimpArgs false
set_option linter.unusedVariables false
theorem fT_ren (n : List UInt8) : ∀ (N : List (List UInt8)) (k : Nat), fT n (ren N k) = (ix n N k).map fun i => vT (vn i)
  | [], k => rfl
  | e :: r, k => by
    show (if e = n then some (vT (vn k)) else fT n (ren r (k + 1))) = (if n = e then some k else ix n r (k + 1)).map _
    by_cases h : e = n
    · rw [if_pos h, if_pos h.symm]; rfl
    · rw [if_neg h, if_neg fun h' => h h'.symm]; exact fT_ren n r (k + 1)
theorem ix_at (n : List UInt8) : ∀ (N : List (List UInt8)) (k i : Nat), ix n N k = some i → k ≤ i ∧ N[i - k]? = some n
  | [], k, i, h => by cases h
  | e :: r, k, i, h => by
    unfold ix at h
    split at h
    · rename_i he
      cases h
      exact ⟨Nat.le_refl _, by rw [Nat.sub_self, he]; rfl⟩
    · obtain ⟨h1, h2⟩ := ix_at n r (k + 1) i h
      exact ⟨by omega, by rw [show i - k = (i - (k + 1)) + 1 by omega]; exact h2⟩
/-- The way back. -/
def inv : List (List UInt8) → Nat → List Vl | [], _ => [] | n :: r, i => (vn i, vT n) :: inv r (i + 1)
theorem fT_inv : ∀ (N : List (List UInt8)) (k i : Nat) (n : List UInt8), k + N.length ≤ 2600 → k ≤ i → N[i - k]? = some n → fT (vn i) (inv N k) = some (vT n)
  | [], k, i, n, _, _, h => by simp at h
  | e :: r, k, i, n, hl, hk, h => by
    simp only [List.length_cons] at hl
    have hlt := (List.getElem?_eq_some_iff.1 h).1
    simp only [List.length_cons] at hlt
    show (if vn k = vn i then some (vT e) else fT (vn i) (inv r (k + 1))) = _
    by_cases hik : i = k
    · subst hik
      rw [Nat.sub_self] at h
      rw [if_pos rfl]
      exact congrArg (fun x => some (vT x)) (Option.some.inj h)
    · rw [if_neg fun hv => hik (vn_inj (by omega) (by omega) hv).symm]
      refine fT_inv r (k + 1) i n (by omega) (by omega) ?_
      rw [show i - k = (i - (k + 1)) + 1 by omega] at h
      exact h
theorem sg_ren {n : List UInt8} {N : List (List UInt8)} (hn : n ∈ N) : ∃ i, ix n N 0 = some i ∧ i < N.length ∧ N[i]? = some n ∧ sg (ren N 0) n = vT (vn i) := by
  have h1 := ix_mem n N 0
  rw [decide_eq_true hn] at h1
  obtain ⟨i, hi⟩ := Option.isSome_iff_exists.1 h1
  have h2 := (ix_at n N 0 i hi).2
  rw [Nat.sub_zero] at h2
  refine ⟨i, hi, (List.getElem?_eq_some_iff.1 h2).1, h2, ?_⟩
  unfold sg
  rw [fT_ren, hi]; rfl
theorem sb_vT (σ : List UInt8 → Tm) (m : List UInt8) : sbT σ (vT m) = σ m := by unfold vT; rw [sbT, if_pos rfl]
theorem typ_vT (m : List UInt8) : typ (vT m) := by unfold vT; rw [typ, typs]; exact ⟨by omega, by omega, rfl, fun _ => ⟨rfl, rfl⟩, trivial⟩
theorem vT_inj {a b : List UInt8} (h : vT a = vT b) : a = b := by unfold vT at h; injection h
theorem canon_sb {t : Tm} (ht : typ t) : canon t = sbT (sg (ren (vsT [] t) 0)) t := subT_sb _ t ht
theorem canon_typ {t : Tm} (ht : typ t) : typ (canon t) := by
  rw [canon_sb ht]
  refine sb_typ _ t ht fun m hm => ?_
  obtain ⟨i, _, _, _, h⟩ := sg_ren ((mem_vs m t).2 hm)
  rw [h]; exact typ_vT _
theorem canon_up {t : Tm} (ht : typ t) : abv t (canon t) = true := by rw [canon_sb ht]; exact abv_of _ t
theorem canon_down {t : Tm} (ht : typ t) (hn : (vsT [] t).length ≤ 2600) : abv (canon t) t = true := by
  refine (abv_iff t (canon_typ ht)).2 ⟨sg (inv (vsT [] t) 0), ?_⟩
  rw [canon_sb ht, sb_sb]
  refine (sb_congr _ vT t fun m hm => ?_).trans (sb_id t ht)
  obtain ⟨i, h1, h2, h3, h4⟩ := sg_ren ((mem_vs m t).2 hm)
  rw [h4, sb_vT]
  unfold sg
  rw [fT_inv (vsT [] t) 0 i m (by omega) (by omega) h3]
/-- Names under other names. -/
theorem vadd_map (f : List UInt8 → List UInt8) (out : List (List UInt8)) (k : Int) (m : List UInt8) (hi : ∀ x, x ∈ out → f x = f m → x = m) : (vadd out k m).map f = vadd (out.map f) k (f m) := by
  unfold vadd
  have : f m ∈ out.map f ↔ m ∈ out := by
    rw [List.mem_map]
    constructor
    · rintro ⟨x, hx, e⟩
      rw [← hi x hx e]; exact hx
    · exact fun h => ⟨m, h, rfl⟩
  by_cases h : k = 1 ∧ m ∉ out
  · rw [if_pos h, if_pos ⟨h.1, fun hc => h.2 (this.1 hc)⟩, List.map_append]; rfl
  · rw [if_neg h, if_neg fun hc => h ⟨hc.1, fun hm => hc.2 (this.2 hm)⟩]
mutual
theorem vs_sb (f : List UInt8 → List UInt8) : ∀ (t : Tm) (out : List (List UInt8)), typ t → (∀ x y, (x ∈ out ∨ occ x t) → (y ∈ out ∨ occ y t) → f x = f y → x = y) → vsT (out.map f) (sbT (fun m => vT (f m)) t) = (vsT out t).map f
  | ⟨k, p, m, n, ks⟩, out, ht, hi => by
    rw [typ] at ht
    rw [sbT]
    by_cases hk : k = 1
    · rw [if_pos hk]
      obtain ⟨rfl, rfl⟩ := ht.2.2.2.1 hk
      unfold vT
      rw [vsT, vsL, vsT, vsL, hk]
      exact (vadd_map f out 1 m fun x hx e => hi x m (.inl hx) (.inr (by rw [occ]; exact .inl ⟨hk, rfl⟩)) e).symm
    · rw [if_neg hk, vsT, vsT]
      have h1 : ∀ o m, vadd o k m = o := fun o m => by unfold vadd; rw [if_neg fun h => hk h.1]
      rw [h1, h1]
      exact vss_sb f ks out ht.2.2.2.2 fun x y hx hy => hi x y (hx.elim .inl fun h => .inr (by rw [occ]; exact .inr h)) (hy.elim .inl fun h => .inr (by rw [occ]; exact .inr h))
theorem vss_sb (f : List UInt8 → List UInt8) : ∀ (l : List Tm) (out : List (List UInt8)), typs l → (∀ x y, (x ∈ out ∨ occs x l) → (y ∈ out ∨ occs y l) → f x = f y → x = y) → vsL (out.map f) (sbL (fun m => vT (f m)) l) = (vsL out l).map f
  | [], out, _, _ => by rw [sbL, vsL, vsL]
  | t :: r, out, ht, hi => by
    rw [typs] at ht
    rw [sbL, vsL, vsL, vs_sb f t out ht.1 fun x y hx hy => hi x y (hx.elim .inl fun h => .inr (by rw [occs]; exact .inl h)) (hy.elim .inl fun h => .inr (by rw [occs]; exact .inl h))]
    have hm : ∀ x, (x ∈ vsT out t ∨ occs x r) → (x ∈ out ∨ occs x (t :: r)) := fun x hx => by
      rw [occs]
      rcases hx with hx | hx
      · exact ((mem_vsT x t out).1 hx).elim .inl fun h => .inr (.inl h)
      · exact .inr (.inr hx)
    exact vss_sb f r _ ht.2 fun x y hx hy => hi x y (hm x hx) (hm y hy)
end
theorem ix_map (f : List UInt8 → List UInt8) (m : List UInt8) : ∀ (N : List (List UInt8)) (k : Nat), (∀ x, x ∈ N → f m = f x → m = x) → ix (f m) (N.map f) k = ix m N k
  | [], k, _ => rfl
  | e :: r, k, h => by
    show (if f m = f e then some k else ix (f m) (r.map f) (k + 1)) = if m = e then some k else ix m r (k + 1)
    by_cases hm : m = e
    · rw [if_pos hm, if_pos (by rw [hm])]
    · rw [if_neg hm, if_neg fun he => hm (h e (List.mem_cons_self ..) he)]
      exact ix_map f m r (k + 1) fun x hx => h x (List.mem_cons_of_mem _ hx)
theorem vT_of {τ : List UInt8 → Tm} {s : Tm} {m : List UInt8} (hs : typ s) (h : sbT τ s = vT m) : s = vT s.name := by
  obtain ⟨k, p, m', n, ks⟩ := s
  rw [typ] at hs
  rw [sbT] at h
  by_cases hk : k = 1
  · obtain ⟨rfl, rfl⟩ := hs.2.2.2.1 hk
    obtain rfl := hs.2.2.1
    rw [hk]; rfl
  · rw [if_neg hk] at h
    unfold vT at h
    injection h with h1
    exact absurd h1 hk
theorem canon_of_same {a b : Tm} (ha : typ a) (hb : typ b) (h1 : abv a b = true) (h2 : abv b a = true) : canon a = canon b := by
  obtain ⟨σ, rfl⟩ := (abv_iff b ha).1 h1
  obtain ⟨τ, hτ⟩ := (abv_iff a hb).1 h2
  rw [sb_sb] at hτ
  have hp := sb_point _ vT a ha (hτ.trans (sb_id a ha).symm)
  have ht := typ_sb σ a ha hb
  have hv : ∀ m, occ m a → σ m = vT (σ m).name := fun m hm => vT_of (ht m hm) (hp m hm)
  have hc : sbT σ a = sbT (fun m => vT (σ m).name) a := sb_congr _ _ a hv
  have hi : ∀ x y, occ x a → occ y a → (σ x).name = (σ y).name → x = y := fun x y hx hy e => by
    have e1 : σ x = σ y := by rw [hv x hx, hv y hy, e]
    have e2 : sbT τ (σ x) = sbT τ (σ y) := by rw [e1]
    rw [hp x hx, hp y hy] at e2
    exact vT_inj e2
  rw [canon_sb hb, canon_sb ha, hc, sb_sb]
  have hvs := vs_sb (fun m => (σ m).name) a [] ha fun x y hx hy => hi x y (hx.resolve_left (by simp)) (hy.resolve_left (by simp))
  simp only [List.map_nil] at hvs
  rw [hvs]
  refine sb_congr _ _ a fun m hm => ?_
  rw [sb_vT]
  unfold sg
  rw [fT_ren, fT_ren, ix_map (fun m => (σ m).name) m _ _ fun x hx e => hi m x hm ((mem_vs x a).1 hx) e]
  obtain ⟨i, hi, _⟩ := sg_ren ((mem_vs m a).2 hm)
  rw [hi]
  rfl
/-- Two types are the same just if their canonical forms are. -/
theorem same_canon {a b : Tm} (ha : typ a) (hb : typ b) (na : (vsT [] a).length ≤ 2600) (nb : (vsT [] b).length ≤ 2600) : (abv a b && abv b a) = sameT (canon a) (canon b) := by
  cases h : sameT (canon a) (canon b) with
  | true =>
    have h := (sameT_iff _ _).1 h
    have ca := canon_up ha
    have cb := canon_up hb
    have da := canon_down ha na
    have db := canon_down hb nb
    rw [h] at ca da
    rw [Bool.and_eq_true]
    exact ⟨abv_trans ha (canon_typ hb) ca db, abv_trans hb (canon_typ hb) cb da⟩
  | false =>
    cases h1 : abv a b with
    | false => rfl
    | true =>
      cases h2 : abv b a with
      | false => rfl
      | true =>
        rw [(sameT_iff _ _).2 (canon_of_same ha hb h1 h2)] at h
        cases h
end Go.Proofs.YtedapgcaibbhoaaDoor
namespace Go.Proofs.YtedapgcaibbhoaaDoor
open Go Go.Ab Go.Proofs
set_option maxRecDepth 100000
set_option linter.unusedSimpArgs false
set_option linter.unusedVariables false
theorem fv_mem {m : List UInt8} {L : List Vl} {j : Nat} {t : Tm} (h : fv m L 0 = some (j, t)) : (m, t) ∈ L := List.mem_of_getElem? (fv_at m L 0 j t h).2
mutual
theorem sub_fit (L : List Vl) (hL : ∀ v ∈ L, v.2.fit) : ∀ t : Tm, t.fit → (subT L t).fit
  | ⟨k, p, m, n, ks⟩, h => by
    rw [Tm.fit] at h
    have hn : (Tm.mk k p m n (subL L ks)).fit := by rw [Tm.fit]; exact ⟨h.1, h.2.1, by rw [subL_len]; exact h.2.2.1, subs_fit L hL ks h.2.2.2⟩
    rw [subT]
    by_cases hk : k = 1
    · rw [if_pos hk]
      cases hf : fv m L 0 with
      | none => exact hn
      | some q => exact hL _ (fv_mem (t := q.2) (j := q.1) hf)
    · rw [if_neg hk]; exact hn
theorem subs_fit (L : List Vl) (hL : ∀ v ∈ L, v.2.fit) : ∀ l : List Tm, Tm.fits l → Tm.fits (subL L l)
  | [], _ => by rw [subL, Tm.fits]; trivial
  | t :: r, h => by
    rw [Tm.fits] at h
    rw [subL, Tm.fits]
    exact ⟨sub_fit L hL t h.1, subs_fit L hL r h.2⟩
end
mutual
theorem sub_sz (L : List Vl) (M : Nat) (hM : 1 ≤ M) (hL : ∀ v ∈ L, tsz v.2 ≤ M) : ∀ t : Tm, tsz (subT L t) ≤ tsz t * M
  | ⟨k, p, m, n, ks⟩ => by
    have hs := subs_sz L M hM hL ks
    have hn : tsz (Tm.mk k p m n (subL L ks)) ≤ (1 + tszs ks) * M := by rw [tsz, Nat.add_mul, Nat.one_mul]; omega
    rw [subT, tsz]
    by_cases hk : k = 1
    · rw [if_pos hk]
      cases hf : fv m L 0 with
      | none => exact hn
      | some q =>
        have h1 : tsz q.2 ≤ M := hL (m, q.2) (fv_mem (t := q.2) (j := q.1) hf)
        rw [Nat.add_mul, Nat.one_mul]
        exact Nat.le_trans h1 (Nat.le_add_right _ _)
    · rw [if_neg hk]; exact hn
theorem subs_sz (L : List Vl) (M : Nat) (hM : 1 ≤ M) (hL : ∀ v ∈ L, tsz v.2 ≤ M) : ∀ l : List Tm, tszs (subL L l) ≤ tszs l * M
  | [] => by rw [subL, tszs]; omega
  | t :: r => by
    have h1 := sub_sz L M hM hL t
    have h2 := subs_sz L M hM hL r
    rw [subL, tszs, tszs, Nat.add_mul]; omega
end
theorem ren_all (P : Tm → Prop) : ∀ (N : List (List UInt8)) (i : Nat), (∀ j, P (vT (vn j))) → ∀ v ∈ ren N i, P v.2
  | [], i, h, v, hv => by cases hv
  | n :: r, i, h, v, hv => by
    rw [ren] at hv
    rcases List.mem_cons.1 hv with rfl | hv
    · exact h i
    · exact ren_all P r (i + 1) h v hv
theorem vn_len (i : Nat) : (vn i).length ≤ 3 := by unfold vn dec; split <;> simp; split <;> simp
theorem canon_fit {t : Tm} (h : t.fit) : (canon t).fit := sub_fit _ (ren_all Tm.fit _ 0 fun j => by
  unfold vT
  rw [Tm.fit, Tm.fits]
  exact ⟨by simp, by have := vn_len j; omega, by simp, trivial⟩) t h
theorem canon_sz (t : Tm) : tsz (canon t) ≤ tsz t := by
  have := sub_sz (ren (vsT [] t) 0) 1 (Nat.le_refl _) (ren_all (fun t => tsz t ≤ 1) _ 0 fun j => by unfold vT; rw [tsz, tszs]; omega) t
  unfold canon; omega
/-- Lists of different names are no longer than what they lie in. -/
theorem nodup_le : ∀ (l m : List (List UInt8)), l.Nodup → (∀ x ∈ l, x ∈ m) → l.length ≤ m.length
  | [], m, _, _ => by simp
  | a :: r, m, hn, hs => by
    rw [List.nodup_cons] at hn
    have ha := hs a (List.mem_cons_self ..)
    have h1 := nodup_le r (m.erase a) hn.2 fun x hx => by
      have hxa : x ≠ a := fun e => hn.1 (e ▸ hx)
      exact (List.mem_erase_of_ne hxa).2 (hs x (List.mem_cons_of_mem _ hx))
    rw [List.length_erase_of_mem ha] at h1
    have := List.length_pos_of_mem ha
    rw [List.length_cons]; omega
theorem nodup_vadd {out : List (List UInt8)} (k : Int) (m : List UInt8) (h : out.Nodup) : (vadd out k m).Nodup := by
  unfold vadd
  split
  · rename_i hc
    rw [List.nodup_append]
    exact ⟨h, by simp, fun a ha b hb => by rw [List.mem_singleton.1 hb]; exact fun e => hc.2 (e ▸ ha)⟩
  · exact h
mutual
theorem nodup_vsT : ∀ (t : Tm) (out : List (List UInt8)), out.Nodup → (vsT out t).Nodup
  | ⟨k, p, m, n, ks⟩, out, h => by rw [vsT]; exact nodup_vsL ks _ (nodup_vadd k m h)
theorem nodup_vsL : ∀ (l : List Tm) (out : List (List UInt8)), out.Nodup → (vsL out l).Nodup
  | [], out, h => by rw [vsL]; exact h
  | t :: r, out, h => by rw [vsL]; exact nodup_vsL r _ (nodup_vsT t out h)
end
mutual
theorem occ_sb (σ : List UInt8 → Tm) (x : List UInt8) : ∀ t : Tm, typ t → occ x (sbT σ t) → ∃ n, occ n t ∧ occ x (σ n)
  | ⟨k, p, m, n, ks⟩, ht, h => by
    rw [typ] at ht
    rw [sbT] at h
    by_cases hk : k = 1
    · rw [if_pos hk] at h
      exact ⟨m, by rw [occ]; exact .inl ⟨hk, rfl⟩, h⟩
    · rw [if_neg hk, occ] at h
      rcases h with h | h
      · exact absurd h.1 hk
      · obtain ⟨y, h1, h2⟩ := occs_sb σ x ks ht.2.2.2.2 h
        exact ⟨y, by rw [occ]; exact .inr h1, h2⟩
theorem occs_sb (σ : List UInt8 → Tm) (x : List UInt8) : ∀ l : List Tm, typs l → occs x (sbL σ l) → ∃ n, occs n l ∧ occ x (σ n)
  | [], _, h => by rw [sbL, occs] at h; exact h.elim
  | t :: r, ht, h => by
    rw [typs] at ht
    rw [sbL, occs] at h
    rcases h with h | h
    · obtain ⟨y, h1, h2⟩ := occ_sb σ x t ht.1 h
      exact ⟨y, by rw [occs]; exact .inl h1, h2⟩
    · obtain ⟨y, h1, h2⟩ := occs_sb σ x r ht.2 h
      exact ⟨y, by rw [occs]; exact .inr h1, h2⟩
end
theorem occ_vT (x m : List UInt8) : occ x (vT m) ↔ x = m := by unfold vT; rw [occ, occs]; simp
/-- The two that are put in. -/
abbrev two (x y : Tm) : List Vl := [([97], x), ([98], y)]
theorem sg_two (x y : Tm) (m : List UInt8) : sg (two x y) m = x ∨ sg (two x y) m = y ∨ sg (two x y) m = vT m := by
  unfold sg fT
  by_cases h1 : ([97] : List UInt8) = m
  · rw [if_pos h1]; exact .inl rfl
  · rw [if_neg h1]
    unfold fT
    by_cases h2 : ([98] : List UInt8) = m
    · rw [if_pos h2]; exact .inr (.inl rfl)
    · rw [if_neg h2]; exact .inr (.inr rfl)
theorem two_typ {a x y : Tm} (ha : typ a) (hx : typ x) (hy : typ y) : typ (subT (two x y) a) := by
  rw [subT_sb _ a ha]
  refine sb_typ _ a ha fun m hm => ?_
  rcases sg_two x y m with h | h | h <;> rw [h]
  · exact hx
  · exact hy
  · exact typ_vT m
theorem two_names {a x y : Tm} (ha : typ a) (sa : tsz a ≤ 40) (sx : tsz x ≤ 600) (sy : tsz y ≤ 600) : (vsT [] (subT (two x y) a)).length < 2600 := by
  have h := nodup_le (vsT [] (subT (two x y) a)) (vsT [] a ++ (vsT [] x ++ vsT [] y)) (nodup_vsT _ _ List.nodup_nil) fun z hz => by
    have hz := (mem_vs z _).1 hz
    rw [subT_sb _ a ha] at hz
    obtain ⟨n, h1, h2⟩ := occ_sb _ z a ha hz
    rcases sg_two x y n with h | h | h <;> rw [h] at h2
    · exact List.mem_append_right _ (List.mem_append_left _ ((mem_vs z x).2 h2))
    · exact List.mem_append_right _ (List.mem_append_right _ ((mem_vs z y).2 h2))
    · rw [(occ_vT z n).1 h2]; exact List.mem_append_left _ ((mem_vs n a).2 h1)
  have h1 := vsT_len a []
  have h2 := vsT_len x []
  have h3 := vsT_len y []
  simp only [List.length_append, List.length_nil] at h h1 h2 h3
  omega
theorem two_sz {a x y : Tm} (sa : tsz a ≤ 40) (sx : tsz x ≤ 600) (sy : tsz y ≤ 600) : tsz (subT (two x y) a) ≤ 24000 := by
  have := sub_sz (two x y) 600 (by omega) (fun v hv => by
    rcases List.mem_cons.1 hv with rfl | hv
    · exact sx
    · rw [List.mem_singleton.1 hv]; exact sy) a
  have h2 : tsz a * 600 ≤ 40 * 600 := Nat.mul_le_mul_right _ sa
  omega
theorem two_fit {a x y : Tm} (fa : a.fit) (fx : x.fit) (fy : y.fit) : (subT (two x y) a).fit := sub_fit _ (fun v hv => by
  rcases List.mem_cons.1 hv with rfl | hv
  · exact fx
  · rw [List.mem_singleton.1 hv]; exact fy) a fa
def Z (t : Tm) : Prop := pcall Tryd.prog md fg 8 [tmV t] = some (.int (tsz t : Int))
theorem z_loop (k : Int) (p m : List UInt8) (n : Int) (l : List Tm) (hl : tszs l ≤ 100000) (hZ : ∀ t ∈ l, Z t) (hlen : l.length ≤ 100000) : ∀ (r : List Tm) (i : Nat) (c : Nat), l.drop i = r → i ≤ l.length → c + tszs r ≤ 200000 →
    lrun Tryd.prog md fg (fg 8) (loopOf Tryd.f8 0) (fg 8 1) ([.unk, .ptr 0 0, .unk, .int c, .int i, .unk, .unk, .unk, .unk, .unk, .unk, .unk, .unk, .unk, .unk, .unk, .unk, .unk, .unk, .unk, .unk]) [.vars [.int k, .str (txt p), .str (txt m), .int n, .slc false (l.map tmV)]] = some (.exit 0, [.unk, .ptr 0 0, .unk, .int (c + tszs r : Nat), .int l.length, .unk, .unk, .unk, .unk, .unk, .unk, .unk, .unk, .unk, .unk, .unk, .unk, .unk, .unk, .unk, .unk], [.vars [.int k, .str (txt p), .str (txt m), .int n, .slc false (l.map tmV)]])
  | [], i, c, hdr, hi, hc => by
    have : i = l.length := by have := congrArg List.length hdr; simp at this; omega
    subst this
    rw [tszs, Nat.add_zero]
    rw [lrun_atC loop8_0]
    simp (implicitDefEqProofs := false) (disch := omega) only [go_sem, Nat.reduceAdd, Nat.reduceSub, Nat.reduceMul, Nat.reduceLT, Nat.reduceLeDiff, Nat.reduceEqDiff, List.drop_zero, List.take_succ_cons, List.take_zero, List.drop_succ_cons, Bool.and_true, Bool.true_and, Bool.and_false, Bool.false_and, BitVec.reduceOfInt, Nat.zero_add, Nat.mul_one, Nat.add_zero, Int.zero_add, Int.reduceToNat, Nat.reducePow, ↓reduceIte, reduceCtorEq, Int.reduceLE, Int.reduceLT, Int.reduceEq, Int.reduceNe, Int.reduceAdd, Int.reduceSub, Int.reduceMul, Int.reduceNeg, Nat.reduceBEq, show regOf Tryd.f8 3 = Code.region _ _ _ from rfl, List.length_map]
  | ⟨k2, p2, m2, n2, l2⟩ :: r, i, c, hdr, hi, hc => by
    have hx : l[i]? = some ⟨k2, p2, m2, n2, l2⟩ := by have := congrArg (·[0]?) hdr; simpa using this
    have hlt : i < l.length := (List.getElem?_eq_some_iff.1 hx).1
    have hd' : l.drop (i + 1) = r := by rw [← List.tail_drop, hdr]; rfl
    have ht : ((i : Int)).toNat = i := by omega
    rw [tszs] at hc ⊢
    have cz : ∀ h : AHeap, doCall md (aval Tryd.prog md fg) 8 [tmV ⟨k2, p2, m2, n2, l2⟩] h = some (.int (tsz ⟨k2, p2, m2, n2, l2⟩ : Nat), h) := fun h => doCall_pure md8 (solid1 _) (hZ _ (List.mem_of_getElem? hx))
    generalize tsz ⟨k2, p2, m2, n2, l2⟩ = w at *
    have ih := z_loop k p m n l hl hZ hlen r (i + 1) (c + w) hd' (by omega) (by omega)
    rw [tmV_mk] at cz
    rw [← Nat.add_assoc, ← ih]
    rw [lrun_atC loop8_0]
    simp (implicitDefEqProofs := false) (disch := omega) only [go_sem, Nat.reduceAdd, Nat.reduceSub, Nat.reduceMul, Nat.reduceLT, Nat.reduceLeDiff, Nat.reduceEqDiff, List.drop_zero, List.take_succ_cons, List.take_zero, List.drop_succ_cons, Bool.and_true, Bool.true_and, Bool.and_false, Bool.false_and, BitVec.reduceOfInt, Nat.zero_add, Nat.mul_one, Nat.add_zero, Int.zero_add, Int.reduceToNat, Nat.reducePow, ↓reduceIte, reduceCtorEq, Int.reduceLE, Int.reduceLT, Int.reduceEq, Int.reduceNe, Int.reduceAdd, Int.reduceSub, Int.reduceMul, Int.reduceNeg, Nat.reduceBEq, show regOf Tryd.f8 3 = Code.region _ _ _ from rfl, show regOf Tryd.f8 4 = Code.region _ _ _ from rfl, show regOf Tryd.f8 5 = Code.region _ _ _ from rfl, List.length_map, List.getElem?_map, ht, hx, Option.map_some, tmV_mk, cz]
    all_goals (congr 1 <;> simp only [List.cons.injEq, AV.val.injEq, Value.int.injEq, Value.bool.injEq, true_and, and_true] <;> omega)
mutual
theorem Z_all : ∀ t : Tm, tsz t ≤ 100000 → Z t
  | ⟨k, p, m, n, l⟩, h => by
    have h0 := h
    rw [tsz] at h
    have hl : ∀ l : List Tm, l.length ≤ tszs l := by
      intro l
      induction l with
      | nil => simp
      | cons a b ih => have := tsz_pos a; simp only [tszs, List.length_cons]; omega
    have hll := hl l
    have ih := z_loop k p m n l (by omega) (Z_alls l (by omega)) (by omega) l 0 1 (by simp) (by omega) (by omega)
    have e : ∃ h, aval Tryd.prog md fg 8 [tmV ⟨k, p, m, n, l⟩] [] = some (.int (tsz ⟨k, p, m, n, l⟩ : Nat), h) := by
      rw [tmV_mk, tsz]
      simp only [Int.natCast_zero, Int.natCast_one] at ih
      rw [aval_of Tryd.func8 body8 Tryd.results8 Tryd.ntmps8 ok8]
      simp (implicitDefEqProofs := false) (disch := omega) only [go_sem, Nat.reduceAdd, Nat.reduceSub, Nat.reduceMul, Nat.reduceLT, Nat.reduceLeDiff, Nat.reduceEqDiff, List.drop_zero, List.take_succ_cons, List.take_zero, List.drop_succ_cons, Bool.and_true, Bool.true_and, Bool.and_false, Bool.false_and, BitVec.reduceOfInt, Nat.zero_add, Nat.mul_one, Nat.add_zero, Int.zero_add, Int.reduceToNat, Nat.reducePow, ↓reduceIte, reduceCtorEq, Int.reduceLE, Int.reduceLT, Int.reduceEq, Int.reduceNe, Int.reduceAdd, Int.reduceSub, Int.reduceMul, Int.reduceNeg, Nat.reduceBEq, show regOf Tryd.f8 0 = Code.region _ _ _ from rfl, show regOf Tryd.f8 1 = Code.region _ _ _ from rfl, show regOf Tryd.f8 2 = Code.region _ _ _ from rfl, show regOf Tryd.f8 6 = Code.region _ _ _ from rfl, ih]
      exact ⟨_, rfl⟩
    obtain ⟨h, e⟩ := e
    unfold Z
    rw [pcall_eq, e, pureRes_solid rfl]
theorem Z_alls : ∀ l : List Tm, tszs l ≤ 100000 → ∀ t ∈ l, Z t
  | [], _, t, h => by cases h
  | a :: r, hs, t, h => by
    rw [tszs] at hs
    rcases List.mem_cons.1 h with h | h
    · rw [h]; exact Z_all a (by omega)
    · exact Z_alls r (by omega) t h
end
end Go.Proofs.YtedapgcaibbhoaaDoor
namespace Go.Proofs.YtedapgcaibbhoaaDoor
open Go Go.Ab Go.Proofs
set_option maxRecDepth 100000
set_option linter.unusedSimpArgs false
set_option linter.unusedVariables false
theorem doCall_exp6 {f : FuncId} {xs ys : List AV} {h : AHeap} {r : AV} (hm : 100 ≤ md f) (hs : expL (exp1 h expDepth) xs = some (ys, [])) (e : pcall Tryd.prog md fg f ys = some r) : doCall md (aval Tryd.prog md fg) f xs h = some (r, h) := by
  rw [doCall_0 (by omega)]; unfold doCall0
  rw [if_pos (.inr hm), hs]
  simp only [canFrz_nil, if_true]
  rw [← pcall_eq, e]
  simp [frzAll]
theorem exp_slc {h : AHeap} {l : List AV} (hs : solidL l = true) : exp1 h expDepth (.slc true l) = some (.slc false l, []) := by
  show exp1 h (59 + 1) _ = _
  rw [exp1]
  simp only [solid, Bool.not_true, Bool.false_and, Bool.false_eq_true, if_false]
  rw [expL_solid hs]; rfl
theorem two_c (a x y : Tm) (sa : tsz a ≤ 100000) (h : AHeap) : doCall md (aval Tryd.prog md fg) 11 [tmV a, .slc true [.val (.string ⟨#[97]⟩), .val (.string ⟨#[98]⟩)], .slc true [tmV x, tmV y]] h = some (tmV (subT (two x y) a), h) := by
  refine doCall_exp6 (ys := [tmV a, nmV (two x y), byV (two x y)]) (by rw [md11]; decide) ?_ (ST_all (two x y) (by simp) a sa)
  simp only [expL, exp1_solid (solid_tm a)]
  rw [exp_slc rfl, exp_slc (solid2 x y)]
  rfl
theorem canon_c (t : Tm) (ht : t.fit) (hz : tsz t ≤ 100000) (hn : (vsT [] t).length < 2600) (h : AHeap) : doCall md (aval Tryd.prog md fg) 13 [tmV t] h = some (tmV (canon t), h) := doCall_pure md13 (solid1 t) (canon_p t ht hz hn)
theorem size_c (t : Tm) (hz : tsz t ≤ 100000) (h : AHeap) : doCall md (aval Tryd.prog md fg) 8 [tmV t] h = some (.int (tsz t : Int), h) := doCall_pure md8 (solid1 t) (Z_all t hz)
/-- Not gone through. -/
theorem order_no (a b c x y : Tm) (fa fb fc fx fy : Bool) (n : Int)
    (ca : ∀ h, doCall md (aval Tryd.prog md fg) 7 [tmV a] h = some (.val (.bool fa), h))
    (cb : ∀ h, doCall md (aval Tryd.prog md fg) 7 [tmV b] h = some (.val (.bool fb), h))
    (cc : ∀ h, doCall md (aval Tryd.prog md fg) 7 [tmV c] h = some (.val (.bool fc), h))
    (cx : ∀ h, doCall md (aval Tryd.prog md fg) 7 [tmV x] h = some (.val (.bool fx), h))
    (cy : ∀ h, doCall md (aval Tryd.prog md fg) 7 [tmV y] h = some (.val (.bool fy), h))
    (cz : fa = true → ∀ h, doCall md (aval Tryd.prog md fg) 8 [tmV a] h = some (.int n, h))
    (hno : fa = false ∨ fb = false ∨ fc = false ∨ fx = false ∨ fy = false ∨ 40 < n) : ∃ h, aval Tryd.prog md fg 3 [tmV a, tmV b, tmV c, tmV x, tmV y] [] = some (.bool true, h) := by
  obtain ⟨k1, p1, m1, n1, l1⟩ := a
  obtain ⟨k2, p2, m2, n2, l2⟩ := b
  obtain ⟨k3, p3, m3, n3, l3⟩ := c
  obtain ⟨k4, p4, m4, n4, l4⟩ := x
  obtain ⟨k5, p5, m5, n5, l5⟩ := y
  rw [tmV_mk] at ca cb cc cx cy cz
  simp only [tmV_mk]
  rw [aval_of Tryd.func3 body3 Tryd.results3 Tryd.ntmps3 ok3]
  cases fa with
  | false =>
    simp (implicitDefEqProofs := false) (disch := omega) only [go_sem, Nat.reduceAdd, Nat.reduceSub, Nat.reduceMul, Nat.reduceLT, Nat.reduceLeDiff, Nat.reduceEqDiff, List.drop_zero, List.take_succ_cons, List.take_zero, List.drop_succ_cons, Bool.and_true, Bool.true_and, Bool.and_false, Bool.false_and, BitVec.reduceOfInt, Nat.zero_add, Nat.mul_one, Nat.add_zero, Int.zero_add, Int.reduceToNat, Nat.reducePow, ↓reduceIte, reduceCtorEq, Int.reduceLE, Int.reduceLT, Int.reduceEq, Int.reduceNe, Int.reduceAdd, Int.reduceSub, Int.reduceMul, Int.reduceNeg, Nat.reduceBEq, show regOf Tryd.f3 0 = Code.region _ _ _ from rfl, show regOf Tryd.f3 1 = Code.region _ _ _ from rfl, show regOf Tryd.f3 2 = Code.region _ _ _ from rfl, ca, alive_c]
    exact ⟨_, rfl⟩
  | true =>
    have cz := cz rfl
    cases fb with
    | false =>
      simp (implicitDefEqProofs := false) (disch := omega) only [go_sem, Nat.reduceAdd, Nat.reduceSub, Nat.reduceMul, Nat.reduceLT, Nat.reduceLeDiff, Nat.reduceEqDiff, List.drop_zero, List.take_succ_cons, List.take_zero, List.drop_succ_cons, Bool.and_true, Bool.true_and, Bool.and_false, Bool.false_and, BitVec.reduceOfInt, Nat.zero_add, Nat.mul_one, Nat.add_zero, Int.zero_add, Int.reduceToNat, Nat.reducePow, ↓reduceIte, reduceCtorEq, Int.reduceLE, Int.reduceLT, Int.reduceEq, Int.reduceNe, Int.reduceAdd, Int.reduceSub, Int.reduceMul, Int.reduceNeg, Nat.reduceBEq, show regOf Tryd.f3 0 = Code.region _ _ _ from rfl, show regOf Tryd.f3 1 = Code.region _ _ _ from rfl, show regOf Tryd.f3 2 = Code.region _ _ _ from rfl, ca, cb, alive_c]
      exact ⟨_, rfl⟩
    | true =>
      cases fc with
      | false =>
        simp (implicitDefEqProofs := false) (disch := omega) only [go_sem, Nat.reduceAdd, Nat.reduceSub, Nat.reduceMul, Nat.reduceLT, Nat.reduceLeDiff, Nat.reduceEqDiff, List.drop_zero, List.take_succ_cons, List.take_zero, List.drop_succ_cons, Bool.and_true, Bool.true_and, Bool.and_false, Bool.false_and, BitVec.reduceOfInt, Nat.zero_add, Nat.mul_one, Nat.add_zero, Int.zero_add, Int.reduceToNat, Nat.reducePow, ↓reduceIte, reduceCtorEq, Int.reduceLE, Int.reduceLT, Int.reduceEq, Int.reduceNe, Int.reduceAdd, Int.reduceSub, Int.reduceMul, Int.reduceNeg, Nat.reduceBEq, show regOf Tryd.f3 0 = Code.region _ _ _ from rfl, show regOf Tryd.f3 1 = Code.region _ _ _ from rfl, show regOf Tryd.f3 2 = Code.region _ _ _ from rfl, ca, cb, cc, alive_c]
        exact ⟨_, rfl⟩
      | true =>
        cases fx with
        | false =>
          simp (implicitDefEqProofs := false) (disch := omega) only [go_sem, Nat.reduceAdd, Nat.reduceSub, Nat.reduceMul, Nat.reduceLT, Nat.reduceLeDiff, Nat.reduceEqDiff, List.drop_zero, List.take_succ_cons, List.take_zero, List.drop_succ_cons, Bool.and_true, Bool.true_and, Bool.and_false, Bool.false_and, BitVec.reduceOfInt, Nat.zero_add, Nat.mul_one, Nat.add_zero, Int.zero_add, Int.reduceToNat, Nat.reducePow, ↓reduceIte, reduceCtorEq, Int.reduceLE, Int.reduceLT, Int.reduceEq, Int.reduceNe, Int.reduceAdd, Int.reduceSub, Int.reduceMul, Int.reduceNeg, Nat.reduceBEq, show regOf Tryd.f3 0 = Code.region _ _ _ from rfl, show regOf Tryd.f3 1 = Code.region _ _ _ from rfl, show regOf Tryd.f3 2 = Code.region _ _ _ from rfl, ca, cb, cc, cx, alive_c]
          exact ⟨_, rfl⟩
        | true =>
          cases fy with
          | false =>
            simp (implicitDefEqProofs := false) (disch := omega) only [go_sem, Nat.reduceAdd, Nat.reduceSub, Nat.reduceMul, Nat.reduceLT, Nat.reduceLeDiff, Nat.reduceEqDiff, List.drop_zero, List.take_succ_cons, List.take_zero, List.drop_succ_cons, Bool.and_true, Bool.true_and, Bool.and_false, Bool.false_and, BitVec.reduceOfInt, Nat.zero_add, Nat.mul_one, Nat.add_zero, Int.zero_add, Int.reduceToNat, Nat.reducePow, ↓reduceIte, reduceCtorEq, Int.reduceLE, Int.reduceLT, Int.reduceEq, Int.reduceNe, Int.reduceAdd, Int.reduceSub, Int.reduceMul, Int.reduceNeg, Nat.reduceBEq, show regOf Tryd.f3 0 = Code.region _ _ _ from rfl, show regOf Tryd.f3 1 = Code.region _ _ _ from rfl, show regOf Tryd.f3 2 = Code.region _ _ _ from rfl, ca, cb, cc, cx, cy, alive_c]
            exact ⟨_, rfl⟩
          | true =>
            have hn : 40 < n := by simpa using hno
            simp (implicitDefEqProofs := false) (disch := omega) only [go_sem, Nat.reduceAdd, Nat.reduceSub, Nat.reduceMul, Nat.reduceLT, Nat.reduceLeDiff, Nat.reduceEqDiff, List.drop_zero, List.take_succ_cons, List.take_zero, List.drop_succ_cons, Bool.and_true, Bool.true_and, Bool.and_false, Bool.false_and, BitVec.reduceOfInt, Nat.zero_add, Nat.mul_one, Nat.add_zero, Int.zero_add, Int.reduceToNat, Nat.reducePow, ↓reduceIte, reduceCtorEq, Int.reduceLE, Int.reduceLT, Int.reduceEq, Int.reduceNe, Int.reduceAdd, Int.reduceSub, Int.reduceMul, Int.reduceNeg, Nat.reduceBEq, show regOf Tryd.f3 0 = Code.region _ _ _ from rfl, show regOf Tryd.f3 1 = Code.region _ _ _ from rfl, show regOf Tryd.f3 2 = Code.region _ _ _ from rfl, ca, cb, cc, cx, cy, cz, hn, alive_c]
            exact ⟨_, rfl⟩
set_option maxHeartbeats 8000000 in
theorem order_yes (a b c x y d A B D : Tm) (n : Int) (o1 o2 o3 s1 s2 : Bool)
    (ca : ∀ h, doCall md (aval Tryd.prog md fg) 7 [tmV a] h = some (.val (.bool true), h))
    (cb : ∀ h, doCall md (aval Tryd.prog md fg) 7 [tmV b] h = some (.val (.bool true), h))
    (cc : ∀ h, doCall md (aval Tryd.prog md fg) 7 [tmV c] h = some (.val (.bool true), h))
    (cx : ∀ h, doCall md (aval Tryd.prog md fg) 7 [tmV x] h = some (.val (.bool true), h))
    (cy : ∀ h, doCall md (aval Tryd.prog md fg) 7 [tmV y] h = some (.val (.bool true), h))
    (cz : ∀ h, doCall md (aval Tryd.prog md fg) 8 [tmV a] h = some (.int n, h)) (hn : n ≤ 40)
    (c1 : ∀ h, doCall md (aval Tryd.prog md fg) 10 [tmV a, tmV a] h = some (.val (.bool true), h))
    (c2 : ∀ h, doCall md (aval Tryd.prog md fg) 10 [tmV a, tmV b] h = some (.val (.bool o1), h))
    (c3 : ∀ h, doCall md (aval Tryd.prog md fg) 10 [tmV b, tmV c] h = some (.val (.bool o2), h))
    (c4 : ∀ h, doCall md (aval Tryd.prog md fg) 10 [tmV a, tmV c] h = some (.val (.bool o3), h))
    (ho : o1 = true → o2 = true → o3 = true)
    (c5 : ∀ h, doCall md (aval Tryd.prog md fg) 11 [tmV a, .slc true [.val (.string ⟨#[97]⟩), .val (.string ⟨#[98]⟩)], .slc true [tmV x, tmV y]] h = some (tmV d, h))
    (c6 : ∀ h, doCall md (aval Tryd.prog md fg) 10 [tmV a, tmV d] h = some (.val (.bool true), h))
    (c7 : ∀ h, doCall md (aval Tryd.prog md fg) 13 [tmV a] h = some (tmV A, h))
    (c8 : ∀ h, doCall md (aval Tryd.prog md fg) 12 [tmV a, tmV A] h = some (.val (.bool true), h))
    (c9 : ∀ h, doCall md (aval Tryd.prog md fg) 13 [tmV b] h = some (tmV B, h))
    (c10 : ∀ h, doCall md (aval Tryd.prog md fg) 13 [tmV d] h = some (tmV D, h))
    (c11 : ∀ h, doCall md (aval Tryd.prog md fg) 12 [tmV a, tmV b] h = some (.val (.bool s1), h))
    (c12 : ∀ h, doCall md (aval Tryd.prog md fg) 14 [tmV A, tmV B] h = some (.val (.bool s1), h))
    (c13 : ∀ h, doCall md (aval Tryd.prog md fg) 12 [tmV a, tmV d] h = some (.val (.bool s2), h))
    (c14 : ∀ h, doCall md (aval Tryd.prog md fg) 14 [tmV A, tmV D] h = some (.val (.bool s2), h)) :
    ∃ h, aval Tryd.prog md fg 3 [tmV a, tmV b, tmV c, tmV x, tmV y] [] = some (.bool true, h) := by
  obtain ⟨k1, p1, m1, n1, l1⟩ := a
  obtain ⟨k2, p2, m2, n2, l2⟩ := b
  obtain ⟨k3, p3, m3, n3, l3⟩ := c
  obtain ⟨k4, p4, m4, n4, l4⟩ := x
  obtain ⟨k5, p5, m5, n5, l5⟩ := y
  obtain ⟨k6, p6, m6, n6, l6⟩ := d
  obtain ⟨k7, p7, m7, n7, l7⟩ := A
  obtain ⟨k8, p8, m8, n8, l8⟩ := B
  obtain ⟨k9, p9, m9, n9, l9⟩ := D
  simp only [tmV_mk] at ca cb cc cx cy cz c1 c2 c3 c4 c5 c6 c7 c8 c9 c10 c11 c12 c13 c14
  simp only [tmV_mk]
  have hn2 : ¬ 40 < n := by omega
  rw [aval_of Tryd.func3 body3 Tryd.results3 Tryd.ntmps3 ok3]
  simp (implicitDefEqProofs := false) (disch := omega) only [go_sem, Nat.reduceAdd, Nat.reduceSub, Nat.reduceMul, Nat.reduceLT, Nat.reduceLeDiff, Nat.reduceEqDiff, List.drop_zero, List.take_succ_cons, List.take_zero, List.drop_succ_cons, Bool.and_true, Bool.true_and, Bool.and_false, Bool.false_and, BitVec.reduceOfInt, Nat.zero_add, Nat.mul_one, Nat.add_zero, Int.zero_add, Int.reduceToNat, Nat.reducePow, ↓reduceIte, reduceCtorEq, Int.reduceLE, Int.reduceLT, Int.reduceEq, Int.reduceNe, Int.reduceAdd, Int.reduceSub, Int.reduceMul, Int.reduceNeg, Nat.reduceBEq, show regOf Tryd.f3 0 = Code.region _ _ _ from rfl, show regOf Tryd.f3 1 = Code.region _ _ _ from rfl, ca, cb, cc, cx, cy, cz, hn2]
  clear ca cb cc cx cy cz
  cases o1 <;> cases o2 <;> cases o3
  all_goals first | (exact absurd (ho rfl rfl) (by decide)) | skip
  all_goals simp (implicitDefEqProofs := false) (disch := omega) only [go_sem, Nat.reduceAdd, Nat.reduceSub, Nat.reduceMul, Nat.reduceLT, Nat.reduceLeDiff, Nat.reduceEqDiff, List.drop_zero, List.take_succ_cons, List.take_zero, List.drop_succ_cons, Bool.and_true, Bool.true_and, Bool.and_false, Bool.false_and, BitVec.reduceOfInt, Nat.zero_add, Nat.mul_one, Nat.add_zero, Int.zero_add, Int.reduceToNat, Nat.reducePow, ↓reduceIte, reduceCtorEq, Int.reduceLE, Int.reduceLT, Int.reduceEq, Int.reduceNe, Int.reduceAdd, Int.reduceSub, Int.reduceMul, Int.reduceNeg, Nat.reduceBEq, show regOf Tryd.f3 3 = Code.region _ _ _ from rfl, show regOf Tryd.f3 5 = Code.region _ _ _ from rfl, c1, c2, c3, c4, c5]
  all_goals clear c2 c3 c4 c5 ho
  all_goals simp (implicitDefEqProofs := false) (maxSteps := 400000) (disch := omega) only [go_sem, Nat.reduceAdd, Nat.reduceSub, Nat.reduceMul, Nat.reduceLT, Nat.reduceLeDiff, Nat.reduceEqDiff, List.drop_zero, List.take_succ_cons, List.take_zero, List.drop_succ_cons, Bool.and_true, Bool.true_and, Bool.and_false, Bool.false_and, BitVec.reduceOfInt, Nat.zero_add, Nat.mul_one, Nat.add_zero, Int.zero_add, Int.reduceToNat, Nat.reducePow, ↓reduceIte, reduceCtorEq, Int.reduceLE, Int.reduceLT, Int.reduceEq, Int.reduceNe, Int.reduceAdd, Int.reduceSub, Int.reduceMul, Int.reduceNeg, Nat.reduceBEq, show regOf Tryd.f3 6 = Code.region _ _ _ from rfl, ↓tail_nil, ↓subs_nil_all, ↓List.forall_mem_cons, ↓all_nil, c1, c6, c7, c8]
  all_goals clear c1 c6 c8
  all_goals cases s1 <;> cases s2
  all_goals simp (implicitDefEqProofs := false) (maxSteps := 800000) (disch := omega) only [go_sem, Nat.reduceAdd, Nat.reduceSub, Nat.reduceMul, Nat.reduceLT, Nat.reduceLeDiff, Nat.reduceEqDiff, List.drop_zero, List.take_succ_cons, List.take_zero, List.drop_succ_cons, Bool.and_true, Bool.true_and, Bool.and_false, Bool.false_and, BitVec.reduceOfInt, Nat.zero_add, Nat.mul_one, Nat.add_zero, Int.zero_add, Int.reduceToNat, Nat.reducePow, ↓reduceIte, reduceCtorEq, Int.reduceLE, Int.reduceLT, Int.reduceEq, Int.reduceNe, Int.reduceAdd, Int.reduceSub, Int.reduceMul, Int.reduceNeg, Nat.reduceBEq, show regOf Tryd.f3 8 = Code.region _ _ _ from rfl, ↓tail_nil, ↓subs_nil_all, ↓List.forall_mem_cons, ↓all_nil, c7, c9, c10, c11, c12, c13, c14, alive_c]
  all_goals exact ⟨_, rfl⟩
theorem schemeOrder (a b c x y : Tm) (ha : a.fit) (hb : b.fit) (hc : c.fit) (hx : x.fit) (hy : y.fit) : pcall Tryd.prog md fg 3 [tmV a, tmV b, tmV c, tmV x, tmV y] = some (.bool true) := by
  have e : ∃ h, aval Tryd.prog md fg 3 [tmV a, tmV b, tmV c, tmV x, tmV y] [] = some (.bool true, h) := by
    obtain ⟨fa, fa1, fa2⟩ := few_p a ha
    obtain ⟨fb, fb1, fb2⟩ := few_p b hb
    obtain ⟨fc, fc1, fc2⟩ := few_p c hc
    obtain ⟨fx, fx1, fx2⟩ := few_p x hx
    obtain ⟨fy, fy1, fy2⟩ := few_p y hy
    have ca : ∀ h : AHeap, doCall md (aval Tryd.prog md fg) 7 [tmV a] h = some (.val (.bool fa), h) := fun h => doCall_pure md7 (solid1 a) fa2
    have cb : ∀ h : AHeap, doCall md (aval Tryd.prog md fg) 7 [tmV b] h = some (.val (.bool fb), h) := fun h => doCall_pure md7 (solid1 b) fb2
    have cc : ∀ h : AHeap, doCall md (aval Tryd.prog md fg) 7 [tmV c] h = some (.val (.bool fc), h) := fun h => doCall_pure md7 (solid1 c) fc2
    have cx : ∀ h : AHeap, doCall md (aval Tryd.prog md fg) 7 [tmV x] h = some (.val (.bool fx), h) := fun h => doCall_pure md7 (solid1 x) fx2
    have cy : ∀ h : AHeap, doCall md (aval Tryd.prog md fg) 7 [tmV y] h = some (.val (.bool fy), h) := fun h => doCall_pure md7 (solid1 y) fy2
    have cz : fa = true → ∀ h, doCall md (aval Tryd.prog md fg) 8 [tmV a] h = some (.int (tsz a : Int), h) := fun h => size_c a (by have := (fa1 h).1; omega)
    by_cases hno : fa = false ∨ fb = false ∨ fc = false ∨ fx = false ∨ fy = false ∨ (40 : Int) < (tsz a : Int)
    · exact order_no a b c x y fa fb fc fx fy (tsz a) ca cb cc cx cy cz hno
    · simp only [not_or, Bool.not_eq_false] at hno
      obtain ⟨rfl, rfl, rfl, rfl, rfl, hsz⟩ := hno
      obtain ⟨sa, ta⟩ := fa1 rfl
      obtain ⟨sb, tb⟩ := fb1 rfl
      obtain ⟨sc, tc⟩ := fc1 rfl
      obtain ⟨sx, tx⟩ := fx1 rfl
      obtain ⟨sy, ty⟩ := fy1 rfl
      have sa4 : tsz a ≤ 40 := by omega
      have td := two_typ ta tx ty
      have fd := two_fit ha hx hy
      have sd := two_sz sa4 sx sy
      have nd := two_names ta sa4 sx sy
      have na : (vsT [] a).length < 2600 := by have := vsT_len a []; simp only [List.length_nil] at this; omega
      have nb : (vsT [] b).length < 2600 := by have := vsT_len b []; simp only [List.length_nil] at this; omega
      have c1 := above_c a a ha ha (by omega)
      rw [abv_refl ta] at c1
      have c6 := above_c a _ ha fd (by omega)
      rw [abv_sub (two x y) ta] at c6
      have fA := canon_fit ha
      have c8 := same_c a (canon a) ha fA (by omega) (by have := canon_sz a; omega)
      rw [canon_up ta, canon_down ta (by omega)] at c8
      have c11 := same_c a b ha hb (by omega) (by omega)
      rw [same_canon ta tb (by omega) (by omega)] at c11
      have c13 := same_c a _ ha fd (by omega) (by omega)
      rw [same_canon ta td (by omega) (by omega)] at c13
      exact order_yes a b c x y (subT (two x y) a) (canon a) (canon b) (canon (subT (two x y) a)) (tsz a) (abv a b) (abv b c) (abv a c) _ _ ca cb cc cx cy (cz rfl) (by omega) c1
        (above_c a b ha hb (by omega)) (above_c b c hb hc (by omega)) (above_c a c ha hc (by omega)) (abv_trans ta tb)
        (two_c a x y (by omega)) c6 (canon_c a ha (by omega) na) c8 (canon_c b hb (by omega) nb) (canon_c _ fd (by omega) nd) c11
        (rsame_c _ _ fA (canon_fit hb)) c13 (rsame_c _ _ fA (canon_fit fd))
  obtain ⟨h, e⟩ := e
  rw [pcall_eq, e, pureRes_solid rfl]
end Go.Proofs.YtedapgcaibbhoaaDoor
