/- Parts of the proof, each with its own heading: sizeOf, big. Type: what is expanded; names; alive. Rings of aliases: the plain law. ExpandRings: the aliases that are built; what the law's function answers. ExpandRings: what the law's function answers. ExpandRings: what the law's function answers. -/
import Derived.Test.YtgijlgdhogbgbaaPart12
set_option linter.unusedSimpArgs false
set_option linter.unusedVariables false
namespace Go.Proofs.Ytgijlgdhogbgbaa
open Go Go.Ab Go.Proofs
set_option maxRecDepth 100000
set_option linter.unusedSimpArgs false
set_option linter.unusedVariables false
theorem tmap_64 : tmap Try.prog 64 = some (9, 98) := by kernel_rfl
theorem kx_set3 {h H : AHeap} (k : Kx h H) (o : AObj) : Kx h (H.set 3 o) := ⟨by rw [List.length_set]; exact k.1, fun j hj h3 => by rw [hget_set_ne (by omega)]; exact k.2 j hj h3⟩
theorem st_put {P : MapS Al} {α : Nm → Int} {H : AHeap} (hT : Tb H P) {S : MapS (Int × Nat)} (h3 : hget H 3 = .map (encM szV S.1) S.2) (hS : ∀ k v, mg S k = some v → hget H v.2 = .map [] 0 ∧ v.1 = α k) {M : Nat} (hM : hget H M = .map [] 0) (hM3 : M ≠ 3) (s : Nm) : STt P α (H.set 3 (.map (encM szV (mset S s (α s, M)).1) (mset S s (α s, M)).2)) := by
  have hl3 := hlt_of h3 (by simp)
  refine ⟨?_, mset S s (α s, M), hget_set_eq hl3, fun k v e => ?_⟩
  · obtain ⟨a, nv, b, c⟩ := hT
    refine ⟨by rw [hget_set_ne (by decide)]; exact a, nv, by rw [hget_set_ne (by decide)]; exact b, ?_⟩
    rcases c with c | ⟨k, g, c1, c2⟩
    · exact .inl c
    · exact .inr ⟨k, g, c1, by rw [hget_set_ne (by rintro rfl; rw [h3] at c2; cases c2)]; exact c2⟩
  · rw [mg_mset] at e
    split at e
    · rename_i hk
      cases e
      exact ⟨by rw [hget_set_ne (by omega)]; exact hM, by rw [hk]⟩
    · obtain ⟨x, y⟩ := hS k v e
      refine ⟨?_, y⟩
      rw [hget_set_ne]; · exact x
      intro hh
      rw [← hh, h3] at x
      have : S.1 = [] := by
        simp only [AObj.map.injEq] at x
        have := x.1
        unfold encM at this
        exact List.map_eq_nil_iff.1 this
      unfold mg at e
      rw [this] at e
      cases e
set_option maxHeartbeats 8000000 in
theorem so_c {P : MapS Al} {α : Nm → Int} (a : Al) (hw : WG P α a.ty (α a.nm)) : SO P α a := by
  refine ⟨hw.1, fun h hs => ?_⟩
  have h4 := st_len hs
  obtain ⟨hT, S, h3, hS⟩ := id hs
  have lk := fun l => (look_m szV tmap_64 tzero_98 (M := 3) (h := h ++ l) (P := S) (by rw [hget_app l (by omega)]; exact h3) a.nm).1
  have g4 : ∃ nv, ∀ l, hget (h ++ l) 4 = .vars [.mp 2, nv, .mp 3] := by
    obtain ⟨_, nv, b, _⟩ := hT
    exact ⟨nv, fun l => by rw [hget_app l (by omega)]; exact b⟩
  obtain ⟨nv, g4⟩ := g4
  obtain ⟨_, hw⟩ := hw
  obtain ⟨s, ps, k2, p2, m2, n2, l2⟩ := a
  dsimp only at lk hw ⊢
  rw [alV_mk]
  cases hm : mg S s with
  | some v =>
    obtain ⟨x, y⟩ := hS s v hm
    rw [hm] at lk
    simp only [Option.map_some, Option.getD_some, Option.isSome_some, szV, y] at lk
    have hvl := hlt_of x (by simp)
    generalize α s = w at *
    have e : ∃ j, aval Try.prog md fg 51 [.ptr 4 0, .agg [sV s, .slc false (ps.map sV), .int k2, .str (txt p2), .str (txt m2), .int n2, .slc false (l2.map tmV)]] h = some (.agg [.int w, .mp v.2], h ++ j) := by
      refine ⟨[.vars [sV s, .slc false (ps.map sV), .int k2, .str (txt p2), .str (txt m2), .int n2, .slc false (l2.map tmV)], .vars [.int w, .mp v.2], .vars [.int w, .mp v.2]], ?_⟩
      rw [aval_of Try.func51 body51 Try.results51 Try.ntmps51 ok51]
      simp (implicitDefEqProofs := false) (disch := first | omega | exact List.length_set) only [go_sem, Nat.reduceAdd, Nat.reduceSub, Nat.reduceMul, Nat.reduceLT, Nat.reduceLeDiff, Nat.reduceEqDiff, List.drop_zero, List.take_succ_cons, List.take_zero, List.drop_succ_cons, Bool.and_true, Bool.true_and, Bool.and_false, Bool.false_and, BitVec.reduceOfInt, Nat.zero_add, Nat.mul_one, Nat.add_zero, Int.zero_add, Int.reduceToNat, Nat.reducePow, ↓reduceIte, reduceCtorEq, Int.reduceLE, Int.reduceLT, Int.reduceEq, Int.reduceNe, Int.reduceAdd, Int.reduceSub, Int.reduceMul, Int.reduceNeg, Nat.reduceBEq, show regOf Try.f51 0 = Code.region _ _ _ from rfl, show regOf Try.f51 1 = Code.region _ _ _ from rfl, show regOf Try.f51 2 = Code.region _ _ _ from rfl, show regOf Try.f51 3 = Code.region _ _ _ from rfl, ↓tail_nil, ↓subs_nil_all, ↓List.forall_mem_cons, ↓all_nil, Bool.true_or, subs_two, List.tail_cons, killAt_nil, killAt_cons, aop_lookup, lk, g4, cells_mp, okVal_mp, fits_mp1, Option.map_some, List.append_assoc, List.cons_append, List.nil_append, List.length_append, List.length_cons, List.length_nil, sb_get0, sb_get1, sb_get2, sb_set0, sb_set1, sb_set2, aresults, tupOf]
    obtain ⟨j, e⟩ := e
    have := doCall_ref (by decide) (by decide) (by decide) e (by simp [below, belowL, hvl]) (gcOk_append h j)
    rw [List.take_left' rfl] at this
    exact ⟨v.2, h, this, hs, x, Kx.refl h⟩
  | none =>
    rw [hm] at lk
    simp only [Option.map_none, Option.getD_none, Option.isSome_none] at lk
    obtain ⟨M, H2, c46, s2, gM, k2x, hML⟩ := hw (h ++ [.vars [sV s, .slc false (ps.map sV), .int k2, .str (txt p2), .str (txt m2), .int n2, .slc false (l2.map tmV)], .vars [.int 0, .val (.map none)], .vars [.int 0, .val (.map none)]]) (st_app hs _)
    rw [tmV_mk] at c46
    simp only [List.length_append, List.length_cons, List.length_nil] at hML
    have hl2 : h.length + 3 ≤ H2.length := by have := k2x.1; simpa using this
    obtain ⟨hT2, S2, h32, hS2⟩ := id s2
    have q0 : ∀ l, hget (H2 ++ l) h.length = .vars [sV s, .slc false (ps.map sV), .int k2, .str (txt p2), .str (txt m2), .int n2, .slc false (l2.map tmV)] := fun l => by rw [hget_app l (by omega), k2x.2 _ (by simp) (by omega)]; exact sb_get0 _ _ rfl
    have q1 : ∀ l, hget (H2 ++ l) (h.length + 1) = .vars [.int 0, .val (.map none)] := fun l => by rw [hget_app l (by omega), k2x.2 _ (by simp) (by omega)]; exact sb_get1 _ _ _ rfl
    have gMl := hlt_of gM (by simp)
    have g42 : ∀ l, hget (H2 ++ l) 4 = .vars [.mp 2, nv, .mp 3] := fun l => by rw [hget_app l (by omega), k2x.2 4 (by simp; omega) (by decide)]; exact g4 _
    have h33 : ∀ l, hget (H2 ++ l) 3 = .map (encM szV S2.1) S2.2 := fun l => by rw [hget_app l (by omega)]; exact h32
    have mu := fun l => put_m szV (fun x => rfl) tmap_64 (h33 l) s (α s, M)
    have sp := st_put (tb_app hT2 [.vars [.int (α s), .mp M]]) (h33 [.vars [.int (α s), .mp M]]) (fun k v e => by
      obtain ⟨a, b⟩ := hS2 k v e
      exact ⟨by rw [hget_app _ (hlt_of a (by simp))]; exact a, b⟩) (α := α) (M := M) (by rw [hget_app _ gMl]; exact gM) (by omega) s
    have kp : Kx h ((H2 ++ [AObj.vars [.int (α s), .mp M]]).set 3 (.map (encM szV (mset S2 s (α s, M)).1) (mset S2 s (α s, M)).2)) := kx_set3 (kx_more ((kx_app h _).trans k2x) _) _
    have hmset : ((H2 ++ [AObj.vars [.int (α s), .mp M]]).set 3 (.map (encM szV (mset S2 s (α s, M)).1) (mset S2 s (α s, M)).2)).length = H2.length + 1 := by simp
    have r1 : hget ((H2 ++ [AObj.vars [.int (α s), .mp M]]).set 3 (.map (encM szV (mset S2 s (α s, M)).1) (mset S2 s (α s, M)).2)) (h.length + 1) = .vars [.int 0, .val (.map none)] := by rw [hget_set_ne (by omega)]; exact q1 _
    have rL : hget ((H2 ++ [AObj.vars [.int (α s), .mp M]]).set 3 (.map (encM szV (mset S2 s (α s, M)).1) (mset S2 s (α s, M)).2)) H2.length = .vars [.int (α s), .mp M] := by rw [hget_set_ne (by omega)]; exact hget_last
    have rM : hget ((H2 ++ [AObj.vars [.int (α s), .mp M]]).set 3 (.map (encM szV (mset S2 s (α s, M)).1) (mset S2 s (α s, M)).2)) M = .map [] 0 := by rw [hget_set_ne (by omega), hget_app _ gMl]; exact gM
    have mu := mu [AObj.vars [.int (α s), .mp M]]
    simp only [szV] at mu
    generalize α s = w at *
    generalize (H2 ++ [AObj.vars [.int w, .mp M]]).set 3 (.map (encM szV (mset S2 s (w, M)).1) (mset S2 s (w, M)).2) = Hc at *
    have z1 : hget (Hc.set (h.length + 1) (.vars [.int w, .mp M])) (h.length + 1) = .vars [.int w, .mp M] := hget_set_eq (by omega)
    have e : aval Try.prog md fg 51 [.ptr 4 0, .agg [sV s, .slc false (ps.map sV), .int k2, .str (txt p2), .str (txt m2), .int n2, .slc false (l2.map tmV)]] h = some (.agg [.int w, .mp M], Hc.set (h.length + 1) (.vars [.int w, .mp M])) := by
      rw [aval_of Try.func51 body51 Try.results51 Try.ntmps51 ok51]
      simp (implicitDefEqProofs := false) (disch := first | omega | exact List.length_set) only [go_sem, Nat.reduceAdd, Nat.reduceSub, Nat.reduceMul, Nat.reduceLT, Nat.reduceLeDiff, Nat.reduceEqDiff, List.drop_zero, List.take_succ_cons, List.take_zero, List.drop_succ_cons, Bool.and_true, Bool.true_and, Bool.and_false, Bool.false_and, BitVec.reduceOfInt, Nat.zero_add, Nat.mul_one, Nat.add_zero, Int.zero_add, Int.reduceToNat, Nat.reducePow, ↓reduceIte, reduceCtorEq, Int.reduceLE, Int.reduceLT, Int.reduceEq, Int.reduceNe, Int.reduceAdd, Int.reduceSub, Int.reduceMul, Int.reduceNeg, Nat.reduceBEq, show regOf Try.f51 0 = Code.region _ _ _ from rfl, show regOf Try.f51 1 = Code.region _ _ _ from rfl, show regOf Try.f51 2 = Code.region _ _ _ from rfl, show regOf Try.f51 4 = Code.region _ _ _ from rfl, show regOf Try.f51 5 = Code.region _ _ _ from rfl, show regOf Try.f51 6 = Code.region _ _ _ from rfl, ↓tail_nil, ↓subs_nil_all, ↓List.forall_mem_cons, ↓all_nil, Bool.true_or, subs_two, List.tail_cons, killAt_nil, killAt_cons, aop_lookup, aop_mapUpdate, lk, mu, c46, g4, g42, q0, q1, cells_mp, okVal_mp, fits_mp1, Option.map_some, List.append_assoc, List.cons_append, List.nil_append, List.length_append, List.length_cons, List.length_nil, hget_last, set_last, sb_get0, sb_get1, sb_get2, sb_set0, sb_set1, sb_set2, thenDraw_mapUpdate, r1, rL, z1, aresults, tupOf]
    refine ⟨M, _, doCall_keep (by decide) (by decide) (by decide) e (by simp [below, belowL]; omega), stt_set sp r1 (by omega), ?_, kx_set kp _ (by omega)⟩
    rw [hget_set_ne (by intro hh; rw [hh, rM] at r1; cases r1)]; exact rM
theorem b_loop {h : AHeap} {m i : Nat} {w : Int} (hi : hget h i = .iter (some m) 0 [] 0) (hm : hget h m = .map [] 0) :
    lrun Try.prog md fg (fg 37) (loopOf Try.f37 0) (fg 37 1) ((.unk :: .unk :: .unk :: .unk :: .unk :: .unk :: (.int w) :: .unk :: .unk :: .unk :: .unk :: .unk :: .unk :: .unk :: .unk :: .unk :: (.ptr i 0) :: .unk :: .unk :: .unk :: .unk :: .unk :: .unk :: .unk :: .unk :: .unk :: [] : List AV)) h = some (.exit 0, (.unk :: .unk :: .unk :: .unk :: .unk :: .unk :: (.int w) :: .unk :: .unk :: .unk :: .unk :: .unk :: .unk :: .unk :: .unk :: .unk :: (.ptr i 0) :: .unk :: .unk :: .unk :: .unk :: .unk :: .unk :: .unk :: .unk :: .unk :: [] : List AV), h) := by
  have hn := next_mt hi hm
  rw [lrun_atC loop37_0]
  simp (implicitDefEqProofs := false) (disch := omega) only [go_sem, Nat.reduceAdd, Nat.reduceSub, Nat.reduceMul, Nat.reduceLT, Nat.reduceLeDiff, Nat.reduceEqDiff, List.drop_zero, List.take_succ_cons, List.take_zero, List.drop_succ_cons, Bool.and_true, Bool.true_and, Bool.and_false, Bool.false_and, BitVec.reduceOfInt, Nat.zero_add, Nat.mul_one, Nat.add_zero, Int.zero_add, Int.reduceToNat, Nat.reducePow, ↓reduceIte, reduceCtorEq, Int.reduceLE, Int.reduceLT, Int.reduceEq, Int.reduceNe, Int.reduceAdd, Int.reduceSub, Int.reduceMul, Int.reduceNeg, Nat.reduceBEq, show regOf Try.f37 4 = Code.region _ _ _ from rfl, aop_next0, hn, List.getElem?_cons_zero]
theorem tb_kx {P : MapS Al} {h H : AHeap} (hT : Tb h P) (h3 : ∃ es c, hget h 3 = .map es c) (k : Kx h H) : Tb H P ∧ Tb (H.take h.length) P := by
  obtain ⟨es, c, h3⟩ := h3
  have q : ∀ j o, j ≠ 3 → hget h j = o → o ≠ .dead → hget H j = o ∧ hget (H.take h.length) j = o := fun j o hj e hd => by
    have hl := hlt_of e hd
    have h1 : hget H j = o := by rw [k.2 j hl hj]; exact e
    refine ⟨h1, ?_⟩
    unfold hget at h1 ⊢
    rw [List.getD_eq_getElem?_getD, List.getElem?_take_of_lt hl, ← List.getD_eq_getElem?_getD]; exact h1
  obtain ⟨a, nv, b, d⟩ := hT
  have qa := q 2 _ (by decide) a (by simp)
  have qb := q 4 _ (by decide) b (by simp)
  rcases d with d | ⟨x, g, d1, d2⟩
  · exact ⟨⟨qa.1, nv, qb.1, .inl d⟩, ⟨qa.2, nv, qb.2, .inl d⟩⟩
  · have hx3 : x ≠ 3 := by rintro rfl; rw [h3] at d2; cases d2
    have qd := q x _ hx3 d2 (by simp)
    exact ⟨⟨qa.1, nv, qb.1, .inr ⟨x, g, d1, qd.1⟩⟩, ⟨qa.2, nv, qb.2, .inr ⟨x, g, d1, qd.2⟩⟩⟩
set_option maxHeartbeats 8000000 in
theorem big_c {P : MapS Al} {α : Nm → Int} {t : Tm} {w : Int} (hw : WG P α t w) {h : AHeap} (hs : STt P α h) : ∃ H, doCall md (aval Try.prog md fg) 37 [.ptr 4 0, tmV t] h = some (.val (.bool (decide (1000 < w))), H) ∧ Tb H P ∧ (∀ j cs, hget h j = .vars cs → hget H j = .vars cs) := by
  have h4 := st_len hs
  obtain ⟨hT, S, h3, hS⟩ := id hs
  obtain ⟨wb, hw⟩ := hw
  obtain ⟨k, p, m, n, ks⟩ := t
  obtain ⟨M, H2, c46, s2, gM, k2x, hML⟩ := hw (h ++ [.vars [.int k, .str (txt p), .str (txt m), .int n, .slc false (ks.map tmV)]]) (st_app hs _)
  rw [tmV_mk] at c46
  simp only [List.length_append, List.length_cons, List.length_nil] at hML
  have hl2 : h.length + 1 ≤ H2.length := by have := k2x.1; simpa using this
  have gMl := hlt_of gM (by simp)
  have gM2 : hget (H2 ++ [.vars [.int w, .mp M]]) M = .map [] 0 := by rw [hget_app _ gMl]; exact gM
  have hr := range_mt gM2
  have hlo := b_loop (w := w) (h := H2 ++ [.vars [.int w, .mp M], .iter (some M) 0 [] 0]) (i := H2.length + 1) (sb_get1 _ _ _ rfl) (by rw [hget_app _ gMl]; exact gM)
  simp only [List.append_assoc, List.cons_append, List.nil_append, List.length_append, List.length_cons, List.length_nil, Nat.zero_add] at hr
  have e : aval Try.prog md fg 37 [.ptr 4 0, tmV ⟨k, p, m, n, ks⟩] h = some (.val (.bool (decide (1000 < w))), H2 ++ [.vars [.int w, .mp M], .iter (some M) 0 [] 0]) := by
    rw [tmV_mk]
    by_cases hc : 1000 < w
    · rw [decide_eq_true hc]
      rw [aval_of Try.func37 body37 Try.results37 Try.ntmps37 ok37]
      simp (implicitDefEqProofs := false) (disch := first | omega | exact List.length_set) only [go_sem, Nat.reduceAdd, Nat.reduceSub, Nat.reduceMul, Nat.reduceLT, Nat.reduceLeDiff, Nat.reduceEqDiff, List.drop_zero, List.take_succ_cons, List.take_zero, List.drop_succ_cons, Bool.and_true, Bool.true_and, Bool.and_false, Bool.false_and, BitVec.reduceOfInt, Nat.zero_add, Nat.mul_one, Nat.add_zero, Int.zero_add, Int.reduceToNat, Nat.reducePow, ↓reduceIte, reduceCtorEq, Int.reduceLE, Int.reduceLT, Int.reduceEq, Int.reduceNe, Int.reduceAdd, Int.reduceSub, Int.reduceMul, Int.reduceNeg, Nat.reduceBEq, show regOf Try.f37 0 = Code.region _ _ _ from rfl, show regOf Try.f37 1 = Code.region _ _ _ from rfl, show regOf Try.f37 2 = Code.region _ _ _ from rfl, show regOf Try.f37 3 = Code.region _ _ _ from rfl, show regOf Try.f37 7 = Code.region _ _ _ from rfl, c46, hget_last, set_last, cells_mp, okVal_mp, fits_mp1, aop_range0, hr, hlo, hc, Option.map_some, List.append_assoc, List.cons_append, List.nil_append, List.length_append, List.length_cons, List.length_nil]
    · rw [decide_eq_false hc]
      rw [aval_of Try.func37 body37 Try.results37 Try.ntmps37 ok37]
      simp (implicitDefEqProofs := false) (disch := first | omega | exact List.length_set) only [go_sem, Nat.reduceAdd, Nat.reduceSub, Nat.reduceMul, Nat.reduceLT, Nat.reduceLeDiff, Nat.reduceEqDiff, List.drop_zero, List.take_succ_cons, List.take_zero, List.drop_succ_cons, Bool.and_true, Bool.true_and, Bool.and_false, Bool.false_and, BitVec.reduceOfInt, Nat.zero_add, Nat.mul_one, Nat.add_zero, Int.zero_add, Int.reduceToNat, Nat.reducePow, ↓reduceIte, reduceCtorEq, Int.reduceLE, Int.reduceLT, Int.reduceEq, Int.reduceNe, Int.reduceAdd, Int.reduceSub, Int.reduceMul, Int.reduceNeg, Nat.reduceBEq, show regOf Try.f37 0 = Code.region _ _ _ from rfl, show regOf Try.f37 1 = Code.region _ _ _ from rfl, show regOf Try.f37 2 = Code.region _ _ _ from rfl, show regOf Try.f37 3 = Code.region _ _ _ from rfl, show regOf Try.f37 7 = Code.region _ _ _ from rfl, c46, hget_last, set_last, cells_mp, okVal_mp, fits_mp1, aop_range0, hr, hlo, hc, Option.map_some, List.append_assoc, List.cons_append, List.nil_append, List.length_append, List.length_cons, List.length_nil]
  have kx : Kx h (H2 ++ [.vars [.int w, .mp M], .iter (some M) 0 [] 0]) := kx_more ((kx_app h _).trans k2x) _
  obtain ⟨t1, t2⟩ := tb_kx hT ⟨_, _, h3⟩ kx
  have hv : ∀ j cs, hget h j = .vars cs → hget (H2 ++ [.vars [.int w, .mp M], .iter (some M) 0 [] 0]) j = .vars cs := fun j cs e => by
    rw [kx.2 j (hlt_of e (by simp)) (by rintro rfl; rw [h3] at e; cases e)]; exact e
  rw [doCall_0 (by decide)]
  unfold doCall0
  rw [if_neg (by decide), rated_id (by decide), e]
  dsimp only
  split
  · refine ⟨_, rfl, t2, fun j cs e => ?_⟩
    have h1 := hv j cs e
    unfold hget at h1 ⊢
    rw [List.getD_eq_getElem?_getD, List.getElem?_take_of_lt (hlt_of e (by simp)), ← List.getD_eq_getElem?_getD]; exact h1
  · exact ⟨_, rfl, t1, hv⟩
end Go.Proofs.Ytgijlgdhogbgbaa
namespace Go.Proofs.Ytgijlgdhogbgbaa
open Go Go.Ab Go.Proofs
set_option maxRecDepth 100000
set_option linter.unusedSimpArgs false
set_option linter.unusedVariables false
theorem alive_p : pcall Try.prog md fg 8 [] = some (.bool true) := pcall_strue okKnown 200 (by decide +kernel)
theorem alive_c (h : AHeap) : doCall md (aval Try.prog md fg) 8 [] h = some (.val (.bool true), h) := doCall_pure md8 rfl alive_p
theorem no_p (x : Int) : pcall Try.prog md fg 12 [.int x] = some (.int x) := by
  have e : ∃ h, aval Try.prog md fg 12 [.int x] [] = some (.int x, h) := by
    rw [aval_of Try.func12 body12 Try.results12 Try.ntmps12 ok12]
    simp (implicitDefEqProofs := false) (disch := omega) only [go_sem, Nat.reduceAdd, Nat.reduceSub, Nat.reduceMul, Nat.reduceLT, Nat.reduceLeDiff, Nat.reduceEqDiff, List.drop_zero, List.take_succ_cons, List.take_zero, List.drop_succ_cons, Bool.and_true, Bool.true_and, Bool.and_false, Bool.false_and, BitVec.reduceOfInt, Nat.zero_add, Nat.mul_one, Nat.add_zero, Int.zero_add, Int.reduceToNat, Nat.reducePow, ↓reduceIte, reduceCtorEq, Int.reduceLE, Int.reduceLT, Int.reduceEq, Int.reduceNe, Int.reduceAdd, Int.reduceSub, Int.reduceMul, Int.reduceNeg, Nat.reduceBEq, show regOf Try.f12 0 = Code.region _ _ _ from rfl, show regOf Try.f12 1 = Code.region _ _ _ from rfl]
    exact ⟨_, rfl⟩
  obtain ⟨h, e⟩ := e
  rw [pcall_eq, e, pureRes_solid rfl]
theorem no_c (x : Int) (h : AHeap) : doCall md (aval Try.prog md fg) 12 [.int x] h = some (.int x, h) := doCall_pure md12 rfl (no_p x)
def strB (s : List UInt8) (o : Option (AV × AHeap)) : Bool :=
  match o with
  | some (.val (.string t), _) => decide (t = txt s)
  | _ => false
theorem pcall_sstr (k : Nat) {f : FuncId} {vs : List AV} {s : List UInt8} (e : strB s (scall Try.prog md fg knows k f vs []) = true) : pcall Try.prog md fg f vs = some (.val (.string (txt s))) := by
  unfold strB at e
  split at e
  · rename_i t h hc
    rw [pcall_eq, aval_of_scall okKnown k hc, of_decide_eq_true e, pureRes_solid rfl]
  · cases e
/-- The i-th name. -/
def nmR (i : Nat) : Nm := [116, UInt8.ofNat (97 + i)]
theorem names_all : (List.range 21).all (fun q => strB (nmR q) (scall Try.prog md fg knows 50 22 [.int (Int.ofNat q)] [])) = true := by decide +kernel
theorem name_p (q : Nat) (hq : q < 21) : pcall Try.prog md fg 22 [.int (q : Int)] = some (.val (.string (txt (nmR q)))) :=
  pcall_sstr 50 (List.all_eq_true.1 names_all q (List.mem_range.2 hq))
theorem name_c (q : Nat) (hq : q < 21) (h : AHeap) : doCall md (aval Try.prog md fg) 22 [.int (q : Int)] h = some (.val (.string (txt (nmR q))), h) := doCall_pure md22 rfl (name_p q hq)
def conT (s : Nm) : Tm := ⟨2, [], s, 0, []⟩
def pairT (a b : Tm) : Tm := ⟨4, [], [], 0, [a, b]⟩
def zT0 : Tm := ⟨0, [], [], 0, []⟩
theorem con_p (s : Nm) : pcall Try.prog md fg 23 [sV s, .slc false []] = some (tmV (conT s)) := by
  have hs := solid_tm (conT s)
  unfold conT at hs ⊢
  rw [tmV_mk, List.map_nil] at hs ⊢
  have e : ∃ h, aval Try.prog md fg 23 [sV s, .slc false []] [] = some (.agg [.int 2, .str (txt []), .str (txt s), .int 0, .slc false []], h) := by
    rw [aval_of Try.func23 body23 Try.results23 Try.ntmps23 ok23]
    simp (implicitDefEqProofs := false) (disch := omega) only [go_sem, Nat.reduceAdd, Nat.reduceSub, Nat.reduceMul, Nat.reduceLT, Nat.reduceLeDiff, Nat.reduceEqDiff, List.drop_zero, List.take_succ_cons, List.take_zero, List.drop_succ_cons, Bool.and_true, Bool.true_and, Bool.and_false, Bool.false_and, BitVec.reduceOfInt, Nat.zero_add, Nat.mul_one, Nat.add_zero, Int.zero_add, Int.reduceToNat, Nat.reducePow, ↓reduceIte, reduceCtorEq, Int.reduceLE, Int.reduceLT, Int.reduceEq, Int.reduceNe, Int.reduceAdd, Int.reduceSub, Int.reduceMul, Int.reduceNeg, Nat.reduceBEq, show regOf Try.f23 0 = Code.region _ _ _ from rfl, show regOf Try.f23 1 = Code.region _ _ _ from rfl, aresults, tupOf]
    exact ⟨_, rfl⟩
  obtain ⟨h, e⟩ := e
  rw [pcall_eq, e, pureRes_solid hs]
theorem con_c (s : Nm) (h : AHeap) : doCall md (aval Try.prog md fg) 23 [sV s, .slc true []] h = some (tmV (conT s), h) :=
  doCall_exp md23 (ys := [sV s, .slc false []]) (by simp only [expL, exp1_solid (show solid (sV s) = true from rfl), show exp1 h expDepth (.slc true []) = some (.slc false [], []) from rfl, List.append_nil]) (con_p s)
theorem pair_p (a b : Tm) : pcall Try.prog md fg 24 [tmV a, tmV b] = some (tmV (pairT a b)) := by
  have hs := solid_tm (pairT a b)
  have hx : ∀ h : AHeap, exp1 h expDepth (.agg [.int 4, .str (txt []), .str (txt []), .int 0, .slc true [tmV a, tmV b]]) = some (tmV (pairT a b), []) := fun h => by
    have h1 : exp1 h 59 (.slc true [tmV a, tmV b]) = some (.slc false ([a, b].map tmV), []) := by
      show exp1 h (58 + 1) _ = _
      unfold exp1
      simp only [solid, Bool.not_true, Bool.false_and, Bool.false_eq_true, if_false, expL, exp1_solid (solid_tm a), exp1_solid (solid_tm b), Option.map_some, List.append_nil, List.map_cons, List.map_nil]
    have := exp_agg5 (.int .i64 4) (.string (txt [])) (.string (txt [])) (.int .i64 0) (us := [a, b]) (v := .slc true [tmV a, tmV b]) rfl h1
    rw [this]
    unfold pairT
    rw [tmV_mk]
  have e : ∃ h, aval Try.prog md fg 24 [tmV a, tmV b] [] = some (.agg [.int 4, .str (txt []), .str (txt []), .int 0, .slc true [tmV a, tmV b]], h) := by
    obtain ⟨k, p, m, n, l⟩ := a
    obtain ⟨k2, p2, m2, n2, l2⟩ := b
    simp only [tmV_mk]
    rw [aval_of Try.func24 body24 Try.results24 Try.ntmps24 ok24]
    simp (implicitDefEqProofs := false) (disch := omega) only [go_sem, Nat.reduceAdd, Nat.reduceSub, Nat.reduceMul, Nat.reduceLT, Nat.reduceLeDiff, Nat.reduceEqDiff, List.drop_zero, List.take_succ_cons, List.take_zero, List.drop_succ_cons, Bool.and_true, Bool.true_and, Bool.and_false, Bool.false_and, BitVec.reduceOfInt, Nat.zero_add, Nat.mul_one, Nat.add_zero, Int.zero_add, Int.reduceToNat, Nat.reducePow, ↓reduceIte, reduceCtorEq, Int.reduceLE, Int.reduceLT, Int.reduceEq, Int.reduceNe, Int.reduceAdd, Int.reduceSub, Int.reduceMul, Int.reduceNeg, Nat.reduceBEq, show regOf Try.f24 0 = Code.region _ _ _ from rfl, show regOf Try.f24 1 = Code.region _ _ _ from rfl, aresults, tupOf]
    exact ⟨_, rfl⟩
  obtain ⟨h, e⟩ := e
  rw [pcall_eq, e]
  unfold pureRes
  dsimp only
  rw [hx]
  rfl
theorem pair_c (a b : Tm) (h : AHeap) : doCall md (aval Try.prog md fg) 24 [tmV a, tmV b] h = some (tmV (pairT a b), h) := doCall_pure md24 (solid2 a b) (pair_p a b)
/-- What a type is, expanded, or why it is none: the errors by numbers. -/
def tyAns (cy : Bool) (w : Int) (u : Tm) : Tm × Int := if cy then (zT0, 14) else if 1000 < w then (zT0, 9) else (u, 0)
set_option maxHeartbeats 8000000 in
theorem type_p {al : List Al} (hal : al.length ≤ 1000) (x u : Tm) {α : Nm → Int} {w : Int} {cy : Bool} (hcy : ∀ h0, Tb h0 (tbl al) → doCall md (aval Try.prog md fg) 27 [.ptr 4 0] h0 = some (.val (.bool cy), h0)) (hw : cy = false → WG (tbl al) α x w) (hE : cy = false → w ≤ 1000 → EXs (tbl al) x u) :
    pcall Try.prog md fg 15 [tmV x, .slc false (al.map alV)] = some (.tup [tmV (tyAns cy w u).1, .int (tyAns cy w u).2]) := by
  have hz : ∀ h : AHeap, exp1 h expDepth (.tup [.agg [.val (.int .i64 0), .val (.string ⟨#[]⟩), .val (.string ⟨#[]⟩), .val (.int .i64 0), .slc true []], .int 14]) = some (.tup [tmV zT0, .int 14], []) := fun h => by unfold zT0; rw [tmV_mk]; rfl
  have hz9 : ∀ h : AHeap, exp1 h expDepth (.tup [.agg [.val (.int .i64 0), .val (.string ⟨#[]⟩), .val (.string ⟨#[]⟩), .val (.int .i64 0), .slc true []], .int 9]) = some (.tup [tmV zT0, .int 9], []) := fun h => by unfold zT0; rw [tmV_mk]; rfl
  have hsu := solid_tm u
  obtain ⟨k, p, m, n, ks⟩ := x
  obtain ⟨H, em, hT, hH, l0, l1, l3⟩ := made_p al hal [.int k, .str (txt p), .str (txt m), .int n, .slc false (ks.map tmV)] [.val (.int .i64 0), .val (.string ⟨#[]⟩), .val (.string ⟨#[]⟩), .val (.int .i64 0), .slc true []]
  have c26 := doCall_keep (by decide) (by decide) (by decide) em (by simp [below])
  have c27 := hcy H hT
  have zs : ∀ (G : AHeap) (c : List AV), 1 < G.length → hget (G.set 1 (.vars c)) 1 = .vars c := fun G c h => hget_set_eq h
  have hst : STt (tbl al) α H := ⟨hT, ([], 0), l3, fun k v e => by cases e⟩
  unfold tyAns
  cases cy with
  | true =>
    simp only [if_true]
    have z1 := zs H [.val (.int .i64 0), .val (.string ⟨#[]⟩), .val (.string ⟨#[]⟩), .val (.int .i64 0), .slc true []] (by omega)
    have e : ∃ h, aval Try.prog md fg 15 [tmV ⟨k, p, m, n, ks⟩, .slc false (al.map alV)] [] = some (.tup [.agg [.val (.int .i64 0), .val (.string ⟨#[]⟩), .val (.string ⟨#[]⟩), .val (.int .i64 0), .slc true []], .int 14], h) := by
      rw [tmV_mk]
      rw [aval_of Try.func15 body15 Try.results15 Try.ntmps15 ok15]
      simp (implicitDefEqProofs := false) (disch := first | omega | exact List.length_set) only [go_sem, Nat.reduceAdd, Nat.reduceSub, Nat.reduceMul, Nat.reduceLT, Nat.reduceLeDiff, Nat.reduceEqDiff, List.drop_zero, List.take_succ_cons, List.take_zero, List.drop_succ_cons, Bool.and_true, Bool.true_and, Bool.and_false, Bool.false_and, BitVec.reduceOfInt, Nat.zero_add, Nat.mul_one, Nat.add_zero, Int.zero_add, Int.reduceToNat, Nat.reducePow, ↓reduceIte, reduceCtorEq, Int.reduceLE, Int.reduceLT, Int.reduceEq, Int.reduceNe, Int.reduceAdd, Int.reduceSub, Int.reduceMul, Int.reduceNeg, Nat.reduceBEq, show regOf Try.f15 0 = Code.region _ _ _ from rfl, show regOf Try.f15 1 = Code.region _ _ _ from rfl, show regOf Try.f15 2 = Code.region _ _ _ from rfl, show regOf Try.f15 3 = Code.region _ _ _ from rfl, List.cons_append, List.nil_append, List.length_cons, List.length_nil, c26, c27, l0, l1, z1, aresults, tupOf, Option.map_some]
      exact ⟨_, rfl⟩
    obtain ⟨h, e⟩ := e
    rw [pcall_eq, e]
    unfold pureRes
    dsimp only
    rw [hz]
    rfl
  | false =>
    simp only [Bool.false_eq_true, if_false]
    obtain ⟨H', c37, hT', hv'⟩ := big_c (hw rfl) hst
    have l0' := hv' 0 _ l0
    have l1' := hv' 1 _ l1
    have hl' := hlt_of l1' (by simp)
    rw [tmV_mk] at c37
    by_cases hbig : 1000 < w
    · rw [if_pos hbig]
      rw [decide_eq_true hbig] at c37
      have z1 := zs H' [.val (.int .i64 0), .val (.string ⟨#[]⟩), .val (.string ⟨#[]⟩), .val (.int .i64 0), .slc true []] (by omega)
      have e : ∃ h, aval Try.prog md fg 15 [tmV ⟨k, p, m, n, ks⟩, .slc false (al.map alV)] [] = some (.tup [.agg [.val (.int .i64 0), .val (.string ⟨#[]⟩), .val (.string ⟨#[]⟩), .val (.int .i64 0), .slc true []], .int 9], h) := by
        rw [tmV_mk]
        rw [aval_of Try.func15 body15 Try.results15 Try.ntmps15 ok15]
        simp (implicitDefEqProofs := false) (disch := first | omega | exact List.length_set) only [go_sem, Nat.reduceAdd, Nat.reduceSub, Nat.reduceMul, Nat.reduceLT, Nat.reduceLeDiff, Nat.reduceEqDiff, List.drop_zero, List.take_succ_cons, List.take_zero, List.drop_succ_cons, Bool.and_true, Bool.true_and, Bool.and_false, Bool.false_and, BitVec.reduceOfInt, Nat.zero_add, Nat.mul_one, Nat.add_zero, Int.zero_add, Int.reduceToNat, Nat.reducePow, ↓reduceIte, reduceCtorEq, Int.reduceLE, Int.reduceLT, Int.reduceEq, Int.reduceNe, Int.reduceAdd, Int.reduceSub, Int.reduceMul, Int.reduceNeg, Nat.reduceBEq, show regOf Try.f15 0 = Code.region _ _ _ from rfl, show regOf Try.f15 1 = Code.region _ _ _ from rfl, show regOf Try.f15 2 = Code.region _ _ _ from rfl, show regOf Try.f15 4 = Code.region _ _ _ from rfl, show regOf Try.f15 5 = Code.region _ _ _ from rfl, List.cons_append, List.nil_append, List.length_cons, List.length_nil, c26, c27, c37, l0, l1, l0', l1', z1, aresults, tupOf, Option.map_some]
        exact ⟨_, rfl⟩
      obtain ⟨h, e⟩ := e
      rw [pcall_eq, e]
      unfold pureRes
      dsimp only
      rw [hz9]
      rfl
    · rw [if_neg hbig]
      rw [decide_eq_false hbig] at c37
      have c38 := hE rfl (by omega) H' hT'
      rw [tmV_mk] at c38
      obtain ⟨k3, p3, m3, n3, l3⟩ := u
      rw [tmV_mk] at c38 hsu
      have z1 := zs H' [.int k3, .str (txt p3), .str (txt m3), .int n3, .slc false (l3.map tmV)] (by omega)
      have e : ∃ h, aval Try.prog md fg 15 [tmV ⟨k, p, m, n, ks⟩, .slc false (al.map alV)] [] = some (.tup [.agg [.int k3, .str (txt p3), .str (txt m3), .int n3, .slc false (l3.map tmV)], .int 0], h) := by
        rw [tmV_mk]
        rw [aval_of Try.func15 body15 Try.results15 Try.ntmps15 ok15]
        simp (implicitDefEqProofs := false) (disch := first | omega | exact List.length_set) only [go_sem, Nat.reduceAdd, Nat.reduceSub, Nat.reduceMul, Nat.reduceLT, Nat.reduceLeDiff, Nat.reduceEqDiff, List.drop_zero, List.take_succ_cons, List.take_zero, List.drop_succ_cons, Bool.and_true, Bool.true_and, Bool.and_false, Bool.false_and, BitVec.reduceOfInt, Nat.zero_add, Nat.mul_one, Nat.add_zero, Int.zero_add, Int.reduceToNat, Nat.reducePow, ↓reduceIte, reduceCtorEq, Int.reduceLE, Int.reduceLT, Int.reduceEq, Int.reduceNe, Int.reduceAdd, Int.reduceSub, Int.reduceMul, Int.reduceNeg, Nat.reduceBEq, show regOf Try.f15 0 = Code.region _ _ _ from rfl, show regOf Try.f15 1 = Code.region _ _ _ from rfl, show regOf Try.f15 2 = Code.region _ _ _ from rfl, show regOf Try.f15 4 = Code.region _ _ _ from rfl, show regOf Try.f15 6 = Code.region _ _ _ from rfl, List.cons_append, List.nil_append, List.length_cons, List.length_nil, c26, c27, c37, c38, l0, l1, l0', l1', z1, aresults, tupOf, Option.map_some]
        exact ⟨_, rfl⟩
      obtain ⟨h, e⟩ := e
      rw [pcall_eq, e]
      dsimp only
      rw [tmV_mk]
      exact pureRes_solid (by simp only [solid, solidL] at hsu ⊢; simp only [hsu]; rfl)
end Go.Proofs.Ytgijlgdhogbgbaa
namespace Go.Proofs.Ytgijlgdhogbgbaa
open Go Go.Ab Go.Proofs
set_option maxRecDepth 100000
set_option linter.unusedSimpArgs false
set_option linter.unusedVariables false
def intN : Nm := [105, 110, 116]
def nextR (N : Nat) (c : Bool) (i : Nat) : Tm := if i + 1 = N then (if c then conT (nmR 0) else conT intN) else conT (nmR (i + 1))
def tyR (N : Nat) (d c : Bool) (i : Nat) : Tm := if d then pairT (nextR N c i) (nextR N c i) else nextR N c i
def alR (N : Nat) (d c : Bool) (i : Nat) : Al := ⟨nmR i, [], tyR N d c i⟩
def ring (N : Nat) (d c : Bool) : List Al := (List.range N).map (alR N d c)
theorem u8_eq {a b : Nat} (ha : a < 256) (hb : b < 256) (h : UInt8.ofNat a = UInt8.ofNat b) : a = b := by
  have := congrArg UInt8.toNat h
  simp only [UInt8.toNat_ofNat'] at this
  omega
theorem nmR_inj {i j : Nat} (hi : i < 30) (hj : j < 30) (h : nmR i = nmR j) : i = j := by
  unfold nmR at h
  simp only [List.cons.injEq, and_true, true_and] at h
  have := u8_eq (by omega) (by omega) h
  omega
theorem nmR_int (i : Nat) : nmR i ≠ intN := by unfold nmR intN; intro h; simp at h
theorem nmR_nil (i : Nat) : nmR i ≠ [] := by unfold nmR; intro h; simp at h
theorem ring_len (N : Nat) (d c : Bool) : (ring N d c).length = N := by unfold ring; simp
theorem ring_at {N : Nat} {d c : Bool} {i : Nat} (h : i < N) : (ring N d c)[i]? = some (alR N d c i) := by
  unfold ring
  rw [List.getElem?_map, List.getElem?_range h]; rfl
theorem ring_nms (N : Nat) (d c : Bool) : (ring N d c).map Al.nm = (List.range N).map nmR := by
  unfold ring; rw [List.map_map]; rfl
theorem ring_mg {N : Nat} {d c : Bool} (hN : N ≤ 20) {i : Nat} (h : i < N) : mg (tbl (ring N d c)) (nmR i) = some (alR N d c i) := by
  refine fst_mg (ring_at h) ?_
  unfold fst
  rw [ring_at h]
  simp only [decide_eq_true_eq]
  show nmR i ∉ _
  rw [List.map_take, ring_nms, ← List.map_take]
  intro hm
  obtain ⟨j, hj, e⟩ := List.mem_map.1 hm
  have hj' : j < i := by
    rw [List.take_range, List.mem_range] at hj; omega
  have := nmR_inj (by omega) (by omega) e
  omega
theorem ring_none {N : Nat} {d c : Bool} {s : Nm} (h : ∀ i, nmR i ≠ s) : mg (tbl (ring N d c)) s = none := by
  rw [mg_none, keys_tbl, ring_nms]
  intro hm
  obtain ⟨j, _, e⟩ := List.mem_map.1 hm
  exact h j e
theorem ring_key {N : Nat} {d c : Bool} {x : Nm} : x ∈ keys (tbl (ring N d c)) ↔ ∃ i, i < N ∧ nmR i = x := by
  rw [keys_tbl, ring_nms, List.mem_map]
  constructor
  · rintro ⟨i, hi, e⟩; exact ⟨i, List.mem_range.1 hi, e⟩
  · rintro ⟨i, hi, e⟩; exact ⟨i, List.mem_range.2 hi, e⟩
theorem conT_fit (s : Nm) (h : s.length ≤ 10) : (conT s).fit ∧ tsz (conT s) = 1 := by
  unfold conT
  rw [Tm.fit, Tm.fits, tsz, tszs]
  exact ⟨⟨by simp, by omega, by simp, trivial⟩, by omega⟩
theorem nextR_fit (N : Nat) (c : Bool) (i : Nat) : (nextR N c i).fit ∧ tsz (nextR N c i) = 1 := by
  unfold nextR
  split
  · split
    · exact conT_fit _ (by unfold nmR; simp)
    · exact conT_fit _ (by unfold intN; simp)
  · exact conT_fit _ (by unfold nmR; simp)
theorem tyR_fit (N : Nat) (d c : Bool) (i : Nat) : (tyR N d c i).fit ∧ tsz (tyR N d c i) ≤ 3 := by
  obtain ⟨h1, h2⟩ := nextR_fit N c i
  unfold tyR
  split
  · unfold pairT
    rw [Tm.fit, Tm.fits, Tm.fits, Tm.fits, tsz, tszs, tszs, tszs]
    exact ⟨⟨by simp, by simp, by simp, h1, h1, trivial⟩, by omega⟩
  · exact ⟨h1, by omega⟩
theorem ring_good {N : Nat} {d c : Bool} (hN : N ≤ 20) : Good (ring N d c) := by
  refine ⟨by rw [ring_len]; omega, fun a ha => ?_⟩
  unfold ring at ha
  obtain ⟨i, _, rfl⟩ := List.mem_map.1 ha
  obtain ⟨h1, h2⟩ := tyR_fit N d c i
  exact ⟨h1, by show tsz (tyR N d c i) ≤ _; omega⟩
/-- Sizes: of what so many steps end in. -/
def szR (d : Bool) : Nat → Nat
  | 0 => 1
  | e + 1 => if d then 2 * szR d e + 1 else szR d e
def exR (d : Bool) : Nat → Tm
  | 0 => conT intN
  | e + 1 => if d then pairT (exR d e) (exR d e) else exR d e
theorem exR_sz (d : Bool) : ∀ e, tsz (exR d e) = szR d e
  | 0 => by unfold exR conT szR; rw [tsz, tszs]
  | e + 1 => by
    have := exR_sz d e
    unfold exR szR
    cases d with
    | false => simpa using this
    | true => simp only [if_true]; unfold pairT; rw [tsz, tszs, tszs, tszs]; omega
def wtR (d : Bool) (e : Nat) : Int := cap (szR d e)
theorem szR_pos (d : Bool) : ∀ e, 1 ≤ szR d e
  | 0 => Nat.le_refl _
  | e + 1 => by have := szR_pos d e; unfold szR; split <;> omega
theorem wtR_succ (e : Nat) : csum 1 [wtR true e, wtR true e] = wtR true (e + 1) := by
  have h := szR_pos true e
  have : szR true (e + 1) = 2 * szR true e + 1 := rfl
  simp only [csum]
  unfold wtR
  rw [this]
  unfold cap
  generalize szR true e = z at *
  repeat' split
  all_goals omega
theorem wtR_flat (e : Nat) : wtR false (e + 1) = wtR false e := rfl
def αR (N : Nat) (d : Bool) (s : Nm) : Int := wtR d (N - ((s.getD 1 0).toNat - 97))
theorem αR_nm {N : Nat} {d : Bool} {i : Nat} (h : i < 30) : αR N d (nmR i) = wtR d (N - i) := by
  unfold αR nmR
  have : ([116, UInt8.ofNat (97 + i)] : Nm).getD 1 0 = UInt8.ofNat (97 + i) := rfl
  rw [this, UInt8.toNat_ofNat']
  congr 2
  omega
theorem wg_int (N : Nat) (d : Bool) (α : Nm → Int) : WG (tbl (ring N d false)) α (conT intN) 1 :=
  wg_node 2 [] intN 0 [] [] (by decide) (by simp) (by rintro ⟨_, a, h⟩; rw [ring_none nmR_int] at h; cases h) rfl (by intro j t w h; simp at h)
theorem wg_pair {P : MapS Al} {α : Nm → Int} {t : Tm} {w : Int} (h : WG P α t w) : WG P α (pairT t t) (csum 1 [w, w]) :=
  wg_node 4 [] [] 0 [t, t] [w, w] (by decide) (by simp) (by rintro ⟨⟨h, _⟩, _⟩; cases h) rfl (by
    intro j x y h1 h2
    match j, h1, h2 with
    | 0, h1, h2 => cases h1; cases h2; exact h
    | 1, h1, h2 => cases h1; cases h2; exact h
    | j + 2, h1, h2 => simp at h1)
theorem ring_w {N : Nat} {d : Bool} (hN : N ≤ 20) : ∀ (e i : Nat), i + (e + 1) = N → WG (tbl (ring N d false)) (αR N d) (nextR N false i) (wtR d e) ∧ SO (tbl (ring N d false)) (αR N d) (alR N d false i)
  | e, i, h => by
    have hnext : WG (tbl (ring N d false)) (αR N d) (nextR N false i) (wtR d e) := by
      cases e with
      | zero =>
        unfold nextR
        rw [if_pos (by omega), if_neg (by decide)]
        have : wtR d 0 = 1 := by cases d <;> rfl
        rw [this]
        exact wg_int N d _
      | succ e =>
        have ih := (ring_w (d := d) hN e (i + 1) (by omega)).2
        unfold nextR
        rw [if_neg (by omega)]
        have := wg_ali (nmR (i + 1)) 0 [] (alR N d false (i + 1)) (ring_mg hN (by omega)) ih
        have h2 : αR N d (alR N d false (i + 1)).nm = wtR d (e + 1) := by
          show αR N d (nmR (i + 1)) = _
          rw [αR_nm (by omega)]; congr 1; omega
        rw [h2] at this
        exact this
    refine ⟨hnext, so_c _ ?_⟩
    have h2 : αR N d (alR N d false i).nm = wtR d (e + 1) := by
      show αR N d (nmR i) = _
      rw [αR_nm (by omega)]; congr 1; omega
    rw [h2]
    show WG _ _ (tyR N d false i) _
    unfold tyR
    cases d with
    | true => rw [if_pos rfl, ← wtR_succ]; exact wg_pair hnext
    | false => rw [if_neg (by decide), wtR_flat]; exact hnext
theorem ex_pair {P : MapS Al} {t u : Tm} (h : EXs P t u) : EXs P (pairT t t) (pairT u u) :=
  ex_node 4 [] [] 0 [t, t] [u, u] (by simp) (by rintro ⟨⟨h, _⟩, _⟩; cases h) rfl (by
    intro j x y h1 h2
    match j, h1, h2 with
    | 0, h1, h2 => cases h1; cases h2; exact h
    | 1, h1, h2 => cases h1; cases h2; exact h
    | j + 2, h1, h2 => simp at h1)
theorem ring_e {N : Nat} {d : Bool} (hN : N ≤ 20) : ∀ (e i : Nat), i + (e + 1) = N → EXs (tbl (ring N d false)) (nextR N false i) (exR d e) ∧ EXs (tbl (ring N d false)) (conT (nmR i)) (exR d (e + 1))
  | e, i, h => by
    have hnext : EXs (tbl (ring N d false)) (nextR N false i) (exR d e) := by
      cases e with
      | zero =>
        unfold nextR
        rw [if_pos (by omega), if_neg (by decide)]
        exact ex_node 2 [] intN 0 [] [] (by simp) (by rintro ⟨_, a, h⟩; rw [ring_none nmR_int] at h; cases h) rfl (by intro j t w h; simp at h)
      | succ e =>
        unfold nextR
        rw [if_neg (by omega)]
        exact (ring_e (d := d) hN e (i + 1) (by omega)).2
    refine ⟨hnext, ex_ali (ring_mg hN (by omega)) (by have := (tyR_fit N d false i).2; omega) ?_⟩
    unfold tyR
    cases d with
    | true => exact ex_pair hnext
    | false => exact hnext
/-- Where nothing leads round, the order comes to its end. -/
theorem prog_greedy {N : List Nm} {dep : Nm → List Nm} (hp : ∀ out, Took N out → out.length < N.length → ∃ n, N.find? (rdy dep out) = some n) : ∀ (f : Nat) (out : List Nm), Took N out → out.length + f = N.length → ∃ o, greedy N dep f out = some o
  | 0, out, _, _ => ⟨out, rfl⟩
  | f + 1, out, ht, hl => by
    obtain ⟨n, hn⟩ := hp out ht (by omega)
    obtain ⟨o, h⟩ := prog_greedy hp f (out ++ [n]) (took_add ht hn) (by simp; omega)
    exact ⟨o, by rw [greedy, hn]; exact h⟩
theorem dep_ring {N : Nat} {d c : Bool} (hN : N ≤ 20) {i : Nat} (h : i < N) (x : Nm) : x ∈ dep (tbl (ring N d c)) (nmR i) ↔ x ∈ nmd (tbl (ring N d c)) (nextR N c i) := by
  unfold dep
  rw [ring_mg hN h]
  show x ∈ nmd _ (tyR N d c i) ↔ _
  unfold tyR
  cases d with
  | false => exact Iff.rfl
  | true =>
    rw [if_pos rfl]
    unfold pairT
    rw [nmd, nmdL, nmdL, nmdL]
    have : own1 (tbl (ring N true c)) 4 [] [] = [] := by
      unfold own1
      rw [ring_none (fun i => nmR_nil i)]
    rw [this]
    simp
theorem nmd_con {P : MapS Al} {s : Nm} (x : Nm) : x ∈ nmd P (conT s) ↔ x ∈ own1 P 2 [] s := by
  unfold conT
  rw [nmd, nmdL, List.append_nil]
theorem own_some {N : Nat} {d c : Bool} (hN : N ≤ 20) {j : Nat} (h : j < N) : own1 (tbl (ring N d c)) 2 [] (nmR j) = [nmR j] := by
  unfold own1
  rw [ring_mg hN h]
  rfl
theorem took0 (N : List Nm) : Took N [] := ⟨(by intro n h; cases h), by simp⟩
theorem ring_cy {N : Nat} {d c : Bool} (hN1 : 1 ≤ N) (hN : N ≤ 20) (h0 : AHeap) (hT : Tb h0 (tbl (ring N d c))) : doCall md (aval Try.prog md fg) 27 [.ptr 4 0] h0 = some (.val (.bool c), h0) := by
  have hkl : (keys (tbl (ring N d c))).length ≤ 1000 := by
    have := nodup_le (keys_nodup (ring N d c)) (b := (ring N d c).map Al.nm) (fun x hx => (keys_tbl _ _).1 hx)
    rw [List.length_map, ring_len] at this; omega
  obtain ⟨b, e, h1, h2⟩ := cyclic_c (ring_good (d := d) (c := c) hN) hT hkl
  have hbc : b = c := by
    cases c with
    | true =>
      cases b with
      | true => rfl
      | false =>
        exfalso
        obtain ⟨o, ho⟩ := prog_greedy (h2 rfl) _ [] (took0 _) (by simp; rfl)
        have hr : Ring (keys (tbl (ring N d true))) (dep (tbl (ring N d true))) := by
          refine ⟨keys (tbl (ring N d true)), ?_, fun x hx => ⟨hx, ?_⟩⟩
          · intro h
            have : nmR 0 ∈ keys (tbl (ring N d true)) := ring_key.2 ⟨0, hN1, rfl⟩
            rw [h] at this; cases this
          · obtain ⟨i, hi, rfl⟩ := ring_key.1 hx
            by_cases hl : i + 1 = N
            · refine ⟨nmR 0, ?_, ring_key.2 ⟨0, hN1, rfl⟩⟩
              rw [dep_ring hN hi]
              unfold nextR
              rw [if_pos hl, if_pos rfl, nmd_con, own_some hN hN1]; simp
            · refine ⟨nmR (i + 1), ?_, ring_key.2 ⟨i + 1, by omega, rfl⟩⟩
              rw [dep_ring hN hi]
              unfold nextR
              rw [if_neg hl, nmd_con, own_some hN (by omega)]; simp
        rw [ring_stuck hr _ [] (took0 _) (by intro C _ x _ h; cases h) (by simp) (keys_nodup _)] at ho
        cases ho
    | false =>
      cases b with
      | false => rfl
      | true =>
        exfalso
        have hg := h1 rfl
        have hp : ∀ out, Took (keys (tbl (ring N d false))) out → out.length < (keys (tbl (ring N d false))).length → ∃ n, (keys (tbl (ring N d false))).find? (rdy (dep (tbl (ring N d false))) out) = some n := by
          intro out ht hl
          have key : ∀ k i, i + k = N → (∀ j, i ≤ j → j < N → nmR j ∈ out) → ∃ q, q < N ∧ nmR q ∉ out ∧ ∀ j, q < j → j < N → nmR j ∈ out := by
            intro k
            have aux : ∀ i, i ≤ N → (∀ j, i ≤ j → j < N → nmR j ∈ out) → ∃ q, q < N ∧ nmR q ∉ out ∧ ∀ j, q < j → j < N → nmR j ∈ out := by
              intro i
              induction i with
              | zero =>
                intro _ hall
                exfalso
                have : ∀ n ∈ keys (tbl (ring N d false)), n ∈ out := fun n hn => by
                  obtain ⟨j, hj, rfl⟩ := ring_key.1 hn
                  exact hall j (Nat.zero_le _) hj
                have := (took_all (keys_nodup _) ht).1 this
                omega
              | succ i ih =>
                intro hi hall
                by_cases hm : nmR i ∈ out
                · refine ih (by omega) (fun j hj1 hj2 => ?_)
                  by_cases hji : j = i
                  · rw [hji]; exact hm
                  · exact hall j (by omega) hj2
                · exact ⟨i, by omega, hm, fun j hj1 hj2 => hall j (by omega) hj2⟩
            intro i hi hall
            exact aux i (by omega) hall
          obtain ⟨q, q1, q2, q3⟩ := key 0 N (by omega) (fun j h1 h2 => by omega)
          refine find_some ⟨nmR q, ring_key.2 ⟨q, q1, rfl⟩, rdy_iff.2 ⟨q2, fun x hx => ?_⟩⟩
          rw [dep_ring hN q1] at hx
          unfold nextR at hx
          by_cases hl2 : q + 1 = N
          · rw [if_pos hl2, if_neg (by decide), nmd_con] at hx
            unfold own1 at hx
            rw [ring_none nmR_int] at hx
            cases hx
          · rw [if_neg hl2, nmd_con, own_some hN (by omega)] at hx
            rw [List.mem_singleton.1 hx]
            exact q3 (q + 1) (by omega) (by omega)
        obtain ⟨o, ho⟩ := prog_greedy hp _ [] (took0 _) (by simp; rfl)
        rw [hg] at ho; cases ho
  rw [hbc] at e
  exact e
/-- What Type answers. -/
theorem ring_type {N : Nat} {d c : Bool} (hN1 : 1 ≤ N) (hN : N ≤ 20) :
    pcall Try.prog md fg 15 [tmV (conT (nmR 0)), .slc false ((ring N d c).map alV)] = some (.tup [tmV (tyAns c (wtR d N) (exR d N)).1, .int (tyAns c (wtR d N) (exR d N)).2]) := by
  obtain ⟨e, he⟩ : ∃ e, N = e + 1 := ⟨N - 1, by omega⟩
  refine type_p (by rw [ring_len]; omega) (conT (nmR 0)) (exR d N) (α := αR N d) (fun h0 hT => ring_cy hN1 hN h0 hT) (fun hc => ?_) (fun hc _ => ?_)
  · subst hc
    have h := wg_ali (nmR 0) 0 [] (alR N d false 0) (ring_mg hN hN1) (ring_w (d := d) hN e 0 (by omega)).2
    have h2 : αR N d (alR N d false 0).nm = wtR d N := by
      show αR N d (nmR 0) = _
      rw [αR_nm (by omega)]; rfl
    rw [h2] at h
    exact h
  · subst hc
    have := (ring_e (d := d) hN e 0 (by omega)).2
    rw [← he] at this
    exact this
theorem big_iff (d : Bool) (N : Nat) : 1000 < wtR d N ↔ 1000 < (szR d N : Int) := by
  unfold wtR cap
  split <;> omega
end Go.Proofs.Ytgijlgdhogbgbaa
namespace Go.Proofs.Ytgijlgdhogbgbaa
open Go Go.Ab Go.Proofs
set_option maxRecDepth 100000
set_option linter.unusedSimpArgs false
set_option linter.unusedVariables false
/-- An alias as it is built: its Params are nil. -/
def alW (a : Al) : AV := .agg [sV a.nm, .slc true [], .int a.ty.kind, .str (txt a.ty.pkg), .str (txt a.ty.name), .int a.ty.n, .slc false (a.ty.kids.map tmV)]
theorem alW_mk (s : Nm) (k : Int) (p m : Nm) (n : Int) (l : List Tm) : alW ⟨s, [], k, p, m, n, l⟩ = .agg [sV s, .slc true [], .int k, .str (txt p), .str (txt m), .int n, .slc false (l.map tmV)] := rfl
theorem alW_exp (h : AHeap) (d : Nat) (s : Nm) (t : Tm) : exp1 h (d + 2) (alW ⟨s, [], t⟩) = some (alV ⟨s, [], t⟩, []) := by
  obtain ⟨k, p, m, n, l⟩ := t
  rw [alW_mk, alV_mk]
  have h2 : exp1 h (d + 1) (.slc true []) = some (.slc false [], []) := rfl
  have h3 : exp1 h (d + 1) (.slc false (l.map tmV)) = some (.slc false (l.map tmV), []) := exp1_solid (by simp only [solid, solid_tmL, Bool.not_false, Bool.true_and])
  have hb : ∀ a : Value, exp1 h (d + 1) (.val a) = some (.val a, []) := fun a => rfl
  rw [exp1]
  simp only [solid, solidL, Bool.not_true, Bool.false_and, Bool.and_false, Bool.true_and, if_false, Bool.false_eq_true, expL, hb, h2, h3, List.nil_append, List.append_nil, Option.map_some, List.map_nil]
theorem alW_expL (h : AHeap) (d : Nat) : ∀ l : List Al, (∀ a ∈ l, a.ps = []) → expL (exp1 h (d + 2)) (l.map alW) = some (l.map alV, [])
  | [], _ => rfl
  | a :: r, hp => by
    obtain ⟨s, ps, t⟩ := a
    have : ps = [] := hp ⟨s, ps, t⟩ (by simp)
    subst this
    rw [List.map_cons, List.map_cons, expL, alW_exp, alW_expL h d r (fun x hx => hp x (by simp [hx]))]
    rfl
/-- The aliases built so far. -/
def LW (h : AHeap) (v : AV) (l : List Al) : Prop := (l = [] ∧ v = .slc true []) ∨ ∃ k g, v = .arr k 0 l.length g 7 ∧ hget h k = .arr 7 (l.map alW) g
theorem lw_app2 {h : AHeap} {v : AV} {l : List Al} (hl : LW h v l) (j : AHeap) : LW (h ++ j) v l := by
  rcases hl with h1 | ⟨k, g, h1, h2⟩
  · exact .inl h1
  · exact .inr ⟨k, g, h1, by rw [hget_app j (hlt_of h2 (by simp))]; exact h2⟩
theorem lw_set2 {h : AHeap} {v : AV} {l : List Al} (hl : LW h v l) {i : Nat} {cs : List AV} {o : AObj} (hi : hget h i = .vars cs) : LW (h.set i o) v l := by
  rcases hl with h1 | ⟨k, g, h1, h2⟩
  · exact .inl h1
  · exact .inr ⟨k, g, h1, by rw [hget_set_ne (by rintro rfl; rw [hi] at h2; cases h2)]; exact h2⟩
theorem headOk_W (l : List Al) : headOk 7 (l.map alW) = true := by cases l <;> rfl
theorem lw_add {h : AHeap} {v : AV} {l : List Al} (hl : LW h v l) (hn : l.length ≤ 1000) (a : Al) : ∃ v' h', (∀ z, appT (some (7, 112, z)) h v (some [alW a]) = some (v', h')) ∧ LW h' v' (l ++ [a]) ∧ ∀ j cs, hget h j = .vars cs → hget h' j = .vars cs := by
  rcases hl with ⟨rfl, rfl⟩ | ⟨k, g, rfl, h2⟩
  · exact ⟨_, _, fun z => appT_slc _ _ _ _ _ (headOk_W [a]) rfl (by simp) (by simp), .inr ⟨h.length, 0, by simp, by rw [hget_last]; rfl⟩, fun j cs e => by rw [hget_app _ (hlt_of e (by simp))]; exact e⟩
  · exact ⟨_, _, fun z => appT_arr _ _ _ _ _ _ _ _ h2 (by simp) (headOk_W [a]) (by simp; omega), .inr ⟨k, g + 1, by simp, by rw [hget_set_eq (hlt_of h2 (by simp))]; simp⟩, fun j cs e => by rw [hget_set_ne (by rintro rfl; rw [h2] at e; cases e)]; exact e⟩
theorem lw_exp {h : AHeap} {v : AV} {l : List Al} (hl : LW h v l) (hp : ∀ a ∈ l, a.ps = []) : ∃ ids, exp1 h expDepth v = some (.slc false (l.map alV), ids) ∧ canFrz h ids = true := by
  rcases hl with ⟨rfl, rfl⟩ | ⟨k, g, rfl, h2⟩
  · exact ⟨[], rfl, rfl⟩
  · refine ⟨[k], ?_, by simp [canFrz, h2]⟩
    have hv : sview h (.arr k 0 l.length g 7) = some (l.map alW) := sview_arr _ _ _ _ _ h2 (by simp)
    have key : ∀ d, exp1 h (d + 2 + 1) (.arr k 0 l.length g 7) = some (.slc false (l.map alV), [k]) := fun d => by
      rw [exp1]
      simp only [solid, Bool.false_eq_true, if_false, hv, alW_expL h d l hp, Option.map_some]
    exact key 57
theorem doCall_frz1 {f : FuncId} {xs ys : List AV} {ids : List Nat} {h : AHeap} {r : AV} (hm : md f = 0) (hs : expL (exp1 h expDepth) xs = some (ys, ids)) (hc : canFrz h ids = true) (e : pcall Try.prog md fg f ys = some r) : ∃ h', doCall md (aval Try.prog md fg) f xs h = some (r, h') := by
  rw [doCall_0 (by omega)]; unfold doCall0
  rw [if_pos (.inl hm), hs]
  simp only [hc, if_true]
  rw [← pcall_eq, e]
  exact ⟨_, rfl⟩
theorem callable_22 : callable Try.prog 22 = true := by kernel_rfl
theorem eff_tmp {P : Program} {md : FuncId → Nat} {d : Option Tmp} {ty : TypeId} {pos : String} {aft : Array Edge} {g : Option (Nat × Bool)} (t : Tmp) (xs : Array Operand) (ts : Array TypeId) : effOp P md ⟨d, .call ⟨.value (.tmp t), xs, ts⟩, ty, pos, aft, g⟩ = true := rfl
theorem callD_tmp {d : Option Tmp} {ty : TypeId} {pos : String} {aft : Array Edge} {g : Option (Nat × Bool)} {env : Env} (t : Tmp) (xs : Array Operand) (ts : Array TypeId) (h0 : AHeap) (v : AV) (h' : AHeap) (k : Env → AHeap → Option (Env × AHeap)) : callD Try.prog md ⟨d, .call ⟨.value (.tmp t), xs, ts⟩, ty, pos, aft, g⟩ h0 (some (v, h')) d k env = k (aput env d v) h' := callD_eff _ _ _ _ _ rfl
theorem int_str : (⟨#[105, 110, 116]⟩ : ByteArray) = txt intN := rfl
end Go.Proofs.Ytgijlgdhogbgbaa
namespace Go.Proofs.Ytgijlgdhogbgbaa
open Go Go.Ab Go.Proofs
set_option maxRecDepth 100000
set_option linter.unusedSimpArgs false
set_option linter.unusedVariables false
set_option maxHeartbeats 16000000 in
theorem ring_loop (N : Nat) (hN : N ≤ 20) (d c : Bool) : ∀ (k i : Nat) (v : AV) (H : AHeap), i + k = N → LW H v ((List.range i).map (alR N d c)) → ∃ v' H', LW H' v' (ring N d c) ∧
    lrun Try.prog md fg (fg 6) (loopOf Try.f6 0) (fg 6 1) (((.int N) :: (.val (.bool d)) :: (.val (.bool c)) :: .unk :: .unk :: .unk :: .unk :: (.clo 22 [] []) :: (v) :: (.int i) :: .unk :: .unk :: .unk :: .unk :: .unk :: .unk :: .unk :: .unk :: .unk :: .unk :: .unk :: .unk :: .unk :: .unk :: .unk :: .unk :: .unk :: .unk :: .unk :: .unk :: .unk :: .unk :: .unk :: .unk :: .unk :: .unk :: .unk :: .unk :: .unk :: .unk :: .unk :: .unk :: .unk :: .unk :: .unk :: .unk :: .unk :: .unk :: .unk :: .unk :: .unk :: .unk :: .unk :: .unk :: .unk :: .unk :: .unk :: .unk :: .unk :: .unk :: .unk :: .unk :: .unk :: .unk :: .unk :: .unk :: .unk :: .unk :: .unk :: .unk :: .unk :: .unk :: .unk :: .unk :: .unk :: .unk :: .unk :: .unk :: .unk :: .unk :: .unk :: .unk :: .unk :: .unk :: .unk :: .unk :: .unk :: .unk :: .unk :: .unk :: .unk :: .unk :: .unk :: .unk :: .unk :: .unk :: .unk :: .unk :: .unk :: .unk :: .unk :: .unk :: [] : List AV)) H = some (.exit 0, ((.int N) :: (.val (.bool d)) :: (.val (.bool c)) :: .unk :: .unk :: .unk :: .unk :: (.clo 22 [] []) :: (v') :: (.int N) :: .unk :: .unk :: .unk :: .unk :: .unk :: .unk :: .unk :: .unk :: .unk :: .unk :: .unk :: .unk :: .unk :: .unk :: .unk :: .unk :: .unk :: .unk :: .unk :: .unk :: .unk :: .unk :: .unk :: .unk :: .unk :: .unk :: .unk :: .unk :: .unk :: .unk :: .unk :: .unk :: .unk :: .unk :: .unk :: .unk :: .unk :: .unk :: .unk :: .unk :: .unk :: .unk :: .unk :: .unk :: .unk :: .unk :: .unk :: .unk :: .unk :: .unk :: .unk :: .unk :: .unk :: .unk :: .unk :: .unk :: .unk :: .unk :: .unk :: .unk :: .unk :: .unk :: .unk :: .unk :: .unk :: .unk :: .unk :: .unk :: .unk :: .unk :: .unk :: .unk :: .unk :: .unk :: .unk :: .unk :: .unk :: .unk :: .unk :: .unk :: .unk :: .unk :: .unk :: .unk :: .unk :: .unk :: .unk :: .unk :: .unk :: .unk :: .unk :: .unk :: [] : List AV), H')
  | 0, i, v, H, hik, hv => by
    have : i = N := by omega
    subst this
    refine ⟨v, H, hv, ?_⟩
    rw [lrun_atC loop6_0]
    simp (implicitDefEqProofs := false) (disch := omega) only [go_sem, Nat.reduceAdd, Nat.reduceSub, Nat.reduceMul, Nat.reduceLT, Nat.reduceLeDiff, Nat.reduceEqDiff, List.drop_zero, List.take_succ_cons, List.take_zero, List.drop_succ_cons, Bool.and_true, Bool.true_and, Bool.and_false, Bool.false_and, BitVec.reduceOfInt, Nat.zero_add, Nat.mul_one, Nat.add_zero, Int.zero_add, Int.reduceToNat, Nat.reducePow, ↓reduceIte, reduceCtorEq, Int.reduceLE, Int.reduceLT, Int.reduceEq, Int.reduceNe, Int.reduceAdd, Int.reduceSub, Int.reduceMul, Int.reduceNeg, Nat.reduceBEq, show regOf Try.f6 5 = Code.region _ _ _ from rfl]
  | k + 1, i, v, H, hik, hv => by
    have hi20 : i < 20 := by omega
    have cn0 := name_c 0 (by omega)
    have cn1 : ∀ h, doCall md (aval Try.prog md fg) 22 [.int ((i : Int) + 1)] h = some (.val (.string (txt (nmR (i + 1)))), h) := name_c (i + 1) (by omega)
    have cni := name_c i (by omega)
    simp only [Int.natCast_zero] at cn0
    have cc0 := con_c (nmR 0)
    have cc1 := con_c (nmR (i + 1))
    have cci := con_c intN
    have cp := pair_c (nextR N c i) (nextR N c i)
    have hwl : (List.range (i + 1)).map (alR N d c) = (List.range i).map (alR N d c) ++ [alR N d c i] := by rw [List.range_succ, List.map_append]; rfl
    have hty : alR N d c i = ⟨nmR i, [], tyR N d c i⟩ := rfl
    have main : ∀ (T : Tm), tyR N d c i = T → ∀ G : AHeap, LW (G) v ((List.range i).map (alR N d c)) → ∃ v1 H1, (∀ z, appT (some (7, 112, z)) G v (some [alW ⟨nmR i, [], T⟩]) = some (v1, H1)) ∧ LW H1 v1 ((List.range (i + 1)).map (alR N d c)) ∧ ∀ j cs, hget G j = .vars cs → hget H1 j = .vars cs := by
      intro T hT G hG
      obtain ⟨v1, H1, x1, x2, x3⟩ := lw_add hG (by simp; omega) (alR N d c i)
      rw [hty, hT] at x1
      exact ⟨v1, H1, x1, by rw [hwl]; exact x2, x3⟩
    unfold conT at cc0 cc1 cci
    rw [tmV_mk, List.map_nil] at cc0 cc1 cci
    by_cases hl : i + 1 = N
    · have hl' : ((i : Int) = (N : Int) - 1) = True := by simp; omega
      cases c with
      | false =>
        cases d with
        | false =>
          have hn : nextR N false i = ⟨2, [], intN, 0, []⟩ := by unfold nextR; rw [if_pos hl, if_neg (by decide)]; rfl
          have hT : tyR N false false i = ⟨2, [], intN, 0, []⟩ := by unfold tyR; rw [if_neg (by decide), hn]
          obtain ⟨v1, H1, x1, x2, x3⟩ := main _ hT (H ++ [.vars [.int 2, .str (txt []), .str (txt intN), .int 0, .slc false []]]) (lw_app2 hv _)
          obtain ⟨v', H', y1, y2⟩ := ring_loop N hN false false k (i + 1) v1 H1 (by omega) x2
          refine ⟨v', H', y1, ?_⟩
          have x4 := x3 H.length _ hget_last
          rw [alW_mk] at x1
          rw [List.map_nil] at x1
          rw [← y2]
          rw [lrun_atC loop6_0]
          simp (implicitDefEqProofs := false) (disch := first | omega | exact List.length_set) only [go_sem, Nat.reduceAdd, Nat.reduceSub, Nat.reduceMul, Nat.reduceLT, Nat.reduceLeDiff, Nat.reduceEqDiff, List.drop_zero, List.take_succ_cons, List.take_zero, List.drop_succ_cons, Bool.and_true, Bool.true_and, Bool.and_false, Bool.false_and, BitVec.reduceOfInt, Nat.zero_add, Nat.mul_one, Nat.add_zero, Int.zero_add, Int.reduceToNat, Nat.reducePow, ↓reduceIte, reduceCtorEq, Int.reduceLE, Int.reduceLT, Int.reduceEq, Int.reduceNe, Int.reduceAdd, Int.reduceSub, Int.reduceMul, Int.reduceNeg, Nat.reduceBEq, show regOf Try.f6 5 = Code.region _ _ _ from rfl, show regOf Try.f6 7 = Code.region _ _ _ from rfl, show regOf Try.f6 8 = Code.region _ _ _ from rfl, show regOf Try.f6 9 = Code.region _ _ _ from rfl, show regOf Try.f6 10 = Code.region _ _ _ from rfl, show regOf Try.f6 12 = Code.region _ _ _ from rfl, show regOf Try.f6 14 = Code.region _ _ _ from rfl, show regOf Try.f6 6 = Code.region _ _ _ from rfl, callable_22, int_str, cni, cn0, cn1, cc0, cc1, cci, cp, hl', hget_last, set_last, x1, x4, List.nil_append, List.append_nil, eff_tmp, callD_tmp, thenDraw_append, ↓tail_nil, ↓subs_nil_all, ↓List.forall_mem_cons, ↓all_nil, Bool.true_or, killAt_nil]
          all_goals (congr 1 <;> simp only [List.cons.injEq, AV.val.injEq, Value.int.injEq, Value.bool.injEq, true_and, and_true] <;> omega)
        | true =>
          have hn : nextR N false i = ⟨2, [], intN, 0, []⟩ := by unfold nextR; rw [if_pos hl, if_neg (by decide)]; rfl
          have hT : tyR N true false i = ⟨4, [], [], 0, [⟨2, [], intN, 0, []⟩, ⟨2, [], intN, 0, []⟩]⟩ := by unfold tyR; rw [if_pos rfl, hn]; rfl
          rw [hn] at cp
          unfold pairT at cp
          simp only [tmV_mk] at cp
          obtain ⟨v1, H1, x1, x2, x3⟩ := main _ hT (H ++ [.vars [.int 4, .str (txt []), .str (txt []), .int 0, .slc false ([⟨2, [], intN, 0, []⟩, ⟨2, [], intN, 0, []⟩].map tmV)]]) (lw_app2 hv _)
          obtain ⟨v', H', y1, y2⟩ := ring_loop N hN true false k (i + 1) v1 H1 (by omega) x2
          refine ⟨v', H', y1, ?_⟩
          have x4 := x3 H.length _ hget_last
          rw [alW_mk] at x1
          generalize hL : ([⟨2, [], intN, 0, []⟩, ⟨2, [], intN, 0, []⟩] : List Tm).map tmV = L at *
          simp only [List.map_nil] at cp
          rw [← y2]
          rw [lrun_atC loop6_0]
          simp (implicitDefEqProofs := false) (disch := first | omega | exact List.length_set) only [go_sem, Nat.reduceAdd, Nat.reduceSub, Nat.reduceMul, Nat.reduceLT, Nat.reduceLeDiff, Nat.reduceEqDiff, List.drop_zero, List.take_succ_cons, List.take_zero, List.drop_succ_cons, Bool.and_true, Bool.true_and, Bool.and_false, Bool.false_and, BitVec.reduceOfInt, Nat.zero_add, Nat.mul_one, Nat.add_zero, Int.zero_add, Int.reduceToNat, Nat.reducePow, ↓reduceIte, reduceCtorEq, Int.reduceLE, Int.reduceLT, Int.reduceEq, Int.reduceNe, Int.reduceAdd, Int.reduceSub, Int.reduceMul, Int.reduceNeg, Nat.reduceBEq, show regOf Try.f6 5 = Code.region _ _ _ from rfl, show regOf Try.f6 7 = Code.region _ _ _ from rfl, show regOf Try.f6 8 = Code.region _ _ _ from rfl, show regOf Try.f6 9 = Code.region _ _ _ from rfl, show regOf Try.f6 10 = Code.region _ _ _ from rfl, show regOf Try.f6 12 = Code.region _ _ _ from rfl, show regOf Try.f6 13 = Code.region _ _ _ from rfl, show regOf Try.f6 14 = Code.region _ _ _ from rfl, show regOf Try.f6 6 = Code.region _ _ _ from rfl, callable_22, int_str, cni, cn0, cn1, cc0, cc1, cci, cp, hl', hget_last, set_last, x1, x4, List.nil_append, List.append_nil, eff_tmp, callD_tmp, thenDraw_append, ↓tail_nil, ↓subs_nil_all, ↓List.forall_mem_cons, ↓all_nil, Bool.true_or, killAt_nil]
          all_goals (congr 1 <;> simp only [List.cons.injEq, AV.val.injEq, Value.int.injEq, Value.bool.injEq, true_and, and_true] <;> omega)
      | true =>
        cases d with
        | false =>
          have hn : nextR N true i = ⟨2, [], (nmR 0), 0, []⟩ := by unfold nextR; rw [if_pos hl, if_pos rfl]; rfl
          have hT : tyR N false true i = ⟨2, [], (nmR 0), 0, []⟩ := by unfold tyR; rw [if_neg (by decide), hn]
          obtain ⟨v1, H1, x1, x2, x3⟩ := main _ hT (H ++ [.vars [.int 2, .str (txt []), .str (txt (nmR 0)), .int 0, .slc false []]]) (lw_app2 hv _)
          obtain ⟨v', H', y1, y2⟩ := ring_loop N hN false true k (i + 1) v1 H1 (by omega) x2
          refine ⟨v', H', y1, ?_⟩
          have x4 := x3 H.length _ hget_last
          rw [alW_mk] at x1
          rw [List.map_nil] at x1
          rw [← y2]
          rw [lrun_atC loop6_0]
          simp (implicitDefEqProofs := false) (disch := first | omega | exact List.length_set) only [go_sem, Nat.reduceAdd, Nat.reduceSub, Nat.reduceMul, Nat.reduceLT, Nat.reduceLeDiff, Nat.reduceEqDiff, List.drop_zero, List.take_succ_cons, List.take_zero, List.drop_succ_cons, Bool.and_true, Bool.true_and, Bool.and_false, Bool.false_and, BitVec.reduceOfInt, Nat.zero_add, Nat.mul_one, Nat.add_zero, Int.zero_add, Int.reduceToNat, Nat.reducePow, ↓reduceIte, reduceCtorEq, Int.reduceLE, Int.reduceLT, Int.reduceEq, Int.reduceNe, Int.reduceAdd, Int.reduceSub, Int.reduceMul, Int.reduceNeg, Nat.reduceBEq, show regOf Try.f6 5 = Code.region _ _ _ from rfl, show regOf Try.f6 7 = Code.region _ _ _ from rfl, show regOf Try.f6 8 = Code.region _ _ _ from rfl, show regOf Try.f6 9 = Code.region _ _ _ from rfl, show regOf Try.f6 10 = Code.region _ _ _ from rfl, show regOf Try.f6 11 = Code.region _ _ _ from rfl, show regOf Try.f6 12 = Code.region _ _ _ from rfl, show regOf Try.f6 14 = Code.region _ _ _ from rfl, show regOf Try.f6 6 = Code.region _ _ _ from rfl, callable_22, int_str, cni, cn0, cn1, cc0, cc1, cci, cp, hl', hget_last, set_last, x1, x4, List.nil_append, List.append_nil, eff_tmp, callD_tmp, thenDraw_append, ↓tail_nil, ↓subs_nil_all, ↓List.forall_mem_cons, ↓all_nil, Bool.true_or, killAt_nil]
          all_goals (congr 1 <;> simp only [List.cons.injEq, AV.val.injEq, Value.int.injEq, Value.bool.injEq, true_and, and_true] <;> omega)
        | true =>
          have hn : nextR N true i = ⟨2, [], (nmR 0), 0, []⟩ := by unfold nextR; rw [if_pos hl, if_pos rfl]; rfl
          have hT : tyR N true true i = ⟨4, [], [], 0, [⟨2, [], (nmR 0), 0, []⟩, ⟨2, [], (nmR 0), 0, []⟩]⟩ := by unfold tyR; rw [if_pos rfl, hn]; rfl
          rw [hn] at cp
          unfold pairT at cp
          simp only [tmV_mk] at cp
          obtain ⟨v1, H1, x1, x2, x3⟩ := main _ hT (H ++ [.vars [.int 4, .str (txt []), .str (txt []), .int 0, .slc false ([⟨2, [], (nmR 0), 0, []⟩, ⟨2, [], (nmR 0), 0, []⟩].map tmV)]]) (lw_app2 hv _)
          obtain ⟨v', H', y1, y2⟩ := ring_loop N hN true true k (i + 1) v1 H1 (by omega) x2
          refine ⟨v', H', y1, ?_⟩
          have x4 := x3 H.length _ hget_last
          rw [alW_mk] at x1
          generalize hL : ([⟨2, [], (nmR 0), 0, []⟩, ⟨2, [], (nmR 0), 0, []⟩] : List Tm).map tmV = L at *
          simp only [List.map_nil] at cp
          rw [← y2]
          rw [lrun_atC loop6_0]
          simp (implicitDefEqProofs := false) (disch := first | omega | exact List.length_set) only [go_sem, Nat.reduceAdd, Nat.reduceSub, Nat.reduceMul, Nat.reduceLT, Nat.reduceLeDiff, Nat.reduceEqDiff, List.drop_zero, List.take_succ_cons, List.take_zero, List.drop_succ_cons, Bool.and_true, Bool.true_and, Bool.and_false, Bool.false_and, BitVec.reduceOfInt, Nat.zero_add, Nat.mul_one, Nat.add_zero, Int.zero_add, Int.reduceToNat, Nat.reducePow, ↓reduceIte, reduceCtorEq, Int.reduceLE, Int.reduceLT, Int.reduceEq, Int.reduceNe, Int.reduceAdd, Int.reduceSub, Int.reduceMul, Int.reduceNeg, Nat.reduceBEq, show regOf Try.f6 5 = Code.region _ _ _ from rfl, show regOf Try.f6 7 = Code.region _ _ _ from rfl, show regOf Try.f6 8 = Code.region _ _ _ from rfl, show regOf Try.f6 9 = Code.region _ _ _ from rfl, show regOf Try.f6 10 = Code.region _ _ _ from rfl, show regOf Try.f6 11 = Code.region _ _ _ from rfl, show regOf Try.f6 12 = Code.region _ _ _ from rfl, show regOf Try.f6 13 = Code.region _ _ _ from rfl, show regOf Try.f6 14 = Code.region _ _ _ from rfl, show regOf Try.f6 6 = Code.region _ _ _ from rfl, callable_22, int_str, cni, cn0, cn1, cc0, cc1, cci, cp, hl', hget_last, set_last, x1, x4, List.nil_append, List.append_nil, eff_tmp, callD_tmp, thenDraw_append, ↓tail_nil, ↓subs_nil_all, ↓List.forall_mem_cons, ↓all_nil, Bool.true_or, killAt_nil]
          all_goals (congr 1 <;> simp only [List.cons.injEq, AV.val.injEq, Value.int.injEq, Value.bool.injEq, true_and, and_true] <;> omega)
    · have hl' : ((i : Int) = (N : Int) - 1) = False := by simp; omega
      cases d with
      | false =>
        have hn : nextR N c i = ⟨2, [], (nmR (i + 1)), 0, []⟩ := by unfold nextR; rw [if_neg hl]; rfl
        have hT : tyR N false c i = ⟨2, [], (nmR (i + 1)), 0, []⟩ := by unfold tyR; rw [if_neg (by decide), hn]
        obtain ⟨v1, H1, x1, x2, x3⟩ := main _ hT (H ++ [.vars [.int 2, .str (txt []), .str (txt (nmR (i + 1))), .int 0, .slc false []]]) (lw_app2 hv _)
        obtain ⟨v', H', y1, y2⟩ := ring_loop N hN false c k (i + 1) v1 H1 (by omega) x2
        refine ⟨v', H', y1, ?_⟩
        have x4 := x3 H.length _ hget_last
        rw [alW_mk] at x1
        rw [List.map_nil] at x1
        rw [← y2]
        rw [lrun_atC loop6_0]
        simp (implicitDefEqProofs := false) (disch := first | omega | exact List.length_set) only [go_sem, Nat.reduceAdd, Nat.reduceSub, Nat.reduceMul, Nat.reduceLT, Nat.reduceLeDiff, Nat.reduceEqDiff, List.drop_zero, List.take_succ_cons, List.take_zero, List.drop_succ_cons, Bool.and_true, Bool.true_and, Bool.and_false, Bool.false_and, BitVec.reduceOfInt, Nat.zero_add, Nat.mul_one, Nat.add_zero, Int.zero_add, Int.reduceToNat, Nat.reducePow, ↓reduceIte, reduceCtorEq, Int.reduceLE, Int.reduceLT, Int.reduceEq, Int.reduceNe, Int.reduceAdd, Int.reduceSub, Int.reduceMul, Int.reduceNeg, Nat.reduceBEq, show regOf Try.f6 5 = Code.region _ _ _ from rfl, show regOf Try.f6 7 = Code.region _ _ _ from rfl, show regOf Try.f6 8 = Code.region _ _ _ from rfl, show regOf Try.f6 12 = Code.region _ _ _ from rfl, show regOf Try.f6 14 = Code.region _ _ _ from rfl, show regOf Try.f6 6 = Code.region _ _ _ from rfl, callable_22, int_str, cni, cn0, cn1, cc0, cc1, cci, cp, hl', hget_last, set_last, x1, x4, List.nil_append, List.append_nil, eff_tmp, callD_tmp, thenDraw_append, ↓tail_nil, ↓subs_nil_all, ↓List.forall_mem_cons, ↓all_nil, Bool.true_or, killAt_nil]
        all_goals (congr 1 <;> simp only [List.cons.injEq, AV.val.injEq, Value.int.injEq, Value.bool.injEq, true_and, and_true] <;> omega)
      | true =>
        have hn : nextR N c i = ⟨2, [], (nmR (i + 1)), 0, []⟩ := by unfold nextR; rw [if_neg hl]; rfl
        have hT : tyR N true c i = ⟨4, [], [], 0, [⟨2, [], (nmR (i + 1)), 0, []⟩, ⟨2, [], (nmR (i + 1)), 0, []⟩]⟩ := by unfold tyR; rw [if_pos rfl, hn]; rfl
        rw [hn] at cp
        unfold pairT at cp
        simp only [tmV_mk] at cp
        obtain ⟨v1, H1, x1, x2, x3⟩ := main _ hT (H ++ [.vars [.int 4, .str (txt []), .str (txt []), .int 0, .slc false ([⟨2, [], (nmR (i + 1)), 0, []⟩, ⟨2, [], (nmR (i + 1)), 0, []⟩].map tmV)]]) (lw_app2 hv _)
        obtain ⟨v', H', y1, y2⟩ := ring_loop N hN true c k (i + 1) v1 H1 (by omega) x2
        refine ⟨v', H', y1, ?_⟩
        have x4 := x3 H.length _ hget_last
        rw [alW_mk] at x1
        generalize hL : ([⟨2, [], (nmR (i + 1)), 0, []⟩, ⟨2, [], (nmR (i + 1)), 0, []⟩] : List Tm).map tmV = L at *
        simp only [List.map_nil] at cp
        rw [← y2]
        rw [lrun_atC loop6_0]
        simp (implicitDefEqProofs := false) (disch := first | omega | exact List.length_set) only [go_sem, Nat.reduceAdd, Nat.reduceSub, Nat.reduceMul, Nat.reduceLT, Nat.reduceLeDiff, Nat.reduceEqDiff, List.drop_zero, List.take_succ_cons, List.take_zero, List.drop_succ_cons, Bool.and_true, Bool.true_and, Bool.and_false, Bool.false_and, BitVec.reduceOfInt, Nat.zero_add, Nat.mul_one, Nat.add_zero, Int.zero_add, Int.reduceToNat, Nat.reducePow, ↓reduceIte, reduceCtorEq, Int.reduceLE, Int.reduceLT, Int.reduceEq, Int.reduceNe, Int.reduceAdd, Int.reduceSub, Int.reduceMul, Int.reduceNeg, Nat.reduceBEq, show regOf Try.f6 5 = Code.region _ _ _ from rfl, show regOf Try.f6 7 = Code.region _ _ _ from rfl, show regOf Try.f6 8 = Code.region _ _ _ from rfl, show regOf Try.f6 12 = Code.region _ _ _ from rfl, show regOf Try.f6 13 = Code.region _ _ _ from rfl, show regOf Try.f6 14 = Code.region _ _ _ from rfl, show regOf Try.f6 6 = Code.region _ _ _ from rfl, callable_22, int_str, cni, cn0, cn1, cc0, cc1, cci, cp, hl', hget_last, set_last, x1, x4, List.nil_append, List.append_nil, eff_tmp, callD_tmp, thenDraw_append, ↓tail_nil, ↓subs_nil_all, ↓List.forall_mem_cons, ↓all_nil, Bool.true_or, killAt_nil]
        all_goals (congr 1 <;> simp only [List.cons.injEq, AV.val.injEq, Value.int.injEq, Value.bool.injEq, true_and, and_true] <;> omega)
end Go.Proofs.Ytgijlgdhogbgbaa
namespace Go.Proofs.Ytgijlgdhogbgbaa
open Go Go.Ab Go.Proofs
set_option maxRecDepth 100000
set_option linter.unusedSimpArgs false
set_option linter.unusedVariables false
theorem szR_le : ∀ e, szR true e + 1 ≤ 2 ^ (e + 1)
  | 0 => by decide
  | e + 1 => by
    have := szR_le e
    have h : szR true (e + 1) = 2 * szR true e + 1 := rfl
    rw [h, Nat.pow_succ]; omega
theorem szR_false : ∀ e, szR false e = 1
  | 0 => rfl
  | e + 1 => szR_false e
theorem szR_b {e : Nat} (h : e ≤ 20) : szR true e ≤ 2097152 := by
  have h1 := szR_le e
  have h2 : 2 ^ (e + 1) ≤ 2 ^ 21 := Nat.pow_le_pow_right (by decide) (by omega)
  have h3 : (2 : Nat) ^ 21 = 2097152 := by decide
  omega
theorem s_loop (N : Nat) (hN : N ≤ 20) (a11 a12 : AV) (H : AHeap) : ∀ (k i : Nat), i + k = N →
    lrun Try.prog md fg (fg 6) (loopOf Try.f6 2) (fg 6 3) (((.int N) :: (.val (.bool true)) :: .unk :: .unk :: .unk :: .unk :: .unk :: .unk :: .unk :: .unk :: .unk :: (a11) :: (a12) :: (.int (szR true i)) :: (.int i) :: .unk :: .unk :: .unk :: .unk :: .unk :: .unk :: .unk :: .unk :: .unk :: .unk :: .unk :: .unk :: .unk :: .unk :: .unk :: .unk :: .unk :: .unk :: .unk :: .unk :: .unk :: .unk :: .unk :: .unk :: .unk :: .unk :: .unk :: .unk :: .unk :: .unk :: .unk :: .unk :: .unk :: .unk :: .unk :: .unk :: .unk :: .unk :: .unk :: .unk :: .unk :: .unk :: .unk :: .unk :: .unk :: .unk :: .unk :: .unk :: .unk :: .unk :: .unk :: .unk :: .unk :: .unk :: .unk :: .unk :: .unk :: .unk :: .unk :: .unk :: .unk :: .unk :: .unk :: .unk :: .unk :: .unk :: .unk :: .unk :: .unk :: .unk :: .unk :: .unk :: .unk :: .unk :: .unk :: .unk :: .unk :: .unk :: .unk :: .unk :: .unk :: .unk :: .unk :: .unk :: .unk :: .unk :: .unk :: [] : List AV)) H = some (.exit 2, ((.int N) :: (.val (.bool true)) :: .unk :: .unk :: .unk :: .unk :: .unk :: .unk :: .unk :: .unk :: .unk :: (a11) :: (a12) :: (.int (szR true N)) :: (.int N) :: .unk :: .unk :: .unk :: .unk :: .unk :: .unk :: .unk :: .unk :: .unk :: .unk :: .unk :: .unk :: .unk :: .unk :: .unk :: .unk :: .unk :: .unk :: .unk :: .unk :: .unk :: .unk :: .unk :: .unk :: .unk :: .unk :: .unk :: .unk :: .unk :: .unk :: .unk :: .unk :: .unk :: .unk :: .unk :: .unk :: .unk :: .unk :: .unk :: .unk :: .unk :: .unk :: .unk :: .unk :: .unk :: .unk :: .unk :: .unk :: .unk :: .unk :: .unk :: .unk :: .unk :: .unk :: .unk :: .unk :: .unk :: .unk :: .unk :: .unk :: .unk :: .unk :: .unk :: .unk :: .unk :: .unk :: .unk :: .unk :: .unk :: .unk :: .unk :: .unk :: .unk :: .unk :: .unk :: .unk :: .unk :: .unk :: .unk :: .unk :: .unk :: .unk :: .unk :: .unk :: .unk :: .unk :: .unk :: [] : List AV), H)
  | 0, i, h => by
    have : i = N := by omega
    subst this
    rw [lrun_atC loop6_2]
    simp (implicitDefEqProofs := false) (disch := omega) only [go_sem, Nat.reduceAdd, Nat.reduceSub, Nat.reduceMul, Nat.reduceLT, Nat.reduceLeDiff, Nat.reduceEqDiff, List.drop_zero, List.take_succ_cons, List.take_zero, List.drop_succ_cons, Bool.and_true, Bool.true_and, Bool.and_false, Bool.false_and, BitVec.reduceOfInt, Nat.zero_add, Nat.mul_one, Nat.add_zero, Int.zero_add, Int.reduceToNat, Nat.reducePow, ↓reduceIte, reduceCtorEq, Int.reduceLE, Int.reduceLT, Int.reduceEq, Int.reduceNe, Int.reduceAdd, Int.reduceSub, Int.reduceMul, Int.reduceNeg, Nat.reduceBEq, show regOf Try.f6 20 = Code.region _ _ _ from rfl]
  | k + 1, i, h => by
    have hlt : ((i : Int) < (N : Int)) = True := by simp; omega
    have hb := szR_b (e := i) (by omega)
    have hs : ((szR true (i + 1) : Nat) : Int) = 2 * (szR true i : Int) + 1 := rfl
    have e := s_loop N hN a11 a12 H k (i + 1) (by omega)
    rw [hs] at e
    rw [← e]
    generalize szR true i = z at *
    rw [lrun_atC loop6_2]
    simp (implicitDefEqProofs := false) (disch := omega) only [go_sem, Nat.reduceAdd, Nat.reduceSub, Nat.reduceMul, Nat.reduceLT, Nat.reduceLeDiff, Nat.reduceEqDiff, List.drop_zero, List.take_succ_cons, List.take_zero, List.drop_succ_cons, Bool.and_true, Bool.true_and, Bool.and_false, Bool.false_and, BitVec.reduceOfInt, Nat.zero_add, Nat.mul_one, Nat.add_zero, Int.zero_add, Int.reduceToNat, Nat.reducePow, ↓reduceIte, reduceCtorEq, Int.reduceLE, Int.reduceLT, Int.reduceEq, Int.reduceNe, Int.reduceAdd, Int.reduceSub, Int.reduceMul, Int.reduceNeg, Nat.reduceBEq, show regOf Try.f6 20 = Code.region _ _ _ from rfl, show regOf Try.f6 22 = Code.region _ _ _ from rfl, show regOf Try.f6 21 = Code.region _ _ _ from rfl, hlt]
    all_goals (congr 1 <;> simp only [List.cons.injEq, AV.val.injEq, Value.int.injEq, Value.bool.injEq, true_and, and_true] <;> omega)
theorem s_loop0 (N : Nat) (hN : N ≤ 20) (a11 a12 : AV) (H : AHeap) :
    lrun Try.prog md fg (fg 6) (loopOf Try.f6 2) (fg 6 3) (((.int N) :: (.val (.bool false)) :: .unk :: .unk :: .unk :: .unk :: .unk :: .unk :: .unk :: .unk :: .unk :: (a11) :: (a12) :: (.int 1) :: (.int 0) :: .unk :: .unk :: .unk :: .unk :: .unk :: .unk :: .unk :: .unk :: .unk :: .unk :: .unk :: .unk :: .unk :: .unk :: .unk :: .unk :: .unk :: .unk :: .unk :: .unk :: .unk :: .unk :: .unk :: .unk :: .unk :: .unk :: .unk :: .unk :: .unk :: .unk :: .unk :: .unk :: .unk :: .unk :: .unk :: .unk :: .unk :: .unk :: .unk :: .unk :: .unk :: .unk :: .unk :: .unk :: .unk :: .unk :: .unk :: .unk :: .unk :: .unk :: .unk :: .unk :: .unk :: .unk :: .unk :: .unk :: .unk :: .unk :: .unk :: .unk :: .unk :: .unk :: .unk :: .unk :: .unk :: .unk :: .unk :: .unk :: .unk :: .unk :: .unk :: .unk :: .unk :: .unk :: .unk :: .unk :: .unk :: .unk :: .unk :: .unk :: .unk :: .unk :: .unk :: .unk :: .unk :: .unk :: .unk :: [] : List AV)) H = some (.exit 2, ((.int N) :: (.val (.bool false)) :: .unk :: .unk :: .unk :: .unk :: .unk :: .unk :: .unk :: .unk :: .unk :: (a11) :: (a12) :: (.int 1) :: (.int 0) :: .unk :: .unk :: .unk :: .unk :: .unk :: .unk :: .unk :: .unk :: .unk :: .unk :: .unk :: .unk :: .unk :: .unk :: .unk :: .unk :: .unk :: .unk :: .unk :: .unk :: .unk :: .unk :: .unk :: .unk :: .unk :: .unk :: .unk :: .unk :: .unk :: .unk :: .unk :: .unk :: .unk :: .unk :: .unk :: .unk :: .unk :: .unk :: .unk :: .unk :: .unk :: .unk :: .unk :: .unk :: .unk :: .unk :: .unk :: .unk :: .unk :: .unk :: .unk :: .unk :: .unk :: .unk :: .unk :: .unk :: .unk :: .unk :: .unk :: .unk :: .unk :: .unk :: .unk :: .unk :: .unk :: .unk :: .unk :: .unk :: .unk :: .unk :: .unk :: .unk :: .unk :: .unk :: .unk :: .unk :: .unk :: .unk :: .unk :: .unk :: .unk :: .unk :: .unk :: .unk :: .unk :: .unk :: .unk :: [] : List AV), H) := by
  by_cases h : (0 : Int) < (N : Int)
  · rw [lrun_atC loop6_2]
    simp (implicitDefEqProofs := false) (disch := omega) only [go_sem, Nat.reduceAdd, Nat.reduceSub, Nat.reduceMul, Nat.reduceLT, Nat.reduceLeDiff, Nat.reduceEqDiff, List.drop_zero, List.take_succ_cons, List.take_zero, List.drop_succ_cons, Bool.and_true, Bool.true_and, Bool.and_false, Bool.false_and, BitVec.reduceOfInt, Nat.zero_add, Nat.mul_one, Nat.add_zero, Int.zero_add, Int.reduceToNat, Nat.reducePow, ↓reduceIte, reduceCtorEq, Int.reduceLE, Int.reduceLT, Int.reduceEq, Int.reduceNe, Int.reduceAdd, Int.reduceSub, Int.reduceMul, Int.reduceNeg, Nat.reduceBEq, show regOf Try.f6 20 = Code.region _ _ _ from rfl, h]
  · rw [lrun_atC loop6_2]
    simp (implicitDefEqProofs := false) (disch := omega) only [go_sem, Nat.reduceAdd, Nat.reduceSub, Nat.reduceMul, Nat.reduceLT, Nat.reduceLeDiff, Nat.reduceEqDiff, List.drop_zero, List.take_succ_cons, List.take_zero, List.drop_succ_cons, Bool.and_true, Bool.true_and, Bool.and_false, Bool.false_and, BitVec.reduceOfInt, Nat.zero_add, Nat.mul_one, Nat.add_zero, Int.zero_add, Int.reduceToNat, Nat.reducePow, ↓reduceIte, reduceCtorEq, Int.reduceLE, Int.reduceLT, Int.reduceEq, Int.reduceNe, Int.reduceAdd, Int.reduceSub, Int.reduceMul, Int.reduceNeg, Nat.reduceBEq, show regOf Try.f6 20 = Code.region _ _ _ from rfl, h]
theorem s_any (N : Nat) (hN : N ≤ 20) (d : Bool) (a11 a12 : AV) (H : AHeap) : ∃ z : Int,
    lrun Try.prog md fg (fg 6) (loopOf Try.f6 2) (fg 6 3) (((.int N) :: (.val (.bool d)) :: .unk :: .unk :: .unk :: .unk :: .unk :: .unk :: .unk :: .unk :: .unk :: (a11) :: (a12) :: (.int 1) :: (.int 0) :: .unk :: .unk :: .unk :: .unk :: .unk :: .unk :: .unk :: .unk :: .unk :: .unk :: .unk :: .unk :: .unk :: .unk :: .unk :: .unk :: .unk :: .unk :: .unk :: .unk :: .unk :: .unk :: .unk :: .unk :: .unk :: .unk :: .unk :: .unk :: .unk :: .unk :: .unk :: .unk :: .unk :: .unk :: .unk :: .unk :: .unk :: .unk :: .unk :: .unk :: .unk :: .unk :: .unk :: .unk :: .unk :: .unk :: .unk :: .unk :: .unk :: .unk :: .unk :: .unk :: .unk :: .unk :: .unk :: .unk :: .unk :: .unk :: .unk :: .unk :: .unk :: .unk :: .unk :: .unk :: .unk :: .unk :: .unk :: .unk :: .unk :: .unk :: .unk :: .unk :: .unk :: .unk :: .unk :: .unk :: .unk :: .unk :: .unk :: .unk :: .unk :: .unk :: .unk :: .unk :: .unk :: .unk :: .unk :: [] : List AV)) H = some (.exit 2, ((.int N) :: (.val (.bool d)) :: .unk :: .unk :: .unk :: .unk :: .unk :: .unk :: .unk :: .unk :: .unk :: (a11) :: (a12) :: (.int (szR d N)) :: (.int z) :: .unk :: .unk :: .unk :: .unk :: .unk :: .unk :: .unk :: .unk :: .unk :: .unk :: .unk :: .unk :: .unk :: .unk :: .unk :: .unk :: .unk :: .unk :: .unk :: .unk :: .unk :: .unk :: .unk :: .unk :: .unk :: .unk :: .unk :: .unk :: .unk :: .unk :: .unk :: .unk :: .unk :: .unk :: .unk :: .unk :: .unk :: .unk :: .unk :: .unk :: .unk :: .unk :: .unk :: .unk :: .unk :: .unk :: .unk :: .unk :: .unk :: .unk :: .unk :: .unk :: .unk :: .unk :: .unk :: .unk :: .unk :: .unk :: .unk :: .unk :: .unk :: .unk :: .unk :: .unk :: .unk :: .unk :: .unk :: .unk :: .unk :: .unk :: .unk :: .unk :: .unk :: .unk :: .unk :: .unk :: .unk :: .unk :: .unk :: .unk :: .unk :: .unk :: .unk :: .unk :: .unk :: .unk :: .unk :: [] : List AV), H) := by
  cases d with
  | true => exact ⟨N, s_loop N hN a11 a12 H N 0 (by omega)⟩
  | false => rw [szR_false]; exact ⟨0, s_loop0 N hN a11 a12 H⟩
theorem rem_b (n : Int) : ∃ q r : Int, n.tmod 20 = q ∧ (q + 20).tmod 20 = r ∧ -20 < q ∧ q < 20 ∧ 0 ≤ r ∧ r < 20 := by
  have h : -20 < n.tmod 20 ∧ n.tmod 20 < 20 := by
    by_cases h0 : 0 ≤ n
    · rw [Int.tmod_eq_emod_of_nonneg h0]; omega
    · obtain ⟨m, rfl⟩ : ∃ m, n = -m := ⟨-n, by omega⟩
      rw [Int.neg_tmod, Int.tmod_eq_emod_of_nonneg (by omega)]; omega
  refine ⟨n.tmod 20, (n.tmod 20 + 20).tmod 20, rfl, rfl, h.1, h.2, ?_⟩
  rw [Int.tmod_eq_emod_of_nonneg (by omega)]
  omega
theorem rem20 (x : Int) : abin Try.prog .rem 3 (.int x) (.val (.int .i64 20)) = some (.int (x.tmod 20)) := abin_rem _ _ _ _ (by decide)
theorem c16 (h : AHeap) : doCall md (aval Try.prog md fg) 16 [.agg [.int 0, .str (txt []), .str (txt []), .int 0, .slc false []], .agg [.val (.int .i64 0), .val (.string ⟨#[]⟩), .val (.string ⟨#[]⟩), .val (.int .i64 0), .slc true []]] h = some (.val (.bool true), h) := by
  have hf : zT0.fit := by unfold zT0; rw [Tm.fit, Tm.fits]; exact ⟨by simp, by simp, by simp, trivial⟩
  have hs : sameT zT0 zT0 = true := by decide
  have hq := Q2_all zT0 hf zT0 hf
  rw [hs] at hq
  have hz : tmV zT0 = .agg [.int 0, .str (txt []), .str (txt []), .int 0, .slc false []] := by unfold zT0; rw [tmV_mk]; rfl
  refine doCall_exp md16 (ys := [tmV zT0, tmV zT0]) ?_ hq
  have h1 : exp1 h expDepth (.agg [.int 0, .str (txt []), .str (txt []), .int 0, .slc false []]) = some (tmV zT0, []) := by rw [← hz]; exact exp1_solid (solid_tm zT0)
  have h2 : exp1 h expDepth (.agg [.val (.int .i64 0), .val (.string ⟨#[]⟩), .val (.string ⟨#[]⟩), .val (.int .i64 0), .slc true []]) = some (tmV zT0, []) := by rw [hz]; rfl
  simp only [expL, h1, h2, List.append_nil]
set_option maxHeartbeats 16000000 in
theorem expandRings (n : Int) (d c : Bool) : pcall Try.prog md fg 6 [.int n, .val (.bool d), .val (.bool c)] = some (.val (.bool true)) := by
  obtain ⟨q, r, hq, hr, q1, q2, r1, r2⟩ := rem_b n
  obtain ⟨N, hN⟩ : ∃ N : Nat, 1 + r = (N : Int) := ⟨(1 + r).toNat, by omega⟩
  have hN1 : 1 ≤ N := by omega
  have hN20 : N ≤ 20 := by omega
  obtain ⟨v', H', y1, y2⟩ := ring_loop N hN20 d c N 0 (.slc true []) [] (by omega) (.inl ⟨rfl, rfl⟩)
  simp only [Int.natCast_zero] at y2
  have cn0 := name_c 0 (by omega)
  simp only [Int.natCast_zero] at cn0
  have cc0 := con_c (nmR 0)
  obtain ⟨ids, x1, x2⟩ := lw_exp y1 (fun a ha => by
    unfold ring at ha
    obtain ⟨i, _, rfl⟩ := List.mem_map.1 ha
    rfl)
  obtain ⟨h2, c15⟩ := doCall_frz1 md15 (xs := [tmV (conT (nmR 0)), v']) (ys := [tmV (conT (nmR 0)), .slc false ((ring N d c).map alV)]) (ids := ids) (by simp only [expL, x1, exp1_solid (solid_tm _), List.nil_append, List.append_nil]) x2 (ring_type (d := d) (c := c) hN1 hN20)
  have e : ∃ h, aval Try.prog md fg 6 [.int n, .val (.bool d), .val (.bool c)] [] = some (.val (.bool true), h) := by
    have hcon : tmV (conT (nmR 0)) = .agg [.int 2, .str (txt []), .str (txt (nmR 0)), .int 0, .slc false []] := by unfold conT; rw [tmV_mk]; rfl
    rw [hcon] at cc0 c15
    cases c with
    | true =>
      have ht : tyAns true (wtR d N) (exR d N) = (zT0, 14) := rfl
      have hz : tmV zT0 = .agg [.int 0, .str (txt []), .str (txt []), .int 0, .slc false []] := by unfold zT0; rw [tmV_mk]; rfl
      rw [ht] at c15
      dsimp only at c15
      rw [hz] at c15
      rw [aval_of Try.func6 body6 Try.results6 Try.ntmps6 ok6]
      simp (implicitDefEqProofs := false) (disch := first | omega | exact List.length_set) only [go_sem, Nat.reduceAdd, Nat.reduceSub, Nat.reduceMul, Nat.reduceLT, Nat.reduceLeDiff, Nat.reduceEqDiff, List.drop_zero, List.take_succ_cons, List.take_zero, List.drop_succ_cons, Bool.and_true, Bool.true_and, Bool.and_false, Bool.false_and, BitVec.reduceOfInt, Nat.zero_add, Nat.mul_one, Nat.add_zero, Int.zero_add, Int.reduceToNat, Nat.reducePow, ↓reduceIte, reduceCtorEq, Int.reduceLE, Int.reduceLT, Int.reduceEq, Int.reduceNe, Int.reduceAdd, Int.reduceSub, Int.reduceMul, Int.reduceNeg, Nat.reduceBEq, show regOf Try.f6 0 = Code.region _ _ _ from rfl, show regOf Try.f6 1 = Code.region _ _ _ from rfl, show regOf Try.f6 2 = Code.region _ _ _ from rfl, show regOf Try.f6 3 = Code.region _ _ _ from rfl, show regOf Try.f6 4 = Code.region _ _ _ from rfl, show regOf Try.f6 15 = Code.region _ _ _ from rfl, show regOf Try.f6 16 = Code.region _ _ _ from rfl, show regOf Try.f6 17 = Code.region _ _ _ from rfl, rem20, hq, hr, hN, y2, callable_22, List.nil_append, List.append_nil, cn0, cc0, c15, hget_last, set_last, no_c, c16, alive_c, List.getElem?_cons_zero, List.getElem?_cons_succ]
      exact ⟨_, rfl⟩
    | false =>
      by_cases hb : 1000 < wtR d N
      · have hb2 := (big_iff d N).1 hb
        have ht : tyAns false (wtR d N) (exR d N) = (zT0, 9) := by unfold tyAns; rw [if_neg (by decide), if_pos hb]
        have hz : tmV zT0 = .agg [.int 0, .str (txt []), .str (txt []), .int 0, .slc false []] := by unfold zT0; rw [tmV_mk]; rfl
        rw [ht] at c15
        dsimp only at c15
        rw [hz] at c15
        obtain ⟨z, hsl⟩ := s_any N hN20 d (.ptr h2.length 0) (.int 9) (h2 ++ [.vars [.int 0, .str (txt []), .str (txt []), .int 0, .slc false []]])
        rw [aval_of Try.func6 body6 Try.results6 Try.ntmps6 ok6]
        simp (implicitDefEqProofs := false) (disch := first | omega | exact List.length_set) only [go_sem, Nat.reduceAdd, Nat.reduceSub, Nat.reduceMul, Nat.reduceLT, Nat.reduceLeDiff, Nat.reduceEqDiff, List.drop_zero, List.take_succ_cons, List.take_zero, List.drop_succ_cons, Bool.and_true, Bool.true_and, Bool.and_false, Bool.false_and, BitVec.reduceOfInt, Nat.zero_add, Nat.mul_one, Nat.add_zero, Int.zero_add, Int.reduceToNat, Nat.reducePow, ↓reduceIte, reduceCtorEq, Int.reduceLE, Int.reduceLT, Int.reduceEq, Int.reduceNe, Int.reduceAdd, Int.reduceSub, Int.reduceMul, Int.reduceNeg, Nat.reduceBEq, show regOf Try.f6 0 = Code.region _ _ _ from rfl, show regOf Try.f6 1 = Code.region _ _ _ from rfl, show regOf Try.f6 2 = Code.region _ _ _ from rfl, show regOf Try.f6 3 = Code.region _ _ _ from rfl, show regOf Try.f6 4 = Code.region _ _ _ from rfl, show regOf Try.f6 15 = Code.region _ _ _ from rfl, show regOf Try.f6 16 = Code.region _ _ _ from rfl, show regOf Try.f6 18 = Code.region _ _ _ from rfl, show regOf Try.f6 19 = Code.region _ _ _ from rfl, show regOf Try.f6 23 = Code.region _ _ _ from rfl, show regOf Try.f6 24 = Code.region _ _ _ from rfl, rem20, hq, hr, hN, y2, callable_22, List.nil_append, List.append_nil, cn0, cc0, c15, hget_last, set_last, hsl, hb2, no_c, alive_c, List.getElem?_cons_zero, List.getElem?_cons_succ]
        exact ⟨_, rfl⟩
      · have hb2 : ¬ 1000 < (szR d N : Int) := fun h => hb ((big_iff d N).2 h)
        have ht : tyAns false (wtR d N) (exR d N) = (exR d N, 0) := by unfold tyAns; rw [if_neg (by decide), if_neg hb]
        rw [ht] at c15
        have hsz := exR_sz d N
        have c17 : ∀ h, doCall md (aval Try.prog md fg) 17 [tmV (exR d N)] h = some (.int (szR d N), h) := fun h => doCall_pure md17 (solid1 _) (by rw [← hsz]; exact Z_all (exR d N) (by rw [hsz]; omega))
        generalize exR d N = T at *
        obtain ⟨k3, p3, m3, n3, l3⟩ := T
        dsimp only at c15
        rw [tmV_mk] at c15 c17
        obtain ⟨z, hsl⟩ := s_any N hN20 d (.ptr h2.length 0) (.int 0) (h2 ++ [.vars [.int k3, .str (txt p3), .str (txt m3), .int n3, .slc false (l3.map tmV)]])
        rw [aval_of Try.func6 body6 Try.results6 Try.ntmps6 ok6]
        simp (implicitDefEqProofs := false) (disch := first | omega | exact List.length_set) only [go_sem, Nat.reduceAdd, Nat.reduceSub, Nat.reduceMul, Nat.reduceLT, Nat.reduceLeDiff, Nat.reduceEqDiff, List.drop_zero, List.take_succ_cons, List.take_zero, List.drop_succ_cons, Bool.and_true, Bool.true_and, Bool.and_false, Bool.false_and, BitVec.reduceOfInt, Nat.zero_add, Nat.mul_one, Nat.add_zero, Int.zero_add, Int.reduceToNat, Nat.reducePow, ↓reduceIte, reduceCtorEq, Int.reduceLE, Int.reduceLT, Int.reduceEq, Int.reduceNe, Int.reduceAdd, Int.reduceSub, Int.reduceMul, Int.reduceNeg, Nat.reduceBEq, show regOf Try.f6 0 = Code.region _ _ _ from rfl, show regOf Try.f6 1 = Code.region _ _ _ from rfl, show regOf Try.f6 2 = Code.region _ _ _ from rfl, show regOf Try.f6 3 = Code.region _ _ _ from rfl, show regOf Try.f6 4 = Code.region _ _ _ from rfl, show regOf Try.f6 15 = Code.region _ _ _ from rfl, show regOf Try.f6 16 = Code.region _ _ _ from rfl, show regOf Try.f6 18 = Code.region _ _ _ from rfl, show regOf Try.f6 19 = Code.region _ _ _ from rfl, show regOf Try.f6 23 = Code.region _ _ _ from rfl, show regOf Try.f6 25 = Code.region _ _ _ from rfl, rem20, hq, hr, hN, y2, callable_22, List.nil_append, List.append_nil, cn0, cc0, c15, c17, hget_last, set_last, hsl, hb2, no_c, alive_c, List.getElem?_cons_zero, List.getElem?_cons_succ]
        exact ⟨_, rfl⟩
  obtain ⟨h, e⟩ := e
  rw [pcall_eq, e, pureRes_solid rfl]
end Go.Proofs.Ytgijlgdhogbgbaa
