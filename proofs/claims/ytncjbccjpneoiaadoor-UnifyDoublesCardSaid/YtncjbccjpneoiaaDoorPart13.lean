/- Parts of the proof, each with its own heading: solve: a round of its first loop. solve: its two loops, and as a whole. solve as a whole. of. Solve. The plain law of solutions: the most general one, named by the first names. Solve as a whole. Same and putting in: what they tell. UnifyDoubles: names, terms, the list of equations. UnifyDoubles: what the equations' solution is, in plain words. UnifyDoubles is true of every input. UnifyDoubles: what its card needs. -/
import Derived.Test.YtncjbccjpneoiaaDoorPart12
import Derived.Test.YtncjbccjpneoiaaDoorRows
set_option linter.unusedSimpArgs false
set_option linter.unusedVariables false
namespace Go.Proofs.YtncjbccjpneoiaaDoor
open Go Go.Ab Go.Proofs
open AV renaming unk → U
open Bool renaming false → J, true → O
set_option maxRecDepth 100000
set_option linter.unusedSimpArgs false
set_option linter.unusedVariables false
theorem IS.agree2 {h H : AHeap} {B : Nat} {sh : List Sh} {P : SMap} {ns : List Nd} (x : IS h 0 B 1 sh P ns) (h2 : ∃ cs, hget h 2 = .vars cs) (hl : h.length ≤ H.length) (ha : ∀ j, j < h.length → j ≠ 2 → hget H j = hget h j) : IS H 0 B 1 sh P ns := by
  obtain ⟨cs, h2⟩ := h2
  have hS : 0 < h.length := by obtain ⟨_, q, _⟩ := x.sp; exact hlt_of q (by simp)
  refine ⟨sp_keep x.sp (ha 0 hS (by decide)) fun A es g q => ?_, ⟨x.nr.1, fun i n s h1 h3 => ?_⟩, by have := x.b; omega, x.vs, ?_⟩
  · rw [ha A (hlt_of q (by simp)) (by rintro rfl; rw [h2] at q; cases q)]; exact q
  · have y := x.nr.2 i n s h1 h3
    refine ⟨y.kind, y.pkg, y.name, ?_, y.to, y.mark, y.le⟩
    rcases y.kids with z | ⟨K, g', e1, e2, e3, e4⟩
    · exact .inl z
    · exact .inr ⟨K, g', e1, by rw [ha K (hlt_of e2 (by simp)) (by rintro rfl; rw [h2] at e2; cases e2)]; exact e2, e3, e4⟩
  · have := x.ms
    unfold MS at this ⊢
    rw [ha 1 (hlt_of this (by simp)) (by decide)]; exact this
mutual
theorem tvars_fit : ∀ (t : Tm), t.fit → ∀ n ∈ tvars t, n.length ≤ 9223372036854775807
  | .mk k p m x l, h, n, hn => by
    rw [Tm.fit] at h
    rw [tvars] at hn
    split at hn
    · rw [List.mem_singleton.1 hn]; exact h.2.1
    · exact tvarss_fit l h.2.2.2 n hn
theorem tvarss_fit : ∀ (l : List Tm), Tm.fits l → ∀ n ∈ tvarss l, n.length ≤ 9223372036854775807
  | [], _, n, hn => by simp [tvarss] at hn
  | t :: r, h, n, hn => by
    rw [Tm.fits] at h
    rw [tvarss, List.mem_append] at hn
    rcases hn with hn | hn
    · exact tvars_fit t h.1 n hn
    · exact tvarss_fit r h.2 n hn
end
theorem tszs_vars : ∀ N : List (List UInt8), tszs (N.map vTm) = N.length
  | [] => by simp [tszs]
  | n :: r => by rw [List.map_cons, tszs, tszs_vars r]; unfold vTm; rw [tsz, tszs]; simp; omega
set_option maxHeartbeats 16000000 in
theorem so_round {l done rem : List (Tm × Tm)} {A B0 : Tm} (he : l = done ++ (A, B0) :: rem) (hty : Tm.tys (flatE l)) (hft : Tm.fits (flatE l)) (hsz : tszs (flatE l) ≤ 40000) (hll : l.length ≤ 40000) {h : AHeap} {B : Nat} {sh : List Sh} {P : SMap} {ns : List Nd} {nb : Bool} {N : List (List UInt8)} {ids : List (Nat × Nat)} (I : LS h B sh P ns nb N l.length done ids) :
    ∃ H B' sh' P' ns' N' a b, lrun Tryd.prog md fg (fg 33) (loopOf Tryd.f33 0) (fg 33 1) ((U::U::U::U::(.ptr 3 0) :: (.arr 4 0 l.length 0 2) :: U::U::U::U::U::U::U::U::U::U::U::U::(.slc false (l.map eqV)) :: (.int l.length) :: (.int done.length) :: U::U::U::U::U::U::U::U::U::U::U::U::U::U::U::U::U::U::U::U::U::U::U::U::U::U::U::U::U::U::U::U::U::U::U::U::U::U::U::U::U::U::U::U::U::U::U::U::U::U::U::U::U::U::U::U::U::U::U::U::U::U::U::U::U::U::U::U::[] : List AV)) h = lrun Tryd.prog md fg (fg 33) (loopOf Tryd.f33 0) (fg 33 1) ((U::U::U::U::(.ptr 3 0) :: (.arr 4 0 l.length 0 2) :: U::U::U::U::U::U::U::U::U::U::U::U::(.slc false (l.map eqV)) :: (.int l.length) :: (.int (done.length + 1 : Nat)) :: U::U::U::U::U::U::U::U::U::U::U::U::U::U::U::U::U::U::U::U::U::U::U::U::U::U::U::U::U::U::U::U::U::U::U::U::U::U::U::U::U::U::U::U::U::U::U::U::U::U::U::U::U::U::U::U::U::U::U::U::U::U::U::U::U::U::U::U::[] : List AV)) H ∧ LS H B' sh' P' ns' false N' l.length (done ++ [(A, B0)]) (ids ++ [(a, b)]) := by
  have hfl : flatE l = flatE done ++ ([A, B0] ++ flatE rem) := by rw [he, flatE_app]; simp [flatE]
  have hfl2 : flatE (done ++ [(A, B0)]) = flatE done ++ [A, B0] := by rw [flatE_app]; simp [flatE]
  rw [hfl, tys_append, tys_append] at hty
  rw [hfl, fits_append, fits_append] at hft
  rw [hfl, tszs_append, tszs_append] at hsz
  have hAB : tszs [A, B0] = tsz A + tsz B0 := by simp [tszs]
  obtain ⟨hty1, hty2, hty3⟩ := hty
  obtain ⟨hft1, hft2, hft3⟩ := hft
  have htyA : A.ty := by simp only [Tm.tys] at hty2; exact hty2.1
  have htyB : B0.ty := by simp only [Tm.tys] at hty2; exact hty2.2.1
  have hftA : A.fit := by simp only [Tm.fits] at hft2; exact hft2.1
  have hftB : B0.fit := by simp only [Tm.fits] at hft2; exact hft2.2.1
  have hNd : N.Nodup := by rw [I.names]; exact vsL_nodup _ _ (by simp)
  have hNl : N.length ≤ tszs (flatE done) := by
    rw [I.names]
    have := vsL_len (flatE done) []
    simpa using this
  have hfv : ∀ N : List (List UInt8), (∀ n ∈ N, n.length ≤ 9223372036854775807) → Tm.fits (N.map vTm) := fun N => by
    induction N with
    | nil => intro _; simp [Tm.fits]
    | cons n r ih => intro hn; rw [List.map_cons, Tm.fits]; exact ⟨by unfold vTm; rw [Tm.fit]; simp [Tm.fits]; exact hn n (by simp), ih fun m hm => hn m (by simp [hm])⟩
  have hNm : ∀ n ∈ N, n.length ≤ 9223372036854775807 := fun n hn => by
    rw [I.names, vsL_mem _ _ _ hty1] at hn
    rcases hn with hn | hn
    · cases hn
    · exact tvarss_fit _ hft1 n hn
  have hfN : Tm.fits (N.map vTm ++ [A, B0]) := (fits_append _ _).2 ⟨hfv N hNm, hft2⟩
  have htN : tszs (N.map vTm ++ [A, B0]) ≤ 100000 := by rw [tszs_append, tszs_vars, hAB]; omega
  have hvN := vs_next hNd A B0
  have hZ := I.z
  have hQ := I.q
  have hT := I.t
  unfold SO at hZ
  have l3 := hlt_of hQ (by simp)
  have l4 := hlt_of hT (by simp)
  obtain ⟨k, p, m, n, l1⟩ := A
  obtain ⟨k', p', m', n', l2⟩ := B0
  generalize hbx : AObj.vars [.int k, .str (txt p), .str (txt m), .int n, .slc false (l1.map tmV), .int k', .str (txt p'), .str (txt m'), .int n', .slc false (l2.map tmV)] = bx
  have i1 := I.is.app [bx]
  have g1 : ∀ j, j < h.length → hget (h ++ [bx]) j = hget h j := fun j hj => hget_app _ hj
  obtain ⟨H1, v1, c1, c2, c3⟩ := varTerms_c nb N (by omega) (h ++ [bx])
  have hsA := solid_tm ⟨k, p, m, n, l1⟩
  have hsB := solid_tm ⟨k', p', m', n', l2⟩
  obtain ⟨v2, H2, d1, d2, d3, d4, d5⟩ := kv_add c2 (by rw [List.length_map]; omega) c3.1 [tmV ⟨k, p, m, n, l1⟩, tmV ⟨k', p', m', n', l2⟩] (by rw [tmV_mk]; rfl) (by simp) (by simp)
  rcases d2 with ⟨q, _⟩ | ⟨K, gK, rfl, hK, hKl⟩
  · simp at q
  obtain ⟨H3, e1, e2, e3⟩ := vars_hand hK hfN (by omega) htN
  rw [hvN] at e1
  have hl1 := c3.1
  have hl2 := d3.1
  simp only [List.length_append, List.length_cons, List.length_nil] at hl1 hKl
  have a3 : ∀ j, j < h.length + 1 → hget H3 j = hget (h ++ [bx]) j := fun j hj => by
    rw [e3 j (by omega), d3.2 j (by simp; omega), c3.2 j (by simp; omega)]
  have z3 : hget H3 2 = .vars [.ptr 0 0, .mp 1, .slc nb (N.map sV)] := by rw [a3 2 (by omega), g1 2 (by omega)]; exact hZ
  generalize hH4 : H3.set 2 (.vars [.ptr 0 0, .mp 1, .slc false ((vsL N [⟨k, p, m, n, l1⟩, ⟨k', p', m', n', l2⟩]).map sV)]) = H4
  have a4 : ∀ j, j < h.length + 1 → j ≠ 2 → hget H4 j = hget (h ++ [bx]) j := fun j hj hj2 => by
    rw [← hH4, hget_set_ne (fun q => hj2 q.symm)]; exact a3 j hj
  have l4' : h.length + 1 ≤ H4.length := by rw [← hH4, List.length_set]; omega
  have z4 : SO H4 2 0 1 (.slc false ((vsL N [⟨k, p, m, n, l1⟩, ⟨k', p', m', n', l2⟩]).map sV)) := by rw [← hH4]; exact hget_set_eq (by omega)
  have q4 : hget H4 3 = .vars [.ptr 2 0] := by rw [a4 3 (by omega) (by decide), g1 3 l3]; exact hQ
  have i4 : IS H4 0 B 1 sh P ns := i1.agree2 ⟨_, by rw [g1 2 (by omega)]; exact hZ⟩ (by simp; exact l4') (fun j hj hj2 => a4 j (by simpa using hj) hj2)
  have b4 : hget H4 h.length = bx := by rw [a4 _ (by omega) (by omega)]; exact hget_last
  have t4 : hget H4 4 = .arr 2 ((ids ++ List.replicate (l.length - done.length) (0, 0)).map prV) 0 := by rw [a4 4 (by omega) (by decide), g1 4 l4]; exact hT
  have hfr := fr_55 q4 z4
  have hsz1 := I.sz
  have hkc1 := I.kc
  obtain ⟨H5, a, B5, sh5, P5, ns5, f1, i5, ip5, ie5, v5, le5, kc5, ku5, ar5, nw5⟩ := imp_all callable_55 hfr ⟨k, p, m, n, l1⟩ htyA hftA H4 B sh P ns (Ku.refl _ _ _ _) i4 I.ip (by omega)
  obtain ⟨H6, b, B6, sh6, P6, ns6, f2, i6, ip6, ie6, v6, le6, kc6, ku6, ar6, nw6⟩ := imp_all callable_55 hfr ⟨k', p', m', n', l2⟩ htyB hftB H5 B5 sh5 P5 ns5 ku5 i5 ip5 (by omega)
  have q5 : hget H5 3 = .vars [.ptr 2 0] := ku5.2 3 _ q4 (by simp) (by decide) (by decide) (by decide) (by simp)
  have z5 : hget H5 2 = .vars [.ptr 0 0, .mp 1, .slc false ((vsL N [⟨k, p, m, n, l1⟩, ⟨k', p', m', n', l2⟩]).map sV)] := ku5.2 2 _ z4 (by simp) (by decide) (by decide) (by decide) (by simp)
  have b5 : hget H5 h.length = bx := ku5.2 _ _ b4 (by rw [← hbx]; simp) (by omega) (by omega) (by omega) (by rw [← hbx]; simp)
  have q6 : hget H6 3 = .vars [.ptr 2 0] := ku6.2 3 _ q5 (by simp) (by decide) (by decide) (by decide) (by simp)
  have z6 : hget H6 2 = .vars [.ptr 0 0, .mp 1, .slc false ((vsL N [⟨k, p, m, n, l1⟩, ⟨k', p', m', n', l2⟩]).map sV)] := ku6.2 2 _ z5 (by simp) (by decide) (by decide) (by decide) (by simp)
  have b6 : hget H6 h.length = bx := ku6.2 _ _ b5 (by rw [← hbx]; simp) (by omega) (by omega) (by omega) (by rw [← hbx]; simp)
  have t6 : hget H6 4 = .arr 2 ((ids ++ List.replicate (l.length - done.length) (0, 0)).map prV) 0 := (ku5.trans ku6).2 4 _ t4 (by simp) (by decide) (by decide) (by decide) (by simp)
  have hdl : done.length < l.length := by rw [he]; simp
  have hrep : List.replicate (l.length - done.length) ((0, 0) : Nat × Nat) = (0, 0) :: List.replicate (l.length - (done.length + 1)) (0, 0) := by
    rw [show l.length - done.length = (l.length - (done.length + 1)) + 1 by omega]; rfl
  have hidl := I.len
  have hgT : ((ids ++ List.replicate (l.length - done.length) (0, 0)).map prV)[done.length]? = some (.agg [.int 0, .int 0]) := by
    rw [hrep, List.getElem?_map, List.getElem?_append_right (by omega), hidl, Nat.sub_self]; rfl
  have hset : ((ids ++ List.replicate (l.length - done.length) (0, 0)).map prV).set done.length (.agg [.int (a : Int), .int (b : Int)]) = ((ids ++ [(a, b)]) ++ List.replicate (l.length - (done ++ [(Tm.mk k p m n l1, Tm.mk k' p' m' n' l2)]).length) (0, 0)).map prV := by
    have e : (done ++ [(Tm.mk k p m n l1, Tm.mk k' p' m' n' l2)]).length = done.length + 1 := by simp
    rw [hrep, e, List.map_append, List.map_cons, List.set_append_right _ _ (by simp; omega)]
    simp only [List.length_map, hidl, Nat.sub_self, List.set_cons_zero]
    simp [prV]
  have hstp := septr_pr (a := a) (b := b) (H1 := H6) (T := 4) (g := 0) _ hgT
  rw [hset] at hstp
  have t6l := hlt_of t6 (by simp)
  have ie := ie5.trans ie6
  refine ⟨H6.set 4 (.arr 2 (((ids ++ [(a, b)]) ++ List.replicate (l.length - (done ++ [(Tm.mk k p m n l1, Tm.mk k' p' m' n' l2)]).length) (0, 0)).map prV) 0), B6, sh6, P6, ns6, _, a, b, ?_, ⟨i6.set2 (by decide) (by decide) t6 _, ip6, (hget_set_ne (by decide)).trans z6, (hget_set_ne (by decide)).trans q6, hget_set_eq t6l, by simp [hidl], fun j a' b' A' B' h1 h2 => ?_, ?_, fun x => ?_, ?_, ?_⟩⟩
  · have hlt : (done.length : Int) < (l.length : Int) := by omega
    have htn : ((done.length : Int)).toNat = done.length := by omega
    have hat : (l.map eqV)[done.length]? = some (.agg [.int k, .str (txt p), .str (txt m), .int n, .slc false (l1.map tmV), .int k', .str (txt p'), .str (txt m'), .int n', .slc false (l2.map tmV)]) := by
      rw [he]; simp [eqV]
    have x1 : hget (h ++ [bx]) 3 = .vars [.ptr 2 0] := (g1 3 l3).trans hQ
    have x2 : hget (h ++ [bx]) 2 = .vars [.ptr 0 0, .mp 1, .slc nb (N.map sV)] := (g1 2 (by omega)).trans hZ
    have x3 : hget (h ++ [bx]) h.length = bx := hget_last
    have y1 : ∀ j, j < h.length + 1 → hget H1 j = hget (h ++ [bx]) j := fun j hj => c3.2 j (by simp; omega)
    have y2 : ∀ j, j < h.length + 1 → hget H2 j = hget (h ++ [bx]) j := fun j hj => by rw [d3.2 j (by simp; omega)]; exact y1 j hj
    have u1 := (y1 3 (by omega)).trans x1
    have u2 := (y1 2 (by omega)).trans x2
    have u3 := (y1 h.length (by omega)).trans x3
    have w1 := (y2 3 (by omega)).trans x1
    have w2 := (y2 2 (by omega)).trans x2
    have w3 := (y2 h.length (by omega)).trans x3
    have s1 := (a3 3 (by omega)).trans x1
    have s3 := (a3 h.length (by omega)).trans x3
    rw [tmV_mk, tmV_mk] at d1 e1
    rw [tmV_mk] at f1 f2
    subst hbx
    unfold SO at z4
    rw [lrun_atC loop33_0]
    simp (implicitDefEqProofs := false) (disch := first | omega | exact List.length_set) only [go_sem, seval, rgn Tryd.f33 4 rfl, rgn Tryd.f33 5 rfl, rgn Tryd.f33 6 rfl, rgn Tryd.f33 7 rfl, rgn Tryd.f33 8 rfl, rgn Tryd.f33 9 rfl, hlt, htn, hat, hget_last, set_last, x1, x2, x3, u1, u2, u3, w1, w2, w3, s1, s3, z3, c1, d1, e1, hH4, z4, q4, b4, z5, q5, b5, z6, q6, b6, f1, f2, t6, hstp, md54, md53, md39, beq_self_eq_true, Bool.true_or, Bool.false_or, abuild_91', thenDraw_store]
    all_goals (congr 1 <;> simp only [List.cons.injEq, AV.val.injEq, Value.int.injEq, Value.bool.injEq, true_and, and_true] <;> omega)
  · by_cases hj : j < ids.length
    · rw [List.getElem?_append_left hj] at h1
      rw [List.getElem?_append_left (by omega)] at h2
      obtain ⟨y1, y2⟩ := I.vals j a' b' A' B' h1 h2
      exact ⟨y1.ext ie, y2.ext ie⟩
    · have := lt_of_at h1
      have : j = ids.length := by simp at this; omega
      subst this
      rw [List.getElem?_append_right (Nat.le_refl _), Nat.sub_self] at h1
      rw [List.getElem?_append_right (by omega), hidl, Nat.sub_self] at h2
      cases h1; cases h2
      exact ⟨v5.ext ie6, v6⟩
  · rw [hfl2, vsL_app, ← I.names]
  · rw [vsL_mem _ _ _ (by simp only [Tm.tys]; exact ⟨htyA, htyB, trivial⟩), I.dom x]
    have ht : tvarss [Tm.mk k p m n l1, Tm.mk k' p' m' n' l2] = tvars (Tm.mk k p m n l1) ++ tvars (Tm.mk k' p' m' n' l2) := by simp [tvarss]
    rw [ht]
    constructor
    · rintro (⟨i, hi⟩ | hx)
      · exact ⟨i, ie.keep x i hi⟩
      · exact ie.has x hx
    · rintro ⟨i, hi⟩
      rcases ie.only x i hi with h | h
      · exact .inl ⟨i, h⟩
      · exact .inr h
  · rw [hfl2, tszs_append, hAB]; omega
  · rw [hfl2, tszs_append, hAB]; omega
theorem callD_29 {env : Env} {d d2 : Option Tmp} {ty : TypeId} {pos : String} {aft : Array Edge} {g : Option (Nat × Bool)} (cs : Array Operand) (ts : Array TypeId) (h0 h' : AHeap) (v : AV) (k : Env → AHeap → Option (Env × AHeap)) : callD Tryd.prog md ⟨d, .call ⟨.value (.func 29), cs, ts⟩, ty, pos, aft, g⟩ h0 (some (v, h')) d2 k env = k (aput env d2 v) h' := by
  have : effOp Tryd.prog md ⟨d, .call ⟨.value (.func 29), cs, ts⟩, ty, pos, aft, g⟩ = true := rfl
  simp [callD, this]
theorem so_loop {l : List (Tm × Tm)} (hty : Tm.tys (flatE l)) (hft : Tm.fits (flatE l)) (hsz : tszs (flatE l) ≤ 40000) (hll : l.length ≤ 40000) : ∀ (rem done : List (Tm × Tm)), l = done ++ rem → ∀ {h : AHeap} {B : Nat} {sh : List Sh} {P : SMap} {ns : List Nd} {nb : Bool} {N : List (List UInt8)} {ids : List (Nat × Nat)}, LS h B sh P ns nb N l.length done ids →
    ∃ H B' sh' P' ns' nb' N' ids', lrun Tryd.prog md fg (fg 33) (loopOf Tryd.f33 0) (fg 33 1) ((U::U::U::U::(.ptr 3 0) :: (.arr 4 0 l.length 0 2) :: U::U::U::U::U::U::U::U::U::U::U::U::(.slc false (l.map eqV)) :: (.int l.length) :: (.int done.length) :: U::U::U::U::U::U::U::U::U::U::U::U::U::U::U::U::U::U::U::U::U::U::U::U::U::U::U::U::U::U::U::U::U::U::U::U::U::U::U::U::U::U::U::U::U::U::U::U::U::U::U::U::U::U::U::U::U::U::U::U::U::U::U::U::U::U::U::U::[] : List AV)) h = some (.exit 0, (U::U::U::U::(.ptr 3 0) :: (.arr 4 0 l.length 0 2) :: U::U::U::U::U::U::U::U::U::U::U::U::(.slc false (l.map eqV)) :: (.int l.length) :: (.int l.length) :: U::U::U::U::U::U::U::U::U::U::U::U::U::U::U::U::U::U::U::U::U::U::U::U::U::U::U::U::U::U::U::U::U::U::U::U::U::U::U::U::U::U::U::U::U::U::U::U::U::U::U::U::U::U::U::U::U::U::U::U::U::U::U::U::U::U::U::U::[] : List AV), H) ∧ LS H B' sh' P' ns' nb' N' l.length l ids'
  | [], done, he, h, B, sh, P, ns, nb, N, ids, I => by
    rw [List.append_nil] at he
    subst he
    refine ⟨h, B, sh, P, ns, nb, N, ids, ?_, I⟩
    rw [lrun_atC loop33_0]
    simp (implicitDefEqProofs := false) (disch := omega) only [go_sem, seval, rgn Tryd.f33 4 rfl]
  | (A, B0) :: rem, done, he, h, B, sh, P, ns, nb, N, ids, I => by
    obtain ⟨H1, B1, sh1, P1, ns1, N1, a, b, e1, I1⟩ := so_round he hty hft hsz hll I
    obtain ⟨H, B', sh', P', ns', nb', N', ids', e2, I2⟩ := so_loop hty hft hsz hll rem (done ++ [(A, B0)]) (by rw [he]; simp) I1
    refine ⟨H, B', sh', P', ns', nb', N', ids', ?_, I2⟩
    have hlen : (done ++ [(A, B0)]).length = done.length + 1 := by simp
    rw [hlen] at e2
    rw [e1, e2]
structure MS2 (h : AHeap) (B : Nat) (sh : List Sh) (P : SMap) (rt r : Nat → Nat) (vis : Nat → Bool) (w : Int) (ns : List Nd) (nv : AV) (ids : List (Nat × Nat)) : Prop where
  sp : SP h 0 ns 200000 false w
  nr : NR h 0 B sh rt r vis w ns
  ok : Ok sh rt r
  b : B ≤ h.length
  ms : MS h 1 P
  z : SO h 2 0 1 nv
  q : hget h 3 = .vars [.ptr 2 0]
  t : hget h 4 = .arr 2 (ids.map prV) 0
def AllP (M : Nat → Tm) (l : List (Nat × Nat)) : Prop := ∀ p ∈ l, M p.1 = M p.2
set_option maxHeartbeats 8000000 in
theorem un_loop {sh : List Sh} {P : SMap} {nv : AV} {ids : List (Nat × Nat)} (hids : ids.length ≤ 1000) (hsz : kc sh ≤ 70000) (hsh : sh.length ≤ 100000) (hlt : ∀ p ∈ ids, p.1 < sh.length ∧ p.2 < sh.length) (a2 a3 : AV) : ∀ (rem done : List (Nat × Nat)), ids = done ++ rem → ∀ {h : AHeap} {B : Nat} {rt r : Nat → Nat} {vis : Nat → Bool} {w : Int} {ns : List Nd}, MS2 h B sh P rt r vis w ns nv ids → 0 ≤ w → w ≤ 200000 * done.length → (∀ M, Mod sh rt M → Con sh M ∧ AllP M done) → (∀ M, Con sh M → AllP M done → Mod sh rt M) →
    ∃ H res B' rt' r' vis' w' ns' a2' a3' a72, lrun Tryd.prog md fg (fg 33) (loopOf Tryd.f33 2) (fg 33 3) ((.unk :: .unk :: (a2) :: (a3) :: (.ptr 3 0) :: U::U::U::U::U::U::U::U::U::U::U::U::U::U::U::U::U::U::U::U::U::U::U::U::U::U::U::U::U::U::U::U::U::U::U::U::U::U::U::U::U::U::U::U::U::U::U::U::U::U::U::U::U::U::U::U::U::U::U::U::U::U::U::U::U::(.arr 4 0 ids.length 0 2) :: (.int ids.length) :: (.int done.length) :: U::U::U::U::U::U::U::U::U::U::U::U::U::U::U::U::[] : List AV)) h = some (if res then .exit 2 else .ret, (.unk :: .unk :: (a2') :: (a3') :: (.ptr 3 0) :: U::U::U::U::U::U::U::U::U::U::U::U::U::U::U::U::U::U::U::U::U::U::U::U::U::U::U::U::U::U::U::U::U::U::U::U::U::U::U::U::U::U::U::U::U::U::U::U::U::U::U::U::U::U::U::U::U::U::U::U::U::U::U::U::U::(.arr 4 0 ids.length 0 2) :: (.int ids.length) :: (a72) :: U::U::U::U::U::U::U::U::U::U::U::U::U::U::U::U::[] : List AV), H) ∧ (res = false → a2' = .ptr 2 0 ∧ a3' = .val (.bool false)) ∧ (if res then MS2 H B' sh P rt' r' vis' w' ns' nv ids ∧ 0 ≤ w' ∧ w' ≤ 200000 * ids.length ∧ (∀ M, Mod sh rt' M → Con sh M ∧ AllP M ids) ∧ (∀ M, Con sh M → AllP M ids → Mod sh rt' M) else ∀ M, Con sh M → ¬ AllP M ids)
  | [], done, he, h, B, rt, r, vis, w, ns, I, w0, w1, hb, hg => by
    rw [List.append_nil] at he
    subst he
    refine ⟨h, true, B, rt, r, vis, w, ns, a2, a3, .int ids.length, ?_, by simp, by rw [if_pos rfl]; exact ⟨I, w0, w1, hb, hg⟩⟩
    rw [if_pos rfl]
    rw [lrun_atC loop33_2]
    simp (implicitDefEqProofs := false) (disch := omega) only [go_sem, seval, rgn Tryd.f33 11 rfl]
  | (a, b) :: rem, done, he, h, B, rt, r, vis, w, ns, I, w0, w1, hb, hg => by
    have hll : ids.length = done.length + (rem.length + 1) := by rw [he]; simp
    obtain ⟨hal, hbl⟩ := hlt (a, b) (by rw [he]; simp)
    have k0 := kf_app 0 h [AObj.vars [.int (a : Int), .int (b : Int)]]
    obtain ⟨H1, res, ns1, rt1, r1, vis1, w1', c1, c2, c3, c4, c5, c6, c7, c8⟩ := unify_c I.ok (sp_app I.sp [AObj.vars [.int (a : Int), .int (b : Int)]]) (I.nr.kf k0) (by have := I.b; simp; omega) (by rw [wt_none]; omega) w0 (by omega) (by omega) hal hbl
    have kk := k0.trans c5
    have hQ := I.q
    have hZ := I.z
    have hT := I.t
    have hM := I.ms
    have q1 : hget H1 3 = .vars [.ptr 2 0] := kk.2 3 _ hQ (by simp) (by decide) (by simp)
    have z1 : SO H1 2 0 1 nv := kk.2 2 _ hZ (by simp) (by decide) (by simp)
    have t1 : hget H1 4 = .arr 2 (ids.map prV) 0 := kk.2 4 _ hT (by simp) (by decide) (by simp)
    have m1 : MS H1 1 P := kk.2 1 _ hM (by simp) (by decide) (by simp)
    have hlti : (done.length : Int) < (ids.length : Int) := by omega
    have htn : ((done.length : Int)).toNat = done.length := by omega
    have hat : (ids.map prV)[done.length]? = some (.agg [.int (a : Int), .int (b : Int)]) := by rw [he]; simp [prV]
    have l3 := hlt_of hQ (by simp)
    have g3 : hget (h ++ [AObj.vars [.int (a : Int), .int (b : Int)]]) 3 = .vars [.ptr 2 0] := (hget_app _ l3).trans hQ
    have g2 : hget (h ++ [AObj.vars [.int (a : Int), .int (b : Int)]]) 2 = .vars [.ptr 0 0, .mp 1, nv] := (hget_app _ (by omega)).trans hZ
    unfold SO at z1
    have hbox : hget (h ++ [AObj.vars [.int (a : Int), .int (b : Int)]]) h.length = .vars [.int (a : Int), .int (b : Int)] := hget_last
    have hbox1 : hget H1 h.length = .vars [.int (a : Int), .int (b : Int)] := c5.2 _ _ hget_last (by simp) (by omega) (by simp)
    cases res with
    | false =>
      refine ⟨H1, false, B, rt, r, vis, w, ns, .ptr 2 0, .val (.bool false), .int done.length, ?_, fun _ => ⟨rfl, rfl⟩, ?_⟩
      · simp only [Bool.false_eq_true, if_false]
        rw [lrun_atC loop33_2]
        simp (implicitDefEqProofs := false) (disch := first | omega | exact List.length_set) only [go_sem, seval, rgn Tryd.f33 11 rfl, rgn Tryd.f33 12 rfl, rgn Tryd.f33 13 rfl, rgn Tryd.f33 14 rfl, hlti, htn, hT, hat, hget_last, set_last, g3, g2, c1, q1, z1, hbox1, callD_29]
      · simp only [Bool.false_eq_true, if_false] at c8 ⊢
        intro M hM2 hall
        exact c8 M (hg M hM2 fun p hp => hall p (by rw [he]; simp [hp])) (hall (a, b) (by rw [he]; simp))
    | true =>
      simp only [if_true] at c8
      have hlen : (done ++ [(a, b)]).length = done.length + 1 := by simp
      obtain ⟨H, res, B', rt', r', vis', w', ns', a2', a3', a72, d1, d2, d3⟩ := un_loop (nv := nv) hids hsz hsh hlt a2 a3 rem (done ++ [(a, b)]) (by rw [he]; simp) (h := H1) (B := B) (rt := rt1) (r := r1) (vis := vis1) (w := w1') (ns := ns1) ⟨c2, c4, c3, by have := I.b; have := kk.1; omega, m1, z1, q1, t1⟩ (by omega) (by rw [hlen]; omega) (fun M hm => by
          obtain ⟨x1, x2⟩ := c8.1 M hm
          obtain ⟨y1, y2⟩ := hb M x1
          refine ⟨y1, fun p hp => ?_⟩
          rcases List.mem_append.1 hp with hp | hp
          · exact y2 p hp
          · rw [List.mem_singleton.1 hp]; exact x2) (fun M hm hall => c8.2 M (hg M hm fun p hp => hall p (by simp [hp])) (hall (a, b) (by simp)))
      refine ⟨H, res, B', rt', r', vis', w', ns', a2', a3', a72, ?_, d2, d3⟩
      rw [hlen] at d1
      rw [← d1]
      rw [lrun_atC loop33_2]
      simp (implicitDefEqProofs := false) (disch := first | omega | exact List.length_set) only [go_sem, seval, rgn Tryd.f33 11 rfl, rgn Tryd.f33 12 rfl, rgn Tryd.f33 13 rfl, rgn Tryd.f33 15 rfl, hlti, htn, hT, hat, hget_last, set_last, g3, g2, c1, q1, z1, hbox1, callD_29]
      all_goals (congr 1 <;> simp only [List.cons.injEq, AV.val.injEq, Value.int.injEq, Value.bool.injEq, true_and, and_true] <;> omega)
theorem amake_92 (h : AHeap) (n : Nat) (hn : n ≤ 100000) : amake Tryd.prog 92 h (.int (n : Int)) (.int (n : Int)) = some (.arr h.length 0 n 0 2, h ++ [.arr 2 ((List.replicate n ((0, 0) : Nat × Nat)).map prV) 0]) := by
  have hz : prV (0, 0) = .agg [.int 0, .int 0] := rfl
  rw [List.map_replicate, hz]
  unfold amake
  have e : ((n : Int)).toNat = n := by omega
  have : tslice Tryd.prog 92 = some (2, 16, .agg [.int 0, .int 0]) := tslice_92
  rw [this]
  show (if 0 ≤ (n : Int) ∧ (n : Int) ≤ (n : Int) ∧ ((n : Int)).toNat * 16 ≤ 2 ^ 47 then some (AV.arr h.length 0 ((n : Int)).toNat 0 2, h ++ [AObj.arr 2 (List.replicate ((n : Int)).toNat (.agg [.int 0, .int 0])) 0]) else none) = _
  rw [e, if_pos ⟨by omega, Int.le_refl _, by omega⟩]
theorem cells_mp (k : Nat) : (AV.mp k).cells = [.mp k] := rfl
theorem ok_mp (k : Nat) : okVal (.mp k) = true := rfl
def Eqs (th : List UInt8 → Tm) (l : List (Tm × Tm)) : Prop := ∀ p ∈ l, inst th p.1 = inst th p.2
structure SD (l : List (Tm × Tm)) (sh : List Sh) (P : SMap) (N : List (List UInt8)) : Prop where
  ip : IP sh P
  names : N = vsL [] (flatE l)
  dom : ∀ n, n ∈ N ↔ ∃ i, mg P n = some i
  sz : sh.length ≤ tszs (flatE l)
  kc : kc sh ≤ tszs (flatE l)
theorem allp_eqs {l : List (Tm × Tm)} {sh : List Sh} {P : SMap} {ids : List (Nat × Nat)} (hl : ids.length = l.length) (hv : ∀ (j a b : Nat) (A B : Tm), ids[j]? = some (a, b) → l[j]? = some (A, B) → Val sh P a A ∧ Val sh P b B) {M : Nat → Tm} (hM : Con sh M) : AllP M ids ↔ Eqs (fun n => M (vmap P n)) l := by
  constructor
  · intro h p hp
    obtain ⟨j, hj⟩ := List.mem_iff_getElem?.1 hp
    obtain ⟨⟨a, b⟩, hi⟩ := at_of_lt (l := ids) (i := j) (by rw [hl]; exact lt_of_at hj)
    obtain ⟨A, B⟩ := p
    obtain ⟨v1, v2⟩ := hv j a b A B hi hj
    have := h (a, b) (List.mem_of_getElem? hi)
    rw [v1.2.2 M hM, v2.2.2 M hM] at this
    exact this
  · intro h p hp
    obtain ⟨j, hj⟩ := List.mem_iff_getElem?.1 hp
    obtain ⟨⟨A, B⟩, hi⟩ := at_of_lt (l := l) (i := j) (by rw [← hl]; exact lt_of_at hj)
    obtain ⟨a, b⟩ := p
    obtain ⟨v1, v2⟩ := hv j a b A B hj hi
    show M a = M b
    rw [v1.2.2 M hM, v2.2.2 M hM]
    exact h (A, B) (List.mem_of_getElem? hi)
set_option maxHeartbeats 8000000 in
theorem solve_c {l : List (Tm × Tm)} (hty : Tm.tys (flatE l)) (hft : Tm.fits (flatE l)) (hsz : tszs (flatE l) ≤ 40000) (hll : l.length ≤ 1000) :
    ∃ H res sh P N, doCall md (aval Tryd.prog md fg) 33 [.slc false (l.map eqV)] [] = some (.tup [.ptr 2 0, .val (.bool res)], H) ∧ SD l sh P N ∧ (if res then ∃ B rt r vis w ns nb ids, MS2 H B sh P rt r vis w ns (.slc nb (N.map sV)) ids ∧ (∀ M, Mod sh rt M → Con sh M ∧ Eqs (fun n => M (vmap P n)) l) ∧ (∀ M, Con sh M → Eqs (fun n => M (vmap P n)) l → Mod sh rt M) else ∀ M, Con sh M → ¬ Eqs (fun n => M (vmap P n)) l) := by
  obtain ⟨S0, cn, sn, hS0⟩ := new_c 200000 (by omega) (by omega) []
  rw [List.nil_append] at hS0
  simp only [List.length_nil] at cn sn
  subst hS0
  have I0 : LS [.vars [.slc true [], .int 200000, .val (.bool false), .int 0], .map [] 0, .vars [.ptr 0 0, .mp 1, .slc true []], .vars [.ptr 2 0], .arr 2 ((List.replicate l.length ((0, 0) : Nat × Nat)).map prV) 0] 0 [] (([], 0) : SMap) [] true [] l.length [] [] := by
    refine ⟨⟨⟨.slc true [], rfl, .inl ⟨rfl, rfl⟩⟩, ⟨rfl, fun i n s h => by simp at h⟩, Nat.zero_le _, by decide, rfl⟩, ⟨⟨fun i h => by simp at h, fun i h => by simp at h, fun i s h => by simp at h, fun i s k h => by simp at h, fun i h => by simp at h, fun i s h => by simp at h, fun i s h => by simp at h⟩, fun n i h => by simp [mg, mf] at h, fun n m i h => by simp [mg, mf] at h, fun i s h => by simp at h, fun i s h => by simp at h⟩, rfl, rfl, ?_, rfl, fun j a b A B h => by simp at h, ?_, fun n => by simp [mg, mf], by simp, by simp [kc]⟩
    · show AObj.arr 2 _ 0 = _
      simp
    · simp [flatE, vsL]
  obtain ⟨H1, B1, sh, P, ns1, nb, N, ids, e1, I1⟩ := so_loop hty hft hsz (by omega) l [] rfl I0
  simp only [List.length_nil, Int.natCast_zero] at e1
  have hsd : SD l sh P N := ⟨I1.ip, I1.names, I1.dom, I1.sz, I1.kc⟩
  have hT := I1.t
  rw [Nat.sub_self, List.replicate_zero, List.append_nil] at hT
  have hidl := I1.len
  have hlt : ∀ p ∈ ids, p.1 < sh.length ∧ p.2 < sh.length := fun p hp => by
    obtain ⟨j, hj⟩ := List.mem_iff_getElem?.1 hp
    obtain ⟨⟨A, B⟩, hi⟩ := at_of_lt (l := l) (i := j) (by rw [← hidl]; exact lt_of_at hj)
    obtain ⟨v1, v2⟩ := I1.vals j p.1 p.2 A B hj hi
    exact ⟨v1.1, v2.1⟩
  have M1 : MS2 H1 B1 sh P idf idf yes 0 ns1 (.slc nb (N.map sV)) ids := ⟨I1.is.sp, I1.is.nr, I1.ip.ok, I1.is.b, I1.is.ms, I1.z, I1.q, hT⟩
  have hmod : ∀ M, Con sh M → Mod sh idf M := fun M h => ⟨fun _ _ => rfl, h⟩
  have hk1 := I1.kc
  have hs1 := I1.sz
  obtain ⟨H2, res, B2, rt, r, vis, w, ns2, a2', a3', a72, e2, e3, e4⟩ := un_loop (ids := ids) (by omega) (by omega) (by omega) hlt .unk .unk ids [] rfl M1 (Int.le_refl _) (by simp) (fun M h => ⟨h.2, fun p hp => by cases hp⟩) (fun M h _ => hmod M h)
  simp only [List.length_nil, Int.natCast_zero] at e2
  rw [hidl] at e2
  have hq1 := I1.q
  have e : aval Tryd.prog md fg 33 [.slc false (l.map eqV)] [] = some (.tup [.ptr 2 0, .val (.bool res)], H2) := by
    have hmk := fun h => amake_92 h l.length (by omega)
    cases res with
    | false =>
      obtain ⟨rfl, rfl⟩ := e3 rfl
      simp only [Bool.false_eq_true, if_false] at e2
      rw [aval_of Tryd.func33 body33 Tryd.results33 Tryd.ntmps33 ok33]
      simp (implicitDefEqProofs := false) (disch := first | omega | exact List.length_set) only [go_sem, seval, rgn Tryd.f33 0 rfl, rgn Tryd.f33 1 rfl, rgn Tryd.f33 2 rfl, rgn Tryd.f33 3 rfl, rgn Tryd.f33 10 rfl, cn, aop_makeMap0, isMapT_68, List.nil_append, List.cons_append, List.length_cons, List.length_nil, List.length_map, hmk, ato2_some, e1, e2, Nat.zero_add, Nat.reduceAdd, cells_mp, ok_mp]
    | true =>
      simp only [if_true] at e2 e4
      have hq2 := e4.1.q
      rw [aval_of Tryd.func33 body33 Tryd.results33 Tryd.ntmps33 ok33]
      simp (implicitDefEqProofs := false) (disch := first | omega | exact List.length_set) only [go_sem, seval, rgn Tryd.f33 0 rfl, rgn Tryd.f33 1 rfl, rgn Tryd.f33 2 rfl, rgn Tryd.f33 3 rfl, rgn Tryd.f33 10 rfl, rgn Tryd.f33 16 rfl, cn, aop_makeMap0, isMapT_68, List.nil_append, List.cons_append, List.length_cons, List.length_nil, List.length_map, hmk, ato2_some, e1, e2, hq2, Nat.zero_add, Nat.reduceAdd, cells_mp, ok_mp]
  refine ⟨H2, res, sh, P, N, ?_, hsd, ?_⟩
  · rw [doCall_0 (by decide)]
    unfold doCall0
    rw [if_neg (by decide), rated_id (by decide), e]
    dsimp only
    rw [if_neg (fun q => by have := q.1; simp [below, belowL] at this)]
  · cases res with
    | false =>
      simp only [Bool.false_eq_true, if_false] at e4 ⊢
      exact fun M hM hE => e4 M hM ((allp_eqs hidl I1.vals hM).2 hE)
    | true =>
      simp only [if_true] at e4 ⊢
      obtain ⟨f1, f2, f3, f4, f5⟩ := e4
      exact ⟨B2, rt, r, vis, w, ns2, nb, ids, f1, fun M hm => ⟨(f4 M hm).1, (allp_eqs hidl I1.vals (f4 M hm).1).1 (f4 M hm).2⟩, fun M hm hE => f5 M hm ((allp_eqs hidl I1.vals hm).2 hE)⟩
def zeroV : AV := .agg [.val (.int .i64 0), .val (.string ⟨#[]⟩), .val (.string ⟨#[]⟩), .val (.int .i64 0), .slc true []]
section
variable {h : AHeap} {B : Nat} {sh : List Sh} {P : SMap} {rt r : Nat → Nat} {vis : Nat → Bool} {w : Int} {ns : List Nd} {nb : Bool} {N : List (List UInt8)} {ids : List (Nat × Nat)} {T : Nat → Tm}
theorem MS2.kf {H : AHeap} {nv : AV} (x : MS2 h B sh P rt r vis w ns nv ids) (k : Kf 0 h H) {ns' : List Nd} (hs : SP H 0 ns' 200000 false w) (hn : NR H 0 B sh rt r vis w ns') : MS2 H B sh P rt r vis w ns' nv ids :=
  ⟨hs, hn, x.ok, by have := x.b; have := k.1; omega, k.2 1 _ x.ms (by simp) (by decide) (by simp), k.2 2 _ x.z (by simp) (by decide) (by simp), k.2 3 _ x.q (by simp) (by decide) (by simp), k.2 4 _ x.t (by simp) (by decide) (by simp)⟩
set_option maxHeartbeats 8000000 in
theorem of_c (x : MS2 h B sh P rt r vis w ns (.slc nb (N.map sV)) ids) (hT : Mod sh rt T) (hTv : ∀ (v : Nat) (s : Sh), sh[v]? = some s → s.kind = 1 → rt v = v → T v = ⟨1, [], fstN P rt v N, 0, []⟩) (hkc : kc sh ≤ 90000) (hN : N.length ≤ 90000) (hNv : ∀ n ∈ N, vmap P n < sh.length) {i : Nat} (hi : i < sh.length) :
    ∃ H ns', doCall md (aval Tryd.prog md fg) 34 [.ptr 2 0, .int (i : Nat)] h = some (.tup [if tsz (T i) ≤ 1000 then tmV (T i) else zeroV, .val (.bool (decide (tsz (T i) ≤ 1000)))], H) ∧ MS2 H B sh P rt r vis w ns' (.slc nb (N.map sV)) ids ∧ Kf 0 h H := by
  have hQ := x.q
  have hZ := x.z
  have hM := x.ms
  have l3 := hlt_of hQ (by simp)
  have hb := x.b
  have k0 := kf_app 0 h [AObj.vars [.val (.int .i64 0), .val (.string ⟨#[]⟩), .val (.string ⟨#[]⟩), .val (.int .i64 0), .slc true []], .map [] 0]
  have hv1 : ∀ (v : Nat) (s : Sh), sh[v]? = some s → s.kind = 1 → rt v = v → tsz (T v) = 1 := fun v s h1 h2 h3 => by rw [hTv v s h1 h2 h3, tsz, tszs]
  obtain ⟨H1, ns1, Q1, c1, c2, c3, c4, c5, c6, c7⟩ := size_all (S := 0) (B := B) (Z := h.length + 1) (b := 200000) (w := w) (fl := false) (vis := vis) x.ok hT hv1 (by omega) (by omega) (by omega) (r i + 1) i (by omega) hi (h ++ [AObj.vars [.val (.int .i64 0), .val (.string ⟨#[]⟩), .val (.string ⟨#[]⟩), .val (.int .i64 0), .slc true []], .map [] 0]) ns ([], 0) (sp_app x.sp _) (x.nr.kf k0) (sb_get1 _ _ _ rfl) (fun k n hk => by simp [mg, mf] at hk)
  simp only [List.length_append, List.length_cons, List.length_nil] at c7
  have kf1 : Kf 0 h H1 := ⟨by omega, fun j o e z1 z2 z3 => c6.2 j o (k0.2 j o e z1 z2 z3) z1 z2 (by have := hlt_of e z1; omega) (by have := hlt_of e z1; omega) z3⟩
  have hb1 : hget H1 h.length = .vars [.val (.int .i64 0), .val (.string ⟨#[]⟩), .val (.string ⟨#[]⟩), .val (.int .i64 0), .slc true []] := c6.2 _ _ (sb_get0 _ _ rfl) (by simp) (by omega) (by omega) (by omega) (by simp)
  have hb1l := hlt_of hb1 (by simp)
  have x1 := x.kf kf1 c2 c3
  have g2 : ∀ l, hget (h ++ l) 2 = .vars [.ptr 0 0, .mp 1, .slc nb (N.map sV)] := fun l => (hget_app _ (by omega)).trans hZ
  have z1 : hget H1 2 = .vars [.ptr 0 0, .mp 1, .slc nb (N.map sV)] := x1.z
  unfold SO at hZ
  by_cases hs : tsz (T i) ≤ 1000
  · have hcap : ¬ ((1000 : Int) < (cap (tsz (T i)) : Nat)) := by have := cap_big.2 hs; omega
    obtain ⟨H2, ns2, d1, d2, d3, d4⟩ := told_all (S := 0) (B := B) (V := 1) (Zs := 2) (b := 200000) (w := w) (fl := false) (vis := vis) (P := P) (nb := nb) (N := N) x.ok hT hTv hkc (by decide) (by decide) hN hNv (r i + 1) i (by omega) hi H1 ns1 (by omega) c2 c3 x1.ms x1.z
    have hb2 : hget H2 h.length = .vars [.val (.int .i64 0), .val (.string ⟨#[]⟩), .val (.string ⟨#[]⟩), .val (.int .i64 0), .slc true []] := d4.2 _ _ hb1 (by simp) (by omega) (by simp)
    have hb2l := hlt_of hb2 (by simp)
    rw [if_pos hs, decide_eq_true hs]
    generalize hTi : T i = ti at *
    obtain ⟨q1, q2, q3, q4, q5⟩ := ti
    rw [tmV_mk] at d1 ⊢
    have e : aval Tryd.prog md fg 34 [.ptr 2 0, .int (i : Nat)] h = some (.tup [.agg [.int q1, .str (txt q2), .str (txt q3), .int q4, .slc false (q5.map tmV)], .val (.bool true)], H2.set h.length (.vars [.int q1, .str (txt q2), .str (txt q3), .int q4, .slc false (q5.map tmV)])) := by
      rw [aval_of Tryd.func34 body34 Tryd.results34 Tryd.ntmps34 ok34]
      simp (implicitDefEqProofs := false) (disch := first | omega | exact List.length_set) only [go_sem, seval, rgn Tryd.f34 0 rfl, rgn Tryd.f34 1 rfl, rgn Tryd.f34 3 rfl, g2, hZ, aop_makeMap0, isMapT_90, List.append_assoc, List.nil_append, List.cons_append, List.append_nil, List.length_append, List.length_cons, List.length_nil, c1, hcap, z1, d1, hb2, hget_set_eq, aresults, tupOf, Nat.zero_add, Nat.reduceAdd]
    have s2 : SP (H2.set h.length (.vars [.int q1, .str (txt q2), .str (txt q3), .int q4, .slc false (q5.map tmV)])) 0 ns2 200000 false w := sp_keep d2 (hget_set_ne (by omega)) (fun A es g q => by rw [hget_set_ne (by rintro rfl; rw [hb2] at q; cases q)]; exact q)
    have kf2 := kf1.trans d4
    obtain ⟨H, f1, f2, f3, f4⟩ := doCall_sp5 md34 e x.sp s2 (by rw [List.length_set]; exact kf2.1)
    have kfH : Kf 0 h H := ⟨f3, fun j o e z1 z2 z3 => by
      have := hlt_of e z1
      rw [f4 j this, hget_set_ne (by omega)]; exact kf2.2 j o e z1 z2 z3⟩
    exact ⟨H, ns2, f1, x.kf kfH f2 (d3.agree hb (fun j hj => by rw [f4 j hj, hget_set_ne (by omega)])), kfH⟩
  · have hcap : (1000 : Int) < (cap (tsz (T i)) : Nat) := by
      have : ¬ cap (tsz (T i)) ≤ 1000 := fun e => hs (cap_big.1 e)
      omega
    rw [if_neg hs, decide_eq_false hs]
    have e : aval Tryd.prog md fg 34 [.ptr 2 0, .int (i : Nat)] h = some (.tup [zeroV, .val (.bool false)], H1.set h.length (.vars [.val (.int .i64 0), .val (.string ⟨#[]⟩), .val (.string ⟨#[]⟩), .val (.int .i64 0), .slc true []])) := by
      unfold zeroV
      rw [aval_of Tryd.func34 body34 Tryd.results34 Tryd.ntmps34 ok34]
      simp (implicitDefEqProofs := false) (disch := first | omega | exact List.length_set) only [go_sem, seval, rgn Tryd.f34 0 rfl, rgn Tryd.f34 1 rfl, rgn Tryd.f34 2 rfl, g2, hZ, aop_makeMap0, isMapT_90, List.append_assoc, List.nil_append, List.cons_append, List.append_nil, List.length_append, List.length_cons, List.length_nil, c1, hcap, z1, hb1, hget_set_eq, aresults, tupOf, Nat.zero_add, Nat.reduceAdd]
    have s2 : SP (H1.set h.length (.vars [.val (.int .i64 0), .val (.string ⟨#[]⟩), .val (.string ⟨#[]⟩), .val (.int .i64 0), .slc true []])) 0 ns1 200000 false w := sp_keep c2 (hget_set_ne (by omega)) (fun A es g q => by rw [hget_set_ne (by rintro rfl; rw [hb1] at q; cases q)]; exact q)
    obtain ⟨H, f1, f2, f3, f4⟩ := doCall_sp5 md34 e x.sp s2 (by rw [List.length_set]; exact kf1.1)
    have kfH : Kf 0 h H := ⟨f3, fun j o e z1 z2 z3 => by
      have := hlt_of e z1
      rw [f4 j this, hget_set_ne (by omega)]; exact kf1.2 j o e z1 z2 z3⟩
    exact ⟨H, ns1, f1, x.kf kfH f2 (c3.agree hb (fun j hj => by rw [f4 j hj, hget_set_ne (by omega)])), kfH⟩
end
def valV : List UInt8 × Tm → AV
  | (n, ⟨k, p, m, x, l⟩) => .agg [.str (txt n), .int k, .str (txt p), .str (txt m), .int x, .slc false (l.map tmV)]
def KO (h : AHeap) (kt : AV) (l : List (List UInt8 × Tm)) : Prop := (l = [] ∧ kt = .slc true []) ∨ ∃ K g, kt = .arr K 0 l.length g 6 ∧ hget h K = .arr 6 (l.map valV) g
theorem headOk_val (l : List (List UInt8 × Tm)) : headOk 6 (l.map valV) = true := by
  cases l with
  | nil => rfl
  | cons t r => obtain ⟨n, k, p, m, x, ks⟩ := t; rfl
theorem solid_val (l : List (List UInt8 × Tm)) : solidL (l.map valV) = true := by
  induction l with
  | nil => rfl
  | cons t r ih =>
    obtain ⟨n, k, p, m, x, ks⟩ := t
    rw [List.map_cons]
    have := solid_tmL ks
    simp only [solidL, ih, Bool.and_true, valV, solid, Bool.not_false, Bool.true_and, this]
theorem ko_add {h : AHeap} {kt : AV} {l : List (List UInt8 × Tm)} (hk : KO h kt l) (hl : l.length ≤ 100000) (t : List UInt8 × Tm) : ∃ v H, (∀ z, appT (some (6, 88, z)) h kt (some [valV t]) = some (v, H)) ∧ KO H v (l ++ [t]) ∧ (h.length ≤ H.length ∧ ∀ j o, hget h j = o → o ≠ .dead → (∀ b c, o ≠ .arr 6 b c) → hget H j = o) := by
  have hh : headOk 6 [valV t] = true := headOk_val [t]
  rcases hk with ⟨rfl, rfl⟩ | ⟨K, g, rfl, h2⟩
  · refine ⟨_, _, fun z => appT_slc _ _ _ _ _ hh rfl (by simp) (by simp), .inr ⟨h.length, 0, by simp, by rw [hget_last]; rfl⟩, by simp, fun j o e h1 _ => by rw [hget_app _ (hlt_of e h1)]; exact e⟩
  · refine ⟨_, _, fun z => appT_arr _ _ _ _ _ _ _ _ h2 (by simp) hh (by simp; omega), .inr ⟨K, g + 1, by simp, by rw [hget_set_eq (hlt_of h2 (by simp))]; simp⟩, by simp, fun j o e h1 h4 => ?_⟩
    rw [hget_set_ne (by rintro rfl; rw [h2] at e; exact h4 _ _ e.symm)]; exact e
theorem KO.kf {h H : AHeap} (k : Kf 0 h H) (h0 : ∃ cs, hget h 0 = .vars cs) {kt : AV} {l : List (List UInt8 × Tm)} (x : KO h kt l) : KO H kt l := by
  rcases x with x | ⟨K, g, e1, e2⟩
  · exact .inl x
  · obtain ⟨cs, h0⟩ := h0
    exact .inr ⟨K, g, e1, k.2 K _ e2 (by simp) (by rintro rfl; rw [h0] at e2; cases e2) (by simp)⟩
section
variable {B : Nat} {sh : List Sh} {P : SMap} {rt r : Nat → Nat} {vis : Nat → Bool} {w : Int} {nb : Bool} {N : List (List UInt8)} {ids : List (Nat × Nat)} {T : Nat → Tm}
theorem MS2.ko {h H : AHeap} {ns : List Nd} {nv : AV} (x : MS2 h B sh P rt r vis w ns nv ids) (hl : h.length ≤ H.length) (hk : ∀ j o, hget h j = o → o ≠ .dead → (∀ b c, o ≠ .arr 6 b c) → hget H j = o) : MS2 H B sh P rt r vis w ns nv ids := by
  obtain ⟨nv0, z1, z2⟩ := x.sp
  exact ⟨sp_keep x.sp (by rw [z1]; exact hk 0 _ z1 (by simp) (by simp)) (fun A es g q => hk A _ q (by simp) (by simp)), ⟨x.nr.1, fun i n s h1 h2 => by
    have y := x.nr.2 i n s h1 h2
    refine ⟨y.kind, y.pkg, y.name, ?_, y.to, y.mark, y.le⟩
    rcases y.kids with z | ⟨K, g', e1, e2, e3, e4⟩
    · exact .inl z
    · exact .inr ⟨K, g', e1, hk K _ e2 (by simp) (by simp), e3, e4⟩⟩, x.ok, by have := x.b; omega, hk 1 _ x.ms (by simp) (by simp), hk 2 _ x.z (by simp) (by simp), hk 3 _ x.q (by simp) (by simp), hk 4 _ x.t (by simp) (by simp)⟩
def sg (T : Nat → Tm) (P : SMap) (n : List UInt8) : Tm := T (vmap P n)
set_option maxHeartbeats 8000000 in
theorem sv_loop (hT : Mod sh rt T) (hTv : ∀ (v : Nat) (s : Sh), sh[v]? = some s → s.kind = 1 → rt v = v → T v = ⟨1, [], fstN P rt v N, 0, []⟩) (hkc : kc sh ≤ 90000) (hN : N.length ≤ 90000) (hNv : ∀ n ∈ N, vmap P n < sh.length) : ∀ (rem done : List (List UInt8)), N = done ++ rem → ∀ (h : AHeap) (ns : List Nd) (kt : AV), MS2 h B sh P rt r vis w ns (.slc nb (N.map sV)) ids → KO h kt (done.map fun n => (n, sg T P n)) →
    ∃ H kt' a23 a2 a3 okk, lrun Tryd.prog md fg (fg 11) (loopOf Tryd.f11 0) (fg 11 1) ((.unk :: .unk :: (.slc true []) :: (.int 0) :: (.ptr 2 0) :: .unk :: (kt) :: U::U::U::U::U::U::U::U::U::U::U::U::U::U::(.slc nb (N.map sV)) :: (.int N.length) :: (.int done.length) :: U::U::U::U::U::U::U::U::U::U::U::U::U::U::U::U::U::U::U::U::U::U::U::U::[] : List AV)) h = some (if okk then .exit 0 else .ret, (.unk :: .unk :: (a2) :: (a3) :: (.ptr 2 0) :: .unk :: (kt') :: U::U::U::U::U::U::U::U::U::U::U::U::U::U::(.slc nb (N.map sV)) :: (.int N.length) :: (a23) :: U::U::U::U::U::U::U::U::U::U::U::U::U::U::U::U::U::U::U::U::U::U::U::U::[] : List AV), H) ∧ (okk = false → a2 = .slc true [] ∧ a3 = .int 9) ∧ (okk = true ↔ ∀ n ∈ rem, tsz (sg T P n) ≤ 1000) ∧ (okk = true → KO H kt' (N.map fun n => (n, sg T P n)))
  | [], done, he, h, ns, kt, I, hk => by
    rw [List.append_nil] at he
    subst he
    refine ⟨h, kt, .int N.length, .slc true [], .int 0, true, ?_, by simp, by simp, fun _ => hk⟩
    rw [if_pos rfl]
    rw [lrun_atC loop11_0]
    simp (implicitDefEqProofs := false) (disch := omega) only [go_sem, seval, rgn Tryd.f11 6 rfl]
  | n :: rem, done, he, h, ns, kt, I, hk => by
    have hll : N.length = done.length + (rem.length + 1) := by rw [he]; simp
    have hvl := hNv n (by rw [he]; simp)
    have hZ := I.z
    have hM := I.ms
    have lk := (ms_look hM n).2
    change alookup _ _ _ _ _ _ = some (.int (vmap P n : Nat)) at lk
    unfold SO at hZ
    have hlt : (done.length : Int) < (N.length : Int) := by omega
    have htn : ((done.length : Int)).toNat = done.length := by omega
    have hat : (N.map sV)[done.length]? = some (.val (.string (txt n))) := by rw [he]; simp [sV]
    obtain ⟨H1, ns1, c1, I1, k1⟩ := of_c I hT hTv hkc hN hNv hvl
    by_cases hs : tsz (T (vmap P n)) ≤ 1000
    · rw [if_pos hs, decide_eq_true hs] at c1
      have hk1 : KO H1 kt (done.map fun n => (n, sg T P n)) := hk.kf k1 (by obtain ⟨_, q, _⟩ := I.sp; exact ⟨_, q⟩)
      have b1 : ∀ j o, hget H1 j = o → o ≠ .dead → hget (H1 ++ [AObj.vars (tmV (T (vmap P n))).cells]) j = o := fun j o e h => by rw [hget_app _ (hlt_of e h)]; exact e
      have hk2 : KO (H1 ++ [AObj.vars (tmV (T (vmap P n))).cells]) kt (done.map fun n => (n, sg T P n)) := by
        rcases hk1 with q | ⟨K, g, q1, q2⟩
        · exact .inl q
        · exact .inr ⟨K, g, q1, b1 _ _ q2 (by simp)⟩
      obtain ⟨v, H2, x1, x2, x3, x4⟩ := ko_add hk2 (by rw [List.length_map]; omega) (n, sg T P n)
      have I2 : MS2 H2 B sh P rt r vis w ns1 (.slc nb (N.map sV)) ids := I1.ko (by simp at x3; omega) (fun j o e z1 z2 => x4 j o (b1 j o e z1) z1 z2)
      obtain ⟨H, kt', a23, a2, a3, okk, d1, d2, d3, d4⟩ := sv_loop hT hTv hkc hN hNv rem (done ++ [n]) (by rw [he]; simp) H2 ns1 v I2 (by rw [List.map_append]; exact x2)
      refine ⟨H, kt', a23, a2, a3, okk, ?_, d2, ?_, d4⟩
      · have hlen : (done ++ [n]).length = done.length + 1 := by simp
        rw [hlen] at d1
        rw [← d1]
        unfold sg at x1
        generalize hTi : T (vmap P n) = ti at *
        obtain ⟨q1, q2, q3, q4, q5⟩ := ti
        rw [tmV_mk] at c1 x1
        unfold valV at x1
        dsimp only at x1
        rw [show (AV.agg [.int q1, .str (txt q2), .str (txt q3), .int q4, .slc false (q5.map tmV)]).cells = [.int q1, .str (txt q2), .str (txt q3), .int q4, .slc false (q5.map tmV)] from rfl] at x1
        rw [lrun_atC loop11_0]
        simp (implicitDefEqProofs := false) (disch := first | omega | exact List.length_set) only [go_sem, seval, rgn Tryd.f11 6 rfl, rgn Tryd.f11 7 rfl, rgn Tryd.f11 8 rfl, rgn Tryd.f11 9 rfl, rgn Tryd.f11 11 rfl, rgn Tryd.f11 12 rfl, hlt, htn, hat, hZ, aop_lookup, lk, c1, hget_last, set_last, x1, sV]
        all_goals (congr 1 <;> simp only [List.cons.injEq, AV.val.injEq, Value.int.injEq, Value.bool.injEq, true_and, and_true] <;> omega)
      · rw [d3]
        unfold sg
        simp [hs]
    · rw [if_neg hs, decide_eq_false hs] at c1
      unfold zeroV at c1
      refine ⟨H1 ++ [AObj.vars [.val (.int .i64 0), .val (.string ⟨#[]⟩), .val (.string ⟨#[]⟩), .val (.int .i64 0), .slc true []]], kt, .int done.length, .slc true [], .int 9, false, ?_, fun _ => ⟨rfl, rfl⟩, ?_, by simp⟩
      · simp only [Bool.false_eq_true, if_false]
        rw [lrun_atC loop11_0]
        simp (implicitDefEqProofs := false) (disch := first | omega | exact List.length_set) only [go_sem, seval, rgn Tryd.f11 6 rfl, rgn Tryd.f11 7 rfl, rgn Tryd.f11 8 rfl, rgn Tryd.f11 9 rfl, rgn Tryd.f11 10 rfl, hlt, htn, hat, hZ, aop_lookup, lk, c1, hget_last, set_last]
      · constructor
        · intro h; cases h
        · intro h; exact absurd (h n (by simp)) hs
end
end Go.Proofs.YtncjbccjpneoiaaDoor
namespace Go.Proofs.YtncjbccjpneoiaaDoor
open Go Go.Ab Go.Proofs
open AV renaming unk → U
open Bool renaming false → J, true → O
set_option maxRecDepth 100000
set_option linter.unusedSimpArgs false
set_option linter.unusedVariables false
open Classical in
noncomputable def fstP (p : List UInt8 → Prop) : List (List UInt8) → List UInt8
  | [] => []
  | n :: r => if p n then n else fstP p r
theorem fstP_congr {p q : List UInt8 → Prop} : ∀ (N : List (List UInt8)), (∀ n ∈ N, (p n ↔ q n)) → fstP p N = fstP q N
  | [], _ => rfl
  | n :: r, h => by
    unfold fstP
    have := h n (by simp)
    by_cases hp : p n
    · rw [if_pos hp, if_pos (this.1 hp)]
    · rw [if_neg hp, if_neg (fun q => hp (this.2 q)), fstP_congr r fun m hm => h m (by simp [hm])]
theorem fstP_spec {p : List UInt8 → Prop} : ∀ (N : List (List UInt8)), (∃ n ∈ N, p n) → fstP p N ∈ N ∧ p (fstP p N)
  | [], ⟨n, h, _⟩ => by cases h
  | n :: r, ⟨m, h1, h2⟩ => by
    unfold fstP
    by_cases hp : p n
    · rw [if_pos hp]; exact ⟨by simp, hp⟩
    · rw [if_neg hp]
      have : ∃ n ∈ r, p n := by
        rcases List.mem_cons.1 h1 with rfl | h1
        · exact absurd h2 hp
        · exact ⟨m, h1, h2⟩
      obtain ⟨a, b⟩ := fstP_spec r this
      exact ⟨by simp [a], b⟩
theorem fstN_fstP (P : SMap) (rt : Nat → Nat) (v : Nat) : ∀ N : List (List UInt8), fstN P rt v N = fstP (fun n => rt (vmap P n) = v) N
  | [] => rfl
  | n :: r => by
    unfold fstN fstP
    rw [fstN_fstP P rt v r]
    by_cases h : rt (vmap P n) = v
    · rw [if_pos h, if_pos h]
    · rw [if_neg h, if_neg h]
structure Sol (l : List (Tm × Tm)) (N : List (List UInt8)) (s : List UInt8 → Tm) : Prop where
  eqs : Eqs s l
  gen : ∀ th, Eqs th l → ∀ n ∈ N, th n = inst th (s n)
  idem : ∀ n ∈ N, ∀ m ∈ tvars (s n), m ∈ N ∧ s m = vTm m
  fst : ∀ n ∈ N, ∀ m, s n = vTm m → m = fstP (fun x => s x = s n) N
theorem eqs_congr {th th' : List UInt8 → Tm} {l : List (Tm × Tm)} (h : ∀ n ∈ tvarss (flatE l), th n = th' n) (e : Eqs th l) : Eqs th' l := fun p hp => by
  have hm : ∀ t, (t = p.1 ∨ t = p.2) → inst th t = inst th' t := fun t ht => inst_congr t fun n hn => h n (tvarss_mem.2 ⟨t, by
    unfold flatE
    rw [List.mem_flatMap]
    exact ⟨p, hp, by simp; exact ht⟩, hn⟩)
  rw [← hm p.1 (.inl rfl), ← hm p.2 (.inr rfl)]
  exact e p hp
section
variable {l : List (Tm × Tm)} {sh : List Sh} {P : SMap} {N : List (List UInt8)} {rt r : Nat → Nat} {T : Nat → Tm}
theorem dom_l (sd : SD l sh P N) (hty : Tm.tys (flatE l)) : ∀ n, n ∈ N ↔ n ∈ tvarss (flatE l) := fun n => by
  rw [sd.names, vsL_mem _ _ _ hty]; simp
theorem vm_of {sh : List Sh} {P : SMap} {n : List UInt8} {i : Nat} (h : mg P n = some i) : vmap P n = i := by unfold vmap; rw [h]; rfl
instance : Nonempty Tm := ⟨⟨0, [], [], 0, []⟩⟩
theorem ex_con (sd : SD l sh P N) (th : List UInt8 → Tm) : ∃ M, Con sh M ∧ ∀ n ∈ N, M (vmap P n) = th n := by
  obtain ⟨M, h1, h2⟩ := ex_mod sd.ip.ok (fun v => Classical.epsilon fun t => ∃ n, mg P n = some v ∧ t = th n)
  refine ⟨M, h1.2, fun n hn => ?_⟩
  obtain ⟨i, hi⟩ := (sd.dom n).1 hn
  rw [vm_of (sh := sh) hi, h2 i vSh (sd.ip.var n i hi) rfl rfl]
  have := Classical.epsilon_spec (p := fun t => ∃ n, mg P n = some i ∧ t = th n) ⟨th n, n, hi, rfl⟩
  obtain ⟨n', h3, h4⟩ := this
  rw [h4, sd.ip.inj n' n i h3 hi]
theorem no_sol (sd : SD l sh P N) (hty : Tm.tys (flatE l)) (h : ∀ M, Con sh M → ¬ Eqs (fun n => M (vmap P n)) l) : ¬ ∃ th, Eqs th l := by
  rintro ⟨th, he⟩
  obtain ⟨M, h1, h2⟩ := ex_con sd th
  exact h M h1 (eqs_congr (fun n hn => (h2 n ((dom_l sd hty n).2 hn)).symm) he)
theorem sol_of (sd : SD l sh P N) (hty : Tm.tys (flatE l)) (ok : Ok sh rt r) (hb : ∀ M, Mod sh rt M → Con sh M ∧ Eqs (fun n => M (vmap P n)) l) (hg : ∀ M, Con sh M → Eqs (fun n => M (vmap P n)) l → Mod sh rt M) (hT : Mod sh rt T) (hTv : ∀ (v : Nat) (s : Sh), sh[v]? = some s → s.kind = 1 → rt v = v → T v = ⟨1, [], fstN P rt v N, 0, []⟩) : Sol l N (sg T P) := by
  have hvl : ∀ n ∈ N, vmap P n < sh.length ∧ ∃ s : Sh, sh[vmap P n]? = some s ∧ s.kind = 1 := fun n hn => by
    obtain ⟨i, hi⟩ := (sd.dom n).1 hn
    rw [vm_of (sh := sh) hi]
    exact ⟨lt_of_at (sd.ip.var n i hi), vSh, sd.ip.var n i hi, rfl⟩
  have hfs : ∀ (v : Nat) (s : Sh), sh[v]? = some s → s.kind = 1 → rt v = v → fstN P rt v N ∈ N ∧ rt (vmap P (fstN P rt v N)) = v := fun v s h1 h2 h3 => by
    obtain ⟨n, hn⟩ := sd.ip.sur v s h1 h2
    rw [fstN_fstP]
    exact fstP_spec N ⟨n, (sd.dom n).2 ⟨v, hn⟩, by rw [vm_of (sh := sh) hn]; exact h3⟩
  refine ⟨(hb T hT).2, fun th he n hn => ?_, fun n hn => ?_, fun n hn m hm => ?_⟩
  · obtain ⟨M, h1, h2⟩ := ex_con sd th
    have hM := hg M h1 (eqs_congr (fun n hn => (h2 n ((dom_l sd hty n).2 hn)).symm) he)
    have hM' : Mod sh rt (fun i => inst th (T i)) := ⟨fun i hi => congrArg (inst th) (hT.1 i hi), fun i s hi hk => by
      show inst th (T i) = _
      rw [hT.2 i s hi hk, inst_mk, if_neg hk, List.map_map]; rfl⟩
    have key := mod_ext ok hM hM' (fun v s h3 h4 h5 => by
      obtain ⟨f1, f2⟩ := hfs v s h3 h4 h5
      show M v = inst th (T v)
      rw [hTv v s h3 h4 h5, inst_mk, if_pos rfl, ← h2 _ f1, hM.1 _ (hvl _ f1).1, f2]) (r (vmap P n) + 1) (vmap P n) (hvl n hn).1 (by omega)
    rw [← h2 n hn, key]; rfl
  · have key : ∀ (k i : Nat), i < sh.length → r i < k → ∀ m ∈ tvars (T i), m ∈ N ∧ T (vmap P m) = vTm m := fun k => by
      induction k with
      | zero => intro i _ h; omega
      | succ k ih =>
        intro i hi hr m hm
        rw [hT.1 i hi] at hm
        have hle := ok.le i hi
        obtain ⟨s, hs⟩ := at_of_lt (ok.lt i hi)
        by_cases hk : s.kind = 1
        · obtain ⟨f1, f2⟩ := hfs _ s hs hk (ok.idem i hi)
          rw [hTv _ s hs hk (ok.idem i hi), tvars, if_pos rfl, List.mem_singleton] at hm
          subst hm
          refine ⟨f1, ?_⟩
          rw [hT.1 _ (hvl _ f1).1, f2, hTv _ s hs hk (ok.idem i hi)]; rfl
        · rw [hT.2 _ s hs hk, tvars, if_neg hk, tvarss_mem] at hm
          obtain ⟨t, ht, hm⟩ := hm
          obtain ⟨c, hc, rfl⟩ := List.mem_map.1 ht
          obtain ⟨g1, g2⟩ := ok.kid _ s c hs hc
          exact ih c g1 (by omega) m hm
    exact key _ _ (hvl n hn).1 (Nat.lt_succ_self _)
  · have hroot : ∀ x ∈ N, ∀ y, T (vmap P x) = vTm y → ∃ s : Sh, sh[rt (vmap P x)]? = some s ∧ s.kind = 1 ∧ fstN P rt (rt (vmap P x)) N = y := fun x hx y hy => by
      have hxl := (hvl x hx).1
      rw [hT.1 _ hxl] at hy
      obtain ⟨s, hs⟩ := at_of_lt (ok.lt _ hxl)
      by_cases hk : s.kind = 1
      · refine ⟨s, hs, hk, ?_⟩
        rw [hTv _ s hs hk (ok.idem _ hxl)] at hy
        unfold vTm at hy
        simp only [Tm.mk.injEq] at hy
        exact hy.2.2.1
      · rw [hT.2 _ s hs hk] at hy
        unfold vTm at hy
        simp only [Tm.mk.injEq] at hy
        exact absurd hy.1 hk
    obtain ⟨s, h1, h2, h3⟩ := hroot n hn m hm
    rw [← h3, fstN_fstP]
    have hnl := (hvl n hn).1
    refine fstP_congr N fun x hx => ?_
    show rt (vmap P x) = rt (vmap P n) ↔ T (vmap P x) = T (vmap P n)
    constructor
    · intro e
      rw [hT.1 _ (hvl x hx).1, e, ← hT.1 _ hnl]
    · intro e
      obtain ⟨s', k1, k2, k3⟩ := hroot x hx m (e.trans hm)
      obtain ⟨f1, f2⟩ := hfs _ s h1 h2 (ok.idem _ hnl)
      obtain ⟨g1, g2⟩ := hfs _ s' k1 k2 (ok.idem _ (hvl x hx).1)
      rw [h3] at f2
      rw [k3] at g2
      rw [← g2, f2]
end
end Go.Proofs.YtncjbccjpneoiaaDoor
namespace Go.Proofs.YtncjbccjpneoiaaDoor
open Go Go.Ab Go.Proofs
open AV renaming unk → U
open Bool renaming false → J, true → O
set_option maxRecDepth 100000
set_option linter.unusedSimpArgs false
set_option linter.unusedVariables false
theorem tys_of {l : List Tm} (h : ∀ t ∈ l, t.ty) : Tm.tys l := by
  induction l with
  | nil => simp [Tm.tys]
  | cons a r ih => rw [Tm.tys]; exact ⟨h a (by simp), ih fun t ht => h t (by simp [ht])⟩
theorem fits_of {l : List Tm} (h : ∀ t ∈ l, t.fit) : Tm.fits l := by
  induction l with
  | nil => simp [Tm.fits]
  | cons a r ih => rw [Tm.fits]; exact ⟨h a (by simp), ih fun t ht => h t (by simp [ht])⟩
theorem kc_at : ∀ (l : List Sh) (j : Nat) (s : Sh), l[j]? = some s → s.kids.length ≤ kc l
  | [], j, s, h => by simp at h
  | a :: r, j, s, h => by
    have e : kc (a :: r) = a.kids.length + kc r := by simp [kc]
    rw [e]
    cases j with
    | zero => simp at h; subst h; omega
    | succ j => have := kc_at r j s (by simpa using h); omega
theorem sol_fit {l : List (Tm × Tm)} {sh : List Sh} {P : SMap} {N : List (List UInt8)} {rt r : Nat → Nat} {T : Nat → Tm} (sd : SD l sh P N) (hty : Tm.tys (flatE l)) (hft : Tm.fits (flatE l)) (hsz : tszs (flatE l) ≤ 40000) (ok : Ok sh rt r) (hT : Mod sh rt T) (hTv : ∀ (v : Nat) (s : Sh), sh[v]? = some s → s.kind = 1 → rt v = v → T v = ⟨1, [], fstN P rt v N, 0, []⟩) : ∀ (k i : Nat), i < sh.length → r i < k → (T i).ty ∧ (T i).fit
  | 0, i, _, h => by omega
  | k + 1, i, hi, h => by
    have hle := ok.le i hi
    obtain ⟨s, hs⟩ := at_of_lt (ok.lt i hi)
    rw [hT.1 i hi]
    by_cases hk : s.kind = 1
    · rw [hTv _ s hs hk (ok.idem i hi)]
      have hm : (fstN P rt (rt i) N).length ≤ 9223372036854775807 := by
        obtain ⟨n, hn⟩ := sd.ip.sur _ s hs hk
        rw [fstN_fstP]
        have := (fstP_spec (p := fun n => rt (vmap P n) = rt i) N ⟨n, (sd.dom n).2 ⟨_, hn⟩, by rw [vm_of (sh := sh) hn]; exact ok.idem i hi⟩).1
        exact tvarss_fit _ hft _ ((dom_l sd hty _).1 this)
      rw [Tm.ty, Tm.fit]
      simp [Tm.tys, Tm.fits, hm]
    · rw [hT.2 _ s hs hk, Tm.ty, Tm.fit]
      obtain ⟨f1, f2, f3, f4⟩ := sd.ip.fit _ s hs
      have hkl := kc_at _ _ _ hs
      have := sd.kc
      have hall : ∀ t ∈ s.kids.map T, t.ty ∧ t.fit := fun t ht => by
        obtain ⟨c, hc, rfl⟩ := List.mem_map.1 ht
        obtain ⟨g1, g2⟩ := ok.kid _ s c hs hc
        exact sol_fit sd hty hft hsz ok hT hTv k c g1 (by omega)
      exact ⟨⟨⟨f3, f4, rfl, fun e => absurd e hk⟩, tys_of fun t ht => (hall t ht).1⟩, f1, f2, by rw [List.length_map]; omega, fits_of fun t ht => (hall t ht).2⟩
theorem exp_val {H : AHeap} {K g : Nat} {es : List AV} (hK : hget H K = .arr 6 es g) (hs : solidL es = true) (c : Value) : exp1 H expDepth (.tup [.arr K 0 es.length g 6, .val c]) = some (.tup [.slc false es, .val c], [K]) := by
  have h1 := arr_exp hK hs 58
  have hb : exp1 H (58 + 1) (.val c) = some (.val c, []) := rfl
  show exp1 H (58 + 1 + 1) _ = _
  rw [exp1]
  simp only [solid, solidL, Bool.false_and, if_false, Bool.false_eq_true, expL, hb, h1, List.nil_append, List.append_nil, Option.map_some]
theorem exp_nil (H : AHeap) (c : Value) : exp1 H expDepth (.tup [.slc true [], .val c]) = some (.tup [.slc false [], .val c], []) := rfl
set_option maxHeartbeats 8000000 in
theorem solveP {l : List (Tm × Tm)} (hty : Tm.tys (flatE l)) (hft : Tm.fits (flatE l)) (hsz : tszs (flatE l) ≤ 40000) (hll : l.length ≤ 1000) :
    ((¬ ∃ th, Eqs th l) ∧ pcall Tryd.prog md fg 11 [.slc false (l.map eqV)] = some (.tup [.slc false [], .int 15])) ∨
    ∃ s, Sol l (vsL [] (flatE l)) s ∧ (∀ n ∈ vsL [] (flatE l), (s n).ty ∧ (s n).fit) ∧ (((∀ n ∈ vsL [] (flatE l), tsz (s n) ≤ 1000) ∧ pcall Tryd.prog md fg 11 [.slc false (l.map eqV)] = some (.tup [.slc false ((vsL [] (flatE l)).map fun n => valV (n, s n)), .int 0])) ∨ ((¬ ∀ n ∈ vsL [] (flatE l), tsz (s n) ≤ 1000) ∧ pcall Tryd.prog md fg 11 [.slc false (l.map eqV)] = some (.tup [.slc false [], .int 9]))) := by
  obtain ⟨H, res, sh, P, N, c1, sd, c3⟩ := solve_c hty hft hsz hll
  cases res with
  | false =>
    simp only [Bool.false_eq_true, if_false] at c3
    refine .inl ⟨no_sol sd hty c3, ?_⟩
    have e : aval Tryd.prog md fg 11 [.slc false (l.map eqV)] [] = some (.tup [.slc true [], .int 15], H) := by
      rw [aval_of Tryd.func11 body11 Tryd.results11 Tryd.ntmps11 ok11]
      simp (implicitDefEqProofs := false) (disch := omega) only [go_sem, seval, rgn Tryd.f11 0 rfl, rgn Tryd.f11 1 rfl, rgn Tryd.f11 2 rfl, rgn Tryd.f11 3 rfl, c1]
    rw [pcall_eq, e]
    unfold pureRes
    dsimp only
    rw [exp_nil]
    rfl
  | true =>
    simp only [if_true] at c3
    obtain ⟨B, rt, r, vis, w, ns, nb, ids, I, hb, hg⟩ := c3
    obtain ⟨T, hT, hTv0⟩ := ex_mod I.ok (fun v => ⟨1, [], fstN P rt v N, 0, []⟩)
    have hTv : ∀ (v : Nat) (s : Sh), sh[v]? = some s → s.kind = 1 → rt v = v → T v = ⟨1, [], fstN P rt v N, 0, []⟩ := fun v s h1 h2 h3 => hTv0 v s h1 h2 h3
    have hsol := sol_of sd hty I.ok hb hg hT hTv
    have hNl : N.length ≤ 40000 := by
      rw [sd.names]
      have := vsL_len (flatE l) []
      simp only [List.length_nil] at this
      omega
    have hNv : ∀ n ∈ N, vmap P n < sh.length := fun n hn => by
      obtain ⟨i, hi⟩ := (sd.dom n).1 hn
      rw [vm_of (sh := sh) hi]; exact lt_of_at (sd.ip.var n i hi)
    have hkc := sd.kc
    obtain ⟨H1, kt', a23, a2, a3, okk, d1, d2, d3, d4⟩ := sv_loop (B := B) (vis := vis) (w := w) (nb := nb) (ids := ids) hT hTv (by omega) (by omega) hNv N [] rfl H ns (.slc true []) I (.inl ⟨rfl, rfl⟩)
    simp only [List.length_nil, Int.natCast_zero] at d1
    have hZ := I.z
    unfold SO at hZ
    have hfit : ∀ n ∈ N, (sg T P n).ty ∧ (sg T P n).fit := fun n hn => sol_fit sd hty hft hsz I.ok hT hTv _ _ (hNv n hn) (Nat.lt_succ_self _)
    rw [← sd.names]
    refine .inr ⟨sg T P, hsol, hfit, ?_⟩
    cases okk with
    | true =>
      left
      refine ⟨d3.1 rfl, ?_⟩
      simp only [if_true] at d1
      have e : aval Tryd.prog md fg 11 [.slc false (l.map eqV)] [] = some (.tup [kt', .int 0], H1) := by
        rw [aval_of Tryd.func11 body11 Tryd.results11 Tryd.ntmps11 ok11]
        simp (implicitDefEqProofs := false) (disch := omega) only [go_sem, seval, rgn Tryd.f11 0 rfl, rgn Tryd.f11 1 rfl, rgn Tryd.f11 2 rfl, rgn Tryd.f11 4 rfl, rgn Tryd.f11 5 rfl, rgn Tryd.f11 13 rfl, c1, hZ, List.length_map, d1]
      rw [pcall_eq, e]
      unfold pureRes
      dsimp only
      rcases d4 rfl with ⟨e1, rfl⟩ | ⟨K, g, rfl, e2⟩
      · rw [exp_nil]
        have : N = [] := by simpa using e1
        subst this
        rfl
      · have := exp_val e2 (solid_val _) (.int .i64 0)
        rw [List.length_map, List.length_map] at this
        rw [List.length_map]
        rw [this]
        dsimp only
        rw [if_pos (by simp [canFrz, e2]), List.map_map]
        rfl
    | false =>
      right
      refine ⟨fun h => by have := d3.2 h; simp at this, ?_⟩
      simp only [Bool.false_eq_true, if_false] at d1
      obtain ⟨rfl, rfl⟩ := d2 rfl
      have e : aval Tryd.prog md fg 11 [.slc false (l.map eqV)] [] = some (.tup [.slc true [], .int 9], H1) := by
        rw [aval_of Tryd.func11 body11 Tryd.results11 Tryd.ntmps11 ok11]
        simp (implicitDefEqProofs := false) (disch := omega) only [go_sem, seval, rgn Tryd.f11 0 rfl, rgn Tryd.f11 1 rfl, rgn Tryd.f11 2 rfl, rgn Tryd.f11 4 rfl, rgn Tryd.f11 5 rfl, c1, hZ, List.length_map, d1]
      rw [pcall_eq, e]
      unfold pureRes
      dsimp only
      rw [exp_nil]
      rfl
theorem valV_mk (s : List UInt8) (k : Int) (p m : List UInt8) (n : Int) (l : List Tm) : valV (s, ⟨k, p, m, n, l⟩) = .agg [.str (txt s), .int k, .str (txt p), .str (txt m), .int n, .slc false (l.map tmV)] := rfl
theorem no_p (n : Int) : pcall Tryd.prog md fg 14 [.int n] = some (.int n) := by
  have e : aval Tryd.prog md fg 14 [.int n] [] = some (.int n, []) := by
    rw [aval_of Tryd.func14 body14 Tryd.results14 Tryd.ntmps14 ok14]
    simp (implicitDefEqProofs := false) (disch := omega) only [go_sem, seval, rgn Tryd.f14 0 rfl, rgn Tryd.f14 1 rfl]
  rw [pcall_eq, e, pureRes_solid rfl]
theorem no_c (n : Int) (h : AHeap) : doCall md (aval Tryd.prog md fg) 14 [.int n] h = some (.int n, h) := doCall_pure md14 rfl (no_p n)
def strB (s : List UInt8) (o : Option (AV × AHeap)) : Bool :=
  match o with
  | some (.val (.string t), _) => decide (t = txt s)
  | _ => false
theorem pcall_sstr (k : Nat) {f : FuncId} {vs : List AV} {s : List UInt8} (e : strB s (scall Tryd.prog md fg knows k f vs []) = true) : pcall Tryd.prog md fg f vs = some (.val (.string (txt s))) := by
  unfold strB at e
  split at e
  · rename_i t h hc
    rw [pcall_eq, aval_of_scall okKnown k hc, of_decide_eq_true e, pureRes_solid rfl]
  · cases e
def dnm (k : Nat) : List UInt8 := [116, UInt8.ofNat (97 + k)]
theorem dnm_all : (List.range 14).all (fun q => strB (dnm q) (scall Tryd.prog md fg knows 50 22 [.int (Int.ofNat q)] [])) = true := by decide +kernel
theorem dnm_p (q : Nat) (hq : q < 14) : pcall Tryd.prog md fg 22 [.int (q : Int)] = some (.val (.string (txt (dnm q)))) :=
  pcall_sstr 50 (List.all_eq_true.1 dnm_all q (List.mem_range.2 hq))
theorem dnm_c (q : Nat) (hq : q < 14) (h : AHeap) : doCall md (aval Tryd.prog md fg) 22 [.int (q : Int)] h = some (.val (.string (txt (dnm q))), h) := doCall_pure md22 rfl (dnm_p q hq)
def funT (a b : Tm) : Tm := ⟨3, [], [], 0, [a, b]⟩
theorem tv_p (s : List UInt8) : pcall Tryd.prog md fg 23 [.str (txt s)] = some (tmV (vTm s)) := by
  have hx : ∀ h : AHeap, exp1 h expDepth (.agg [.int 1, .str (txt []), .str (txt s), .int 0, .slc true []]) = some (tmV (vTm s), []) := fun h => by
    have := exp_agg5 (H := h) (.int .i64 1) (.string (txt [])) (.string (txt s)) (.int .i64 0) (us := []) (v := .slc true []) (ids := []) rfl rfl
    rw [this]
    unfold vTm
    rw [tmV_mk]
  have e : ∃ h, aval Tryd.prog md fg 23 [.str (txt s)] [] = some (.agg [.int 1, .str (txt []), .str (txt s), .int 0, .slc true []], h) := by
    rw [aval_of Tryd.func23 body23 Tryd.results23 Tryd.ntmps23 ok23]
    simp (implicitDefEqProofs := false) (disch := omega) only [go_sem, seval, rgn Tryd.f23 0 rfl, rgn Tryd.f23 1 rfl, aresults, tupOf]
    exact ⟨_, rfl⟩
  obtain ⟨h, e⟩ := e
  rw [pcall_eq, e]
  unfold pureRes
  dsimp only
  rw [hx]
  rfl
theorem tv_c (s : List UInt8) (h : AHeap) : doCall md (aval Tryd.prog md fg) 23 [.str (txt s)] h = some (tmV (vTm s), h) := doCall_pure md23 rfl (tv_p s)
theorem fun_p (a b : Tm) : pcall Tryd.prog md fg 24 [tmV a, tmV b] = some (tmV (funT a b)) := by
  have hx : ∀ h : AHeap, exp1 h expDepth (.agg [.int 3, .str (txt []), .str (txt []), .int 0, .slc true [tmV a, tmV b]]) = some (tmV (funT a b), []) := fun h => by
    have h1 : exp1 h 59 (.slc true [tmV a, tmV b]) = some (.slc false ([a, b].map tmV), []) := by
      show exp1 h (58 + 1) _ = _
      unfold exp1
      simp only [solid, Bool.not_true, Bool.false_and, Bool.false_eq_true, if_false, expL, exp1_solid (solid_tm a), exp1_solid (solid_tm b), Option.map_some, List.append_nil, List.map_cons, List.map_nil]
    have := exp_agg5 (.int .i64 3) (.string (txt [])) (.string (txt [])) (.int .i64 0) (us := [a, b]) (v := .slc true [tmV a, tmV b]) rfl h1
    rw [this]
    unfold funT
    rw [tmV_mk]
  have e : ∃ h, aval Tryd.prog md fg 24 [tmV a, tmV b] [] = some (.agg [.int 3, .str (txt []), .str (txt []), .int 0, .slc true [tmV a, tmV b]], h) := by
    obtain ⟨k, p, m, n, l⟩ := a
    obtain ⟨k', p', m', n', l'⟩ := b
    rw [tmV_mk, tmV_mk]
    rw [aval_of Tryd.func24 body24 Tryd.results24 Tryd.ntmps24 ok24]
    simp (implicitDefEqProofs := false) (disch := omega) only [go_sem, seval, rgn Tryd.f24 0 rfl, rgn Tryd.f24 1 rfl, aresults, tupOf, sb_get0, sb_get1, List.nil_append, List.cons_append, List.length_cons, List.length_nil]
    exact ⟨_, rfl⟩
  obtain ⟨h, e⟩ := e
  rw [pcall_eq, e]
  unfold pureRes
  dsimp only
  rw [hx]
  rfl
theorem fun_c (a b : Tm) (h : AHeap) : doCall md (aval Tryd.prog md fg) 24 [tmV a, tmV b] h = some (tmV (funT a b), h) := doCall_pure md24 (solid2 a b) (fun_p a b)
def KQ (h : AHeap) (kt : AV) (l : List (Tm × Tm)) : Prop := (l = [] ∧ kt = .slc true []) ∨ ∃ K g, kt = .arr K 0 l.length g 10 ∧ hget h K = .arr 10 (l.map eqV) g
theorem headOk_eqs (l : List (Tm × Tm)) : headOk 10 (l.map eqV) = true := by
  cases l with
  | nil => rfl
  | cons t r => obtain ⟨⟨k, p, m, x, ks⟩, ⟨k', p', m', x', ks'⟩⟩ := t; rfl
theorem kq_add {h : AHeap} {kt : AV} {l : List (Tm × Tm)} (hk : KQ h kt l) (hl : l.length ≤ 100000) (t : Tm × Tm) : ∃ v H, (∀ z, appT (some (10, 144, z)) h kt (some [eqV t]) = some (v, H)) ∧ KQ H v (l ++ [t]) := by
  have hh : headOk 10 [eqV t] = true := headOk_eqs [t]
  rcases hk with ⟨rfl, rfl⟩ | ⟨K, g, rfl, h2⟩
  · exact ⟨_, _, fun z => appT_slc _ _ _ _ _ hh rfl (by simp) (by simp), .inr ⟨h.length, 0, by simp, by rw [hget_last]; rfl⟩⟩
  · exact ⟨_, _, fun z => appT_arr _ _ _ _ _ _ _ _ h2 (by simp) hh (by simp; omega), .inr ⟨K, g + 1, by simp, by rw [hget_set_eq (hlt_of h2 (by simp))]; simp⟩⟩
def dE (k : Nat) : Tm × Tm := (vTm (dnm k), funT (vTm (dnm (k + 1))) (vTm (dnm (k + 1))))
def dL (n : Nat) : List (Tm × Tm) := (List.range n).map dE
theorem dL_succ (n : Nat) : dL (n + 1) = dL n ++ [dE n] := by unfold dL; rw [List.range_succ, List.map_append]; rfl
theorem call22 : callable Tryd.prog 22 = true := by kernel_rfl
set_option maxHeartbeats 8000000 in
theorem db_loop (n : Nat) (hn : n ≤ 12) (c : AV) : ∀ (m i : Nat), i + m = n → ∀ (h : AHeap) (kt : AV), KQ h kt (dL i) →
    ∃ H kt', lrun Tryd.prog md fg (fg 7) (loopOf Tryd.f7 0) (fg 7 1) (((.int n) :: (c) :: U::U::U::(.clo 22 [] []) :: (kt) :: (.int i) :: U::U::U::U::U::U::U::U::U::U::U::U::U::U::U::U::U::U::U::U::U::U::U::U::U::U::U::U::U::U::U::U::U::U::U::U::U::U::U::U::U::U::U::U::U::U::U::U::U::U::U::U::U::U::U::U::U::U::U::U::U::U::U::U::U::U::U::U::U::U::U::U::U::U::U::U::U::U::U::U::U::U::U::U::U::U::U::U::U::U::U::U::U::U::U::U::U::U::U::U::U::U::U::U::U::U::[] : List AV)) h = some (.exit 0, ((.int n) :: (c) :: U::U::U::(.clo 22 [] []) :: (kt') :: (.int n) :: U::U::U::U::U::U::U::U::U::U::U::U::U::U::U::U::U::U::U::U::U::U::U::U::U::U::U::U::U::U::U::U::U::U::U::U::U::U::U::U::U::U::U::U::U::U::U::U::U::U::U::U::U::U::U::U::U::U::U::U::U::U::U::U::U::U::U::U::U::U::U::U::U::U::U::U::U::U::U::U::U::U::U::U::U::U::U::U::U::U::U::U::U::U::U::U::U::U::U::U::U::U::U::U::U::U::[] : List AV), H) ∧ KQ H kt' (dL n)
  | 0, i, he, h, kt, hk => by
    have : i = n := by omega
    subst this
    refine ⟨h, kt, ?_, hk⟩
    rw [lrun_atC loop7_0]
    simp (implicitDefEqProofs := false) (disch := omega) only [go_sem, seval, rgn Tryd.f7 5 rfl]
  | m + 1, i, he, h, kt, hk => by
    have hlt : (i : Int) < (n : Int) := by omega
    have hkl : (dL i).length ≤ 100000 := by unfold dL; rw [List.length_map, List.length_range]; omega
    obtain ⟨v, H, x1, x2⟩ := kq_add hk hkl (dE i)
    rw [← dL_succ] at x2
    obtain ⟨H', kt', e1, e2⟩ := db_loop n hn c m (i + 1) (by omega) H v x2
    refine ⟨H', kt', ?_, e2⟩
    rw [← e1]
    have c22 := dnm_c i (by omega)
    have c22' := dnm_c (i + 1) (by omega)
    rw [show ((i + 1 : Nat) : Int) = (i : Int) + 1 by omega] at c22'
    have c23 := tv_c (dnm i)
    have c23' := tv_c (dnm (i + 1))
    have c24 := fun_c (vTm (dnm (i + 1))) (vTm (dnm (i + 1)))
    unfold dE funT at x1
    unfold funT at c24
    unfold vTm at c23 c23' c24 x1
    unfold eqV at x1
    rw [tmV_mk, List.map_nil] at c23 c23'
    rw [tmV_mk, tmV_mk] at c24
    dsimp only at x1
    simp only [List.map_cons, List.map_nil] at x1 c24
    rw [lrun_atC loop7_0]
    simp (implicitDefEqProofs := false) (disch := omega) only [go_sem, seval, rgn Tryd.f7 5 rfl, rgn Tryd.f7 6 rfl, rgn Tryd.f7 7 rfl, hlt, c22, c22', c23, c23', c24, x1, call22, if_true]
    all_goals (congr 1 <;> simp only [List.cons.injEq, AV.val.injEq, Value.int.injEq, Value.bool.injEq, true_and, and_true] <;> omega)
def dCy (n : Nat) : Tm × Tm := (vTm (dnm n), vTm (dnm 0))
def dLc (n : Nat) (c : Bool) : List (Tm × Tm) := dL n ++ (if c = true ∧ 0 < n then [dCy n] else [])
theorem mem_dL {n : Nat} {p : Tm × Tm} : p ∈ dL n ↔ ∃ k, k < n ∧ p = dE k := by
  unfold dL
  rw [List.mem_map]
  constructor
  · rintro ⟨k, h1, rfl⟩; exact ⟨k, List.mem_range.1 h1, rfl⟩
  · rintro ⟨k, h1, rfl⟩; exact ⟨k, List.mem_range.2 h1, rfl⟩
theorem mem_dLc {n : Nat} {c : Bool} {p : Tm × Tm} (h : p ∈ dLc n c) : (∃ k, k < n ∧ p = dE k) ∨ p = dCy n := by
  unfold dLc at h
  rcases List.mem_append.1 h with h | h
  · exact .inl (mem_dL.1 h)
  · split at h
    · exact .inr (List.mem_singleton.1 h)
    · cases h
theorem dnm_len (k : Nat) : (dnm k).length = 2 := rfl
theorem vT_ty (k : Nat) : (vTm (dnm k)).ty ∧ (vTm (dnm k)).fit := by
  unfold vTm
  rw [Tm.ty, Tm.fit]
  simp [Tm.tys, Tm.fits, dnm_len]
theorem fT_ty (k : Nat) : (funT (vTm (dnm k)) (vTm (dnm k))).ty ∧ (funT (vTm (dnm k)) (vTm (dnm k))).fit := by
  unfold funT
  rw [Tm.ty, Tm.fit]
  simp [Tm.tys, Tm.fits, vT_ty k]
theorem dLc_mem {n : Nat} {c : Bool} {t : Tm} (h : t ∈ flatE (dLc n c)) : t.ty ∧ t.fit := by
  unfold flatE at h
  rw [List.mem_flatMap] at h
  obtain ⟨p, hp, ht⟩ := h
  simp only [List.mem_cons, List.not_mem_nil, or_false] at ht
  rcases mem_dLc hp with ⟨k, hk, rfl⟩ | rfl
  · rcases ht with rfl | rfl
    · exact vT_ty k
    · exact fT_ty (k + 1)
  · rcases ht with rfl | rfl
    · exact vT_ty n
    · exact vT_ty 0
theorem dLc_tys (n : Nat) (c : Bool) : Tm.tys (flatE (dLc n c)) := tys_of fun t h => (dLc_mem h).1
theorem dLc_fits (n : Nat) (c : Bool) : Tm.fits (flatE (dLc n c)) := fits_of fun t h => (dLc_mem h).2
theorem tszs_app2 (a b : List Tm) : tszs (a ++ b) = tszs a + tszs b := by
  induction a with
  | nil => rw [List.nil_append, tszs]; omega
  | cons t r ih => rw [List.cons_append, tszs, tszs, ih]; omega
theorem dL_sz : ∀ n, tszs (flatE (dL n)) = 4 * n
  | 0 => by simp [dL, flatE, tszs]
  | n + 1 => by
    rw [dL_succ, flatE_app, tszs_app2, dL_sz n]
    simp [flatE, dE, vTm, funT, tszs, tsz]
    omega
theorem dLc_sz (n : Nat) (c : Bool) : tszs (flatE (dLc n c)) ≤ 4 * n + 2 := by
  unfold dLc
  rw [flatE_app, tszs_app2, dL_sz]
  split
  · simp [flatE, dCy, vTm, tszs, tsz]
  · simp [flatE, tszs]
theorem dLc_len (n : Nat) (c : Bool) : (dLc n c).length ≤ n + 1 := by
  unfold dLc
  rw [List.length_append]
  have : (dL n).length = n := by unfold dL; rw [List.length_map, List.length_range]
  split
  · simp; omega
  · simp; omega
theorem inst_v (s : List UInt8 → Tm) (m : List UInt8) : inst s (vTm m) = s m := by unfold vTm; rw [inst, if_pos rfl]
theorem inst_f (s : List UInt8 → Tm) (a b : Tm) : inst s (funT a b) = funT (inst s a) (inst s b) := by
  unfold funT
  rw [inst, if_neg (by decide), insts, insts, insts]
theorem dbl_sz {s : List UInt8 → Tm} {n : Nat} {c : Bool} (he : Eqs s (dLc n c)) {k : Nat} (hk : k < n) : tsz (s (dnm k)) = 2 * tsz (s (dnm (k + 1))) + 1 := by
  have := he (dE k) (by unfold dLc; rw [List.mem_append]; exact .inl (mem_dL.2 ⟨k, hk, rfl⟩))
  unfold dE at this
  dsimp only at this
  rw [inst_v, inst_f, inst_v] at this
  rw [this]
  unfold funT
  rw [tsz, tszs, tszs, tszs]
  omega
theorem dbl_pow {s : List UInt8 → Tm} {n : Nat} {c : Bool} (he : Eqs s (dLc n c)) : ∀ j, j ≤ n → tsz (s (dnm (n - j))) + 1 = 2 ^ j * (tsz (s (dnm n)) + 1)
  | 0, _ => by simp
  | j + 1, hj => by
    have h1 := dbl_sz he (k := n - (j + 1)) (by omega)
    have h2 := dbl_pow he j (by omega)
    rw [show n - (j + 1) + 1 = n - j by omega] at h1
    rw [Nat.pow_succ, Nat.mul_comm (2 ^ j) 2, Nat.mul_assoc, ← h2]
    omega
theorem no_ring {n : Nat} (hn : 0 < n) : ¬ ∃ th, Eqs th (dLc n true) := by
  rintro ⟨th, he⟩
  have h1 := dbl_pow he n (Nat.le_refl _)
  rw [Nat.sub_self] at h1
  have h2 := he (dCy n) (by unfold dLc; rw [if_pos ⟨rfl, hn⟩]; simp)
  unfold dCy at h2
  dsimp only at h2
  rw [inst_v, inst_v] at h2
  rw [← h2] at h1
  have : 2 ^ 1 ≤ 2 ^ n := Nat.pow_le_pow_right (by omega) hn
  have h4 : 2 * (tsz (th (dnm n)) + 1) ≤ 2 ^ n * (tsz (th (dnm n)) + 1) := Nat.mul_le_mul_right _ this
  omega
def tw (n : Nat) : Nat → Tm
  | 0 => vTm (dnm n)
  | j + 1 => funT (tw n j) (tw n j)
def twS (n : Nat) (m : List UInt8) : Tm := tw n (n - ((m.getD 1 0).toNat - 97))
theorem twS_at (n k : Nat) (hk : k ≤ 13) : twS n (dnm k) = tw n (n - k) := by
  unfold twS dnm
  have : (UInt8.ofNat (97 + k)).toNat = 97 + k := by
    rw [UInt8.toNat_ofNat']; omega
  show tw n (n - ((UInt8.ofNat (97 + k)).toNat - 97)) = _
  rw [this]
  congr 1
  omega
theorem tw_eqs (n : Nat) (hn : n ≤ 12) {c : Bool} (hc : ¬ (c = true ∧ 0 < n)) : Eqs (twS n) (dLc n c) := by
  intro p hp
  unfold dLc at hp
  rw [if_neg hc, List.append_nil, mem_dL] at hp
  obtain ⟨k, hk, rfl⟩ := hp
  unfold dE
  dsimp only
  rw [inst_v, inst_f, inst_v, twS_at _ _ (by omega), twS_at _ _ (by omega), show n - k = (n - (k + 1)) + 1 by omega]
  rfl
theorem dN : (List.range 13).all (fun n => decide (n = 0 ∨ vsL [] (flatE (dL n)) = (List.range (n + 1)).map dnm)) = true := by decide +kernel
theorem dN_at {n : Nat} (h0 : 0 < n) (hn : n ≤ 12) : vsL [] (flatE (dL n)) = (List.range (n + 1)).map dnm := by
  have := of_decide_eq_true (List.all_eq_true.1 dN n (List.mem_range.2 (by omega)))
  rcases this with h | h
  · omega
  · exact h
theorem sol_size {n : Nat} {c : Bool} (hc : ¬ (c = true ∧ 0 < n)) (h0 : 0 < n) (hn : n ≤ 12) {s : List UInt8 → Tm} (hs : Sol (dLc n c) (vsL [] (flatE (dLc n c))) s) (hty : ∀ m ∈ vsL [] (flatE (dLc n c)), (s m).ty) : vsL [] (flatE (dLc n c)) = (List.range (n + 1)).map dnm ∧ ∀ k, k ≤ n → tsz (s (dnm k)) + 1 = 2 ^ (n - k + 1) := by
  have hN : vsL [] (flatE (dLc n c)) = (List.range (n + 1)).map dnm := by
    have : dLc n c = dL n := by unfold dLc; rw [if_neg hc, List.append_nil]
    rw [this]; exact dN_at h0 hn
  rw [hN] at hs hty
  refine ⟨hN, ?_⟩
  have hmem : dnm n ∈ (List.range (n + 1)).map dnm := List.mem_map.2 ⟨n, List.mem_range.2 (by omega), rfl⟩
  have g := hs.gen (twS n) (tw_eqs n hn hc) _ hmem
  rw [twS_at _ _ (by omega), Nat.sub_self] at g
  have h1 : tsz (s (dnm n)) = 1 := by
    have ht := hty _ hmem
    generalize s (dnm n) = u at *
    obtain ⟨k, p, m, x, l⟩ := u
    rw [inst_mk] at g
    by_cases hk : k = 1
    · rw [Tm.ty] at ht
      rw [(ht.1.2.2.2 hk).1, tsz, tszs]
    · rw [if_neg hk] at g
      unfold tw vTm at g
      simp only [Tm.mk.injEq] at g
      exact absurd g.1.symm hk
  intro k hk
  have := dbl_pow hs.eqs (n - k) (by omega)
  rw [show n - (n - k) = k by omega, h1] at this
  rw [this, Nat.pow_succ]
theorem db2_loop (n : Nat) (hn : n ≤ 12) (vs : AV) (cd : Int) (h : AHeap) : ∀ (m i : Nat), i + m = n →
    lrun Tryd.prog md fg (fg 7) (loopOf Tryd.f7 2) (fg 7 3) (((.int n) :: U::U::U::U::U::U::U::(vs) :: (.int cd) :: (.int ((2 ^ (i + 1) : Nat) - 1)) :: (.int i) :: U::U::U::U::U::U::U::U::U::U::U::U::U::U::U::U::U::U::U::U::U::U::U::U::U::U::U::U::U::U::U::U::U::U::U::U::U::U::U::U::U::U::U::U::U::U::U::U::U::U::U::U::U::U::U::U::U::U::U::U::U::U::U::U::U::U::U::U::U::U::U::U::U::U::U::U::U::U::U::U::U::U::U::U::U::U::U::U::U::U::U::U::U::U::U::U::U::U::U::U::U::U::[] : List AV)) h = some (.exit 2, ((.int n) :: U::U::U::U::U::U::U::(vs) :: (.int cd) :: (.int ((2 ^ (n + 1) : Nat) - 1)) :: (.int n) :: U::U::U::U::U::U::U::U::U::U::U::U::U::U::U::U::U::U::U::U::U::U::U::U::U::U::U::U::U::U::U::U::U::U::U::U::U::U::U::U::U::U::U::U::U::U::U::U::U::U::U::U::U::U::U::U::U::U::U::U::U::U::U::U::U::U::U::U::U::U::U::U::U::U::U::U::U::U::U::U::U::U::U::U::U::U::U::U::U::U::U::U::U::U::U::U::U::U::U::U::U::U::[] : List AV), h)
  | 0, i, he => by
    have : i = n := by omega
    subst this
    rw [lrun_atC loop7_2]
    simp (implicitDefEqProofs := false) (disch := omega) only [go_sem, seval, rgn Tryd.f7 15 rfl]
  | m + 1, i, he => by
    have hlt : (i : Int) < (n : Int) := by omega
    have e1 := db2_loop n hn vs cd h m (i + 1) (by omega)
    rw [← e1]
    have h2 : 2 ^ (i + 1) ≤ 2 ^ 13 := Nat.pow_le_pow_right (by omega) (by omega)
    have h3 : 2 ^ (i + 1 + 1) = 2 * 2 ^ (i + 1) := by rw [Nat.pow_succ (n := 2) (m := i + 1), Nat.mul_comm]
    rw [h3]
    generalize 2 ^ (i + 1) = q at *
    rw [lrun_atC loop7_2]
    simp (implicitDefEqProofs := false) (disch := omega) only [go_sem, seval, rgn Tryd.f7 15 rfl, rgn Tryd.f7 16 rfl, rgn Tryd.f7 17 rfl, hlt]
    all_goals (congr 1 <;> simp only [List.cons.injEq, AV.val.injEq, Value.int.injEq, Value.bool.injEq, true_and, and_true] <;> omega)
theorem solve_q {h : AHeap} {kt : AV} {M : List (Tm × Tm)} {r : AV} (hk : KQ h kt M) (e : pcall Tryd.prog md fg 11 [.slc false (M.map eqV)] = some r) : ∃ h', doCall md (aval Tryd.prog md fg) 11 [kt] h = some (r, h') := by
  have hs : ∃ ids, expL (exp1 h expDepth) [kt] = some ([.slc false (M.map eqV)], ids) ∧ canFrz h ids = true := by
    rcases hk with ⟨rfl, rfl⟩ | ⟨K, g, rfl, hK⟩
    · exact ⟨[], rfl, rfl⟩
    · have h1 := arr_exp hK (solid_eqs M) 59
      rw [List.length_map] at h1
      refine ⟨[K], ?_, by simp [canFrz, hK]⟩
      show expL (exp1 h (59 + 1)) _ = _
      unfold expL
      rw [h1]
      rfl
  obtain ⟨ids, hs, hc⟩ := hs
  rw [doCall_0 (by decide)]; unfold doCall0
  rw [if_pos (.inl (by decide)), hs]
  simp only [hc, if_true]
  rw [← pcall_eq, e]
  exact ⟨_, rfl⟩
theorem dbl_solve (n : Nat) (hn : n ≤ 12) (c : Bool) : ∃ (L : List Vl) (e : Int), pcall Tryd.prog md fg 11 [.slc false ((dLc n c).map eqV)] = some (.tup [.slc false (L.map valV), .int e]) ∧ ((c = true ∧ 0 < n) → e = 15) ∧ (¬ (c = true ∧ 0 < n) → (n = 0 → e = 0) ∧ (0 < n → (1000 < (2 ^ (n + 1) : Nat) - (1 : Int) → e = 9) ∧ (¬ 1000 < (2 ^ (n + 1) : Nat) - (1 : Int) → e = 0 ∧ L.length = n + 1 ∧ ∃ u : Tm, (L.map valV)[0]? = some (valV (dnm 0, u)) ∧ (tsz u : Int) = (2 ^ (n + 1) : Nat) - 1))) := by
  have hsz := dLc_sz n c
  have hll := dLc_len n c
  have hsol := solveP (dLc_tys n c) (dLc_fits n c) (by omega) (by omega)
  by_cases hc : c = true ∧ 0 < n
  · obtain ⟨rfl, h0⟩ := hc
    rcases hsol with ⟨_, e⟩ | ⟨s, hs, _⟩
    · exact ⟨[], 15, e, fun _ => rfl, fun h => absurd ⟨rfl, h0⟩ h⟩
    · exact absurd ⟨_, hs.eqs⟩ (no_ring h0)
  · rcases hsol with ⟨hno, _⟩ | ⟨s, hs, hfit, hr⟩
    · exact absurd ⟨_, tw_eqs n hn hc⟩ hno
    · by_cases h0 : n = 0
      · subst h0
        have hN : vsL [] (flatE (dLc 0 c)) = [] := by
          unfold dLc
          rw [if_neg hc]
          simp [dL, flatE, vsL]
        rw [hN] at hr
        rcases hr with ⟨_, e⟩ | ⟨h, _⟩
        · exact ⟨[], 0, e, fun h => absurd h hc, fun _ => ⟨fun _ => rfl, fun h => by omega⟩⟩
        · exact absurd (by intro m hm; cases hm) h
      · obtain ⟨hN, hsize⟩ := sol_size hc (by omega) hn hs (fun m hm => (hfit m hm).1)
        rw [hN] at hr
        have hz := hsize 0 (by omega)
        rw [Nat.sub_zero] at hz
        have hle : (∀ m ∈ (List.range (n + 1)).map dnm, tsz (s m) ≤ 1000) ↔ ¬ 1000 < (2 ^ (n + 1) : Nat) - (1 : Int) := by
          constructor
          · intro h
            have := h (dnm 0) (List.mem_map.2 ⟨0, List.mem_range.2 (by omega), rfl⟩)
            omega
          · intro h m hm
            obtain ⟨k, hk, rfl⟩ := List.mem_map.1 hm
            have hk := List.mem_range.1 hk
            have h1 := hsize k (by omega)
            have h2 : 2 ^ (n - k + 1) ≤ 2 ^ (n + 1) := Nat.pow_le_pow_right (by omega) (by omega)
            omega
        rcases hr with ⟨h1, e⟩ | ⟨h1, e⟩
        · have h2 := hle.1 h1
          refine ⟨((List.range (n + 1)).map dnm).map fun m => (m, s m), 0, by rw [e, List.map_map, List.map_map, List.map_map]; rfl, fun h => absurd h hc, fun _ => ⟨fun _ => rfl, fun _ => ⟨fun h => absurd h h2, fun _ => ⟨rfl, by simp, s (dnm 0), ?_, by omega⟩⟩⟩⟩
          rw [List.range_succ_eq_map]
          simp
        · have h2 : 1000 < (2 ^ (n + 1) : Nat) - (1 : Int) := by
            by_cases h : 1000 < (2 ^ (n + 1) : Nat) - (1 : Int)
            · exact h
            · exact absurd (hle.2 h) h1
          exact ⟨[], 9, e, fun h => absurd h hc, fun _ => ⟨fun h => by omega, fun _ => ⟨fun _ => rfl, fun h => absurd h2 h⟩⟩⟩
theorem rem13 (y : Int) : abin Tryd.prog .rem 3 (.int y) (.int 13) = some (.int (y.tmod 13)) := abin_rem _ _ _ _ (by omega)
theorem rem13_n (x : Int) : ∃ k : Nat, k ≤ 12 ∧ (x.tmod 13 + 13).tmod 13 = (k : Int) ∧ -13 < x.tmod 13 ∧ x.tmod 13 < 13 := by
  have h1 : x.tmod 13 < 13 := Int.tmod_lt_of_pos x (by omega)
  have h2 : -13 < x.tmod 13 := by
    have := Int.tmod_lt_of_pos (-x) (b := 13) (by omega)
    rw [Int.neg_tmod] at this
    omega
  have h3 : 0 ≤ (x.tmod 13 + 13).tmod 13 := Int.tmod_nonneg _ (by omega)
  have h4 : (x.tmod 13 + 13).tmod 13 < 13 := Int.tmod_lt_of_pos _ (by omega)
  exact ⟨((x.tmod 13 + 13).tmod 13).toNat, by omega, by omega, h2, h1⟩
set_option maxHeartbeats 16000000 in
theorem unifyDoubles (x : Int) (c : Bool) : pcall Tryd.prog md fg 7 [.int x, .val (.bool c)] = some (.bool true) := by
  obtain ⟨n, hn, r1, r2, r3⟩ := rem13_n x
  have q1 := rem13 x
  have q2 := rem13 (x.tmod 13 + 13)
  rw [r1] at q2
  obtain ⟨L, e, s1, s2, s3⟩ := dbl_solve n hn c
  obtain ⟨H1, kt1, l1, k1⟩ := db_loop n hn (.val (.bool c)) n 0 (by omega) [] (.slc true []) (.inl ⟨rfl, rfl⟩)
  simp only [Int.natCast_zero] at l1
  suffices e : ∃ h, aval Tryd.prog md fg 7 [.int x, .val (.bool c)] [] = some (.val (.bool true), h) by
    obtain ⟨h, e⟩ := e
    rw [pcall_eq, e, pureRes_solid rfl]
  generalize x.tmod 13 = y at *
  by_cases hc : c = true ∧ 0 < n
  · obtain ⟨rfl, h0⟩ := hc
    have h0' : 0 < (n : Int) := by omega
    have he := s2 ⟨rfl, h0⟩
    subst he
    have hkl : (dL n).length ≤ 100000 := by unfold dL; rw [List.length_map, List.length_range]; omega
    obtain ⟨v, H, x1, x2⟩ := kq_add k1 hkl (dCy n)
    have hL : dLc n true = dL n ++ [dCy n] := by unfold dLc; rw [if_pos ⟨rfl, h0⟩]
    rw [← hL] at x2
    obtain ⟨H2, c11⟩ := solve_q x2 s1
    have c22 := dnm_c n (by omega)
    have c22' := dnm_c 0 (by omega)
    simp only [Int.natCast_zero] at c22'
    have c23 := tv_c (dnm n)
    have c23' := tv_c (dnm 0)
    unfold dCy at x1
    unfold vTm at c23 c23' x1
    unfold eqV at x1
    rw [tmV_mk, List.map_nil] at c23 c23'
    dsimp only at x1
    simp only [List.map_nil] at x1
    rw [aval_of Tryd.func7 body7 Tryd.results7 Tryd.ntmps7 ok7]
    simp (implicitDefEqProofs := false) (disch := omega) only [go_sem, seval, rgn Tryd.f7 0 rfl, rgn Tryd.f7 1 rfl, rgn Tryd.f7 2 rfl, rgn Tryd.f7 3 rfl, rgn Tryd.f7 4 rfl, rgn Tryd.f7 8 rfl, rgn Tryd.f7 9 rfl, rgn Tryd.f7 10 rfl, rgn Tryd.f7 11 rfl, rgn Tryd.f7 12 rfl, q1, q2, l1, h0', c22, c22', c23, c23', x1, call22, if_true, c11, no_c, alive_c]
    exact ⟨_, rfl⟩
  · have hL : dLc n c = dL n := by unfold dLc; rw [if_neg hc, List.append_nil]
    rw [hL] at s1
    obtain ⟨H2, c11⟩ := solve_q k1 s1
    obtain ⟨t1, t2⟩ := s3 hc
    have z := db2_loop n hn (.slc false (L.map valV)) e H2 n 0 (by omega)
    simp only [Int.natCast_zero] at z
    have hp1 : 2 ^ (0 + 1) = 2 := rfl
    rw [hp1] at z
    have hz1 : (((2 : Nat) : Int) - 1) = 1 := rfl
    rw [hz1] at z
    have hp : 2 ^ (n + 1) ≤ 2 ^ 13 := Nat.pow_le_pow_right (by omega) (by omega)
    by_cases h0 : n = 0
    · subst h0
      have he := t1 rfl
      subst he
      have hpp : ((2 ^ (0 + 1) : Nat) : Int) - 1 = 1 := rfl
      rw [hpp] at z
      simp only [Int.natCast_zero] at *
      cases c with
      | true =>
        rw [aval_of Tryd.func7 body7 Tryd.results7 Tryd.ntmps7 ok7]
        simp (implicitDefEqProofs := false) (disch := omega) only [go_sem, seval, rgn Tryd.f7 0 rfl, rgn Tryd.f7 1 rfl, rgn Tryd.f7 2 rfl, rgn Tryd.f7 3 rfl, rgn Tryd.f7 4 rfl, rgn Tryd.f7 8 rfl, rgn Tryd.f7 10 rfl, rgn Tryd.f7 11 rfl, rgn Tryd.f7 13 rfl, rgn Tryd.f7 14 rfl, rgn Tryd.f7 18 rfl, rgn Tryd.f7 20 rfl, q1, q2, l1, c11, z, no_c, alive_c]
        exact ⟨_, rfl⟩
      | false =>
        rw [aval_of Tryd.func7 body7 Tryd.results7 Tryd.ntmps7 ok7]
        simp (implicitDefEqProofs := false) (disch := omega) only [go_sem, seval, rgn Tryd.f7 0 rfl, rgn Tryd.f7 1 rfl, rgn Tryd.f7 2 rfl, rgn Tryd.f7 3 rfl, rgn Tryd.f7 4 rfl, rgn Tryd.f7 8 rfl, rgn Tryd.f7 10 rfl, rgn Tryd.f7 11 rfl, rgn Tryd.f7 13 rfl, rgn Tryd.f7 14 rfl, rgn Tryd.f7 18 rfl, rgn Tryd.f7 20 rfl, q1, q2, l1, c11, z, no_c, alive_c]
        exact ⟨_, rfl⟩
    · have hcf : c = false := by
        cases c with
        | false => rfl
        | true => exact absurd ⟨rfl, by omega⟩ hc
      subst hcf
      have hn0 : ¬ (n : Int) = 0 := by omega
      obtain ⟨t3, t4⟩ := t2 (by omega)
      by_cases hb : 1000 < (2 ^ (n + 1) : Nat) - (1 : Int)
      · have he := t3 hb
        subst he
        generalize 2 ^ (n + 1) = p at *
        rw [aval_of Tryd.func7 body7 Tryd.results7 Tryd.ntmps7 ok7]
        simp (implicitDefEqProofs := false) (disch := omega) only [go_sem, seval, rgn Tryd.f7 0 rfl, rgn Tryd.f7 1 rfl, rgn Tryd.f7 2 rfl, rgn Tryd.f7 3 rfl, rgn Tryd.f7 4 rfl, rgn Tryd.f7 8 rfl, rgn Tryd.f7 10 rfl, rgn Tryd.f7 11 rfl, rgn Tryd.f7 13 rfl, rgn Tryd.f7 14 rfl, rgn Tryd.f7 18 rfl, rgn Tryd.f7 19 rfl, q1, q2, l1, c11, z, hb, no_c, alive_c]
        exact ⟨_, rfl⟩
      · obtain ⟨rfl, hlen, u, hu, hsu⟩ := t4 hb
        have c15 : ∀ h, doCall md (aval Tryd.prog md fg) 15 [tmV u] h = some (.int (tsz u : Int), h) := fun h => doCall_pure md15 (solid1 u) (Z_all u (by omega))
        rw [hsu] at c15
        have hlI : (L.length : Int) = (n : Int) + 1 := by omega
        generalize 2 ^ (n + 1) = p at *
        obtain ⟨k, p', m, q, l⟩ := u
        rw [tmV_mk] at c15
        rw [valV_mk] at hu
        rw [aval_of Tryd.func7 body7 Tryd.results7 Tryd.ntmps7 ok7]
        simp (implicitDefEqProofs := false) (disch := omega) only [go_sem, seval, rgn Tryd.f7 0 rfl, rgn Tryd.f7 1 rfl, rgn Tryd.f7 2 rfl, rgn Tryd.f7 3 rfl, rgn Tryd.f7 4 rfl, rgn Tryd.f7 8 rfl, rgn Tryd.f7 10 rfl, rgn Tryd.f7 11 rfl, rgn Tryd.f7 13 rfl, rgn Tryd.f7 14 rfl, rgn Tryd.f7 18 rfl, rgn Tryd.f7 20 rfl, q1, q2, l1, c11, z, hb, hn0, List.length_map, hlI, hu, c15, no_c, alive_c]
        exact ⟨_, rfl⟩
end Go.Proofs.YtncjbccjpneoiaaDoor
namespace Go.Proofs.YtncjbccjpneoiaaDoor
open Go Go.Ab Go.Proofs Go.RowKit Go.ChangeShapes Go.WideShapes
set_option maxRecDepth 100000
theorem und3 : Tryd.prog.underlying 3 = some (.int .i64) := by kernel_rfl
theorem own : ownKnob Tryd.prog.godebug = none := by kernel_rfl
theorem laidOut : laidOutB Tryd.prog = true := by kernel_rfl
theorem mixed : Tryd.prog.follows .mixedOrders = true := by kernel_rfl
theorem WT_i64 {n t : Nat} {a : AV} (ht : Tryd.prog.underlying t = some (.int .i64)) (h : WT Tryd.prog n t a) : ∃ x, a = .int x ∧ -9223372036854775808 ≤ x ∧ x ≤ 9223372036854775807 := by
  cases n with
  | zero => exact h.elim
  | succ n =>
    unfold WT at h; rw [ht] at h
    obtain ⟨x, rfl, hw⟩ := h
    have hw' : (decide (-9223372036854775808 ≤ x) && decide (x ≤ 9223372036854775807)) = true := hw
    simp only [Bool.and_eq_true, decide_eq_true_eq] at hw'
    exact ⟨x, rfl, hw'⟩
theorem WT_bool {n : Nat} {a : AV} (h : WT Tryd.prog n 4 a) : ∃ b : Bool, a = .val (.bool b) := by
  cases n with
  | zero => exact h.elim
  | succ n => unfold WT at h; rw [Tryd.underlying4] at h; exact h
end Go.Proofs.YtncjbccjpneoiaaDoor
