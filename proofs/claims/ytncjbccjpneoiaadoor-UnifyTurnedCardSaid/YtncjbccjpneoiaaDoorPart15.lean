/- Parts of the proof, each with its own heading: UnifyTurned is true of every input. UnifyTurned is true of every input: as a whole. UnifyTurned: what its card needs. -/
import Derived.Test.YtncjbccjpneoiaaDoorPart14
set_option linter.unusedSimpArgs false
set_option linter.unusedVariables false
namespace Go.Proofs.YtncjbccjpneoiaaDoor
open Go Go.Ab Go.Proofs
set_option maxRecDepth 100000
set_option linter.unusedSimpArgs false
set_option linter.unusedVariables false
theorem solid_l2 (l : List (Tm × Tm)) : solidL [AV.slc false (l.map eqV)] = true := by simp only [solidL, solid, solid_eqs, Bool.not_false, Bool.and_true]
theorem septr_a {i : Nat} {H1 : AHeap} {T g : Nat} (L : List AV) {a0 a1 a2 a3 a4 a5 a6 a7 a8 a9 x0 x1 x2 x3 x4 : AV} (hL : L[i]? = some (.agg [a0, a1, a2, a3, a4, a5, a6, a7, a8, a9])) : septr true 5 (.agg [x0, x1, x2, x3, x4]) g 10 i 0 H1 T (.arr 10 L g) = some (H1.set T (.arr 10 (L.set i (.agg [x0, x1, x2, x3, x4, a5, a6, a7, a8, a9])) g)) := by
  simp [septr, hL, AV.cells, patch, putAt]
theorem septr_b {i : Nat} {H1 : AHeap} {T g : Nat} (L : List AV) {a0 a1 a2 a3 a4 a5 a6 a7 a8 a9 x0 x1 x2 x3 x4 : AV} (hL : L[i]? = some (.agg [a0, a1, a2, a3, a4, a5, a6, a7, a8, a9])) : septr true 5 (.agg [x0, x1, x2, x3, x4]) g 10 i 5 H1 T (.arr 10 L g) = some (H1.set T (.arr 10 (L.set i (.agg [a0, a1, a2, a3, a4, x0, x1, x2, x3, x4])) g)) := by
  simp [septr, hL, AV.cells, patch, putAt]
set_option maxHeartbeats 8000000 in
theorem t_loop (lv : AV) (sides : Bool) (M : List (Tm × Tm)) (hM : M.length ≤ 1000) {K g : Nat} : ∀ (rem done : List (Tm × Tm)), M = done ++ rem → ∀ (h : AHeap), hget h K = .arr 10 ((done.map (swp sides) ++ rem).map eqV) g →
    ∃ H, lrun Tryd.prog md fg (fg 5) (loopOf Tryd.f5 0) (fg 5 1) (((lv) :: .unk :: (.val (.bool sides)) :: .unk :: .unk :: .unk :: .unk :: .unk :: (.arr K 0 M.length g 10) :: .unk :: .unk :: .unk :: .unk :: .unk :: .unk :: .unk :: .unk :: .unk :: .unk :: .unk :: .unk :: .unk :: .unk :: .unk :: .unk :: .unk :: .unk :: .unk :: .unk :: .unk :: .unk :: .unk :: .unk :: .unk :: .unk :: .unk :: .unk :: .unk :: .unk :: .unk :: .unk :: .unk :: .unk :: (.int M.length) :: (.int done.length) :: .unk :: .unk :: .unk :: .unk :: .unk :: .unk :: .unk :: .unk :: .unk :: .unk :: .unk :: .unk :: .unk :: .unk :: .unk :: .unk :: .unk :: .unk :: .unk :: .unk :: .unk :: .unk :: .unk :: .unk :: .unk :: .unk :: .unk :: .unk :: .unk :: .unk :: .unk :: .unk :: .unk :: .unk :: .unk :: .unk :: .unk :: .unk :: .unk :: .unk :: [] : List AV)) h = some (.exit 0, ((lv) :: .unk :: (.val (.bool sides)) :: .unk :: .unk :: .unk :: .unk :: .unk :: (.arr K 0 M.length g 10) :: .unk :: .unk :: .unk :: .unk :: .unk :: .unk :: .unk :: .unk :: .unk :: .unk :: .unk :: .unk :: .unk :: .unk :: .unk :: .unk :: .unk :: .unk :: .unk :: .unk :: .unk :: .unk :: .unk :: .unk :: .unk :: .unk :: .unk :: .unk :: .unk :: .unk :: .unk :: .unk :: .unk :: .unk :: (.int M.length) :: (.int M.length) :: .unk :: .unk :: .unk :: .unk :: .unk :: .unk :: .unk :: .unk :: .unk :: .unk :: .unk :: .unk :: .unk :: .unk :: .unk :: .unk :: .unk :: .unk :: .unk :: .unk :: .unk :: .unk :: .unk :: .unk :: .unk :: .unk :: .unk :: .unk :: .unk :: .unk :: .unk :: .unk :: .unk :: .unk :: .unk :: .unk :: .unk :: .unk :: .unk :: .unk :: [] : List AV), H) ∧ hget H K = .arr 10 ((M.map (swp sides)).map eqV) g
  | [], done, he, h, hK => by
    rw [List.append_nil] at he hK
    subst he
    refine ⟨h, ?_, hK⟩
    rw [lrun_atC loop5_0]
    simp (implicitDefEqProofs := false) (disch := omega) only [go_sem, seval, rgn Tryd.f5 6 rfl]
  | (⟨k, p, m, n, l1⟩, ⟨k', p', m', n', l2⟩) :: rem, done, he, h, hK => by
    have hll : M.length = done.length + (rem.length + 1) := by rw [he]; simp
    have hlt : (done.length : Int) < (M.length : Int) := by omega
    have htn : ((done.length : Int)).toNat = done.length := by omega
    have hlen : (done ++ [((⟨k, p, m, n, l1⟩ : Tm), (⟨k', p', m', n', l2⟩ : Tm))]).length = done.length + 1 := by simp
    cases sides with
    | false =>
      have hsw : ∀ q : Tm × Tm, swp false q = q := fun q => rfl
      obtain ⟨H, e1, e2⟩ := t_loop lv false M hM (K := K) (g := g) rem (done ++ [(⟨k, p, m, n, l1⟩, ⟨k', p', m', n', l2⟩)]) (by rw [he]; simp) h (by rw [hK]; simp [hsw])
      refine ⟨H, ?_, e2⟩
      rw [hlen] at e1
      rw [← e1]
      rw [lrun_atC loop5_0]
      simp (implicitDefEqProofs := false) (disch := omega) only [go_sem, seval, rgn Tryd.f5 6 rfl, rgn Tryd.f5 7 rfl, rgn Tryd.f5 8 rfl, rgn Tryd.f5 10 rfl, hlt]
      all_goals (congr 1 <;> simp only [List.cons.injEq, AV.val.injEq, Value.int.injEq, Value.bool.injEq, true_and, and_true] <;> omega)
    | true =>
      have hat : ((done.map (swp true) ++ (((⟨k, p, m, n, l1⟩ : Tm), (⟨k', p', m', n', l2⟩ : Tm))) :: rem).map eqV)[done.length]? = some (.agg [.int k, .str (txt p), .str (txt m), .int n, .slc false (l1.map tmV), .int k', .str (txt p'), .str (txt m'), .int n', .slc false (l2.map tmV)]) := by
        rw [List.getElem?_map, List.getElem?_append_right (by simp), List.length_map, Nat.sub_self]; rfl
      have hi : done.length < ((done.map (swp true) ++ (((⟨k, p, m, n, l1⟩ : Tm), (⟨k', p', m', n', l2⟩ : Tm))) :: rem).map eqV).length := by simp
      have hKl := hlt_of hK (by simp)
      generalize hL : (done.map (swp true) ++ (((⟨k, p, m, n, l1⟩ : Tm), (⟨k', p', m', n', l2⟩ : Tm))) :: rem).map eqV = L at *
      have s1 := septr_a (x0 := .int k') (x1 := .str (txt p')) (x2 := .str (txt m')) (x3 := .int n') (x4 := .slc false (l2.map tmV)) (H1 := h) (T := K) (g := g) L hat
      have hat2 : (L.set done.length (.agg [.int k', .str (txt p'), .str (txt m'), .int n', .slc false (l2.map tmV), .int k', .str (txt p'), .str (txt m'), .int n', .slc false (l2.map tmV)]))[done.length]? = some (.agg [.int k', .str (txt p'), .str (txt m'), .int n', .slc false (l2.map tmV), .int k', .str (txt p'), .str (txt m'), .int n', .slc false (l2.map tmV)]) := List.getElem?_set_self hi
      have s2 := septr_b (x0 := .int k) (x1 := .str (txt p)) (x2 := .str (txt m)) (x3 := .int n) (x4 := .slc false (l1.map tmV)) (H1 := h.set K (.arr 10 (L.set done.length (.agg [.int k', .str (txt p'), .str (txt m'), .int n', .slc false (l2.map tmV), .int k', .str (txt p'), .str (txt m'), .int n', .slc false (l2.map tmV)])) g)) (T := K) (g := g) _ hat2
      rw [List.set_set, List.set_set] at s2
      have hnew : L.set done.length (.agg [.int k', .str (txt p'), .str (txt m'), .int n', .slc false (l2.map tmV), .int k, .str (txt p), .str (txt m), .int n, .slc false (l1.map tmV)]) = ((done ++ [((⟨k, p, m, n, l1⟩ : Tm), (⟨k', p', m', n', l2⟩ : Tm))]).map (swp true) ++ rem).map eqV := by
        rw [← hL, List.map_append, List.map_cons, List.set_append_right _ _ (by simp)]
        simp [swp, eqV]
      rw [hnew] at s2
      have g1 : hget (h.set K (.arr 10 (L.set done.length (.agg [.int k', .str (txt p'), .str (txt m'), .int n', .slc false (l2.map tmV), .int k', .str (txt p'), .str (txt m'), .int n', .slc false (l2.map tmV)])) g)) K = .arr 10 (L.set done.length (.agg [.int k', .str (txt p'), .str (txt m'), .int n', .slc false (l2.map tmV), .int k', .str (txt p'), .str (txt m'), .int n', .slc false (l2.map tmV)])) g := hget_set_eq hKl
      obtain ⟨H, e1, e2⟩ := t_loop lv true M hM (K := K) (g := g) rem (done ++ [(⟨k, p, m, n, l1⟩, ⟨k', p', m', n', l2⟩)]) (by rw [he]; simp) _ (hget_set_eq hKl)
      refine ⟨H, ?_, e2⟩
      rw [hlen] at e1
      rw [← e1]
      rw [lrun_atC loop5_0]
      simp (implicitDefEqProofs := false) (disch := omega) only [go_sem, seval, rgn Tryd.f5 6 rfl, rgn Tryd.f5 7 rfl, rgn Tryd.f5 8 rfl, rgn Tryd.f5 9 rfl, rgn Tryd.f5 10 rfl, hlt, htn, hK, hat, s1, s2, g1, thenDraw_store]
      all_goals (congr 1 <;> simp only [List.cons.injEq, AV.val.injEq, Value.int.injEq, Value.bool.injEq, true_and, and_true] <;> omega)
theorem rem_n (n : Nat) (h0 : 0 < n) (x : Int) : ∃ k : Nat, k < n ∧ (x.tmod n + n).tmod n = (k : Int) ∧ -(n : Int) < x.tmod n ∧ x.tmod n < n := by
  have h1 : x.tmod n < n := Int.tmod_lt_of_pos x (by omega)
  have h2 : -(n : Int) < x.tmod n := by
    have := Int.tmod_lt_of_pos (-x) (b := (n : Int)) (by omega)
    rw [Int.neg_tmod] at this
    omega
  have h3 : 0 ≤ (x.tmod n + n).tmod n := Int.tmod_nonneg _ (by omega)
  have h4 : (x.tmod n + n).tmod n < n := Int.tmod_lt_of_pos _ (by omega)
  exact ⟨((x.tmod n + n).tmod n).toNat, by omega, by omega, h2, h1⟩
theorem remN (n : Nat) (h0 : 0 < n) (x : Int) : abin Tryd.prog .rem 3 (.int x) (.int (n : Int)) = some (.int (x.tmod n)) := abin_rem _ _ _ _ (by omega)
theorem headOk_eqs (l : List (Tm × Tm)) : headOk 10 (l.map eqV) = true := by
  cases l with
  | nil => rfl
  | cons t r => obtain ⟨⟨k, p, m, n, l1⟩, ⟨k', p', m', n', l2⟩⟩ := t; rfl
theorem solve_arr {h : AHeap} {K g : Nat} {M : List (Tm × Tm)} {r : AV} (hK : hget h K = .arr 10 (M.map eqV) g) (e : pcall Tryd.prog md fg 11 [.slc false (M.map eqV)] = some r) : ∃ h', doCall md (aval Tryd.prog md fg) 11 [.arr K 0 M.length g 10] h = some (r, h') := by
  have h1 := arr_exp hK (solid_eqs M) 59
  rw [List.length_map] at h1
  have hs : expL (exp1 h expDepth) [.arr K 0 M.length g 10] = some ([.slc false (M.map eqV)], [K]) := by
    show expL (exp1 h (59 + 1)) _ = _
    unfold expL
    rw [h1]
    rfl
  have hc : canFrz h [K] = true := by simp [canFrz, hK]
  rw [doCall_0 (by decide)]; unfold doCall0
  rw [if_pos (.inl (by decide)), hs]
  simp only [hc, if_true]
  rw [← pcall_eq, e]
  exact ⟨_, rfl⟩
theorem solve_err {l : List (Tm × Tm)} (hty : Tm.tys (flatE l)) (hft : Tm.fits (flatE l)) (hsz : tszs (flatE l) ≤ 40000) (hll : l.length ≤ 1000) : ∃ (vs : List AV) (e : Int), pcall Tryd.prog md fg 11 [.slc false (l.map eqV)] = some (.tup [.slc false vs, .int e]) ∧ (((¬ ∃ th, Eqs th l) ∧ e = 15) ∨ ∃ s, Sol l (vsL [] (flatE l)) s ∧ (∀ n ∈ vsL [] (flatE l), (s n).ty) ∧ (((∀ n ∈ vsL [] (flatE l), tsz (s n) ≤ 1000) ∧ e = 0) ∨ ((¬ ∀ n ∈ vsL [] (flatE l), tsz (s n) ≤ 1000) ∧ e = 9))) := by
  rcases solveP hty hft hsz hll with ⟨h, e⟩ | ⟨s, hsol, hfit, ⟨hle, e⟩ | ⟨hle, e⟩⟩
  · exact ⟨[], 15, e, .inl ⟨h, rfl⟩⟩
  · exact ⟨_, 0, e, .inr ⟨s, hsol, fun n hn => (hfit n hn).1, .inl ⟨hle, rfl⟩⟩⟩
  · exact ⟨[], 9, e, .inr ⟨s, hsol, fun n hn => (hfit n hn).1, .inr ⟨hle, rfl⟩⟩⟩
theorem err_same {l m : List (Tm × Tm)} {e e' : Int} (hE : ∀ th, Eqs th l ↔ Eqs th m) (hN : ∀ n, n ∈ vsL [] (flatE l) ↔ n ∈ vsL [] (flatE m))
    (h : ((¬ ∃ th, Eqs th l) ∧ e = 15) ∨ ∃ s, Sol l (vsL [] (flatE l)) s ∧ (∀ n ∈ vsL [] (flatE l), (s n).ty) ∧ (((∀ n ∈ vsL [] (flatE l), tsz (s n) ≤ 1000) ∧ e = 0) ∨ ((¬ ∀ n ∈ vsL [] (flatE l), tsz (s n) ≤ 1000) ∧ e = 9)))
    (h' : ((¬ ∃ th, Eqs th m) ∧ e' = 15) ∨ ∃ s, Sol m (vsL [] (flatE m)) s ∧ (∀ n ∈ vsL [] (flatE m), (s n).ty) ∧ (((∀ n ∈ vsL [] (flatE m), tsz (s n) ≤ 1000) ∧ e' = 0) ∨ ((¬ ∀ n ∈ vsL [] (flatE m), tsz (s n) ≤ 1000) ∧ e' = 9))) : e = e' := by
  rcases h with ⟨h, rfl⟩ | ⟨s, h1, h2, h3⟩
  · rcases h' with ⟨_, rfl⟩ | ⟨s', k1, _, _⟩
    · rfl
    · exact absurd ⟨s', (hE s').2 k1.eqs⟩ h
  · rcases h' with ⟨h', rfl⟩ | ⟨s', k1, k2, k3⟩
    · exact absurd ⟨s, (hE s).1 h1.eqs⟩ h'
    · have := turned_sz h1 k1 hE hN h2 k2
      rcases h3 with ⟨h3, rfl⟩ | ⟨h3, rfl⟩ <;> rcases k3 with ⟨k3, rfl⟩ | ⟨k3, rfl⟩
      · rfl
      · exact absurd (this.1 h3) k3
      · exact absurd (this.2 k3) h3
      · rfl
set_option maxHeartbeats 16000000 in
theorem unifyTurned (l : List (Tm × Tm)) (turn : Int) (sides : Bool) (hl : l.length ≤ 9223372036854775807) (hf : Tm.fits (flatE l)) : pcall Tryd.prog md fg 5 [.slc false (l.map eqV), .int turn, .val (.bool sides)] = some (.bool true) := by
  obtain ⟨b, b1, b2⟩ := equations_p l hl hf
  have c9 := eqs_c b2
  suffices e : ∃ h, aval Tryd.prog md fg 5 [.slc false (l.map eqV), .int turn, .val (.bool sides)] [] = some (.val (.bool true), h) by
    obtain ⟨h, e⟩ := e
    rw [pcall_eq, e, pureRes_solid rfl]
  cases b with
  | false =>
    rw [aval_of Tryd.func5 body5 Tryd.results5 Tryd.ntmps5 ok5]
    simp (implicitDefEqProofs := false) (disch := omega) only [go_sem, seval, rgn Tryd.f5 0 rfl, rgn Tryd.f5 1 rfl, rgn Tryd.f5 2 rfl, c9, alive_c]
    exact ⟨_, rfl⟩
  | true =>
    obtain ⟨hz, hty, h20⟩ := b1 rfl
    by_cases hl0 : l = []
    · subst hl0
      simp only [List.map_nil] at c9
      rw [aval_of Tryd.func5 body5 Tryd.results5 Tryd.ntmps5 ok5]
      simp (implicitDefEqProofs := false) (disch := omega) only [go_sem, seval, rgn Tryd.f5 0 rfl, rgn Tryd.f5 1 rfl, rgn Tryd.f5 2 rfl, c9, alive_c, List.map_nil, List.length_nil, Int.natCast_zero]
      exact ⟨_, rfl⟩
    · have hpos : 0 < l.length := List.length_pos_iff.2 hl0
      have hpos' : ¬ (l.length : Int) = 0 := by omega
      obtain ⟨k, hk, hk1, hk2, hk3⟩ := rem_n l.length hpos turn
      have r1 := remN l.length hpos turn
      have r2 := remN l.length hpos (turn.tmod l.length + l.length)
      rw [hk1] at r2
      have htk : ((k : Int)).toNat = k := by omega
      have hne : ((l.map eqV).drop k) ≠ [] := by
        intro h
        have := congrArg List.length h
        simp at this; omega
      have hh1 : headOk 10 ((l.map eqV).drop k) = true := by rw [← List.map_drop]; exact headOk_eqs _
      have hh2 : headOk 10 ((l.map eqV).take k) = true := by rw [← List.map_take]; exact headOk_eqs _
      have hdl : ((l.map eqV).drop k).length = l.length - k := by simp
      have hM : (l.drop k ++ l.take k).length = l.length := by simp; omega
      have a1 : ∀ z, appT (some (10, 144, z)) [] (.slc true []) (some ((l.map eqV).drop k)) = some (.arr 0 0 (l.length - k) 0 10, [.arr 10 ((l.map eqV).drop k) 0]) := fun z => by
        rw [appT_slc _ _ _ _ _ hh1 rfl hne (by simp; omega)]
        simp
      have a2 : ∀ z, appT (some (10, 144, z)) [.arr 10 ((l.map eqV).drop k) 0] (.arr 0 0 (l.length - k) 0 10) (some ((l.map eqV).take k)) = some (.arr 0 0 l.length 1 10, [.arr 10 ((l.drop k ++ l.take k).map eqV) 1]) := fun z => by
        rw [appT_arr _ _ _ _ _ _ _ _ rfl hdl.symm hh2 (by simp; omega)]
        congr 2
        · simp; omega
        · simp
      obtain ⟨H, t1, t2⟩ := t_loop (.slc false (l.map eqV)) sides (l.drop k ++ l.take k) (by omega) (K := 0) (g := 1) _ [] rfl [.arr 10 ((l.drop k ++ l.take k).map eqV) 1] (by simp [hget])
      simp only [List.length_nil, Int.natCast_zero] at t1
      rw [hM] at t1
      have t2 : hget H 0 = .arr 10 ((trn l k sides).map eqV) 1 := t2
      have htl : (trn l k sides).length = l.length := by unfold trn; rw [List.length_map]; exact hM
      have htyM : Tm.tys (flatE (trn l k sides)) := tys_of fun t ht => tys_mem hty t (trn_flat.1 ht)
      have hftM : Tm.fits (flatE (trn l k sides)) := fits_of fun t ht => fits_mem hf t (trn_flat.1 ht)
      obtain ⟨v1, e1, p1, p2⟩ := solve_err hty hf (by omega) (by omega)
      obtain ⟨v2, e2, q1, q2⟩ := solve_err htyM hftM (by rw [trn_sz]; omega) (by omega)
      have he : e1 = e2 := err_same (trn_eqs l k sides) (fun n => by
        rw [vsL_mem _ _ _ hty, vsL_mem _ _ _ htyM, tvarss_mem, tvarss_mem]
        simp only [List.not_mem_nil, false_or]
        exact ⟨fun ⟨t, h1, h2⟩ => ⟨t, trn_flat.2 h1, h2⟩, fun ⟨t, h1, h2⟩ => ⟨t, trn_flat.1 h1, h2⟩⟩) p2 q2
      subst he
      have hkle : k ≤ l.length := by omega
      have htd : ((l.map eqV).drop k).take (l.length - k) = (l.map eqV).drop k := List.take_of_length_le (by rw [hdl]; exact Nat.le_refl _)
      have hho := headOk_eqs l
      have c11 := fun h => doCall_pure (h := h) md11 (solid_l2 l) p1
      obtain ⟨H2, c12⟩ := solve_arr t2 q1
      rw [htl] at c12
      rw [aval_of Tryd.func5 body5 Tryd.results5 Tryd.ntmps5 ok5]
      simp (implicitDefEqProofs := false) (disch := omega) only [go_sem, seval, rgn Tryd.f5 0 rfl, rgn Tryd.f5 1 rfl, rgn Tryd.f5 3 rfl, rgn Tryd.f5 4 rfl, rgn Tryd.f5 5 rfl, rgn Tryd.f5 11 rfl, rgn Tryd.f5 12 rfl, rgn Tryd.f5 13 rfl, c9, List.length_map, hpos', r1, r2, htk, hkle, htd, hho, Nat.le_refl, Nat.zero_le, Nat.sub_zero, and_self, true_and, and_true, if_true, a1, a2, t1, thenDraw_append, c11, c12, no_c, alive_c]
      exact ⟨_, rfl⟩
end Go.Proofs.YtncjbccjpneoiaaDoor
namespace Go.Proofs.YtncjbccjpneoiaaDoor
open Go Go.Ab Go.Proofs Go.RowKit Go.ChangeShapes Go.WideShapes
set_option maxRecDepth 100000
theorem WT_bool {n : Nat} {a : AV} (h : WT Tryd.prog n 4 a) : ∃ b : Bool, a = .val (.bool b) := by
  cases n with
  | zero => exact h.elim
  | succ n => unfold WT at h; rw [Tryd.underlying4] at h; exact h
end Go.Proofs.YtncjbccjpneoiaaDoor
