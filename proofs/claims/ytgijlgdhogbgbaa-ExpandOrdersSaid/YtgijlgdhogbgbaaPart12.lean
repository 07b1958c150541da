/- Parts of the proof, each with its own heading: Order's closures. The program's Order. The guards: leaves, FewAll. The guards: Few of modules, few. ExpandOrders: what the law's function answers. What the laws of touchstonelaw11 share: closed facts of the program, and aliases as arguments. -/
import Derived.Test.YtgijlgdhogbgbaaPart11
import Derived.Test.YtgijlgdhogbgbaaRows
set_option linter.unusedSimpArgs false
set_option linter.unusedVariables false
namespace Go.Proofs.Ytgijlgdhogbgbaa
open Go Go.Ab Go.Proofs
set_option maxRecDepth 100000
set_option linter.unusedSimpArgs false
set_option linter.unusedVariables false
theorem contains_look {h : AHeap} {ov : AV} {out : List Nm} (ho : OV h ov out) (hn : out.length ≤ 9223372036854775807) (k : Nm) : doCall md (aval Try.prog md fg) 30 [ov, sV k] h = some (.val (.bool (decide (k ∈ out))), h) := by
  obtain ⟨ids, h1, h2⟩ := ho
  refine doCall_look md30 (as' := [.slc false (out.map sV), sV k]) (ids := ids) ?_ h2 (contains_p k out hn) rfl
  simp only [expL, h1 59, exp1_solid (show solid (sV k) = true from rfl), List.nil_append, List.append_nil]
/-- The names taken, in Order's own variable, behind what was there. -/
def OM (H : AHeap) (h : AHeap) (out : List Nm) : Prop := (out = [] ∧ h = H ++ [.vars [.ptr 2 0], .vars [.slc true []]]) ∨ ∃ g, h = H ++ [.vars [.ptr 2 0], .vars [.arr (H.length + 2) 0 out.length g 1], .arr 1 (out.map sV) g]
theorem om_T {H h : AHeap} {out : List Nm} (ho : OM H h out) : hget h H.length = .vars [.ptr 2 0] := by
  rcases ho with ⟨_, rfl⟩ | ⟨g, rfl⟩ <;> exact sb_get0 _ _ rfl
theorem om_O {H h : AHeap} {out : List Nm} (ho : OM H h out) : ∃ ov, hget h (H.length + 1) = .vars [ov] ∧ OV h ov out ∧ ∀ h2, abuiltin Try.prog .len #[25] h2 [ov] = some (.int out.length, h2) := by
  rcases ho with ⟨rfl, rfl⟩ | ⟨g, rfl⟩
  · exact ⟨_, sb_get1 _ _ _ rfl, ov_nil _, fun h2 => by simp only [abuiltin_len_slc, alen_slc, tarr_25, tslice_25, lenT_slc, Option.map_some, List.length_nil]⟩
  · exact ⟨_, sb_get1 _ _ _ rfl, ov_arr (sb_get2 _ _ _ _ rfl), fun h2 => by simp only [abuiltin_len_arr, alen_arr, tarr_25, tslice_25, lenT_arr, Option.map_some]⟩
theorem om_tb {H h : AHeap} {out : List Nm} {P : MapS Al} (ho : OM H h out) (hT : Tb H P) : Tb h P := by
  rcases ho with ⟨_, rfl⟩ | ⟨g, rfl⟩ <;> exact tb_app hT _
theorem om_add {H h : AHeap} {out : List Nm} (ho : OM H h out) (hn : out.length ≤ 1000) (m : Nm) : ∃ ov v h1, hget h (H.length + 1) = .vars [ov] ∧ (∀ z, appT (some (1, 16, z)) h ov (some [sV m]) = some (v, h1)) ∧ hget h1 (H.length + 1) = .vars [ov] ∧ fits 1 v = true ∧ v.cells = [v] ∧ OM H (h1.set (H.length + 1) (.vars [v])) (out ++ [m]) := by
  rcases ho with ⟨rfl, rfl⟩ | ⟨g, rfl⟩
  · refine ⟨_, _, _, sb_get1 _ _ _ rfl, fun z => appT_slc _ _ _ _ _ rfl rfl (by simp) (by simp), ?_, rfl, rfl, .inr ⟨0, ?_⟩⟩
    · rw [List.append_assoc]; exact sb_get1 _ _ _ rfl
    · rw [List.append_assoc]
      simp only [List.cons_append, List.nil_append]
      rw [sb_set1 _ _ _ _ rfl]
      simp
  · refine ⟨_, _, _, sb_get1 _ _ _ rfl, fun z => appT_arr _ _ _ _ _ _ _ _ (sb_get2 _ _ _ _ rfl) (by simp) rfl (by simp; omega), ?_, rfl, rfl, .inr ⟨g + 1, ?_⟩⟩
    · rw [sb_set2 _ _ _ _ _ rfl]; exact sb_get1 _ _ _ rfl
    · rw [sb_set2 _ _ _ _ _ rfl, sb_set1 _ _ _ _ rfl]
      simp
/-- Of names, the first one that is so. -/
def pix (p : Nm → Bool) : List Nm → Nat → Option Nat
  | [], _ => none
  | n :: r, i => if p n then some i else pix p r (i + 1)
theorem pix_any (p : Nm → Bool) : ∀ (l : List Nm) (i : Nat), (pix p l i).isSome = l.any p
  | [], i => rfl
  | n :: r, i => by
    unfold pix
    by_cases h : p n = true
    · rw [if_pos h]; simp [h]
    · rw [if_neg h, pix_any p r (i + 1)]; simp [h]
theorem pix_find (p : Nm → Bool) : ∀ (l : List Nm) (i : Nat) (x : Nm), l.find? p = some x → ∃ j, pix p l i = some j ∧ i ≤ j ∧ l[j - i]? = some x
  | [], i, x, h => by cases h
  | n :: r, i, x, h => by
    unfold pix
    by_cases hp : p n = true
    · rw [List.find?_cons_of_pos hp] at h
      cases h
      exact ⟨i, by rw [if_pos hp], Nat.le_refl _, by rw [Nat.sub_self]; rfl⟩
    · rw [List.find?_cons_of_neg (by simpa using hp)] at h
      obtain ⟨j, h1, h2, h3⟩ := pix_find p r (i + 1) x h
      exact ⟨j, by rw [if_neg hp]; exact h1, by omega, by rw [show j - i = (j - (i + 1)) + 1 by omega, List.getElem?_cons_succ]; exact h3⟩
theorem runs_pix {f : FuncId} {caps : List AV} {h : AHeap} (p : Nm → Bool) : ∀ (l : List Nm) (i : Nat), (∀ n ∈ l, doCall md (aval Try.prog md fg) f (sV n :: caps) h = some (.val (.bool (p n)), h)) → Runs f caps (fun h' => h' = h) l i h (pix p l i) h
  | [], i, _ => .nil _ _
  | n :: r, i, hl => by
    have e := hl n (by simp)
    unfold pix
    cases hp : p n with
    | true => rw [hp] at e; exact .stop _ _ _ _ _ e rfl rfl
    | false => rw [hp] at e; exact .next _ _ _ _ _ _ _ e rfl rfl (runs_pix p r (i + 1) (fun x hx => hl x (by simp [hx])))
theorem callable_33 : callable Try.prog 33 = true := by kernel_rfl
theorem callable_29 : callable Try.prog 29 = true := by kernel_rfl
theorem eff30 (d : Option Tmp) : (md 30 == 1 || md 30 == 3 || decide (100 ≤ md 30) && d == some (md 30 - 100)) = false := rfl
theorem c33 {H h : AHeap} {out : List Nm} (ho : OM H h out) (hn : out.length ≤ 1000) (k : Nm) : doCall md (aval Try.prog md fg) 33 [sV k, .ptr (H.length + 1) 0] h = some (.val (.bool (decide (k ∉ out))), h) := by
  obtain ⟨ov, o1, o2, o3⟩ := om_O ho
  have c30 := contains_look o2 (by omega) k
  refine doCall_same md33 ?_ rfl
  by_cases hk : k ∈ out
  · rw [decide_eq_true hk] at c30
    rw [decide_eq_false (fun h => h hk)]
    rw [aval_of Try.func33 body33 Try.results33 Try.ntmps33 ok33]
    simp (implicitDefEqProofs := false) (disch := omega) only [go_sem, Nat.reduceAdd, Nat.reduceSub, Nat.reduceMul, Nat.reduceLT, Nat.reduceLeDiff, Nat.reduceEqDiff, List.drop_zero, List.take_succ_cons, List.take_zero, List.drop_succ_cons, Bool.and_true, Bool.true_and, Bool.and_false, Bool.false_and, BitVec.reduceOfInt, Nat.zero_add, Nat.mul_one, Nat.add_zero, Int.zero_add, Int.reduceToNat, Nat.reducePow, ↓reduceIte, reduceCtorEq, Int.reduceLE, Int.reduceLT, Int.reduceEq, Int.reduceNe, Int.reduceAdd, Int.reduceSub, Int.reduceMul, Int.reduceNeg, Nat.reduceBEq, show regOf Try.f33 0 = Code.region _ _ _ from rfl, show regOf Try.f33 1 = Code.region _ _ _ from rfl, o1, c30]
  · rw [decide_eq_false hk] at c30
    rw [decide_eq_true hk]
    rw [aval_of Try.func33 body33 Try.results33 Try.ntmps33 ok33]
    simp (implicitDefEqProofs := false) (disch := omega) only [go_sem, Nat.reduceAdd, Nat.reduceSub, Nat.reduceMul, Nat.reduceLT, Nat.reduceLeDiff, Nat.reduceEqDiff, List.drop_zero, List.take_succ_cons, List.take_zero, List.drop_succ_cons, Bool.and_true, Bool.true_and, Bool.and_false, Bool.false_and, BitVec.reduceOfInt, Nat.zero_add, Nat.mul_one, Nat.add_zero, Int.zero_add, Int.reduceToNat, Nat.reducePow, ↓reduceIte, reduceCtorEq, Int.reduceLE, Int.reduceLT, Int.reduceEq, Int.reduceNe, Int.reduceAdd, Int.reduceSub, Int.reduceMul, Int.reduceNeg, Nat.reduceBEq, show regOf Try.f33 0 = Code.region _ _ _ from rfl, show regOf Try.f33 1 = Code.region _ _ _ from rfl, o1, c30]
set_option maxHeartbeats 8000000 in
theorem c29 {al : List Al} (hg : Good al) {H h : AHeap} {out : List Nm} (hT : Tb H (tbl al)) (ho : OM H h out) (hn : out.length ≤ 1000) (n : Nm) (hk : n ∈ keys (tbl al)) : doCall md (aval Try.prog md fg) 29 [sV n, .ptr (H.length + 1) 0, .ptr H.length 0] h = some (.val (.bool (rdy (dep (tbl al)) out n)), h) := by
  obtain ⟨ov, o1, o2, o3⟩ := om_O ho
  have oT := om_T ho
  have c30 := contains_look o2 (by omega) n
  have hT1 := om_tb ho hT
  refine doCall_same md29 ?_ rfl
  by_cases hno : n ∈ out
  · have : rdy (dep (tbl al)) out n = false := by
      cases hr : rdy (dep (tbl al)) out n with
      | false => rfl
      | true => exact absurd hno (rdy_iff.1 hr).1
    rw [this]
    rw [decide_eq_true hno] at c30
    rw [aval_of Try.func29 body29 Try.results29 Try.ntmps29 ok29]
    simp (implicitDefEqProofs := false) (disch := omega) only [go_sem, Nat.reduceAdd, Nat.reduceSub, Nat.reduceMul, Nat.reduceLT, Nat.reduceLeDiff, Nat.reduceEqDiff, List.drop_zero, List.take_succ_cons, List.take_zero, List.drop_succ_cons, Bool.and_true, Bool.true_and, Bool.and_false, Bool.false_and, BitVec.reduceOfInt, Nat.zero_add, Nat.mul_one, Nat.add_zero, Int.zero_add, Int.reduceToNat, Nat.reducePow, ↓reduceIte, reduceCtorEq, Int.reduceLE, Int.reduceLT, Int.reduceEq, Int.reduceNe, Int.reduceAdd, Int.reduceSub, Int.reduceMul, Int.reduceNeg, Nat.reduceBEq, show regOf Try.f29 0 = Code.region _ _ _ from rfl, show regOf Try.f29 1 = Code.region _ _ _ from rfl, aop_lookup, o1, oT, c30, eff30, eff31, eff32, callD_31, ↓tail_nil, ↓subs_nil_all, ↓List.forall_mem_cons, ↓all_nil, Bool.true_or, killAt_nil]
  · rw [decide_eq_false hno] at c30
    have hgm : ∃ a, mg (tbl al) n = some a := by
      have := (mg_isSome (tbl al) n).2 hk
      cases h : mg (tbl al) n with
      | none => rw [h] at this; cases this
      | some a => exact ⟨a, rfl⟩
    obtain ⟨a, ha⟩ := hgm
    have hga := hg.2 a (tbl_wf ha).2
    have hdep : dep (tbl al) n = nmd (tbl al) a.ty := by unfold dep; rw [ha]
    have hr : rdy (dep (tbl al)) out n = !((nmd (tbl al) a.ty).any fun k => decide (k ∉ out)) := by
      unfold rdy
      rw [hdep, decide_eq_true hno, Bool.true_and]
      simp [List.all_eq_not_any_not]
    rw [hr, ← pix_any _ _ 0]
    have hlen := nmd_len (tbl al) a.ty
    have c31 := conf_c 33 [.ptr (H.length + 1) 0] callable_33 (fun h' => h' = h) (.slc false ((nmd (tbl al) a.ty).map sV)) (nmd (tbl al) a.ty) (fun h _ => .inl ⟨false, rfl⟩) (by omega) h h _ rfl (runs_pix (fun k => decide (k ∉ out)) (nmd (tbl al) a.ty) 0 (fun k _ => c33 ho hn k))
    have c32 := NM_all a.ty hga.1 hga.2 h (tbl al) hT1
    have l63 := (look_m alV tmap_63 tzero_38 hT1.1 n).2
    rw [ha] at l63
    obtain ⟨_, nv, t2, _⟩ := hT1
    obtain ⟨s9, ps9, k9, p9, m9, n9, l9⟩ := a
    dsimp only at c32 c31
    rw [tmV_mk] at c32
    simp only [Option.map_some, Option.getD_some, alV_mk] at l63
    generalize hls : nmd (tbl al) (Tm.mk k9 p9 m9 n9 l9) = ls at *
    generalize hq : (pix (fun k => decide (k ∉ out)) ls 0).isSome = q at *
    clear hr hga ha hdep
    cases q <;>
    · rw [aval_of Try.func29 body29 Try.results29 Try.ntmps29 ok29]
      simp (implicitDefEqProofs := false) (disch := omega) only [go_sem, Nat.reduceAdd, Nat.reduceSub, Nat.reduceMul, Nat.reduceLT, Nat.reduceLeDiff, Nat.reduceEqDiff, List.drop_zero, List.take_succ_cons, List.take_zero, List.drop_succ_cons, Bool.and_true, Bool.true_and, Bool.and_false, Bool.false_and, BitVec.reduceOfInt, Nat.zero_add, Nat.mul_one, Nat.add_zero, Int.zero_add, Int.reduceToNat, Nat.reducePow, ↓reduceIte, reduceCtorEq, Int.reduceLE, Int.reduceLT, Int.reduceEq, Int.reduceNe, Int.reduceAdd, Int.reduceSub, Int.reduceMul, Int.reduceNeg, Nat.reduceBEq, show regOf Try.f29 0 = Code.region _ _ _ from rfl, show regOf Try.f29 1 = Code.region _ _ _ from rfl, aop_lookup, Option.map_some, o1, oT, t2, l63, c30, c31, c32, eff30, eff31, eff32, callD_31, ↓tail_nil, ↓subs_nil_all, ↓List.forall_mem_cons, ↓all_nil, Bool.true_or, killAt_nil]
end Go.Proofs.Ytgijlgdhogbgbaa
namespace Go.Proofs.Ytgijlgdhogbgbaa
open Go Go.Ab Go.Proofs
set_option maxRecDepth 100000
set_option linter.unusedSimpArgs false
set_option linter.unusedVariables false
theorem order_exit {H h : AHeap} {out : List Nm} {nv : AV} {N : List Nm} (ho : OM H h out) (t2 : hget h 2 = .vars [.mp 0, nv, .mp 1]) (hln : ∀ h2, abuiltin Try.prog .len #[25] h2 [nv] = some (.int N.length, h2)) (hl : out.length = N.length) :
    lrun Try.prog md fg (fg 9) (loopOf Try.f9 0) (fg 9 1) ((.unk :: .unk :: .unk :: .unk :: (.ptr H.length 0) :: (.ptr (H.length + 1) 0) :: .unk :: .unk :: .unk :: .unk :: .unk :: .unk :: .unk :: .unk :: .unk :: .unk :: .unk :: .unk :: .unk :: .unk :: .unk :: .unk :: .unk :: .unk :: .unk :: .unk :: .unk :: .unk :: .unk :: .unk :: .unk :: .unk :: .unk :: .unk :: .unk :: .unk :: [] : List AV)) h = some (.exit 0, (.unk :: .unk :: .unk :: .unk :: (.ptr H.length 0) :: (.ptr (H.length + 1) 0) :: .unk :: .unk :: .unk :: .unk :: .unk :: .unk :: .unk :: .unk :: .unk :: .unk :: .unk :: .unk :: .unk :: .unk :: .unk :: .unk :: .unk :: .unk :: .unk :: .unk :: .unk :: .unk :: .unk :: .unk :: .unk :: .unk :: .unk :: .unk :: .unk :: .unk :: [] : List AV), h) := by
  obtain ⟨ov, o1, o2, o3⟩ := om_O ho
  have oT := om_T ho
  rw [hl] at o3
  have hnlt : ¬ (N.length : Int) < (N.length : Int) := by omega
  rw [lrun_atC loop9_0]
  simp (implicitDefEqProofs := false) (disch := omega) only [go_sem, Nat.reduceAdd, Nat.reduceSub, Nat.reduceMul, Nat.reduceLT, Nat.reduceLeDiff, Nat.reduceEqDiff, List.drop_zero, List.take_succ_cons, List.take_zero, List.drop_succ_cons, Bool.and_true, Bool.true_and, Bool.and_false, Bool.false_and, BitVec.reduceOfInt, Nat.zero_add, Nat.mul_one, Nat.add_zero, Int.zero_add, Int.reduceToNat, Nat.reducePow, ↓reduceIte, reduceCtorEq, Int.reduceLE, Int.reduceLT, Int.reduceEq, Int.reduceNe, Int.reduceAdd, Int.reduceSub, Int.reduceMul, Int.reduceNeg, Nat.reduceBEq, show regOf Try.f9 5 = Code.region _ _ _ from rfl, o1, oT, t2, o3, hln, hnlt]
set_option maxHeartbeats 8000000 in
theorem order_loop {al : List Al} (hg : Good al) {H : AHeap} (hT : Tb H (tbl al)) (hkl : (keys (tbl al)).length ≤ 1000)
    (hac : ∀ out, Took (keys (tbl al)) out → out.length < (keys (tbl al)).length → ∃ n, (keys (tbl al)).find? (rdy (dep (tbl al)) out) = some n) : ∀ (f : Nat) (h : AHeap) (out : List Nm), OM H h out → Took (keys (tbl al)) out → out.length + f = (keys (tbl al)).length → ∃ o h', greedy (keys (tbl al)) (dep (tbl al)) f out = some o ∧ OM H h' o ∧
    lrun Try.prog md fg (fg 9) (loopOf Try.f9 0) (fg 9 1) ((.unk :: .unk :: .unk :: .unk :: (.ptr H.length 0) :: (.ptr (H.length + 1) 0) :: .unk :: .unk :: .unk :: .unk :: .unk :: .unk :: .unk :: .unk :: .unk :: .unk :: .unk :: .unk :: .unk :: .unk :: .unk :: .unk :: .unk :: .unk :: .unk :: .unk :: .unk :: .unk :: .unk :: .unk :: .unk :: .unk :: .unk :: .unk :: .unk :: .unk :: [] : List AV)) h = some (.exit 0, (.unk :: .unk :: .unk :: .unk :: (.ptr H.length 0) :: (.ptr (H.length + 1) 0) :: .unk :: .unk :: .unk :: .unk :: .unk :: .unk :: .unk :: .unk :: .unk :: .unk :: .unk :: .unk :: .unk :: .unk :: .unk :: .unk :: .unk :: .unk :: .unk :: .unk :: .unk :: .unk :: .unk :: .unk :: .unk :: .unk :: .unk :: .unk :: .unk :: .unk :: [] : List AV), h')
  | 0, h, out, ho, ht, hl => by
    have hT1 := om_tb ho hT
    obtain ⟨_, nv, t2, t3⟩ := hT1
    refine ⟨out, h, rfl, ho, ?_⟩
    refine order_exit (N := keys (tbl al)) ho t2 (fun h2 => ?_) (by omega)
    rcases t3 with ⟨h1, rfl⟩ | ⟨k, g, rfl, _⟩
    · rw [h1]; simp only [abuiltin_len_slc, alen_slc, tarr_25, tslice_25, lenT_slc, Option.map_some, List.length_nil]
    · simp only [abuiltin_len_arr, alen_arr, tarr_25, tslice_25, lenT_arr, Option.map_some]
  | f + 1, h, out, ho, ht, hl => by
    have hT1 := om_tb ho hT
    obtain ⟨_, nv, t2, t3⟩ := hT1
    obtain ⟨x, hx⟩ := hac out ht (by omega)
    obtain ⟨j, hj, _, hxj⟩ := pix_find _ _ 0 x hx
    rw [Nat.sub_zero] at hxj
    have hjl := (List.getElem?_eq_some_iff.1 hxj).1
    have htj : ((j : Int)).toNat = j := by omega
    obtain ⟨ov, o1, o2, o3⟩ := om_O ho
    have oT := om_T ho
    obtain ⟨ov', v, h1, q1, q2, q3, q4, q5, q6⟩ := om_add ho (by omega) x
    rw [o1] at q1
    cases q1
    have htk := took_add ht hx
    obtain ⟨o, h', y1, y2, e⟩ := order_loop hg hT hkl hac f (h1.set (H.length + 1) (.vars [v])) (out ++ [x]) q6 htk (by simp; omega)
    refine ⟨o, h', by rw [greedy, hx]; exact y1, y2, ?_⟩
    rw [← e]
    rcases t3 with ⟨h0, rfl⟩ | ⟨k, g, rfl, hk⟩
    · rw [h0] at hjl; simp at hjl
    · have c28 := idxf_c 29 [.ptr (H.length + 1) 0, .ptr H.length 0] callable_29 (fun h' => h' = h) (.arr k 0 (keys (tbl al)).length g 1) (keys (tbl al)) (fun h' e => by rw [e]; exact .inr ⟨k, g, rfl, hk⟩) (by omega) h h _ rfl (runs_pix (rdy (dep (tbl al)) out) (keys (tbl al)) 0 (fun n hn => c29 hg hT ho (by omega) n hn))
      rw [hj] at c28
      simp only [oI] at c28
      have hlt : ((out.length : Int) < ((keys (tbl al)).length : Int)) = True := by simp; omega
      rw [lrun_atC loop9_0]
      simp (implicitDefEqProofs := false) (disch := omega) only [go_sem, Nat.reduceAdd, Nat.reduceSub, Nat.reduceMul, Nat.reduceLT, Nat.reduceLeDiff, Nat.reduceEqDiff, List.drop_zero, List.take_succ_cons, List.take_zero, List.drop_succ_cons, Bool.and_true, Bool.true_and, Bool.and_false, Bool.false_and, BitVec.reduceOfInt, Nat.zero_add, Nat.mul_one, Nat.add_zero, Int.zero_add, Int.reduceToNat, Nat.reducePow, ↓reduceIte, reduceCtorEq, Int.reduceLE, Int.reduceLT, Int.reduceEq, Int.reduceNe, Int.reduceAdd, Int.reduceSub, Int.reduceMul, Int.reduceNeg, Nat.reduceBEq, show regOf Try.f9 5 = Code.region _ _ _ from rfl, show regOf Try.f9 6 = Code.region _ _ _ from rfl, show regOf Try.f9 7 = Code.region _ _ _ from rfl, o1, oT, t2, o3, hlt, c28, htj, List.getElem?_map, hxj, hk, Option.map_some, q2, q3, q4, q5, thenDraw_append, thenDraw_store]
theorem order_p {al : List Al} (hg : Good al) (hkl : (keys (tbl al)).length ≤ 1000) :
    pcall Try.prog md fg 9 [.slc false (al.map alV)] = some (.tup [.slc false ((ans (greedy (keys (tbl al)) (dep (tbl al)) (keys (tbl al)).length [])).1.map sV), .int (ans (greedy (keys (tbl al)) (dep (tbl al)) (keys (tbl al)).length [])).2]) := by
  obtain ⟨H, em, hT, hH⟩ := made_p al (by have := hg.1; omega)
  have c26 := doCall_keep (by decide) (by decide) (by decide) em (by simp [below])
  obtain ⟨b, cc, hb1, hb2⟩ := cyclic_c hg (tb_app hT [.vars [.ptr 2 0]]) hkl
  cases b with
  | true =>
    rw [hb1 rfl]
    have e : aval Try.prog md fg 9 [.slc false (al.map alV)] [] = some (.tup [.slc true [], .int 14], H ++ [.vars [.ptr 2 0]]) := by
      rw [aval_of Try.func9 body9 Try.results9 Try.ntmps9 ok9]
      simp (implicitDefEqProofs := false) (disch := omega) only [go_sem, Nat.reduceAdd, Nat.reduceSub, Nat.reduceMul, Nat.reduceLT, Nat.reduceLeDiff, Nat.reduceEqDiff, List.drop_zero, List.take_succ_cons, List.take_zero, List.drop_succ_cons, Bool.and_true, Bool.true_and, Bool.and_false, Bool.false_and, BitVec.reduceOfInt, Nat.zero_add, Nat.mul_one, Nat.add_zero, Int.zero_add, Int.reduceToNat, Nat.reducePow, ↓reduceIte, reduceCtorEq, Int.reduceLE, Int.reduceLT, Int.reduceEq, Int.reduceNe, Int.reduceAdd, Int.reduceSub, Int.reduceMul, Int.reduceNeg, Nat.reduceBEq, show regOf Try.f9 0 = Code.region _ _ _ from rfl, show regOf Try.f9 1 = Code.region _ _ _ from rfl, show regOf Try.f9 2 = Code.region _ _ _ from rfl, show regOf Try.f9 3 = Code.region _ _ _ from rfl, c26, set_last, hget_last, cc]
    rw [pcall_eq, e, pure_tup (ov_nil _)]
    rfl
  | false =>
    obtain ⟨o, h', y1, y2, e⟩ := order_loop hg hT hkl (hb2 rfl) (keys (tbl al)).length (H ++ [.vars [.ptr 2 0], .vars [.slc true []]]) [] (.inl ⟨rfl, rfl⟩) ⟨(by intro n h; cases h), by simp⟩ (by simp)
    rw [y1]
    obtain ⟨ov, o1, o2, o3⟩ := om_O y2
    have e2 : aval Try.prog md fg 9 [.slc false (al.map alV)] [] = some (.tup [ov, .int 0], h') := by
      rw [aval_of Try.func9 body9 Try.results9 Try.ntmps9 ok9]
      simp (implicitDefEqProofs := false) (disch := omega) only [go_sem, Nat.reduceAdd, Nat.reduceSub, Nat.reduceMul, Nat.reduceLT, Nat.reduceLeDiff, Nat.reduceEqDiff, List.drop_zero, List.take_succ_cons, List.take_zero, List.drop_succ_cons, Bool.and_true, Bool.true_and, Bool.and_false, Bool.false_and, BitVec.reduceOfInt, Nat.zero_add, Nat.mul_one, Nat.add_zero, Int.zero_add, Int.reduceToNat, Nat.reducePow, ↓reduceIte, reduceCtorEq, Int.reduceLE, Int.reduceLT, Int.reduceEq, Int.reduceNe, Int.reduceAdd, Int.reduceSub, Int.reduceMul, Int.reduceNeg, Nat.reduceBEq, show regOf Try.f9 0 = Code.region _ _ _ from rfl, show regOf Try.f9 1 = Code.region _ _ _ from rfl, show regOf Try.f9 2 = Code.region _ _ _ from rfl, show regOf Try.f9 4 = Code.region _ _ _ from rfl, show regOf Try.f9 8 = Code.region _ _ _ from rfl, c26, set_last, hget_last, cc, List.append_assoc, List.cons_append, List.nil_append, List.length_append, List.length_cons, List.length_nil, e, o1]
    rw [pcall_eq, e2, pure_tup o2]
    rfl
end Go.Proofs.Ytgijlgdhogbgbaa
namespace Go.Proofs.Ytgijlgdhogbgbaa
open Go Go.Ab Go.Proofs
set_option maxRecDepth 100000
set_option linter.unusedSimpArgs false
set_option linter.unusedVariables false
def LV (t : Tm) : Prop := ∃ b, pcall Try.prog md fg 14 [tmV t] = some (.val (.bool b))
theorem lv_loop (k : Int) (p m : Nm) (n : Int) (l : List Tm) (hl : l.length ≤ 9223372036854775807) (hQ : ∀ t ∈ l, LV t) : ∀ (r : List Tm) (i : Nat), l.drop i = r → i ≤ l.length → ∃ (b : Bool) (i' : Int),
    lrun Try.prog md fg (fg 14) (loopOf Try.f14 0) (fg 14 1) ((.unk :: (.ptr 0 0) :: (.val (.bool false)) :: .unk :: .unk :: .unk :: .unk :: .unk :: .unk :: .unk :: .unk :: .unk :: .unk :: .unk :: .unk :: (.int l.length) :: (.int i) :: .unk :: .unk :: .unk :: .unk :: .unk :: .unk :: .unk :: .unk :: .unk :: .unk :: [] : List AV)) [.vars [.int k, .str (txt p), .str (txt m), .int n, .slc false (l.map tmV)]] = some (if b then .exit 0 else .ret, (.unk :: (.ptr 0 0) :: (.val (.bool false)) :: .unk :: .unk :: .unk :: .unk :: .unk :: .unk :: .unk :: .unk :: .unk :: .unk :: .unk :: .unk :: (.int l.length) :: (.int i') :: .unk :: .unk :: .unk :: .unk :: .unk :: .unk :: .unk :: .unk :: .unk :: .unk :: [] : List AV), [.vars [.int k, .str (txt p), .str (txt m), .int n, .slc false (l.map tmV)]])
  | [], i, hdr, hi => by
    have : i = l.length := by have := congrArg List.length hdr; simp at this; omega
    subst this
    refine ⟨true, (l.length : Int), ?_⟩
    simp only [if_true]
    rw [lrun_atC loop14_0]
    simp (implicitDefEqProofs := false) (disch := omega) only [go_sem, Nat.reduceAdd, Nat.reduceSub, Nat.reduceMul, Nat.reduceLT, Nat.reduceLeDiff, Nat.reduceEqDiff, List.drop_zero, List.take_succ_cons, List.take_zero, List.drop_succ_cons, Bool.and_true, Bool.true_and, Bool.and_false, Bool.false_and, BitVec.reduceOfInt, Nat.zero_add, Nat.mul_one, Nat.add_zero, Int.zero_add, Int.reduceToNat, Nat.reducePow, ↓reduceIte, reduceCtorEq, Int.reduceLE, Int.reduceLT, Int.reduceEq, Int.reduceNe, Int.reduceAdd, Int.reduceSub, Int.reduceMul, Int.reduceNeg, Nat.reduceBEq, show regOf Try.f14 4 = Code.region _ _ _ from rfl, List.length_map]
  | ⟨k2, p2, m2, n2, l2⟩ :: r, i, hdr, hi => by
    have hx : l[i]? = some ⟨k2, p2, m2, n2, l2⟩ := by have := congrArg (·[0]?) hdr; simpa using this
    have hlt : i < l.length := (List.getElem?_eq_some_iff.1 hx).1
    have hd' : l.drop (i + 1) = r := by rw [← List.tail_drop, hdr]; rfl
    have ht : ((i : Int)).toNat = i := by omega
    obtain ⟨b, hq⟩ := hQ _ (List.mem_of_getElem? hx)
    have cy : ∀ h : AHeap, doCall md (aval Try.prog md fg) 14 [tmV ⟨k2, p2, m2, n2, l2⟩] h = some (.val (.bool b), h) := fun h => doCall_pure md14 (by simp only [solidL, solid_tm, Bool.and_true]) hq
    rw [tmV_mk] at cy
    cases b with
    | false =>
      refine ⟨false, (i : Int), ?_⟩
      simp only [Bool.false_eq_true, if_false]
      rw [lrun_atC loop14_0]
      simp (implicitDefEqProofs := false) (disch := omega) only [go_sem, Nat.reduceAdd, Nat.reduceSub, Nat.reduceMul, Nat.reduceLT, Nat.reduceLeDiff, Nat.reduceEqDiff, List.drop_zero, List.take_succ_cons, List.take_zero, List.drop_succ_cons, Bool.and_true, Bool.true_and, Bool.and_false, Bool.false_and, BitVec.reduceOfInt, Nat.zero_add, Nat.mul_one, Nat.add_zero, Int.zero_add, Int.reduceToNat, Nat.reducePow, ↓reduceIte, reduceCtorEq, Int.reduceLE, Int.reduceLT, Int.reduceEq, Int.reduceNe, Int.reduceAdd, Int.reduceSub, Int.reduceMul, Int.reduceNeg, Nat.reduceBEq, show regOf Try.f14 4 = Code.region _ _ _ from rfl, show regOf Try.f14 5 = Code.region _ _ _ from rfl, show regOf Try.f14 6 = Code.region _ _ _ from rfl, show regOf Try.f14 7 = Code.region _ _ _ from rfl, List.length_map, List.getElem?_map, ht, hx, Option.map_some, tmV_mk, cy]
    | true =>
      obtain ⟨b', i', e2⟩ := lv_loop k p m n l hl hQ r (i + 1) hd' (by omega)
      refine ⟨b', i', ?_⟩
      rw [← e2]
      rw [lrun_atC loop14_0]
      simp (implicitDefEqProofs := false) (disch := omega) only [go_sem, Nat.reduceAdd, Nat.reduceSub, Nat.reduceMul, Nat.reduceLT, Nat.reduceLeDiff, Nat.reduceEqDiff, List.drop_zero, List.take_succ_cons, List.take_zero, List.drop_succ_cons, Bool.and_true, Bool.true_and, Bool.and_false, Bool.false_and, BitVec.reduceOfInt, Nat.zero_add, Nat.mul_one, Nat.add_zero, Int.zero_add, Int.reduceToNat, Nat.reducePow, ↓reduceIte, reduceCtorEq, Int.reduceLE, Int.reduceLT, Int.reduceEq, Int.reduceNe, Int.reduceAdd, Int.reduceSub, Int.reduceMul, Int.reduceNeg, Nat.reduceBEq, show regOf Try.f14 4 = Code.region _ _ _ from rfl, show regOf Try.f14 5 = Code.region _ _ _ from rfl, show regOf Try.f14 6 = Code.region _ _ _ from rfl, show regOf Try.f14 8 = Code.region _ _ _ from rfl, List.length_map, List.getElem?_map, ht, hx, Option.map_some, tmV_mk, cy]
      all_goals (congr 1 <;> simp only [List.cons.injEq, AV.val.injEq, Value.int.injEq, Value.bool.injEq, true_and, and_true] <;> omega)
theorem lv_node (k : Int) (p m : Nm) (n : Int) (l : List Tm) (hl : l.length ≤ 9223372036854775807) (hQ : ∀ t ∈ l, LV t) : LV ⟨k, p, m, n, l⟩ := by
  unfold LV
  have e : ∃ b h, aval Try.prog md fg 14 [tmV ⟨k, p, m, n, l⟩] [] = some (.val (.bool b), h) := by
    obtain ⟨b, i', e2⟩ := lv_loop k p m n l hl hQ l 0 (by simp) (by omega)
    simp only [Int.natCast_zero] at e2
    rw [tmV_mk]
    by_cases h1 : k = 1
    · subst h1
      by_cases h2 : (0 : Int) < (l.length : Int)
      · refine ⟨false, ?_⟩
        rw [aval_of Try.func14 body14 Try.results14 Try.ntmps14 ok14]
        simp (implicitDefEqProofs := false) (disch := omega) only [go_sem, Nat.reduceAdd, Nat.reduceSub, Nat.reduceMul, Nat.reduceLT, Nat.reduceLeDiff, Nat.reduceEqDiff, List.drop_zero, List.take_succ_cons, List.take_zero, List.drop_succ_cons, Bool.and_true, Bool.true_and, Bool.and_false, Bool.false_and, BitVec.reduceOfInt, Nat.zero_add, Nat.mul_one, Nat.add_zero, Int.zero_add, Int.reduceToNat, Nat.reducePow, ↓reduceIte, reduceCtorEq, Int.reduceLE, Int.reduceLT, Int.reduceEq, Int.reduceNe, Int.reduceAdd, Int.reduceSub, Int.reduceMul, Int.reduceNeg, Nat.reduceBEq, show regOf Try.f14 0 = Code.region _ _ _ from rfl, show regOf Try.f14 1 = Code.region _ _ _ from rfl, show regOf Try.f14 2 = Code.region _ _ _ from rfl, List.length_map, h2]
        exact ⟨_, rfl⟩
      · refine ⟨b, ?_⟩
        rw [aval_of Try.func14 body14 Try.results14 Try.ntmps14 ok14]
        cases b <;> simp only [Bool.false_eq_true, if_false, if_true] at e2 <;>
        · simp (implicitDefEqProofs := false) (disch := omega) only [go_sem, Nat.reduceAdd, Nat.reduceSub, Nat.reduceMul, Nat.reduceLT, Nat.reduceLeDiff, Nat.reduceEqDiff, List.drop_zero, List.take_succ_cons, List.take_zero, List.drop_succ_cons, Bool.and_true, Bool.true_and, Bool.and_false, Bool.false_and, BitVec.reduceOfInt, Nat.zero_add, Nat.mul_one, Nat.add_zero, Int.zero_add, Int.reduceToNat, Nat.reducePow, ↓reduceIte, reduceCtorEq, Int.reduceLE, Int.reduceLT, Int.reduceEq, Int.reduceNe, Int.reduceAdd, Int.reduceSub, Int.reduceMul, Int.reduceNeg, Nat.reduceBEq, show regOf Try.f14 0 = Code.region _ _ _ from rfl, show regOf Try.f14 1 = Code.region _ _ _ from rfl, show regOf Try.f14 3 = Code.region _ _ _ from rfl, show regOf Try.f14 9 = Code.region _ _ _ from rfl, List.length_map, h2, e2]
          exact ⟨_, rfl⟩
    · refine ⟨b, ?_⟩
      rw [aval_of Try.func14 body14 Try.results14 Try.ntmps14 ok14]
      cases b <;> simp only [Bool.false_eq_true, if_false, if_true] at e2 <;>
      · simp (implicitDefEqProofs := false) (disch := omega) only [go_sem, Nat.reduceAdd, Nat.reduceSub, Nat.reduceMul, Nat.reduceLT, Nat.reduceLeDiff, Nat.reduceEqDiff, List.drop_zero, List.take_succ_cons, List.take_zero, List.drop_succ_cons, Bool.and_true, Bool.true_and, Bool.and_false, Bool.false_and, BitVec.reduceOfInt, Nat.zero_add, Nat.mul_one, Nat.add_zero, Int.zero_add, Int.reduceToNat, Nat.reducePow, ↓reduceIte, reduceCtorEq, Int.reduceLE, Int.reduceLT, Int.reduceEq, Int.reduceNe, Int.reduceAdd, Int.reduceSub, Int.reduceMul, Int.reduceNeg, Nat.reduceBEq, show regOf Try.f14 0 = Code.region _ _ _ from rfl, show regOf Try.f14 1 = Code.region _ _ _ from rfl, show regOf Try.f14 3 = Code.region _ _ _ from rfl, show regOf Try.f14 9 = Code.region _ _ _ from rfl, List.length_map, h1, e2]
        exact ⟨_, rfl⟩
  obtain ⟨b, h, e⟩ := e
  exact ⟨b, by rw [pcall_eq, e, pureRes_solid rfl]⟩
mutual
theorem LV_all : ∀ t : Tm, t.fit → LV t
  | ⟨k, p, m, n, l⟩, hf => by
    rw [Tm.fit] at hf
    exact lv_node k p m n l hf.2.2.1 (LV_alls l hf.2.2.2)
theorem LV_alls : ∀ l : List Tm, Tm.fits l → ∀ t ∈ l, LV t
  | [], _, t, h => by cases h
  | a :: r, hf, t, h => by
    rw [Tm.fits] at hf
    rcases List.mem_cons.1 h with h | h
    · rw [h]; exact LV_all a hf.1
    · exact LV_alls r hf.2 t h
end
theorem fa_loop (l : List Tm) (hl : l.length ≤ 1000) (hW : ∀ t ∈ l, W t) : ∀ (r : List Tm) (i : Nat) (c : Int), l.drop i = r → i ≤ l.length → 0 ≤ c → c ≤ 200000 → ∃ (c' i' : Int), (c' ≤ 600 → ∀ t ∈ r, (tsz t : Int) ≤ 600) ∧ c ≤ c' ∧
    lrun Try.prog md fg (fg 41) (loopOf Try.f41 0) (fg 41 1) ([.slc false (l.map tmV), .unk, .unk, .int c, .int i, .unk, .unk, .unk, .unk, .unk, .unk, .unk, .unk, .unk, .unk, .unk, .unk, .unk, .unk, .unk, .unk, .unk, .unk, .unk]) [] = some (.exit 0, [.slc false (l.map tmV), .unk, .unk, .int c', .int i', .unk, .unk, .unk, .unk, .unk, .unk, .unk, .unk, .unk, .unk, .unk, .unk, .unk, .unk, .unk, .unk, .unk, .unk, .unk], [])
  | [], i, c, hdr, hi, h0, h1 => by
    have : i = l.length := by have := congrArg List.length hdr; simp at this; omega
    subst this
    refine ⟨c, (l.length : Int), (fun _ t h => by cases h), Int.le_refl _, ?_⟩
    rw [lrun_atC loop41_0]
    simp (implicitDefEqProofs := false) (disch := omega) only [go_sem, Nat.reduceAdd, Nat.reduceSub, Nat.reduceMul, Nat.reduceLT, Nat.reduceLeDiff, Nat.reduceEqDiff, List.drop_zero, List.take_succ_cons, List.take_zero, List.drop_succ_cons, Bool.and_true, Bool.true_and, Bool.and_false, Bool.false_and, BitVec.reduceOfInt, Nat.zero_add, Nat.mul_one, Nat.add_zero, Int.zero_add, Int.reduceToNat, Nat.reducePow, ↓reduceIte, reduceCtorEq, Int.reduceLE, Int.reduceLT, Int.reduceEq, Int.reduceNe, Int.reduceAdd, Int.reduceSub, Int.reduceMul, Int.reduceNeg, Nat.reduceBEq, show regOf Try.f41 3 = Code.region _ _ _ from rfl, List.length_map]
  | ⟨k2, p2, m2, n2, l2⟩ :: r, i, c, hdr, hi, h0, h1 => by
    have hx : l[i]? = some ⟨k2, p2, m2, n2, l2⟩ := by have := congrArg (·[0]?) hdr; simpa using this
    have hlt : i < l.length := (List.getElem?_eq_some_iff.1 hx).1
    have hd' : l.drop (i + 1) = r := by rw [← List.tail_drop, hdr]; rfl
    have ht : ((i : Int)).toNat = i := by omega
    by_cases hc : c ≤ 600
    · obtain ⟨w, w0, w1, w2, w3⟩ := hW _ (List.mem_of_getElem? hx) 0 (by omega) (by omega)
      have cw : ∀ h : AHeap, doCall md (aval Try.prog md fg) 36 [tmV ⟨k2, p2, m2, n2, l2⟩, .int 0] h = some (.int w, h) := fun h => doCall_pure md36 (by simp only [solidL, solid_tm, Bool.true_and]; rfl) w3
      obtain ⟨c', i', e1, e2, e3⟩ := fa_loop l hl hW r (i + 1) (c + w) hd' (by omega) (by omega) (by omega)
      refine ⟨c', i', ?_, by omega, ?_⟩
      · intro h t ht'
        rcases List.mem_cons.1 ht' with rfl | ht'
        · have := w2 (by omega); omega
        · exact e1 h t ht'
      rw [tmV_mk] at cw
      rw [← e3]
      rw [lrun_atC loop41_0]
      simp (implicitDefEqProofs := false) (disch := omega) only [go_sem, Nat.reduceAdd, Nat.reduceSub, Nat.reduceMul, Nat.reduceLT, Nat.reduceLeDiff, Nat.reduceEqDiff, List.drop_zero, List.take_succ_cons, List.take_zero, List.drop_succ_cons, Bool.and_true, Bool.true_and, Bool.and_false, Bool.false_and, BitVec.reduceOfInt, Nat.zero_add, Nat.mul_one, Nat.add_zero, Int.zero_add, Int.reduceToNat, Nat.reducePow, ↓reduceIte, reduceCtorEq, Int.reduceLE, Int.reduceLT, Int.reduceEq, Int.reduceNe, Int.reduceAdd, Int.reduceSub, Int.reduceMul, Int.reduceNeg, Nat.reduceBEq, show regOf Try.f41 3 = Code.region _ _ _ from rfl, show regOf Try.f41 5 = Code.region _ _ _ from rfl, show regOf Try.f41 4 = Code.region _ _ _ from rfl, List.length_map, List.getElem?_map, ht, hx, Option.map_some, tmV_mk, cw, hc]
      all_goals (congr 1 <;> simp only [List.cons.injEq, AV.val.injEq, Value.int.injEq, Value.bool.injEq, true_and, and_true] <;> omega)
    · refine ⟨c, (i : Int), fun h => absurd h hc, Int.le_refl _, ?_⟩
      rw [lrun_atC loop41_0]
      simp (implicitDefEqProofs := false) (disch := omega) only [go_sem, Nat.reduceAdd, Nat.reduceSub, Nat.reduceMul, Nat.reduceLT, Nat.reduceLeDiff, Nat.reduceEqDiff, List.drop_zero, List.take_succ_cons, List.take_zero, List.drop_succ_cons, Bool.and_true, Bool.true_and, Bool.and_false, Bool.false_and, BitVec.reduceOfInt, Nat.zero_add, Nat.mul_one, Nat.add_zero, Int.zero_add, Int.reduceToNat, Nat.reducePow, ↓reduceIte, reduceCtorEq, Int.reduceLE, Int.reduceLT, Int.reduceEq, Int.reduceNe, Int.reduceAdd, Int.reduceSub, Int.reduceMul, Int.reduceNeg, Nat.reduceBEq, show regOf Try.f41 3 = Code.region _ _ _ from rfl, List.length_map, hc]
theorem fa_p (l : List Tm) (hl : l.length ≤ 1000) (hf : ∀ t ∈ l, t.fit) : ∃ b, pcall Try.prog md fg 41 [.slc false (l.map tmV)] = some (.val (.bool b)) ∧ (b = true → ∀ t ∈ l, (tsz t : Int) ≤ 600) := by
  obtain ⟨c', i', e1, e2, e3⟩ := fa_loop l hl (fun t ht => W_all t (hf t ht)) l 0 0 (by simp) (by omega) (by omega) (by omega)
  simp only [Int.natCast_zero] at e3
  have e : ∃ h, aval Try.prog md fg 41 [.slc false (l.map tmV)] [] = some (.val (.bool (decide (c' ≤ 600))), h) := by
    rw [aval_of Try.func41 body41 Try.results41 Try.ntmps41 ok41]
    by_cases hc : c' ≤ 600
    · rw [decide_eq_true hc]
      simp (implicitDefEqProofs := false) (disch := omega) only [go_sem, Nat.reduceAdd, Nat.reduceSub, Nat.reduceMul, Nat.reduceLT, Nat.reduceLeDiff, Nat.reduceEqDiff, List.drop_zero, List.take_succ_cons, List.take_zero, List.drop_succ_cons, Bool.and_true, Bool.true_and, Bool.and_false, Bool.false_and, BitVec.reduceOfInt, Nat.zero_add, Nat.mul_one, Nat.add_zero, Int.zero_add, Int.reduceToNat, Nat.reducePow, ↓reduceIte, reduceCtorEq, Int.reduceLE, Int.reduceLT, Int.reduceEq, Int.reduceNe, Int.reduceAdd, Int.reduceSub, Int.reduceMul, Int.reduceNeg, Nat.reduceBEq, show regOf Try.f41 0 = Code.region _ _ _ from rfl, show regOf Try.f41 1 = Code.region _ _ _ from rfl, show regOf Try.f41 2 = Code.region _ _ _ from rfl, show regOf Try.f41 6 = Code.region _ _ _ from rfl, e3, hc]
      exact ⟨_, rfl⟩
    · rw [decide_eq_false hc]
      simp (implicitDefEqProofs := false) (disch := omega) only [go_sem, Nat.reduceAdd, Nat.reduceSub, Nat.reduceMul, Nat.reduceLT, Nat.reduceLeDiff, Nat.reduceEqDiff, List.drop_zero, List.take_succ_cons, List.take_zero, List.drop_succ_cons, Bool.and_true, Bool.true_and, Bool.and_false, Bool.false_and, BitVec.reduceOfInt, Nat.zero_add, Nat.mul_one, Nat.add_zero, Int.zero_add, Int.reduceToNat, Nat.reducePow, ↓reduceIte, reduceCtorEq, Int.reduceLE, Int.reduceLT, Int.reduceEq, Int.reduceNe, Int.reduceAdd, Int.reduceSub, Int.reduceMul, Int.reduceNeg, Nat.reduceBEq, show regOf Try.f41 0 = Code.region _ _ _ from rfl, show regOf Try.f41 1 = Code.region _ _ _ from rfl, show regOf Try.f41 2 = Code.region _ _ _ from rfl, show regOf Try.f41 6 = Code.region _ _ _ from rfl, e3, hc]
      exact ⟨_, rfl⟩
  obtain ⟨h, e⟩ := e
  exact ⟨_, by rw [pcall_eq, e, pureRes_solid rfl], fun h => e1 (by simpa using h)⟩
end Go.Proofs.Ytgijlgdhogbgbaa
namespace Go.Proofs.Ytgijlgdhogbgbaa
open Go Go.Ab Go.Proofs
set_option maxRecDepth 100000
set_option linter.unusedSimpArgs false
set_option linter.unusedVariables false
def Al.fit (a : Al) : Prop := a.nm.length ≤ 9223372036854775807 ∧ a.ps.length ≤ 9223372036854775807 ∧ (∀ x ∈ a.ps, x.length ≤ 9223372036854775807) ∧ a.ty.fit
abbrev modV (al : List Al) : AObj := .vars [.slc false [], .slc false [], .slc false (al.map alV), .slc false [], .slc false []]
theorem headOk_tm (l : List Tm) : headOk 5 (l.map tmV) = true := by
  cases l with
  | nil => rfl
  | cons t r => obtain ⟨k, p, m, n, ks⟩ := t; rw [List.map_cons, tmV_mk]; rfl
/-- The types gathered. -/
def BT (al : List Al) (h : AHeap) (tv : AV) (acc : List Tm) : Prop := (acc = [] ∧ tv = .slc true [] ∧ h = [modV al]) ∨ ∃ g, tv = .arr 1 0 acc.length g 5 ∧ h = [modV al, .arr 5 (acc.map tmV) g]
theorem bt_box {al : List Al} {h : AHeap} {tv : AV} {acc : List Tm} (hb : BT al h tv acc) : hget h 0 = modV al := by
  rcases hb with ⟨_, _, rfl⟩ | ⟨g, _, rfl⟩ <;> rfl
theorem bt_add {al : List Al} {h : AHeap} {tv : AV} {acc : List Tm} (hb : BT al h tv acc) (hn : acc.length ≤ 1000) (t : Tm) : ∃ v h1, (∀ z, appT (some (5, 72, z)) h tv (some [tmV t]) = some (v, h1)) ∧ BT al h1 v (acc ++ [t]) := by
  rcases hb with ⟨rfl, rfl, rfl⟩ | ⟨g, rfl, rfl⟩
  · exact ⟨_, _, fun z => appT_slc _ _ _ _ _ (headOk_tm [t]) rfl (by simp) (by simp), .inr ⟨0, rfl, rfl⟩⟩
  · exact ⟨_, _, fun z => appT_arr _ _ _ _ _ _ _ _ rfl (by simp) (headOk_tm [t]) (by simp; omega), .inr ⟨g + 1, by simp, by simp⟩⟩
theorem bt_exp {al : List Al} {h : AHeap} {tv : AV} {acc : List Tm} (hb : BT al h tv acc) : ∃ ids, exp1 h expDepth tv = some (.slc false (acc.map tmV), ids) ∧ canFrz h ids = true := by
  rcases hb with ⟨rfl, rfl, rfl⟩ | ⟨g, rfl, rfl⟩
  · exact ⟨[], rfl, rfl⟩
  · refine ⟨[1], ?_, rfl⟩
    have := arr_exp (h := [modV al, .arr 5 (acc.map tmV) g]) (id := 1) rfl (solid_tmL acc) 59
    rw [List.length_map] at this; exact this
theorem min5 (x : Int) (h : 0 ≤ x) : ∃ m, (if (5000 : Int) < x then 5000 else x) = m ∧ 0 ≤ m ∧ m ≤ 5000 := ⟨_, rfl, by split <;> omega, by split <;> omega⟩
set_option maxHeartbeats 4000000 in
theorem f10_loop (al : List Al) (i : Nat) (s : Nm) (ps : List Nm) (k2 : Int) (p2 m2 : Nm) (n2 : Int) (l2 : List Tm) (hx : al[i]? = some ⟨s, ps, k2, p2, m2, n2, l2⟩) (hps : ps.length ≤ 9223372036854775807) (hpl : ∀ x ∈ ps, x.length ≤ 9223372036854775807) (h : AHeap) (tv : AV) (hb : hget h 0 = modV al) : ∀ (d j : Nat) (c : Int), j + d = 60 → j ≤ ps.length → 0 ≤ c → c + 5000 * (d : Int) ≤ 100000000 → ∃ (c' j' : Int), 0 ≤ c' ∧ c' ≤ c + 5000 * (d : Int) ∧
    lrun Try.prog md fg (fg 25) (loopOf Try.f25 10) (fg 25 11) ((.unk :: (.ptr 0 0) :: .unk :: (tv) :: (.int c) :: .unk :: .unk :: .unk :: .unk :: (.int i) :: (.int j) :: .unk :: .unk :: .unk :: .unk :: .unk :: .unk :: .unk :: .unk :: .unk :: .unk :: .unk :: .unk :: .unk :: .unk :: .unk :: .unk :: .unk :: .unk :: .unk :: .unk :: .unk :: .unk :: .unk :: .unk :: .unk :: .unk :: .unk :: .unk :: .unk :: .unk :: .unk :: .unk :: .unk :: .unk :: .unk :: .unk :: .unk :: .unk :: .unk :: .unk :: .unk :: .unk :: .unk :: .unk :: .unk :: .unk :: .unk :: .unk :: .unk :: .unk :: .unk :: .unk :: .unk :: .unk :: .unk :: .unk :: .unk :: .unk :: .unk :: .unk :: .unk :: .unk :: .unk :: .unk :: .unk :: .unk :: .unk :: .unk :: .unk :: .unk :: .unk :: .unk :: .unk :: .unk :: .unk :: .unk :: .unk :: .unk :: .unk :: .unk :: .unk :: .unk :: .unk :: .unk :: .unk :: .unk :: .unk :: .unk :: .unk :: .unk :: .unk :: .unk :: .unk :: .unk :: .unk :: .unk :: .unk :: .unk :: .unk :: .unk :: .unk :: .unk :: .unk :: .unk :: .unk :: .unk :: .unk :: .unk :: .unk :: .unk :: .unk :: .unk :: .unk :: .unk :: .unk :: .unk :: .unk :: .unk :: .unk :: .unk :: .unk :: .unk :: .unk :: .unk :: .unk :: .unk :: .unk :: .unk :: .unk :: .unk :: .unk :: .unk :: .unk :: .unk :: .unk :: .unk :: .unk :: .unk :: .unk :: .unk :: .unk :: .unk :: .unk :: .unk :: .unk :: .unk :: .unk :: .unk :: .unk :: .unk :: .unk :: .unk :: .unk :: .unk :: .unk :: .unk :: .unk :: .unk :: .unk :: .unk :: .unk :: .unk :: .unk :: (.int al.length) :: (.int i) :: .unk :: .unk :: .unk :: .unk :: .unk :: .unk :: .unk :: .unk :: .unk :: .unk :: .unk :: .unk :: .unk :: .unk :: .unk :: .unk :: .unk :: .unk :: .unk :: .unk :: .unk :: .unk :: .unk :: .unk :: .unk :: .unk :: .unk :: .unk :: .unk :: .unk :: .unk :: .unk :: .unk :: .unk :: .unk :: .unk :: .unk :: .unk :: .unk :: .unk :: .unk :: .unk :: .unk :: .unk :: .unk :: .unk :: .unk :: .unk :: .unk :: .unk :: .unk :: .unk :: .unk :: .unk :: .unk :: .unk :: .unk :: .unk :: .unk :: .unk :: .unk :: .unk :: .unk :: .unk :: .unk :: .unk :: .unk :: .unk :: .unk :: .unk :: .unk :: .unk :: .unk :: .unk :: .unk :: .unk :: .unk :: .unk :: .unk :: .unk :: .unk :: .unk :: .unk :: .unk :: .unk :: .unk :: .unk :: .unk :: .unk :: .unk :: .unk :: .unk :: .unk :: .unk :: .unk :: .unk :: .unk :: .unk :: .unk :: .unk :: .unk :: .unk :: .unk :: .unk :: .unk :: .unk :: .unk :: .unk :: .unk :: .unk :: .unk :: .unk :: .unk :: .unk :: .unk :: .unk :: .unk :: .unk :: .unk :: .unk :: .unk :: .unk :: .unk :: .unk :: .unk :: .unk :: [] : List AV)) h = some (.exit 10, (.unk :: (.ptr 0 0) :: .unk :: (tv) :: (.int c') :: .unk :: .unk :: .unk :: .unk :: (.int i) :: (.int j') :: .unk :: .unk :: .unk :: .unk :: .unk :: .unk :: .unk :: .unk :: .unk :: .unk :: .unk :: .unk :: .unk :: .unk :: .unk :: .unk :: .unk :: .unk :: .unk :: .unk :: .unk :: .unk :: .unk :: .unk :: .unk :: .unk :: .unk :: .unk :: .unk :: .unk :: .unk :: .unk :: .unk :: .unk :: .unk :: .unk :: .unk :: .unk :: .unk :: .unk :: .unk :: .unk :: .unk :: .unk :: .unk :: .unk :: .unk :: .unk :: .unk :: .unk :: .unk :: .unk :: .unk :: .unk :: .unk :: .unk :: .unk :: .unk :: .unk :: .unk :: .unk :: .unk :: .unk :: .unk :: .unk :: .unk :: .unk :: .unk :: .unk :: .unk :: .unk :: .unk :: .unk :: .unk :: .unk :: .unk :: .unk :: .unk :: .unk :: .unk :: .unk :: .unk :: .unk :: .unk :: .unk :: .unk :: .unk :: .unk :: .unk :: .unk :: .unk :: .unk :: .unk :: .unk :: .unk :: .unk :: .unk :: .unk :: .unk :: .unk :: .unk :: .unk :: .unk :: .unk :: .unk :: .unk :: .unk :: .unk :: .unk :: .unk :: .unk :: .unk :: .unk :: .unk :: .unk :: .unk :: .unk :: .unk :: .unk :: .unk :: .unk :: .unk :: .unk :: .unk :: .unk :: .unk :: .unk :: .unk :: .unk :: .unk :: .unk :: .unk :: .unk :: .unk :: .unk :: .unk :: .unk :: .unk :: .unk :: .unk :: .unk :: .unk :: .unk :: .unk :: .unk :: .unk :: .unk :: .unk :: .unk :: .unk :: .unk :: .unk :: .unk :: .unk :: .unk :: .unk :: .unk :: .unk :: .unk :: .unk :: .unk :: .unk :: .unk :: (.int al.length) :: (.int i) :: .unk :: .unk :: .unk :: .unk :: .unk :: .unk :: .unk :: .unk :: .unk :: .unk :: .unk :: .unk :: .unk :: .unk :: .unk :: .unk :: .unk :: .unk :: .unk :: .unk :: .unk :: .unk :: .unk :: .unk :: .unk :: .unk :: .unk :: .unk :: .unk :: .unk :: .unk :: .unk :: .unk :: .unk :: .unk :: .unk :: .unk :: .unk :: .unk :: .unk :: .unk :: .unk :: .unk :: .unk :: .unk :: .unk :: .unk :: .unk :: .unk :: .unk :: .unk :: .unk :: .unk :: .unk :: .unk :: .unk :: .unk :: .unk :: .unk :: .unk :: .unk :: .unk :: .unk :: .unk :: .unk :: .unk :: .unk :: .unk :: .unk :: .unk :: .unk :: .unk :: .unk :: .unk :: .unk :: .unk :: .unk :: .unk :: .unk :: .unk :: .unk :: .unk :: .unk :: .unk :: .unk :: .unk :: .unk :: .unk :: .unk :: .unk :: .unk :: .unk :: .unk :: .unk :: .unk :: .unk :: .unk :: .unk :: .unk :: .unk :: .unk :: .unk :: .unk :: .unk :: .unk :: .unk :: .unk :: .unk :: .unk :: .unk :: .unk :: .unk :: .unk :: .unk :: .unk :: .unk :: .unk :: .unk :: .unk :: .unk :: .unk :: .unk :: .unk :: .unk :: .unk :: .unk :: [] : List AV), h)
  | 0, j, c, hd, hj, h0, h1 => by
    have : j = 60 := by omega
    subst this
    have ht : ((i : Int)).toNat = i := by omega
    refine ⟨c, ((60 : Nat) : Int), h0, by omega, ?_⟩
    by_cases hl : ((60 : Nat) : Int) < (ps.length : Int)
    · rw [lrun_atC loop25_10]
      simp (implicitDefEqProofs := false) (disch := omega) only [go_sem, Nat.reduceAdd, Nat.reduceSub, Nat.reduceMul, Nat.reduceLT, Nat.reduceLeDiff, Nat.reduceEqDiff, List.drop_zero, List.take_succ_cons, List.take_zero, List.drop_succ_cons, Bool.and_true, Bool.true_and, Bool.and_false, Bool.false_and, BitVec.reduceOfInt, Nat.zero_add, Nat.mul_one, Nat.add_zero, Int.zero_add, Int.reduceToNat, Nat.reducePow, ↓reduceIte, reduceCtorEq, Int.reduceLE, Int.reduceLT, Int.reduceEq, Int.reduceNe, Int.reduceAdd, Int.reduceSub, Int.reduceMul, Int.reduceNeg, Nat.reduceBEq, show regOf Try.f25 29 = Code.region _ _ _ from rfl, hb, List.length_map, List.getElem?_map, ht, hx, Option.map_some, alV_mk, hl]
    · rw [lrun_atC loop25_10]
      simp (implicitDefEqProofs := false) (disch := omega) only [go_sem, Nat.reduceAdd, Nat.reduceSub, Nat.reduceMul, Nat.reduceLT, Nat.reduceLeDiff, Nat.reduceEqDiff, List.drop_zero, List.take_succ_cons, List.take_zero, List.drop_succ_cons, Bool.and_true, Bool.true_and, Bool.and_false, Bool.false_and, BitVec.reduceOfInt, Nat.zero_add, Nat.mul_one, Nat.add_zero, Int.zero_add, Int.reduceToNat, Nat.reducePow, ↓reduceIte, reduceCtorEq, Int.reduceLE, Int.reduceLT, Int.reduceEq, Int.reduceNe, Int.reduceAdd, Int.reduceSub, Int.reduceMul, Int.reduceNeg, Nat.reduceBEq, show regOf Try.f25 29 = Code.region _ _ _ from rfl, hb, List.length_map, List.getElem?_map, ht, hx, Option.map_some, alV_mk, hl]
  | d + 1, j, c, hd, hj, h0, h1 => by
    have ht : ((i : Int)).toNat = i := by omega
    have htj : ((j : Int)).toNat = j := by omega
    have hj60 : (j : Int) < 60 := by omega
    by_cases hl : (j : Int) < (ps.length : Int)
    · obtain ⟨x, hxj⟩ : ∃ x, ps[j]? = some x := ⟨ps[j], List.getElem?_eq_getElem (by omega)⟩
      have z1 := txt_size x
      obtain ⟨m, e1, e2, e3⟩ := min5 (x.length : Int) (by omega)
      obtain ⟨c', j', y1, y2, y3⟩ := f10_loop al i s ps k2 p2 m2 n2 l2 hx hps hpl h tv hb d (j + 1) (c + m) (by omega) (by omega) (by omega) (by omega)
      refine ⟨c', j', y1, by omega, ?_⟩
      rw [← y3]
      rw [lrun_atC loop25_10]
      simp (implicitDefEqProofs := false) (disch := omega) only [go_sem, Nat.reduceAdd, Nat.reduceSub, Nat.reduceMul, Nat.reduceLT, Nat.reduceLeDiff, Nat.reduceEqDiff, List.drop_zero, List.take_succ_cons, List.take_zero, List.drop_succ_cons, Bool.and_true, Bool.true_and, Bool.and_false, Bool.false_and, BitVec.reduceOfInt, Nat.zero_add, Nat.mul_one, Nat.add_zero, Int.zero_add, Int.reduceToNat, Nat.reducePow, ↓reduceIte, reduceCtorEq, Int.reduceLE, Int.reduceLT, Int.reduceEq, Int.reduceNe, Int.reduceAdd, Int.reduceSub, Int.reduceMul, Int.reduceNeg, Nat.reduceBEq, show regOf Try.f25 29 = Code.region _ _ _ from rfl, show regOf Try.f25 31 = Code.region _ _ _ from rfl, show regOf Try.f25 30 = Code.region _ _ _ from rfl, hb, List.length_map, List.getElem?_map, ht, hx, htj, hxj, Option.map_some, alV_mk, hl, hj60, z1, e1]
      all_goals (congr 1 <;> simp only [List.cons.injEq, AV.val.injEq, Value.int.injEq, Value.bool.injEq, true_and, and_true] <;> omega)
    · refine ⟨c, (j : Int), h0, by omega, ?_⟩
      rw [lrun_atC loop25_10]
      simp (implicitDefEqProofs := false) (disch := omega) only [go_sem, Nat.reduceAdd, Nat.reduceSub, Nat.reduceMul, Nat.reduceLT, Nat.reduceLeDiff, Nat.reduceEqDiff, List.drop_zero, List.take_succ_cons, List.take_zero, List.drop_succ_cons, Bool.and_true, Bool.true_and, Bool.and_false, Bool.false_and, BitVec.reduceOfInt, Nat.zero_add, Nat.mul_one, Nat.add_zero, Int.zero_add, Int.reduceToNat, Nat.reducePow, ↓reduceIte, reduceCtorEq, Int.reduceLE, Int.reduceLT, Int.reduceEq, Int.reduceNe, Int.reduceAdd, Int.reduceSub, Int.reduceMul, Int.reduceNeg, Nat.reduceBEq, show regOf Try.f25 29 = Code.region _ _ _ from rfl, hb, List.length_map, List.getElem?_map, ht, hx, Option.map_some, alV_mk, hl]
set_option maxHeartbeats 8000000 in
theorem f8_loop (al : List Al) (hal : al.length ≤ 30) (hfit : ∀ a ∈ al, a.fit) : ∀ (r : List Al) (i : Nat) (c : Int) (acc : List Tm) (tv : AV) (h : AHeap), al.drop i = r → i ≤ al.length → BT al h tv acc → acc.length = i → 0 ≤ c → c ≤ 405000 * (i : Int) → ∃ (c' : Int) (tv' : AV) (h' : AHeap), 0 ≤ c' ∧ c' ≤ 405000 * 30 ∧ BT al h' tv' (acc ++ r.map Al.ty) ∧
    lrun Try.prog md fg (fg 25) (loopOf Try.f25 8) (fg 25 9) ((.unk :: (.ptr 0 0) :: .unk :: (tv) :: (.int c) :: .unk :: .unk :: .unk :: .unk :: .unk :: .unk :: .unk :: .unk :: .unk :: .unk :: .unk :: .unk :: .unk :: .unk :: .unk :: .unk :: .unk :: .unk :: .unk :: .unk :: .unk :: .unk :: .unk :: .unk :: .unk :: .unk :: .unk :: .unk :: .unk :: .unk :: .unk :: .unk :: .unk :: .unk :: .unk :: .unk :: .unk :: .unk :: .unk :: .unk :: .unk :: .unk :: .unk :: .unk :: .unk :: .unk :: .unk :: .unk :: .unk :: .unk :: .unk :: .unk :: .unk :: .unk :: .unk :: .unk :: .unk :: .unk :: .unk :: .unk :: .unk :: .unk :: .unk :: .unk :: .unk :: .unk :: .unk :: .unk :: .unk :: .unk :: .unk :: .unk :: .unk :: .unk :: .unk :: .unk :: .unk :: .unk :: .unk :: .unk :: .unk :: .unk :: .unk :: .unk :: .unk :: .unk :: .unk :: .unk :: .unk :: .unk :: .unk :: .unk :: .unk :: .unk :: .unk :: .unk :: .unk :: .unk :: .unk :: .unk :: .unk :: .unk :: .unk :: .unk :: .unk :: .unk :: .unk :: .unk :: .unk :: .unk :: .unk :: .unk :: .unk :: .unk :: .unk :: .unk :: .unk :: .unk :: .unk :: .unk :: .unk :: .unk :: .unk :: .unk :: .unk :: .unk :: .unk :: .unk :: .unk :: .unk :: .unk :: .unk :: .unk :: .unk :: .unk :: .unk :: .unk :: .unk :: .unk :: .unk :: .unk :: .unk :: .unk :: .unk :: .unk :: .unk :: .unk :: .unk :: .unk :: .unk :: .unk :: .unk :: .unk :: .unk :: .unk :: .unk :: .unk :: .unk :: .unk :: .unk :: .unk :: .unk :: .unk :: .unk :: .unk :: .unk :: .unk :: .unk :: .unk :: (.int al.length) :: (.int i) :: .unk :: .unk :: .unk :: .unk :: .unk :: .unk :: .unk :: .unk :: .unk :: .unk :: .unk :: .unk :: .unk :: .unk :: .unk :: .unk :: .unk :: .unk :: .unk :: .unk :: .unk :: .unk :: .unk :: .unk :: .unk :: .unk :: .unk :: .unk :: .unk :: .unk :: .unk :: .unk :: .unk :: .unk :: .unk :: .unk :: .unk :: .unk :: .unk :: .unk :: .unk :: .unk :: .unk :: .unk :: .unk :: .unk :: .unk :: .unk :: .unk :: .unk :: .unk :: .unk :: .unk :: .unk :: .unk :: .unk :: .unk :: .unk :: .unk :: .unk :: .unk :: .unk :: .unk :: .unk :: .unk :: .unk :: .unk :: .unk :: .unk :: .unk :: .unk :: .unk :: .unk :: .unk :: .unk :: .unk :: .unk :: .unk :: .unk :: .unk :: .unk :: .unk :: .unk :: .unk :: .unk :: .unk :: .unk :: .unk :: .unk :: .unk :: .unk :: .unk :: .unk :: .unk :: .unk :: .unk :: .unk :: .unk :: .unk :: .unk :: .unk :: .unk :: .unk :: .unk :: .unk :: .unk :: .unk :: .unk :: .unk :: .unk :: .unk :: .unk :: .unk :: .unk :: .unk :: .unk :: .unk :: .unk :: .unk :: .unk :: .unk :: .unk :: .unk :: .unk :: .unk :: .unk :: [] : List AV)) h = some (.exit 8, (.unk :: (.ptr 0 0) :: .unk :: (tv') :: (.int c') :: .unk :: .unk :: .unk :: .unk :: .unk :: .unk :: .unk :: .unk :: .unk :: .unk :: .unk :: .unk :: .unk :: .unk :: .unk :: .unk :: .unk :: .unk :: .unk :: .unk :: .unk :: .unk :: .unk :: .unk :: .unk :: .unk :: .unk :: .unk :: .unk :: .unk :: .unk :: .unk :: .unk :: .unk :: .unk :: .unk :: .unk :: .unk :: .unk :: .unk :: .unk :: .unk :: .unk :: .unk :: .unk :: .unk :: .unk :: .unk :: .unk :: .unk :: .unk :: .unk :: .unk :: .unk :: .unk :: .unk :: .unk :: .unk :: .unk :: .unk :: .unk :: .unk :: .unk :: .unk :: .unk :: .unk :: .unk :: .unk :: .unk :: .unk :: .unk :: .unk :: .unk :: .unk :: .unk :: .unk :: .unk :: .unk :: .unk :: .unk :: .unk :: .unk :: .unk :: .unk :: .unk :: .unk :: .unk :: .unk :: .unk :: .unk :: .unk :: .unk :: .unk :: .unk :: .unk :: .unk :: .unk :: .unk :: .unk :: .unk :: .unk :: .unk :: .unk :: .unk :: .unk :: .unk :: .unk :: .unk :: .unk :: .unk :: .unk :: .unk :: .unk :: .unk :: .unk :: .unk :: .unk :: .unk :: .unk :: .unk :: .unk :: .unk :: .unk :: .unk :: .unk :: .unk :: .unk :: .unk :: .unk :: .unk :: .unk :: .unk :: .unk :: .unk :: .unk :: .unk :: .unk :: .unk :: .unk :: .unk :: .unk :: .unk :: .unk :: .unk :: .unk :: .unk :: .unk :: .unk :: .unk :: .unk :: .unk :: .unk :: .unk :: .unk :: .unk :: .unk :: .unk :: .unk :: .unk :: .unk :: .unk :: .unk :: .unk :: .unk :: .unk :: .unk :: .unk :: .unk :: .unk :: (.int al.length) :: (.int al.length) :: .unk :: .unk :: .unk :: .unk :: .unk :: .unk :: .unk :: .unk :: .unk :: .unk :: .unk :: .unk :: .unk :: .unk :: .unk :: .unk :: .unk :: .unk :: .unk :: .unk :: .unk :: .unk :: .unk :: .unk :: .unk :: .unk :: .unk :: .unk :: .unk :: .unk :: .unk :: .unk :: .unk :: .unk :: .unk :: .unk :: .unk :: .unk :: .unk :: .unk :: .unk :: .unk :: .unk :: .unk :: .unk :: .unk :: .unk :: .unk :: .unk :: .unk :: .unk :: .unk :: .unk :: .unk :: .unk :: .unk :: .unk :: .unk :: .unk :: .unk :: .unk :: .unk :: .unk :: .unk :: .unk :: .unk :: .unk :: .unk :: .unk :: .unk :: .unk :: .unk :: .unk :: .unk :: .unk :: .unk :: .unk :: .unk :: .unk :: .unk :: .unk :: .unk :: .unk :: .unk :: .unk :: .unk :: .unk :: .unk :: .unk :: .unk :: .unk :: .unk :: .unk :: .unk :: .unk :: .unk :: .unk :: .unk :: .unk :: .unk :: .unk :: .unk :: .unk :: .unk :: .unk :: .unk :: .unk :: .unk :: .unk :: .unk :: .unk :: .unk :: .unk :: .unk :: .unk :: .unk :: .unk :: .unk :: .unk :: .unk :: .unk :: .unk :: .unk :: .unk :: .unk :: .unk :: [] : List AV), h')
  | [], i, c, acc, tv, h, hdr, hi, hb, ha, h0, h1 => by
    have : i = al.length := by have := congrArg List.length hdr; simp at this; omega
    subst this
    refine ⟨c, tv, h, h0, by omega, by simpa using hb, ?_⟩
    rw [lrun_atC loop25_8]
    simp (implicitDefEqProofs := false) (disch := omega) only [go_sem, Nat.reduceAdd, Nat.reduceSub, Nat.reduceMul, Nat.reduceLT, Nat.reduceLeDiff, Nat.reduceEqDiff, List.drop_zero, List.take_succ_cons, List.take_zero, List.drop_succ_cons, Bool.and_true, Bool.true_and, Bool.and_false, Bool.false_and, BitVec.reduceOfInt, Nat.zero_add, Nat.mul_one, Nat.add_zero, Int.zero_add, Int.reduceToNat, Nat.reducePow, ↓reduceIte, reduceCtorEq, Int.reduceLE, Int.reduceLT, Int.reduceEq, Int.reduceNe, Int.reduceAdd, Int.reduceSub, Int.reduceMul, Int.reduceNeg, Nat.reduceBEq, show regOf Try.f25 24 = Code.region _ _ _ from rfl]
  | ⟨s, ps, k2, p2, m2, n2, l2⟩ :: r, i, c, acc, tv, h, hdr, hi, hb, ha, h0, h1 => by
    have hx : al[i]? = some ⟨s, ps, k2, p2, m2, n2, l2⟩ := by have := congrArg (·[0]?) hdr; simpa using this
    have hlt : i < al.length := (List.getElem?_eq_some_iff.1 hx).1
    have hd' : al.drop (i + 1) = r := by rw [← List.tail_drop, hdr]; rfl
    have ht : ((i : Int)).toNat = i := by omega
    obtain ⟨f1, f2, f3, f4⟩ := hfit _ (List.mem_of_getElem? hx)
    dsimp only at f1 f2 f3 f4
    have z1 := txt_size s
    have hbb := bt_box hb
    obtain ⟨m1, e1, e2, e3⟩ := min5 (s.length : Int) (by omega)
    obtain ⟨m3, e4, e5, e6⟩ := min5 (ps.length : Int) (by omega)
    obtain ⟨v, h2, x1, x2⟩ := bt_add hb (by omega) ⟨k2, p2, m2, n2, l2⟩
    rw [tmV_mk] at x1
    obtain ⟨c3, j3, y1, y2, y3⟩ := f10_loop al i s ps k2 p2 m2 n2 l2 hx f2 f3 h2 v (bt_box x2) 60 0 (c + m1 + 20 * m3) (by omega) (by omega) (by omega) (by omega)
    simp only [Int.natCast_zero] at y3
    obtain ⟨c', tv', h', w1, w2, w3, w4⟩ := f8_loop al hal hfit r (i + 1) c3 (acc ++ [⟨k2, p2, m2, n2, l2⟩]) v h2 hd' (by omega) x2 (by simp; omega) y1 (by omega)
    refine ⟨c', tv', h', w1, w2, by simpa using w3, ?_⟩
    rw [← w4]
    rw [lrun_atC loop25_8]
    simp (implicitDefEqProofs := false) (disch := omega) only [go_sem, Nat.reduceAdd, Nat.reduceSub, Nat.reduceMul, Nat.reduceLT, Nat.reduceLeDiff, Nat.reduceEqDiff, List.drop_zero, List.take_succ_cons, List.take_zero, List.drop_succ_cons, Bool.and_true, Bool.true_and, Bool.and_false, Bool.false_and, BitVec.reduceOfInt, Nat.zero_add, Nat.mul_one, Nat.add_zero, Int.zero_add, Int.reduceToNat, Nat.reducePow, ↓reduceIte, reduceCtorEq, Int.reduceLE, Int.reduceLT, Int.reduceEq, Int.reduceNe, Int.reduceAdd, Int.reduceSub, Int.reduceMul, Int.reduceNeg, Nat.reduceBEq, show regOf Try.f25 24 = Code.region _ _ _ from rfl, show regOf Try.f25 25 = Code.region _ _ _ from rfl, show regOf Try.f25 26 = Code.region _ _ _ from rfl, show regOf Try.f25 27 = Code.region _ _ _ from rfl, show regOf Try.f25 28 = Code.region _ _ _ from rfl, show regOf Try.f25 32 = Code.region _ _ _ from rfl, hbb, List.length_map, List.getElem?_map, ht, hx, Option.map_some, alV_mk, z1, e1, e4, x1, y3]
    all_goals (congr 1 <;> simp only [List.cons.injEq, AV.val.injEq, Value.int.injEq, Value.bool.injEq, true_and, and_true] <;> omega)
theorem f0_loop (al : List Al) (tv : AV) (c : Int) : lrun Try.prog md fg (fg 25) (loopOf Try.f25 0) (fg 25 1) ((.unk :: (.ptr 0 0) :: .unk :: (tv) :: (.int c) :: .unk :: .unk :: .unk :: .unk :: .unk :: .unk :: .unk :: .unk :: .unk :: .unk :: .unk :: .unk :: .unk :: .unk :: .unk :: .unk :: .unk :: .unk :: .unk :: .unk :: .unk :: .unk :: .unk :: .unk :: .unk :: .unk :: .unk :: .unk :: .unk :: .unk :: .unk :: .unk :: .unk :: .unk :: .unk :: .unk :: .unk :: .unk :: (.int 0) :: (.int 0) :: .unk :: .unk :: .unk :: .unk :: .unk :: .unk :: .unk :: .unk :: .unk :: .unk :: .unk :: .unk :: .unk :: .unk :: .unk :: .unk :: .unk :: .unk :: .unk :: .unk :: .unk :: .unk :: .unk :: .unk :: .unk :: .unk :: .unk :: .unk :: .unk :: .unk :: .unk :: .unk :: .unk :: .unk :: .unk :: .unk :: .unk :: .unk :: .unk :: .unk :: .unk :: .unk :: .unk :: .unk :: .unk :: .unk :: .unk :: .unk :: .unk :: .unk :: .unk :: .unk :: .unk :: .unk :: .unk :: .unk :: .unk :: .unk :: .unk :: .unk :: .unk :: .unk :: .unk :: .unk :: .unk :: .unk :: .unk :: .unk :: .unk :: .unk :: .unk :: .unk :: .unk :: .unk :: .unk :: .unk :: .unk :: .unk :: .unk :: .unk :: .unk :: .unk :: .unk :: .unk :: .unk :: .unk :: .unk :: .unk :: .unk :: .unk :: .unk :: .unk :: .unk :: .unk :: .unk :: .unk :: .unk :: .unk :: .unk :: .unk :: .unk :: .unk :: .unk :: .unk :: .unk :: .unk :: .unk :: .unk :: .unk :: .unk :: .unk :: .unk :: .unk :: .unk :: .unk :: .unk :: .unk :: .unk :: .unk :: .unk :: .unk :: .unk :: .unk :: .unk :: .unk :: .unk :: .unk :: .unk :: .unk :: .unk :: .unk :: .unk :: .unk :: .unk :: .unk :: .unk :: .unk :: .unk :: .unk :: .unk :: .unk :: .unk :: .unk :: .unk :: .unk :: .unk :: .unk :: .unk :: .unk :: .unk :: .unk :: .unk :: .unk :: .unk :: .unk :: .unk :: .unk :: .unk :: .unk :: .unk :: .unk :: .unk :: .unk :: .unk :: .unk :: .unk :: .unk :: .unk :: .unk :: .unk :: .unk :: .unk :: .unk :: .unk :: .unk :: .unk :: .unk :: .unk :: .unk :: .unk :: .unk :: .unk :: .unk :: .unk :: .unk :: .unk :: .unk :: .unk :: .unk :: .unk :: .unk :: .unk :: .unk :: .unk :: .unk :: .unk :: .unk :: .unk :: .unk :: .unk :: .unk :: .unk :: .unk :: .unk :: .unk :: .unk :: .unk :: .unk :: .unk :: .unk :: .unk :: .unk :: .unk :: .unk :: .unk :: .unk :: .unk :: .unk :: .unk :: .unk :: .unk :: .unk :: .unk :: .unk :: .unk :: .unk :: .unk :: .unk :: .unk :: .unk :: .unk :: .unk :: .unk :: .unk :: .unk :: .unk :: .unk :: .unk :: .unk :: .unk :: .unk :: .unk :: .unk :: .unk :: .unk :: .unk :: .unk :: .unk :: .unk :: .unk :: .unk :: .unk :: .unk :: .unk :: .unk :: .unk :: .unk :: [] : List AV)) [modV al] = some (.exit 0, (.unk :: (.ptr 0 0) :: .unk :: (tv) :: (.int c) :: .unk :: .unk :: .unk :: .unk :: .unk :: .unk :: .unk :: .unk :: .unk :: .unk :: .unk :: .unk :: .unk :: .unk :: .unk :: .unk :: .unk :: .unk :: .unk :: .unk :: .unk :: .unk :: .unk :: .unk :: .unk :: .unk :: .unk :: .unk :: .unk :: .unk :: .unk :: .unk :: .unk :: .unk :: .unk :: .unk :: .unk :: .unk :: (.int 0) :: (.int 0) :: .unk :: .unk :: .unk :: .unk :: .unk :: .unk :: .unk :: .unk :: .unk :: .unk :: .unk :: .unk :: .unk :: .unk :: .unk :: .unk :: .unk :: .unk :: .unk :: .unk :: .unk :: .unk :: .unk :: .unk :: .unk :: .unk :: .unk :: .unk :: .unk :: .unk :: .unk :: .unk :: .unk :: .unk :: .unk :: .unk :: .unk :: .unk :: .unk :: .unk :: .unk :: .unk :: .unk :: .unk :: .unk :: .unk :: .unk :: .unk :: .unk :: .unk :: .unk :: .unk :: .unk :: .unk :: .unk :: .unk :: .unk :: .unk :: .unk :: .unk :: .unk :: .unk :: .unk :: .unk :: .unk :: .unk :: .unk :: .unk :: .unk :: .unk :: .unk :: .unk :: .unk :: .unk :: .unk :: .unk :: .unk :: .unk :: .unk :: .unk :: .unk :: .unk :: .unk :: .unk :: .unk :: .unk :: .unk :: .unk :: .unk :: .unk :: .unk :: .unk :: .unk :: .unk :: .unk :: .unk :: .unk :: .unk :: .unk :: .unk :: .unk :: .unk :: .unk :: .unk :: .unk :: .unk :: .unk :: .unk :: .unk :: .unk :: .unk :: .unk :: .unk :: .unk :: .unk :: .unk :: .unk :: .unk :: .unk :: .unk :: .unk :: .unk :: .unk :: .unk :: .unk :: .unk :: .unk :: .unk :: .unk :: .unk :: .unk :: .unk :: .unk :: .unk :: .unk :: .unk :: .unk :: .unk :: .unk :: .unk :: .unk :: .unk :: .unk :: .unk :: .unk :: .unk :: .unk :: .unk :: .unk :: .unk :: .unk :: .unk :: .unk :: .unk :: .unk :: .unk :: .unk :: .unk :: .unk :: .unk :: .unk :: .unk :: .unk :: .unk :: .unk :: .unk :: .unk :: .unk :: .unk :: .unk :: .unk :: .unk :: .unk :: .unk :: .unk :: .unk :: .unk :: .unk :: .unk :: .unk :: .unk :: .unk :: .unk :: .unk :: .unk :: .unk :: .unk :: .unk :: .unk :: .unk :: .unk :: .unk :: .unk :: .unk :: .unk :: .unk :: .unk :: .unk :: .unk :: .unk :: .unk :: .unk :: .unk :: .unk :: .unk :: .unk :: .unk :: .unk :: .unk :: .unk :: .unk :: .unk :: .unk :: .unk :: .unk :: .unk :: .unk :: .unk :: .unk :: .unk :: .unk :: .unk :: .unk :: .unk :: .unk :: .unk :: .unk :: .unk :: .unk :: .unk :: .unk :: .unk :: .unk :: .unk :: .unk :: .unk :: .unk :: .unk :: .unk :: .unk :: .unk :: .unk :: .unk :: .unk :: .unk :: .unk :: .unk :: .unk :: .unk :: .unk :: .unk :: .unk :: .unk :: .unk :: .unk :: .unk :: .unk :: [] : List AV), [modV al]) := by
  rw [lrun_atC loop25_0]
  simp (implicitDefEqProofs := false) (disch := omega) only [go_sem, Nat.reduceAdd, Nat.reduceSub, Nat.reduceMul, Nat.reduceLT, Nat.reduceLeDiff, Nat.reduceEqDiff, List.drop_zero, List.take_succ_cons, List.take_zero, List.drop_succ_cons, Bool.and_true, Bool.true_and, Bool.and_false, Bool.false_and, BitVec.reduceOfInt, Nat.zero_add, Nat.mul_one, Nat.add_zero, Int.zero_add, Int.reduceToNat, Nat.reducePow, ↓reduceIte, reduceCtorEq, Int.reduceLE, Int.reduceLT, Int.reduceEq, Int.reduceNe, Int.reduceAdd, Int.reduceSub, Int.reduceMul, Int.reduceNeg, Nat.reduceBEq, show regOf Try.f25 6 = Code.region _ _ _ from rfl]
theorem f2_loop (al : List Al) (tv : AV) (c : Int) : lrun Try.prog md fg (fg 25) (loopOf Try.f25 2) (fg 25 3) ((.unk :: (.ptr 0 0) :: .unk :: (tv) :: (.int c) :: .unk :: .unk :: .unk :: .unk :: .unk :: .unk :: .unk :: .unk :: .unk :: .unk :: .unk :: .unk :: .unk :: .unk :: .unk :: .unk :: .unk :: .unk :: .unk :: .unk :: .unk :: .unk :: .unk :: .unk :: .unk :: .unk :: .unk :: .unk :: .unk :: .unk :: .unk :: .unk :: .unk :: .unk :: .unk :: .unk :: .unk :: .unk :: .unk :: .unk :: .unk :: .unk :: .unk :: .unk :: .unk :: .unk :: .unk :: .unk :: .unk :: .unk :: .unk :: .unk :: .unk :: .unk :: .unk :: .unk :: .unk :: .unk :: .unk :: .unk :: .unk :: .unk :: .unk :: .unk :: .unk :: (.int 0) :: (.int 0) :: .unk :: .unk :: .unk :: .unk :: .unk :: .unk :: .unk :: .unk :: .unk :: .unk :: .unk :: .unk :: .unk :: .unk :: .unk :: .unk :: .unk :: .unk :: .unk :: .unk :: .unk :: .unk :: .unk :: .unk :: .unk :: .unk :: .unk :: .unk :: .unk :: .unk :: .unk :: .unk :: .unk :: .unk :: .unk :: .unk :: .unk :: .unk :: .unk :: .unk :: .unk :: .unk :: .unk :: .unk :: .unk :: .unk :: .unk :: .unk :: .unk :: .unk :: .unk :: .unk :: .unk :: .unk :: .unk :: .unk :: .unk :: .unk :: .unk :: .unk :: .unk :: .unk :: .unk :: .unk :: .unk :: .unk :: .unk :: .unk :: .unk :: .unk :: .unk :: .unk :: .unk :: .unk :: .unk :: .unk :: .unk :: .unk :: .unk :: .unk :: .unk :: .unk :: .unk :: .unk :: .unk :: .unk :: .unk :: .unk :: .unk :: .unk :: .unk :: .unk :: .unk :: .unk :: .unk :: .unk :: .unk :: .unk :: .unk :: .unk :: .unk :: .unk :: .unk :: .unk :: .unk :: .unk :: .unk :: .unk :: .unk :: .unk :: .unk :: .unk :: .unk :: .unk :: .unk :: .unk :: .unk :: .unk :: .unk :: .unk :: .unk :: .unk :: .unk :: .unk :: .unk :: .unk :: .unk :: .unk :: .unk :: .unk :: .unk :: .unk :: .unk :: .unk :: .unk :: .unk :: .unk :: .unk :: .unk :: .unk :: .unk :: .unk :: .unk :: .unk :: .unk :: .unk :: .unk :: .unk :: .unk :: .unk :: .unk :: .unk :: .unk :: .unk :: .unk :: .unk :: .unk :: .unk :: .unk :: .unk :: .unk :: .unk :: .unk :: .unk :: .unk :: .unk :: .unk :: .unk :: .unk :: .unk :: .unk :: .unk :: .unk :: .unk :: .unk :: .unk :: .unk :: .unk :: .unk :: .unk :: .unk :: .unk :: .unk :: .unk :: .unk :: .unk :: .unk :: .unk :: .unk :: .unk :: .unk :: .unk :: .unk :: .unk :: .unk :: .unk :: .unk :: .unk :: .unk :: .unk :: .unk :: .unk :: .unk :: .unk :: .unk :: .unk :: .unk :: .unk :: .unk :: .unk :: .unk :: .unk :: .unk :: .unk :: .unk :: .unk :: .unk :: .unk :: .unk :: .unk :: .unk :: .unk :: .unk :: .unk :: .unk :: .unk :: .unk :: .unk :: .unk :: .unk :: [] : List AV)) [modV al] = some (.exit 2, (.unk :: (.ptr 0 0) :: .unk :: (tv) :: (.int c) :: .unk :: .unk :: .unk :: .unk :: .unk :: .unk :: .unk :: .unk :: .unk :: .unk :: .unk :: .unk :: .unk :: .unk :: .unk :: .unk :: .unk :: .unk :: .unk :: .unk :: .unk :: .unk :: .unk :: .unk :: .unk :: .unk :: .unk :: .unk :: .unk :: .unk :: .unk :: .unk :: .unk :: .unk :: .unk :: .unk :: .unk :: .unk :: .unk :: .unk :: .unk :: .unk :: .unk :: .unk :: .unk :: .unk :: .unk :: .unk :: .unk :: .unk :: .unk :: .unk :: .unk :: .unk :: .unk :: .unk :: .unk :: .unk :: .unk :: .unk :: .unk :: .unk :: .unk :: .unk :: .unk :: (.int 0) :: (.int 0) :: .unk :: .unk :: .unk :: .unk :: .unk :: .unk :: .unk :: .unk :: .unk :: .unk :: .unk :: .unk :: .unk :: .unk :: .unk :: .unk :: .unk :: .unk :: .unk :: .unk :: .unk :: .unk :: .unk :: .unk :: .unk :: .unk :: .unk :: .unk :: .unk :: .unk :: .unk :: .unk :: .unk :: .unk :: .unk :: .unk :: .unk :: .unk :: .unk :: .unk :: .unk :: .unk :: .unk :: .unk :: .unk :: .unk :: .unk :: .unk :: .unk :: .unk :: .unk :: .unk :: .unk :: .unk :: .unk :: .unk :: .unk :: .unk :: .unk :: .unk :: .unk :: .unk :: .unk :: .unk :: .unk :: .unk :: .unk :: .unk :: .unk :: .unk :: .unk :: .unk :: .unk :: .unk :: .unk :: .unk :: .unk :: .unk :: .unk :: .unk :: .unk :: .unk :: .unk :: .unk :: .unk :: .unk :: .unk :: .unk :: .unk :: .unk :: .unk :: .unk :: .unk :: .unk :: .unk :: .unk :: .unk :: .unk :: .unk :: .unk :: .unk :: .unk :: .unk :: .unk :: .unk :: .unk :: .unk :: .unk :: .unk :: .unk :: .unk :: .unk :: .unk :: .unk :: .unk :: .unk :: .unk :: .unk :: .unk :: .unk :: .unk :: .unk :: .unk :: .unk :: .unk :: .unk :: .unk :: .unk :: .unk :: .unk :: .unk :: .unk :: .unk :: .unk :: .unk :: .unk :: .unk :: .unk :: .unk :: .unk :: .unk :: .unk :: .unk :: .unk :: .unk :: .unk :: .unk :: .unk :: .unk :: .unk :: .unk :: .unk :: .unk :: .unk :: .unk :: .unk :: .unk :: .unk :: .unk :: .unk :: .unk :: .unk :: .unk :: .unk :: .unk :: .unk :: .unk :: .unk :: .unk :: .unk :: .unk :: .unk :: .unk :: .unk :: .unk :: .unk :: .unk :: .unk :: .unk :: .unk :: .unk :: .unk :: .unk :: .unk :: .unk :: .unk :: .unk :: .unk :: .unk :: .unk :: .unk :: .unk :: .unk :: .unk :: .unk :: .unk :: .unk :: .unk :: .unk :: .unk :: .unk :: .unk :: .unk :: .unk :: .unk :: .unk :: .unk :: .unk :: .unk :: .unk :: .unk :: .unk :: .unk :: .unk :: .unk :: .unk :: .unk :: .unk :: .unk :: .unk :: .unk :: .unk :: .unk :: .unk :: .unk :: .unk :: .unk :: .unk :: .unk :: .unk :: [] : List AV), [modV al]) := by
  rw [lrun_atC loop25_2]
  simp (implicitDefEqProofs := false) (disch := omega) only [go_sem, Nat.reduceAdd, Nat.reduceSub, Nat.reduceMul, Nat.reduceLT, Nat.reduceLeDiff, Nat.reduceEqDiff, List.drop_zero, List.take_succ_cons, List.take_zero, List.drop_succ_cons, Bool.and_true, Bool.true_and, Bool.and_false, Bool.false_and, BitVec.reduceOfInt, Nat.zero_add, Nat.mul_one, Nat.add_zero, Int.zero_add, Int.reduceToNat, Nat.reducePow, ↓reduceIte, reduceCtorEq, Int.reduceLE, Int.reduceLT, Int.reduceEq, Int.reduceNe, Int.reduceAdd, Int.reduceSub, Int.reduceMul, Int.reduceNeg, Nat.reduceBEq, show regOf Try.f25 11 = Code.region _ _ _ from rfl]
theorem f12_loop (h : AHeap) (tv : AV) (c : Int) : lrun Try.prog md fg (fg 25) (loopOf Try.f25 12) (fg 25 13) ((.unk :: (.ptr 0 0) :: .unk :: (tv) :: (.int c) :: .unk :: .unk :: .unk :: .unk :: .unk :: .unk :: .unk :: .unk :: .unk :: .unk :: .unk :: .unk :: .unk :: .unk :: .unk :: .unk :: .unk :: .unk :: .unk :: .unk :: .unk :: .unk :: .unk :: .unk :: .unk :: .unk :: .unk :: .unk :: .unk :: .unk :: .unk :: .unk :: .unk :: .unk :: .unk :: .unk :: .unk :: .unk :: .unk :: .unk :: .unk :: .unk :: .unk :: .unk :: .unk :: .unk :: .unk :: .unk :: .unk :: .unk :: .unk :: .unk :: .unk :: .unk :: .unk :: .unk :: .unk :: .unk :: .unk :: .unk :: .unk :: .unk :: .unk :: .unk :: .unk :: .unk :: .unk :: .unk :: .unk :: .unk :: .unk :: .unk :: .unk :: .unk :: .unk :: .unk :: .unk :: .unk :: .unk :: .unk :: .unk :: .unk :: .unk :: .unk :: .unk :: .unk :: .unk :: .unk :: .unk :: .unk :: .unk :: .unk :: .unk :: .unk :: .unk :: .unk :: .unk :: .unk :: .unk :: .unk :: .unk :: .unk :: .unk :: .unk :: .unk :: .unk :: .unk :: .unk :: .unk :: .unk :: .unk :: .unk :: .unk :: .unk :: .unk :: .unk :: .unk :: .unk :: .unk :: .unk :: .unk :: .unk :: .unk :: .unk :: .unk :: .unk :: .unk :: .unk :: .unk :: .unk :: .unk :: .unk :: .unk :: .unk :: .unk :: .unk :: .unk :: .unk :: .unk :: .unk :: .unk :: .unk :: .unk :: .unk :: .unk :: .unk :: .unk :: .unk :: .unk :: .unk :: .unk :: .unk :: .unk :: .unk :: .unk :: .unk :: .unk :: .unk :: .unk :: .unk :: .unk :: .unk :: .unk :: .unk :: .unk :: .unk :: .unk :: .unk :: .unk :: .unk :: .unk :: .unk :: .unk :: .unk :: .unk :: .unk :: .unk :: .unk :: .unk :: .unk :: .unk :: .unk :: .unk :: .unk :: .unk :: .unk :: .unk :: .unk :: .unk :: .unk :: .unk :: .unk :: .unk :: .unk :: .unk :: .unk :: .unk :: .unk :: .unk :: .unk :: .unk :: .unk :: .unk :: .unk :: .unk :: .unk :: .unk :: .unk :: .unk :: .unk :: .unk :: .unk :: .unk :: .unk :: .unk :: .unk :: .unk :: .unk :: .unk :: .unk :: .unk :: .unk :: .unk :: .unk :: .unk :: .unk :: .unk :: .unk :: .unk :: .unk :: .unk :: .unk :: .unk :: (.int 0) :: (.int 0) :: .unk :: .unk :: .unk :: .unk :: .unk :: .unk :: .unk :: .unk :: .unk :: .unk :: .unk :: .unk :: .unk :: .unk :: .unk :: .unk :: .unk :: .unk :: .unk :: .unk :: .unk :: .unk :: .unk :: .unk :: .unk :: .unk :: .unk :: .unk :: .unk :: .unk :: .unk :: .unk :: .unk :: .unk :: .unk :: .unk :: .unk :: .unk :: .unk :: .unk :: .unk :: .unk :: .unk :: .unk :: .unk :: .unk :: .unk :: .unk :: .unk :: .unk :: .unk :: .unk :: .unk :: .unk :: .unk :: .unk :: .unk :: .unk :: .unk :: .unk :: .unk :: .unk :: [] : List AV)) h = some (.exit 12, (.unk :: (.ptr 0 0) :: .unk :: (tv) :: (.int c) :: .unk :: .unk :: .unk :: .unk :: .unk :: .unk :: .unk :: .unk :: .unk :: .unk :: .unk :: .unk :: .unk :: .unk :: .unk :: .unk :: .unk :: .unk :: .unk :: .unk :: .unk :: .unk :: .unk :: .unk :: .unk :: .unk :: .unk :: .unk :: .unk :: .unk :: .unk :: .unk :: .unk :: .unk :: .unk :: .unk :: .unk :: .unk :: .unk :: .unk :: .unk :: .unk :: .unk :: .unk :: .unk :: .unk :: .unk :: .unk :: .unk :: .unk :: .unk :: .unk :: .unk :: .unk :: .unk :: .unk :: .unk :: .unk :: .unk :: .unk :: .unk :: .unk :: .unk :: .unk :: .unk :: .unk :: .unk :: .unk :: .unk :: .unk :: .unk :: .unk :: .unk :: .unk :: .unk :: .unk :: .unk :: .unk :: .unk :: .unk :: .unk :: .unk :: .unk :: .unk :: .unk :: .unk :: .unk :: .unk :: .unk :: .unk :: .unk :: .unk :: .unk :: .unk :: .unk :: .unk :: .unk :: .unk :: .unk :: .unk :: .unk :: .unk :: .unk :: .unk :: .unk :: .unk :: .unk :: .unk :: .unk :: .unk :: .unk :: .unk :: .unk :: .unk :: .unk :: .unk :: .unk :: .unk :: .unk :: .unk :: .unk :: .unk :: .unk :: .unk :: .unk :: .unk :: .unk :: .unk :: .unk :: .unk :: .unk :: .unk :: .unk :: .unk :: .unk :: .unk :: .unk :: .unk :: .unk :: .unk :: .unk :: .unk :: .unk :: .unk :: .unk :: .unk :: .unk :: .unk :: .unk :: .unk :: .unk :: .unk :: .unk :: .unk :: .unk :: .unk :: .unk :: .unk :: .unk :: .unk :: .unk :: .unk :: .unk :: .unk :: .unk :: .unk :: .unk :: .unk :: .unk :: .unk :: .unk :: .unk :: .unk :: .unk :: .unk :: .unk :: .unk :: .unk :: .unk :: .unk :: .unk :: .unk :: .unk :: .unk :: .unk :: .unk :: .unk :: .unk :: .unk :: .unk :: .unk :: .unk :: .unk :: .unk :: .unk :: .unk :: .unk :: .unk :: .unk :: .unk :: .unk :: .unk :: .unk :: .unk :: .unk :: .unk :: .unk :: .unk :: .unk :: .unk :: .unk :: .unk :: .unk :: .unk :: .unk :: .unk :: .unk :: .unk :: .unk :: .unk :: .unk :: .unk :: .unk :: .unk :: .unk :: .unk :: .unk :: .unk :: .unk :: .unk :: .unk :: .unk :: .unk :: (.int 0) :: (.int 0) :: .unk :: .unk :: .unk :: .unk :: .unk :: .unk :: .unk :: .unk :: .unk :: .unk :: .unk :: .unk :: .unk :: .unk :: .unk :: .unk :: .unk :: .unk :: .unk :: .unk :: .unk :: .unk :: .unk :: .unk :: .unk :: .unk :: .unk :: .unk :: .unk :: .unk :: .unk :: .unk :: .unk :: .unk :: .unk :: .unk :: .unk :: .unk :: .unk :: .unk :: .unk :: .unk :: .unk :: .unk :: .unk :: .unk :: .unk :: .unk :: .unk :: .unk :: .unk :: .unk :: .unk :: .unk :: .unk :: .unk :: .unk :: .unk :: .unk :: .unk :: .unk :: .unk :: [] : List AV), h) := by
  rw [lrun_atC loop25_12]
  simp (implicitDefEqProofs := false) (disch := omega) only [go_sem, Nat.reduceAdd, Nat.reduceSub, Nat.reduceMul, Nat.reduceLT, Nat.reduceLeDiff, Nat.reduceEqDiff, List.drop_zero, List.take_succ_cons, List.take_zero, List.drop_succ_cons, Bool.and_true, Bool.true_and, Bool.and_false, Bool.false_and, BitVec.reduceOfInt, Nat.zero_add, Nat.mul_one, Nat.add_zero, Int.zero_add, Int.reduceToNat, Nat.reducePow, ↓reduceIte, reduceCtorEq, Int.reduceLE, Int.reduceLT, Int.reduceEq, Int.reduceNe, Int.reduceAdd, Int.reduceSub, Int.reduceMul, Int.reduceNeg, Nat.reduceBEq, show regOf Try.f25 34 = Code.region _ _ _ from rfl]
theorem f14_loop (h : AHeap) (tv : AV) (c : Int) : lrun Try.prog md fg (fg 25) (loopOf Try.f25 14) (fg 25 15) ((.unk :: (.ptr 0 0) :: .unk :: (tv) :: (.int c) :: .unk :: .unk :: .unk :: .unk :: .unk :: .unk :: .unk :: .unk :: .unk :: .unk :: .unk :: .unk :: .unk :: .unk :: .unk :: .unk :: .unk :: .unk :: .unk :: .unk :: .unk :: .unk :: .unk :: .unk :: .unk :: .unk :: .unk :: .unk :: .unk :: .unk :: .unk :: .unk :: .unk :: .unk :: .unk :: .unk :: .unk :: .unk :: .unk :: .unk :: .unk :: .unk :: .unk :: .unk :: .unk :: .unk :: .unk :: .unk :: .unk :: .unk :: .unk :: .unk :: .unk :: .unk :: .unk :: .unk :: .unk :: .unk :: .unk :: .unk :: .unk :: .unk :: .unk :: .unk :: .unk :: .unk :: .unk :: .unk :: .unk :: .unk :: .unk :: .unk :: .unk :: .unk :: .unk :: .unk :: .unk :: .unk :: .unk :: .unk :: .unk :: .unk :: .unk :: .unk :: .unk :: .unk :: .unk :: .unk :: .unk :: .unk :: .unk :: .unk :: .unk :: .unk :: .unk :: .unk :: .unk :: .unk :: .unk :: .unk :: .unk :: .unk :: .unk :: .unk :: .unk :: .unk :: .unk :: .unk :: .unk :: .unk :: .unk :: .unk :: .unk :: .unk :: .unk :: .unk :: .unk :: .unk :: .unk :: .unk :: .unk :: .unk :: .unk :: .unk :: .unk :: .unk :: .unk :: .unk :: .unk :: .unk :: .unk :: .unk :: .unk :: .unk :: .unk :: .unk :: .unk :: .unk :: .unk :: .unk :: .unk :: .unk :: .unk :: .unk :: .unk :: .unk :: .unk :: .unk :: .unk :: .unk :: .unk :: .unk :: .unk :: .unk :: .unk :: .unk :: .unk :: .unk :: .unk :: .unk :: .unk :: .unk :: .unk :: .unk :: .unk :: .unk :: .unk :: .unk :: .unk :: .unk :: .unk :: .unk :: .unk :: .unk :: .unk :: .unk :: .unk :: .unk :: .unk :: .unk :: .unk :: .unk :: .unk :: .unk :: .unk :: .unk :: .unk :: .unk :: .unk :: .unk :: .unk :: .unk :: .unk :: .unk :: .unk :: .unk :: .unk :: .unk :: .unk :: .unk :: .unk :: .unk :: .unk :: .unk :: .unk :: .unk :: .unk :: .unk :: .unk :: .unk :: .unk :: .unk :: .unk :: .unk :: .unk :: .unk :: .unk :: .unk :: .unk :: .unk :: .unk :: .unk :: .unk :: .unk :: .unk :: .unk :: .unk :: .unk :: .unk :: .unk :: .unk :: .unk :: .unk :: .unk :: .unk :: .unk :: .unk :: .unk :: .unk :: .unk :: .unk :: .unk :: .unk :: .unk :: .unk :: .unk :: .unk :: .unk :: .unk :: .unk :: .unk :: .unk :: .unk :: .unk :: .unk :: .unk :: .unk :: .unk :: .unk :: .unk :: .unk :: .unk :: .unk :: .unk :: .unk :: .unk :: (.int 0) :: (.int 0) :: .unk :: .unk :: .unk :: .unk :: .unk :: .unk :: .unk :: .unk :: .unk :: .unk :: .unk :: .unk :: .unk :: .unk :: .unk :: .unk :: .unk :: .unk :: .unk :: .unk :: .unk :: .unk :: .unk :: .unk :: .unk :: .unk :: .unk :: .unk :: .unk :: [] : List AV)) h = some (.exit 14, (.unk :: (.ptr 0 0) :: .unk :: (tv) :: (.int c) :: .unk :: .unk :: .unk :: .unk :: .unk :: .unk :: .unk :: .unk :: .unk :: .unk :: .unk :: .unk :: .unk :: .unk :: .unk :: .unk :: .unk :: .unk :: .unk :: .unk :: .unk :: .unk :: .unk :: .unk :: .unk :: .unk :: .unk :: .unk :: .unk :: .unk :: .unk :: .unk :: .unk :: .unk :: .unk :: .unk :: .unk :: .unk :: .unk :: .unk :: .unk :: .unk :: .unk :: .unk :: .unk :: .unk :: .unk :: .unk :: .unk :: .unk :: .unk :: .unk :: .unk :: .unk :: .unk :: .unk :: .unk :: .unk :: .unk :: .unk :: .unk :: .unk :: .unk :: .unk :: .unk :: .unk :: .unk :: .unk :: .unk :: .unk :: .unk :: .unk :: .unk :: .unk :: .unk :: .unk :: .unk :: .unk :: .unk :: .unk :: .unk :: .unk :: .unk :: .unk :: .unk :: .unk :: .unk :: .unk :: .unk :: .unk :: .unk :: .unk :: .unk :: .unk :: .unk :: .unk :: .unk :: .unk :: .unk :: .unk :: .unk :: .unk :: .unk :: .unk :: .unk :: .unk :: .unk :: .unk :: .unk :: .unk :: .unk :: .unk :: .unk :: .unk :: .unk :: .unk :: .unk :: .unk :: .unk :: .unk :: .unk :: .unk :: .unk :: .unk :: .unk :: .unk :: .unk :: .unk :: .unk :: .unk :: .unk :: .unk :: .unk :: .unk :: .unk :: .unk :: .unk :: .unk :: .unk :: .unk :: .unk :: .unk :: .unk :: .unk :: .unk :: .unk :: .unk :: .unk :: .unk :: .unk :: .unk :: .unk :: .unk :: .unk :: .unk :: .unk :: .unk :: .unk :: .unk :: .unk :: .unk :: .unk :: .unk :: .unk :: .unk :: .unk :: .unk :: .unk :: .unk :: .unk :: .unk :: .unk :: .unk :: .unk :: .unk :: .unk :: .unk :: .unk :: .unk :: .unk :: .unk :: .unk :: .unk :: .unk :: .unk :: .unk :: .unk :: .unk :: .unk :: .unk :: .unk :: .unk :: .unk :: .unk :: .unk :: .unk :: .unk :: .unk :: .unk :: .unk :: .unk :: .unk :: .unk :: .unk :: .unk :: .unk :: .unk :: .unk :: .unk :: .unk :: .unk :: .unk :: .unk :: .unk :: .unk :: .unk :: .unk :: .unk :: .unk :: .unk :: .unk :: .unk :: .unk :: .unk :: .unk :: .unk :: .unk :: .unk :: .unk :: .unk :: .unk :: .unk :: .unk :: .unk :: .unk :: .unk :: .unk :: .unk :: .unk :: .unk :: .unk :: .unk :: .unk :: .unk :: .unk :: .unk :: .unk :: .unk :: .unk :: .unk :: .unk :: .unk :: .unk :: .unk :: .unk :: .unk :: .unk :: .unk :: .unk :: .unk :: .unk :: .unk :: .unk :: .unk :: .unk :: .unk :: (.int 0) :: (.int 0) :: .unk :: .unk :: .unk :: .unk :: .unk :: .unk :: .unk :: .unk :: .unk :: .unk :: .unk :: .unk :: .unk :: .unk :: .unk :: .unk :: .unk :: .unk :: .unk :: .unk :: .unk :: .unk :: .unk :: .unk :: .unk :: .unk :: .unk :: .unk :: .unk :: [] : List AV), h) := by
  rw [lrun_atC loop25_14]
  simp (implicitDefEqProofs := false) (disch := omega) only [go_sem, Nat.reduceAdd, Nat.reduceSub, Nat.reduceMul, Nat.reduceLT, Nat.reduceLeDiff, Nat.reduceEqDiff, List.drop_zero, List.take_succ_cons, List.take_zero, List.drop_succ_cons, Bool.and_true, Bool.true_and, Bool.and_false, Bool.false_and, BitVec.reduceOfInt, Nat.zero_add, Nat.mul_one, Nat.add_zero, Int.zero_add, Int.reduceToNat, Nat.reducePow, ↓reduceIte, reduceCtorEq, Int.reduceLE, Int.reduceLT, Int.reduceEq, Int.reduceNe, Int.reduceAdd, Int.reduceSub, Int.reduceMul, Int.reduceNeg, Nat.reduceBEq, show regOf Try.f25 40 = Code.region _ _ _ from rfl]
set_option maxHeartbeats 8000000 in
theorem mfew_p (al : List Al) (hal : al.length ≤ 30) (hfit : ∀ a ∈ al, a.fit) : ∃ b, pcall Try.prog md fg 25 [.agg [.slc false [], .slc false [], .slc false (al.map alV), .slc false [], .slc false []]] = some (.val (.bool b)) ∧ (b = true → ∀ a ∈ al, (tsz a.ty : Int) ≤ 600) := by
  obtain ⟨c', tv', h', w1, w2, w3, w4⟩ := f8_loop al hal hfit al 0 0 [] (.slc true []) [modV al] (by simp) (by omega) (.inl ⟨rfl, rfl, rfl⟩) rfl (by omega) (by omega)
  simp only [Int.natCast_zero, List.nil_append] at w3 w4
  obtain ⟨b, b1, b2⟩ := fa_p (al.map Al.ty) (by simp; omega) (by intro t ht; obtain ⟨a, ha, rfl⟩ := List.mem_map.1 ht; exact (hfit a ha).2.2.2)
  obtain ⟨ids, x1, x2⟩ := bt_exp w3
  have c41 : doCall md (aval Try.prog md fg) 41 [tv'] h' = some (.val (.bool b), h') := by
    refine doCall_look md41 (as' := [.slc false ((al.map Al.ty).map tmV)]) (ids := ids) ?_ x2 b1 rfl
    simp only [expL, x1, List.append_nil]
  have hb := bt_box w3
  have e : ∃ h, aval Try.prog md fg 25 [.agg [.slc false [], .slc false [], .slc false (al.map alV), .slc false [], .slc false []]] [] = some (.val (.bool (decide (c' ≤ 4000) && b)), h) := by
    have z0 := f0_loop al (.slc true []) 0
    have z2 := f2_loop al (.slc true []) 0
    have z12 := f12_loop h' tv' c'
    have z14 := f14_loop h' tv' c'
    have hl30 : ¬ (30 : Int) < (al.length : Int) := by omega
    by_cases hc : c' ≤ 4000
    · rw [decide_eq_true hc, Bool.true_and]
      rw [aval_of Try.func25 body25 Try.results25 Try.ntmps25 ok25]
      simp (implicitDefEqProofs := false) (disch := omega) only [go_sem, Nat.reduceAdd, Nat.reduceSub, Nat.reduceMul, Nat.reduceLT, Nat.reduceLeDiff, Nat.reduceEqDiff, List.drop_zero, List.take_succ_cons, List.take_zero, List.drop_succ_cons, Bool.and_true, Bool.true_and, Bool.and_false, Bool.false_and, BitVec.reduceOfInt, Nat.zero_add, Nat.mul_one, Nat.add_zero, Int.zero_add, Int.reduceToNat, Nat.reducePow, ↓reduceIte, reduceCtorEq, Int.reduceLE, Int.reduceLT, Int.reduceEq, Int.reduceNe, Int.reduceAdd, Int.reduceSub, Int.reduceMul, Int.reduceNeg, Nat.reduceBEq, show regOf Try.f25 0 = Code.region _ _ _ from rfl, show regOf Try.f25 1 = Code.region _ _ _ from rfl, show regOf Try.f25 3 = Code.region _ _ _ from rfl, show regOf Try.f25 4 = Code.region _ _ _ from rfl, show regOf Try.f25 5 = Code.region _ _ _ from rfl, show regOf Try.f25 10 = Code.region _ _ _ from rfl, show regOf Try.f25 23 = Code.region _ _ _ from rfl, show regOf Try.f25 33 = Code.region _ _ _ from rfl, show regOf Try.f25 39 = Code.region _ _ _ from rfl, show regOf Try.f25 45 = Code.region _ _ _ from rfl, List.length_map, List.length_nil, Int.natCast_zero, hl30, z0, z2, w4, z12, z14, hb, hc, c41]
      exact ⟨_, rfl⟩
    · rw [decide_eq_false hc, Bool.false_and]
      rw [aval_of Try.func25 body25 Try.results25 Try.ntmps25 ok25]
      simp (implicitDefEqProofs := false) (disch := omega) only [go_sem, Nat.reduceAdd, Nat.reduceSub, Nat.reduceMul, Nat.reduceLT, Nat.reduceLeDiff, Nat.reduceEqDiff, List.drop_zero, List.take_succ_cons, List.take_zero, List.drop_succ_cons, Bool.and_true, Bool.true_and, Bool.and_false, Bool.false_and, BitVec.reduceOfInt, Nat.zero_add, Nat.mul_one, Nat.add_zero, Int.zero_add, Int.reduceToNat, Nat.reducePow, ↓reduceIte, reduceCtorEq, Int.reduceLE, Int.reduceLT, Int.reduceEq, Int.reduceNe, Int.reduceAdd, Int.reduceSub, Int.reduceMul, Int.reduceNeg, Nat.reduceBEq, show regOf Try.f25 0 = Code.region _ _ _ from rfl, show regOf Try.f25 1 = Code.region _ _ _ from rfl, show regOf Try.f25 3 = Code.region _ _ _ from rfl, show regOf Try.f25 4 = Code.region _ _ _ from rfl, show regOf Try.f25 5 = Code.region _ _ _ from rfl, show regOf Try.f25 10 = Code.region _ _ _ from rfl, show regOf Try.f25 23 = Code.region _ _ _ from rfl, show regOf Try.f25 33 = Code.region _ _ _ from rfl, show regOf Try.f25 39 = Code.region _ _ _ from rfl, show regOf Try.f25 45 = Code.region _ _ _ from rfl, List.length_map, List.length_nil, Int.natCast_zero, hl30, z0, z2, w4, z12, z14, hb, hc, c41]
      exact ⟨_, rfl⟩
  obtain ⟨h, e⟩ := e
  refine ⟨_, by rw [pcall_eq, e, pureRes_solid rfl], fun h a ha => ?_⟩
  rw [Bool.and_eq_true] at h
  exact b2 h.2 _ (List.mem_map.2 ⟨a, ha, rfl⟩)
theorem few_loop (al : List Al) (hal : al.length ≤ 30) (hfit : ∀ a ∈ al, a.fit) : ∀ (r : List Al) (i : Nat) (a2 : AV), al.drop i = r → i ≤ al.length → ∃ (b : Bool) (i' : Int) (a2' : AV),
    lrun Try.prog md fg (fg 7) (loopOf Try.f7 0) (fg 7 1) (((.slc false (al.map alV)) :: .unk :: (a2) :: .unk :: .unk :: .unk :: .unk :: .unk :: .unk :: .unk :: .unk :: .unk :: .unk :: .unk :: (.int al.length) :: (.int i) :: .unk :: .unk :: .unk :: .unk :: .unk :: .unk :: .unk :: .unk :: .unk :: .unk :: [] : List AV)) [] = some (if b then .exit 0 else .ret, ((.slc false (al.map alV)) :: .unk :: (if b then a2' else .val (.bool false)) :: .unk :: .unk :: .unk :: .unk :: .unk :: .unk :: .unk :: .unk :: .unk :: .unk :: .unk :: (.int al.length) :: (.int i') :: .unk :: .unk :: .unk :: .unk :: .unk :: .unk :: .unk :: .unk :: .unk :: .unk :: [] : List AV), [])
  | [], i, a2, hdr, hi => by
    have : i = al.length := by have := congrArg List.length hdr; simp at this; omega
    subst this
    refine ⟨true, (al.length : Int), a2, ?_⟩
    simp only [if_true]
    rw [lrun_atC loop7_0]
    simp (implicitDefEqProofs := false) (disch := omega) only [go_sem, Nat.reduceAdd, Nat.reduceSub, Nat.reduceMul, Nat.reduceLT, Nat.reduceLeDiff, Nat.reduceEqDiff, List.drop_zero, List.take_succ_cons, List.take_zero, List.drop_succ_cons, Bool.and_true, Bool.true_and, Bool.and_false, Bool.false_and, BitVec.reduceOfInt, Nat.zero_add, Nat.mul_one, Nat.add_zero, Int.zero_add, Int.reduceToNat, Nat.reducePow, ↓reduceIte, reduceCtorEq, Int.reduceLE, Int.reduceLT, Int.reduceEq, Int.reduceNe, Int.reduceAdd, Int.reduceSub, Int.reduceMul, Int.reduceNeg, Nat.reduceBEq, show regOf Try.f7 4 = Code.region _ _ _ from rfl, List.length_map]
  | ⟨s, ps, k2, p2, m2, n2, l2⟩ :: r, i, a2, hdr, hi => by
    have hx : al[i]? = some ⟨s, ps, k2, p2, m2, n2, l2⟩ := by have := congrArg (·[0]?) hdr; simpa using this
    have hlt : i < al.length := (List.getElem?_eq_some_iff.1 hx).1
    have hd' : al.drop (i + 1) = r := by rw [← List.tail_drop, hdr]; rfl
    have ht : ((i : Int)).toNat = i := by omega
    obtain ⟨b, hq⟩ := LV_all _ (hfit _ (List.mem_of_getElem? hx)).2.2.2
    have cy : ∀ h : AHeap, doCall md (aval Try.prog md fg) 14 [tmV ⟨k2, p2, m2, n2, l2⟩] h = some (.val (.bool b), h) := fun h => doCall_pure md14 (by simp only [solidL, solid_tm, Bool.and_true]) hq
    rw [tmV_mk] at cy
    cases b with
    | false =>
      refine ⟨false, (i : Int), .unk, ?_⟩
      simp only [Bool.false_eq_true, if_false]
      rw [lrun_atC loop7_0]
      simp (implicitDefEqProofs := false) (disch := omega) only [go_sem, Nat.reduceAdd, Nat.reduceSub, Nat.reduceMul, Nat.reduceLT, Nat.reduceLeDiff, Nat.reduceEqDiff, List.drop_zero, List.take_succ_cons, List.take_zero, List.drop_succ_cons, Bool.and_true, Bool.true_and, Bool.and_false, Bool.false_and, BitVec.reduceOfInt, Nat.zero_add, Nat.mul_one, Nat.add_zero, Int.zero_add, Int.reduceToNat, Nat.reducePow, ↓reduceIte, reduceCtorEq, Int.reduceLE, Int.reduceLT, Int.reduceEq, Int.reduceNe, Int.reduceAdd, Int.reduceSub, Int.reduceMul, Int.reduceNeg, Nat.reduceBEq, show regOf Try.f7 4 = Code.region _ _ _ from rfl, show regOf Try.f7 5 = Code.region _ _ _ from rfl, show regOf Try.f7 6 = Code.region _ _ _ from rfl, show regOf Try.f7 7 = Code.region _ _ _ from rfl, List.length_map, List.getElem?_map, ht, hx, Option.map_some, alV_mk, cy]
    | true =>
      obtain ⟨b', i', a2', e2⟩ := few_loop al hal hfit r (i + 1) a2 hd' (by omega)
      refine ⟨b', i', a2', ?_⟩
      rw [← e2]
      rw [lrun_atC loop7_0]
      simp (implicitDefEqProofs := false) (disch := omega) only [go_sem, Nat.reduceAdd, Nat.reduceSub, Nat.reduceMul, Nat.reduceLT, Nat.reduceLeDiff, Nat.reduceEqDiff, List.drop_zero, List.take_succ_cons, List.take_zero, List.drop_succ_cons, Bool.and_true, Bool.true_and, Bool.and_false, Bool.false_and, BitVec.reduceOfInt, Nat.zero_add, Nat.mul_one, Nat.add_zero, Int.zero_add, Int.reduceToNat, Nat.reducePow, ↓reduceIte, reduceCtorEq, Int.reduceLE, Int.reduceLT, Int.reduceEq, Int.reduceNe, Int.reduceAdd, Int.reduceSub, Int.reduceMul, Int.reduceNeg, Nat.reduceBEq, show regOf Try.f7 4 = Code.region _ _ _ from rfl, show regOf Try.f7 5 = Code.region _ _ _ from rfl, show regOf Try.f7 6 = Code.region _ _ _ from rfl, show regOf Try.f7 8 = Code.region _ _ _ from rfl, List.length_map, List.getElem?_map, ht, hx, Option.map_some, alV_mk, cy]
      all_goals (congr 1 <;> simp only [List.cons.injEq, AV.val.injEq, Value.int.injEq, Value.bool.injEq, true_and, and_true] <;> omega)
theorem few_p (al : List Al) (hal : al.length ≤ 9223372036854775807) (hfit : ∀ a ∈ al, a.fit) : ∃ b, pcall Try.prog md fg 7 [.slc false (al.map alV)] = some (.val (.bool b)) ∧ (b = true → Good al) := by
  by_cases h30 : al.length ≤ 30
  · obtain ⟨b, b1, b2⟩ := mfew_p al h30 hfit
    have hl30 : ¬ (30 : Int) < (al.length : Int) := by omega
    have c25 : ∀ h, doCall md (aval Try.prog md fg) 25 [.agg [.slc true [], .slc true [], .slc false (al.map alV), .slc true [], .slc true []]] h = some (.val (.bool b), h) := fun h => by
      refine doCall_exp md25 ?_ b1
      have h1 : exp1 h 59 (.slc false (al.map alV)) = some (.slc false (al.map alV), []) := exp1_solid (by simp only [solid, solid_als, Bool.not_false, Bool.true_and])
      have h2 : exp1 h 59 (.slc true []) = some (.slc false [], []) := rfl
      have h3 : exp1 h expDepth (.agg [.slc true [], .slc true [], .slc false (al.map alV), .slc true [], .slc true []]) = some (.agg [.slc false [], .slc false [], .slc false (al.map alV), .slc false [], .slc false []], []) := by
        show exp1 h (59 + 1) _ = _
        unfold exp1
        rw [show solid (.agg [.slc true [], .slc true [], .slc false (al.map alV), .slc true [], .slc true []]) = false from rfl]
        simp only [Bool.false_eq_true, if_false, expL, h1, h2, Option.map_some, List.append_nil]
      simp only [expL, h3, List.append_nil]
    cases b with
    | false =>
      refine ⟨false, ?_, fun h => by cases h⟩
      have e : ∃ h, aval Try.prog md fg 7 [.slc false (al.map alV)] [] = some (.val (.bool false), h) := by
        rw [aval_of Try.func7 body7 Try.results7 Try.ntmps7 ok7]
        simp (implicitDefEqProofs := false) (disch := omega) only [go_sem, Nat.reduceAdd, Nat.reduceSub, Nat.reduceMul, Nat.reduceLT, Nat.reduceLeDiff, Nat.reduceEqDiff, List.drop_zero, List.take_succ_cons, List.take_zero, List.drop_succ_cons, Bool.and_true, Bool.true_and, Bool.and_false, Bool.false_and, BitVec.reduceOfInt, Nat.zero_add, Nat.mul_one, Nat.add_zero, Int.zero_add, Int.reduceToNat, Nat.reducePow, ↓reduceIte, reduceCtorEq, Int.reduceLE, Int.reduceLT, Int.reduceEq, Int.reduceNe, Int.reduceAdd, Int.reduceSub, Int.reduceMul, Int.reduceNeg, Nat.reduceBEq, show regOf Try.f7 0 = Code.region _ _ _ from rfl, show regOf Try.f7 1 = Code.region _ _ _ from rfl, show regOf Try.f7 2 = Code.region _ _ _ from rfl, List.length_map, hl30, c25]
        exact ⟨_, rfl⟩
      obtain ⟨h, e⟩ := e
      rw [pcall_eq, e, pureRes_solid rfl]
    | true =>
      obtain ⟨b', i', a2', e2⟩ := few_loop al h30 hfit al 0 (.val (.bool false)) (by simp) (by omega)
      simp only [Int.natCast_zero] at e2
      refine ⟨b', ?_, fun _ => ⟨h30, fun a ha => ⟨(hfit a ha).2.2.2, by have := b2 rfl a ha; omega⟩⟩⟩
      have e : ∃ h, aval Try.prog md fg 7 [.slc false (al.map alV)] [] = some (.val (.bool b'), h) := by
        rw [aval_of Try.func7 body7 Try.results7 Try.ntmps7 ok7]
        cases b' <;> simp only [Bool.false_eq_true, if_false, if_true] at e2 <;>
        · simp (implicitDefEqProofs := false) (disch := omega) only [go_sem, Nat.reduceAdd, Nat.reduceSub, Nat.reduceMul, Nat.reduceLT, Nat.reduceLeDiff, Nat.reduceEqDiff, List.drop_zero, List.take_succ_cons, List.take_zero, List.drop_succ_cons, Bool.and_true, Bool.true_and, Bool.and_false, Bool.false_and, BitVec.reduceOfInt, Nat.zero_add, Nat.mul_one, Nat.add_zero, Int.zero_add, Int.reduceToNat, Nat.reducePow, ↓reduceIte, reduceCtorEq, Int.reduceLE, Int.reduceLT, Int.reduceEq, Int.reduceNe, Int.reduceAdd, Int.reduceSub, Int.reduceMul, Int.reduceNeg, Nat.reduceBEq, show regOf Try.f7 0 = Code.region _ _ _ from rfl, show regOf Try.f7 1 = Code.region _ _ _ from rfl, show regOf Try.f7 3 = Code.region _ _ _ from rfl, show regOf Try.f7 9 = Code.region _ _ _ from rfl, List.length_map, hl30, c25, e2]
          exact ⟨_, rfl⟩
      obtain ⟨h, e⟩ := e
      rw [pcall_eq, e, pureRes_solid rfl]
  · refine ⟨false, ?_, fun h => by cases h⟩
    have hl30 : (30 : Int) < (al.length : Int) := by omega
    have e : ∃ h, aval Try.prog md fg 7 [.slc false (al.map alV)] [] = some (.val (.bool false), h) := by
      rw [aval_of Try.func7 body7 Try.results7 Try.ntmps7 ok7]
      simp (implicitDefEqProofs := false) (disch := omega) only [go_sem, Nat.reduceAdd, Nat.reduceSub, Nat.reduceMul, Nat.reduceLT, Nat.reduceLeDiff, Nat.reduceEqDiff, List.drop_zero, List.take_succ_cons, List.take_zero, List.drop_succ_cons, Bool.and_true, Bool.true_and, Bool.and_false, Bool.false_and, BitVec.reduceOfInt, Nat.zero_add, Nat.mul_one, Nat.add_zero, Int.zero_add, Int.reduceToNat, Nat.reducePow, ↓reduceIte, reduceCtorEq, Int.reduceLE, Int.reduceLT, Int.reduceEq, Int.reduceNe, Int.reduceAdd, Int.reduceSub, Int.reduceMul, Int.reduceNeg, Nat.reduceBEq, show regOf Try.f7 0 = Code.region _ _ _ from rfl, show regOf Try.f7 1 = Code.region _ _ _ from rfl, show regOf Try.f7 2 = Code.region _ _ _ from rfl, List.length_map, hl30]
      exact ⟨_, rfl⟩
    obtain ⟨h, e⟩ := e
    rw [pcall_eq, e, pureRes_solid rfl]
end Go.Proofs.Ytgijlgdhogbgbaa
namespace Go.Proofs.Ytgijlgdhogbgbaa
open Go Go.Ab Go.Proofs
set_option maxRecDepth 100000
set_option linter.unusedSimpArgs false
set_option linter.unusedVariables false
theorem alive_p : pcall Try.prog md fg 8 [] = some (.bool true) := pcall_strue okKnown 200 (by decide +kernel)
theorem alive_c (h : AHeap) : doCall md (aval Try.prog md fg) 8 [] h = some (.val (.bool true), h) := doCall_pure md8 rfl alive_p
theorem no_p (x : Int) : pcall Try.prog md fg 12 [.int x] = some (.int x) := by
  have e : ∃ h, aval Try.prog md fg 12 [.int x] [] = some (.int x, h) := by
    rw [aval_of Try.func12 body12 Try.results12 Try.ntmps12 ok12]
    simp (implicitDefEqProofs := false) (disch := omega) only [go_sem, Nat.reduceAdd, Nat.reduceSub, Nat.reduceMul, Nat.reduceLT, Nat.reduceLeDiff, Nat.reduceEqDiff, List.drop_zero, List.take_succ_cons, List.take_zero, List.drop_succ_cons, Bool.and_true, Bool.true_and, Bool.and_false, Bool.false_and, BitVec.reduceOfInt, Nat.zero_add, Nat.mul_one, Nat.add_zero, Int.zero_add, Int.reduceToNat, Nat.reducePow, ↓reduceIte, reduceCtorEq, Int.reduceLE, Int.reduceLT, Int.reduceEq, Int.reduceNe, Int.reduceAdd, Int.reduceSub, Int.reduceMul, Int.reduceNeg, Nat.reduceBEq, show regOf Try.f12 0 = Code.region _ _ _ from rfl, show regOf Try.f12 1 = Code.region _ _ _ from rfl]
    exact ⟨_, rfl⟩
  obtain ⟨h, e⟩ := e
  rw [pcall_eq, e, pureRes_solid rfl]
theorem no_c (x : Int) (h : AHeap) : doCall md (aval Try.prog md fg) 12 [.int x] h = some (.int x, h) := doCall_pure md12 rfl (no_p x)
theorem took_len {N : List Nm} {dep : Nm → List Nm} : ∀ (f : Nat) (out : List Nm) (o : List Nm), greedy N dep f out = some o → o.length = out.length + f
  | 0, out, o, h => by rw [greedy] at h; cases h; rfl
  | f + 1, out, o, h => by
    rw [greedy] at h
    cases e : N.find? (rdy dep out) with
    | none => rw [e] at h; cases h
    | some n => rw [e] at h; have := took_len f (out ++ [n]) o h; simp at this; omega
theorem fold_len : ∀ (l : List Al) (P : MapS Al), (keys (l.foldl tadd P)).length ≤ (keys P).length + l.length
  | [], P => by simp
  | a :: r, P => by
    rw [List.foldl_cons]
    have := fold_len r (tadd P a)
    have : (keys (tadd P a)).length ≤ (keys P).length + 1 := by
      by_cases h : a.nm ∈ keys P
      · rw [tadd_in h]; omega
      · rw [keys_new h]; simp
    simp only [List.length_cons]; omega
theorem keys_len (l : List Al) : (keys (tbl l)).length ≤ l.length := by
  have := fold_len l ([], 0)
  simpa [tbl, keys] using this
theorem expandOrders (al : List Al) (hal : al.length ≤ 9223372036854775807) (hfit : ∀ a ∈ al, a.fit) : pcall Try.prog md fg 3 [.slc false (al.map alV)] = some (.val (.bool true)) := by
  obtain ⟨b, b1, b2⟩ := few_p al hal hfit
  have hs : solidL [.slc false (al.map alV)] = true := by simp only [solidL, solid, solid_als, Bool.not_false, Bool.and_true]
  have c7 : ∀ h, doCall md (aval Try.prog md fg) 7 [.slc false (al.map alV)] h = some (.val (.bool b), h) := fun h => doCall_pure md7 hs b1
  have e : ∃ h, aval Try.prog md fg 3 [.slc false (al.map alV)] [] = some (.val (.bool true), h) := by
    cases b with
    | false =>
      rw [aval_of Try.func3 body3 Try.results3 Try.ntmps3 ok3]
      simp (implicitDefEqProofs := false) (disch := omega) only [go_sem, Nat.reduceAdd, Nat.reduceSub, Nat.reduceMul, Nat.reduceLT, Nat.reduceLeDiff, Nat.reduceEqDiff, List.drop_zero, List.take_succ_cons, List.take_zero, List.drop_succ_cons, Bool.and_true, Bool.true_and, Bool.and_false, Bool.false_and, BitVec.reduceOfInt, Nat.zero_add, Nat.mul_one, Nat.add_zero, Int.zero_add, Int.reduceToNat, Nat.reducePow, ↓reduceIte, reduceCtorEq, Int.reduceLE, Int.reduceLT, Int.reduceEq, Int.reduceNe, Int.reduceAdd, Int.reduceSub, Int.reduceMul, Int.reduceNeg, Nat.reduceBEq, show regOf Try.f3 0 = Code.region _ _ _ from rfl, show regOf Try.f3 1 = Code.region _ _ _ from rfl, show regOf Try.f3 2 = Code.region _ _ _ from rfl, c7, alive_c]
      exact ⟨_, rfl⟩
    | true =>
      have hg := b2 rfl
      have hk := keys_len al
      have hal30 := hg.1
      have c9 : ∀ h, doCall md (aval Try.prog md fg) 9 [.slc false (al.map alV)] h = _ := fun h => doCall_pure md9 hs (order_p hg (by omega))
      have c10 : ∀ h, doCall md (aval Try.prog md fg) 10 [.slc false (al.map alV)] h = _ := fun h => doCall_pure md10 hs (rorder_p al (by omega) (fun a ha => (hg.2 a ha).1) (by omega))
      have hlen : (ans (greedy (keys (tbl al)) (dep (tbl al)) (keys (tbl al)).length [])).1.length ≤ 9223372036854775807 := by
        cases h : greedy (keys (tbl al)) (dep (tbl al)) (keys (tbl al)).length [] with
        | none => simp [ans]
        | some o => have := took_len (N := keys (tbl al)) _ _ _ h; simp [ans]; simp at this; omega
      generalize ans (greedy (keys (tbl al)) (dep (tbl al)) (keys (tbl al)).length []) = s at *
      obtain ⟨o, x⟩ := s
      dsimp only at c9 c10 hlen
      have c11 : ∀ h, doCall md (aval Try.prog md fg) 11 [.slc false (o.map sV), .slc false (o.map sV)] h = some (.val (.bool true), h) := fun h => doCall_pure md11 (by simp only [solidL, solid, solid_names, Bool.not_false, Bool.and_true]) (texts_p o hlen)
      have cn := no_c x
      rw [aval_of Try.func3 body3 Try.results3 Try.ntmps3 ok3]
      simp (implicitDefEqProofs := false) (disch := omega) only [go_sem, Nat.reduceAdd, Nat.reduceSub, Nat.reduceMul, Nat.reduceLT, Nat.reduceLeDiff, Nat.reduceEqDiff, List.drop_zero, List.take_succ_cons, List.take_zero, List.drop_succ_cons, Bool.and_true, Bool.true_and, Bool.and_false, Bool.false_and, BitVec.reduceOfInt, Nat.zero_add, Nat.mul_one, Nat.add_zero, Int.zero_add, Int.reduceToNat, Nat.reducePow, ↓reduceIte, reduceCtorEq, Int.reduceLE, Int.reduceLT, Int.reduceEq, Int.reduceNe, Int.reduceAdd, Int.reduceSub, Int.reduceMul, Int.reduceNeg, Nat.reduceBEq, show regOf Try.f3 0 = Code.region _ _ _ from rfl, show regOf Try.f3 1 = Code.region _ _ _ from rfl, show regOf Try.f3 3 = Code.region _ _ _ from rfl, show regOf Try.f3 4 = Code.region _ _ _ from rfl, show regOf Try.f3 5 = Code.region _ _ _ from rfl, c7, c9, c10, c11, cn, alive_c, List.getElem?_cons_zero, List.getElem?_cons_succ]
      exact ⟨_, rfl⟩
  obtain ⟨h, e⟩ := e
  rw [pcall_eq, e, pureRes_solid rfl]
end Go.Proofs.Ytgijlgdhogbgbaa
namespace Go.Proofs.Ytgijlgdhogbgbaa
open Go Go.Ab Go.Proofs Go.RowKit Go.ChangeShapes Go.WideShapes
set_option maxRecDepth 100000
theorem own : ownKnob Try.prog.godebug = none := by kernel_rfl
theorem laidOut : laidOutB Try.prog = true := by kernel_rfl
theorem mixed : Try.prog.follows .mixedOrders = true := by kernel_rfl
theorem und3 : Try.prog.underlying 3 = some (.int .i64) := by kernel_rfl
theorem und9 : Try.prog.underlying 9 = some .string := by kernel_rfl
theorem und22 : Try.prog.underlying 22 = some (.slice 38) := by kernel_rfl
theorem und25 : Try.prog.underlying 25 = some (.slice 9) := by kernel_rfl
theorem und33 : Try.prog.underlying 33 = some (.slice 35) := by kernel_rfl
theorem WT_str {n : Nat} {a : AV} (h : WT Try.prog n 9 a) : ∃ s : ByteArray, a = .val (.string s) ∧ s.size ≤ maxLen := by
  cases n with
  | zero => exact h.elim
  | succ n => unfold WT at h; rw [und9] at h; exact h
theorem WT_i64 {n t : Nat} {a : AV} (ht : Try.prog.underlying t = some (.int .i64)) (h : WT Try.prog n t a) : ∃ x, a = .int x ∧ -9223372036854775808 ≤ x ∧ x ≤ 9223372036854775807 := by
  cases n with
  | zero => exact h.elim
  | succ n =>
    unfold WT at h; rw [ht] at h
    obtain ⟨x, rfl, hw⟩ := h
    have hw' : (decide (-9223372036854775808 ≤ x) && decide (x ≤ 9223372036854775807)) = true := hw
    simp only [Bool.and_eq_true, decide_eq_true_eq] at hw'
    exact ⟨x, rfl, hw'⟩
theorem allF {fs : List Field} {p : Field → Prop} (h : ∀ f ∈ fs.toArray, p f) : ∀ f ∈ fs, p f := fun f hf => h f (List.mem_toArray.2 hf)
mutual
/-- Numbers as ints. -/
def Tm.num : Tm → Prop | .mk k _ _ n l => (-9223372036854775808 ≤ k ∧ k ≤ 9223372036854775807) ∧ (-9223372036854775808 ≤ n ∧ n ≤ 9223372036854775807) ∧ Tm.nums l
def Tm.nums : List Tm → Prop | [] => True | t :: r => t.num ∧ Tm.nums r
end
theorem fits_of : ∀ {l : List Tm}, (∀ t ∈ l, t.fit ∧ t.num) → Tm.fits l ∧ Tm.nums l
  | [], _ => by rw [Tm.fits, Tm.nums]; exact ⟨trivial, trivial⟩
  | t :: r, h => by
    have h1 := h t (List.mem_cons_self ..)
    have h2 := fits_of fun u hu => h u (List.mem_cons_of_mem _ hu)
    rw [Tm.fits, Tm.nums]; exact ⟨⟨h1.1, h2.1⟩, ⟨h1.2, h2.2⟩⟩
theorem WT_tm : ∀ (n : Nat) {a : AV}, WT Try.prog n 35 a → ∃ t : Tm, a = tmV t ∧ t.fit ∧ t.num
  | 0, a, h => h.elim
  | 1, a, h => by
    unfold WT at h
    rw [Try.underlying35] at h
    obtain ⟨cs, rfl, hl, hf⟩ := h
    have hf := allF hf
    simp only [List.forall_mem_cons] at hf
    exact hf.1.elim
  | n + 2, a, h => by
    have ih := fun {a : AV} (h : WT Try.prog n 35 a) => WT_tm n h
    unfold WT at h
    rw [Try.underlying35] at h
    obtain ⟨cs, rfl, hl, hf⟩ := h
    have hl : cs.length = 5 := hl
    match cs, hl with
    | [a0, a1, a2, a3, a4], _ =>
      have hf := allF hf
      simp only [List.forall_mem_cons] at hf
      obtain ⟨f0, f1, f2, f3, f4, _⟩ := hf
      obtain ⟨k, e0, hk⟩ := WT_i64 und3 (show WT Try.prog (n + 1) 3 a0 from f0)
      obtain ⟨s, e1, h1⟩ := WT_str (show WT Try.prog (n + 1) 9 a1 from f1)
      obtain ⟨t, e2, h2⟩ := WT_str (show WT Try.prog (n + 1) 9 a2 from f2)
      obtain ⟨m, e3, hm⟩ := WT_i64 und3 (show WT Try.prog (n + 1) 3 a3 from f3)
      have g4 : WT Try.prog (n + 1) 33 a4 := f4
      unfold WT at g4
      rw [und33] at g4
      obtain ⟨es, e4, hlen, he⟩ := g4
      subst e0; subst e1; subst e2; subst e3; subst e4
      have key : ∀ es : List AV, (∀ x ∈ es, WT Try.prog n 35 x) → ∃ l : List Tm, es = l.map tmV ∧ ∀ t ∈ l, t.fit ∧ t.num := by
        intro es
        induction es with
        | nil => intro _; exact ⟨[], rfl, by simp⟩
        | cons e r ihr =>
          intro h
          obtain ⟨l, e1, e2⟩ := ihr fun y hy => h y (List.mem_cons_of_mem _ hy)
          obtain ⟨t, et, ft⟩ := ih (h e (List.mem_cons_self ..))
          refine ⟨t :: l, by rw [e1, et]; rfl, ?_⟩
          intro u hu
          rcases List.mem_cons.1 hu with hu | hu
          · rw [hu]; exact ft
          · exact e2 u hu
      obtain ⟨l, el, fl⟩ := key es he
      obtain ⟨S, rfl⟩ := txt_of s
      obtain ⟨T, rfl⟩ := txt_of t
      have := txt_size S
      have := txt_size T
      unfold maxLen at h1 h2 hlen
      refine ⟨⟨k, S, T, m, l⟩, by rw [tmV_mk, ← el], ?_, ?_⟩
      · rw [Tm.fit]
        refine ⟨by omega, by omega, ?_, (fits_of fl).1⟩
        have := congrArg List.length el
        rw [List.length_map] at this
        omega
      · rw [Tm.num]; exact ⟨hk, hm, (fits_of fl).2⟩
theorem WT_names {n : Nat} {a : AV} (h : WT Try.prog n 25 a) : ∃ l : List Nm, a = .slc false (l.map sV) ∧ l.length ≤ 9223372036854775807 ∧ ∀ x ∈ l, x.length ≤ 9223372036854775807 := by
  cases n with
  | zero => exact h.elim
  | succ n =>
    unfold WT at h
    rw [und25] at h
    obtain ⟨es, rfl, hlen, he⟩ := h
    have key : ∀ es : List AV, (∀ x ∈ es, WT Try.prog n 9 x) → ∃ l : List Nm, es = l.map sV ∧ ∀ x ∈ l, x.length ≤ 9223372036854775807 := by
      intro es
      induction es with
      | nil => intro _; exact ⟨[], rfl, by simp⟩
      | cons e r ihr =>
        intro h
        obtain ⟨l, e1, e2⟩ := ihr fun y hy => h y (List.mem_cons_of_mem _ hy)
        obtain ⟨s, es, hs⟩ := WT_str (h e (List.mem_cons_self ..))
        obtain ⟨S, rfl⟩ := txt_of s
        have := txt_size S
        unfold maxLen at hs
        refine ⟨S :: l, by rw [e1, es]; rfl, ?_⟩
        intro x hx
        rcases List.mem_cons.1 hx with hx | hx
        · rw [hx]; omega
        · exact e2 x hx
    obtain ⟨l, el, hl⟩ := key es he
    have := congrArg List.length el
    rw [List.length_map] at this
    unfold maxLen at hlen
    exact ⟨l, by rw [el], by omega, hl⟩
theorem WT_al : ∀ (n : Nat) {a : AV}, WT Try.prog n 38 a → ∃ t : Al, a = alV t ∧ t.fit
  | 0, a, h => h.elim
  | n + 1, a, h => by
    unfold WT at h
    rw [Try.underlying38] at h
    obtain ⟨cs, rfl, hl, hf⟩ := h
    have hl : cs.length = 7 := hl
    match cs, hl with
    | [a0, a1, a2, a3, a4, a5, a6], _ =>
      have hf := allF hf
      simp only [List.forall_mem_cons] at hf
      obtain ⟨f0, f1, f2, _⟩ := hf
      obtain ⟨s, e0, hs⟩ := WT_str (show WT Try.prog n 9 a0 from f0)
      obtain ⟨l, e1, hl1, hl2⟩ := WT_names (show WT Try.prog n 25 a1 from f1)
      obtain ⟨t, e2, ht, _⟩ := WT_tm _ (show WT Try.prog n 35 (.agg [a2, a3, a4, a5, a6]) from f2)
      obtain ⟨S, rfl⟩ := txt_of s
      have := txt_size S
      unfold maxLen at hs
      obtain ⟨k, p, m, q, ks⟩ := t
      rw [tmV_mk] at e2
      simp only [AV.agg.injEq, List.cons.injEq, and_true] at e2
      obtain ⟨rfl, rfl, rfl, rfl, rfl⟩ := e2
      subst e0; subst e1
      exact ⟨⟨S, l, k, p, m, q, ks⟩, by rw [alV_mk], by show S.length ≤ _; omega, hl1, hl2, ht⟩
theorem WT_als {n : Nat} {a : AV} (h : WT Try.prog n 22 a) : ∃ l : List Al, a = .slc false (l.map alV) ∧ l.length ≤ 9223372036854775807 ∧ ∀ x ∈ l, x.fit := by
  cases n with
  | zero => exact h.elim
  | succ n =>
    unfold WT at h
    rw [und22] at h
    obtain ⟨es, rfl, hlen, he⟩ := h
    have key : ∀ es : List AV, (∀ x ∈ es, WT Try.prog n 38 x) → ∃ l : List Al, es = l.map alV ∧ ∀ x ∈ l, x.fit := by
      intro es
      induction es with
      | nil => intro _; exact ⟨[], rfl, by simp⟩
      | cons e r ihr =>
        intro h
        obtain ⟨l, e1, e2⟩ := ihr fun y hy => h y (List.mem_cons_of_mem _ hy)
        obtain ⟨t, et, ft⟩ := WT_al n (h e (List.mem_cons_self ..))
        refine ⟨t :: l, by rw [e1, et]; rfl, ?_⟩
        intro x hx
        rcases List.mem_cons.1 hx with hx | hx
        · rw [hx]; exact ft
        · exact e2 x hx
    obtain ⟨l, el, hl⟩ := key es he
    have := congrArg List.length el
    rw [List.length_map] at this
    unfold maxLen at hlen
    exact ⟨l, by rw [el], by omega, hl⟩
end Go.Proofs.Ytgijlgdhogbgbaa
