/- Parts of the proof, each with its own heading: Subst, Size, Same. expand: types that name aliases without Params. expand: nodes. plus, times, add. weigh and sizeOf: types without variables. weigh of an alias; sizeOf. -/
import Derived.Test.YtgijlgdhogbgbaaPart11
set_option linter.unusedSimpArgs false
set_option linter.unusedVariables false
namespace Go.Proofs.Ytgijlgdhogbgbaa
open Go Go.Ab Go.Proofs
set_option maxRecDepth 100000
set_option linter.unusedSimpArgs false
set_option linter.unusedVariables false
mutual
def sameT : Tm → Tm → Bool
  | .mk k p m n l, .mk k' p' m' n' l' => (k == k') && (decide (p = p') && (decide (m = m') && ((n == n') && (decide (l.length = l'.length) && sameTs l l'))))
def sameTs : List Tm → List Tm → Bool
  | [], _ => true
  | _ :: _, [] => true
  | t :: r, u :: s => sameT t u && sameTs r s
end
theorem solid2 (a b : Tm) : solidL [tmV a, tmV b] = true := by simp only [solidL, solid_tm, Bool.and_self]
theorem solid1 (a : Tm) : solidL [tmV a] = true := by simp only [solidL, solid_tm, Bool.and_self]
theorem tsz_pos (t : Tm) : 0 < tsz t := by cases t; rw [tsz]; omega
/-- A name and a type. -/
abbrev Vl := List UInt8 × Tm
def fv (k : List UInt8) : List Vl → Nat → Option (Nat × Tm)
  | [], _ => none
  | e :: r, i => if e.1 = k then some (i, e.2) else fv k r (i + 1)
theorem fv_at (k : List UInt8) : ∀ (l : List Vl) (i : Nat) (j : Nat) (t : Tm), fv k l i = some (j, t) → i ≤ j ∧ l[j - i]? = some (k, t)
  | [], i, j, t, h => by cases h
  | e :: r, i, j, t, h => by
    unfold fv at h
    split at h
    · rename_i hk
      cases h
      exact ⟨Nat.le_refl _, by rw [Nat.sub_self, ← hk]; rfl⟩
    · obtain ⟨h1, h2⟩ := fv_at k r (i + 1) j t h
      exact ⟨by omega, by rw [show j - i = (j - (i + 1)) + 1 by omega, List.getElem?_cons_succ]; exact h2⟩
def fvI (o : Option (Nat × Tm)) : Int := match o with | some (j, _) => (j : Int) | none => -1
mutual
/-- Types in the place of variables. -/
def subT (L : List Vl) : Tm → Tm | .mk k p m n ks => if k = 1 then (match fv m L 0 with | some (_, t) => t | none => .mk k p m n (subL L ks)) else .mk k p m n (subL L ks)
def subL (L : List Vl) : List Tm → List Tm | [] => [] | t :: r => subT L t :: subL L r
end
abbrev nmV (L : List Vl) : AV := .slc false ((L.map Prod.fst).map sV)
abbrev byV (L : List Vl) : AV := .slc false ((L.map Prod.snd).map tmV)
/-- A list of terms in an array of one's own. -/
def TL (h : AHeap) (v : AV) (L : List Tm) : Prop := (v = .slc true [] ∧ L = []) ∨ ∃ k g, v = .arr k 0 L.length g 5 ∧ hget h k = .arr 5 (L.map tmV) g
theorem tl_set {h : AHeap} {v : AV} {L : List Tm} (hv : TL h v L) {j : Nat} {cs : List AV} {o' : AObj} (hj : hget h j = .vars cs) : TL (h.set j o') v L := by
  obtain h1 | ⟨k, g, e, ho⟩ := hv
  · exact .inl h1
  · refine .inr ⟨k, g, e, ?_⟩
    have hjk : ¬ j = k := by rintro rfl; rw [hj] at ho; cases ho
    rw [hget_set_ne hjk]; exact ho
theorem solid_byl : ∀ l : List Tm, solidL (l.map tmV) = true := fun l => by rw [← tmsV_eq]; exact solid_tms l
theorem tl_exp {h : AHeap} {v : AV} {L : List Tm} (hv : TL h v L) (d : Nat) : solid v = false ∧ ∃ ids, exp1 h (d + 1) v = some (.slc false (L.map tmV), ids) ∧ canFrz h ids = true := by
  obtain ⟨rfl, rfl⟩ | ⟨k, g, rfl, ho⟩ := hv
  · exact ⟨rfl, [], rfl, rfl⟩
  · have := arr_exp ho (solid_byl L) d
    rw [List.length_map] at this
    exact ⟨rfl, [k], this, by simp [canFrz, ho]⟩
theorem tl_pure {h : AHeap} {v : AV} {L : List Tm} (hv : TL h v L) (a b c d : Value) : pureRes (some (.agg [.val a, .val b, .val c, .val d, v], h)) = some (.agg [.val a, .val b, .val c, .val d, .slc false (L.map tmV)]) := by
  obtain ⟨hn, ids, e, hc⟩ := tl_exp hv 58
  have hb : ∀ a : Value, exp1 h (58 + 1) (.val a) = some (.val a, []) := fun a => rfl
  have e2 : exp1 h expDepth (.agg [.val a, .val b, .val c, .val d, v]) = some (.agg [.val a, .val b, .val c, .val d, .slc false (L.map tmV)], ids) := by
    show exp1 h (58 + 1 + 1) _ = _
    rw [exp1]
    simp only [solid, solidL, hn, Bool.false_and, Bool.and_false, Bool.true_and, if_false, Bool.false_eq_true, expL, hb, e, List.nil_append, List.append_nil, Option.map_some]
  unfold pureRes
  dsimp only
  rw [e2]
  dsimp only
  rw [if_pos hc]
def PS (L : List Vl) (t : Tm) : Prop := pcall Try.prog md fg 48 [tmV t, nmV L, byV L] = some (tmV (subT L t))
abbrev zT : AV := .agg [.val (.int .i64 0), .val (.string ⟨#[]⟩), .val (.string ⟨#[]⟩), .val (.int .i64 0), .slc true []]
theorem subL_append (L : List Vl) : ∀ a b : List Tm, subL L (a ++ b) = subL L a ++ subL L b := by
  intro a
  induction a with
  | nil => intro b; rw [subL]; rfl
  | cons x a ih => intro b; rw [List.cons_append, subL, subL, ih]; rfl
theorem subL_len (L : List Vl) : ∀ a : List Tm, (subL L a).length = a.length := by
  intro a
  induction a with
  | nil => rw [subL]
  | cons x a ih => rw [subL, List.length_cons, ih, List.length_cons]
theorem subL_take {L : List Vl} {ks : List Tm} {i : Nat} {t : Tm} (hx : ks[i]? = some t) : subL L (ks.take (i + 1)) = subL L (ks.take i) ++ [subT L t] := by
  rw [List.take_add_one, hx, subL_append]
  show _ ++ subL L [_] = _
  rw [subL, subL]
theorem septr_mid (A B : List AV) (z0 z1 z2 z3 z4 x0 x1 x2 x3 x4 : AV) (h : AHeap) (id : Nat) {i : Nat} (hA : A.length = i) : septr true 5 (.agg [x0, x1, x2, x3, x4]) 0 5 i 0 h id (.arr 5 (A ++ .agg [z0, z1, z2, z3, z4] :: B) 0) = some (h.set id (.arr 5 (A ++ .agg [x0, x1, x2, x3, x4] :: B) 0)) := by
  have h1 := mid_get A (.agg [z0, z1, z2, z3, z4]) B hA
  have h2 := mid_set A (.agg [z0, z1, z2, z3, z4]) (.agg [x0, x1, x2, x3, x4]) B hA
  simp [septr, h1, h2, AV.cells]
set_option maxHeartbeats 4000000 in
theorem ps_loop (k : Int) (p m : List UInt8) (n : Int) (ks : List Tm) (hks : ks.length ≤ 100000) (L : List Vl) (hS : ∀ t ∈ ks, PS L t) : ∀ (r : List Tm) (i : Nat) (h : AHeap), ks.drop i = r → i ≤ ks.length → hget h 0 = .vars [.int k, .str (txt p), .str (txt m), .int n, .slc false (ks.map tmV)] → hget h 1 = .vars [.int 0, .str ⟨#[]⟩, .str ⟨#[]⟩, .int 0, .slc true []] → hget h 2 = .arr 5 ((subL L (ks.take i)).map tmV ++ List.replicate (ks.length - i) zT) 0 → ∃ h',
    lrun Try.prog md fg (fg 48) (loopOf Try.f48 0) (fg 48 1) ((.unk :: (nmV L) :: (byV L) :: (.ptr 0 0) :: .unk :: .unk :: (.ptr 1 0) :: .unk :: (.arr 2 0 ks.length 0 5) :: .unk :: .unk :: .unk :: .unk :: .unk :: .unk :: .unk :: .unk :: .unk :: .unk :: .unk :: .unk :: .unk :: .unk :: .unk :: .unk :: .unk :: .unk :: .unk :: .unk :: .unk :: .unk :: .unk :: .unk :: .unk :: .unk :: .unk :: .unk :: .unk :: .unk :: .unk :: (.slc false (ks.map tmV)) :: (.int ks.length) :: (.int i) :: .unk :: .unk :: .unk :: .unk :: .unk :: .unk :: .unk :: .unk :: .unk :: .unk :: .unk :: .unk :: .unk :: .unk :: .unk :: [] : List AV)) h = some (.exit 0, (.unk :: (nmV L) :: (byV L) :: (.ptr 0 0) :: .unk :: .unk :: (.ptr 1 0) :: .unk :: (.arr 2 0 ks.length 0 5) :: .unk :: .unk :: .unk :: .unk :: .unk :: .unk :: .unk :: .unk :: .unk :: .unk :: .unk :: .unk :: .unk :: .unk :: .unk :: .unk :: .unk :: .unk :: .unk :: .unk :: .unk :: .unk :: .unk :: .unk :: .unk :: .unk :: .unk :: .unk :: .unk :: .unk :: .unk :: (.slc false (ks.map tmV)) :: (.int ks.length) :: (.int ks.length) :: .unk :: .unk :: .unk :: .unk :: .unk :: .unk :: .unk :: .unk :: .unk :: .unk :: .unk :: .unk :: .unk :: .unk :: .unk :: [] : List AV), h') ∧ hget h' 0 = .vars [.int k, .str (txt p), .str (txt m), .int n, .slc false (ks.map tmV)] ∧ hget h' 1 = .vars [.int 0, .str ⟨#[]⟩, .str ⟨#[]⟩, .int 0, .slc true []] ∧ hget h' 2 = .arr 5 ((subL L ks).map tmV) 0
  | [], i, h, hdr, hi, g0, g1, g2 => by
    have : i = ks.length := by have := congrArg List.length hdr; simp at this; omega
    subst this
    rw [List.take_length, Nat.sub_self, List.replicate_zero, List.append_nil] at g2
    refine ⟨h, ?_, g0, g1, g2⟩
    rw [lrun_atC loop48_0]
    simp (implicitDefEqProofs := false) (disch := omega) only [go_sem, Nat.reduceAdd, Nat.reduceSub, Nat.reduceMul, Nat.reduceLT, Nat.reduceLeDiff, Nat.reduceEqDiff, List.drop_zero, List.take_succ_cons, List.take_zero, List.drop_succ_cons, Bool.and_true, Bool.true_and, Bool.and_false, Bool.false_and, BitVec.reduceOfInt, Nat.zero_add, Nat.mul_one, Nat.add_zero, Int.zero_add, Int.reduceToNat, Nat.reducePow, ↓reduceIte, reduceCtorEq, Int.reduceLE, Int.reduceLT, Int.reduceEq, Int.reduceNe, Int.reduceAdd, Int.reduceSub, Int.reduceMul, Int.reduceNeg, Nat.reduceBEq, show regOf Try.f48 9 = Code.region _ _ _ from rfl]
  | ⟨k2, p2, m2, n2, l2⟩ :: r, i, h, hdr, hi, g0, g1, g2 => by
    have hx : ks[i]? = some ⟨k2, p2, m2, n2, l2⟩ := by have := congrArg (·[0]?) hdr; simpa using this
    have hlt : i < ks.length := (List.getElem?_eq_some_iff.1 hx).1
    have hd' : ks.drop (i + 1) = r := by rw [← List.tail_drop, hdr]; rfl
    have ht : ((i : Int)).toNat = i := by omega
    have hst := hS _ (List.mem_of_getElem? hx)
    have cs : ∀ h, doCall md (aval Try.prog md fg) 48 [tmV ⟨k2, p2, m2, n2, l2⟩, nmV L, byV L] h = some (tmV (subT L ⟨k2, p2, m2, n2, l2⟩), h) := fun h => doCall_pure md48 (by simp only [solidL, solid, solid_tm, solid_names, solid_byl, Bool.not_false, Bool.and_true]) hst
    have hl2 : 2 < h.length := hlt_of g2 (by simp)
    have hA : ((subL L (ks.take i)).map tmV).length = i := by rw [List.length_map, subL_len, List.length_take]; omega
    rw [show ks.length - i = (ks.length - (i + 1)) + 1 by omega, List.replicate_succ] at g2
    have hgt := mid_get ((subL L (ks.take i)).map tmV) zT (List.replicate (ks.length - (i + 1)) zT) hA
    have hset := fun x => mid_set ((subL L (ks.take i)).map tmV) zT x (List.replicate (ks.length - (i + 1)) zT) hA
    have hnx : (subL L (ks.take i)).map tmV ++ tmV (subT L ⟨k2, p2, m2, n2, l2⟩) :: List.replicate (ks.length - (i + 1)) zT = (subL L (ks.take (i + 1))).map tmV ++ List.replicate (ks.length - (i + 1)) zT := by
      rw [subL_take hx, List.map_append]; simp
    have q0 := fun l => (hget_app (h := h) l (hlt_of g0 (by simp))).trans g0
    have q1 := fun l => (hget_app (h := h) l (hlt_of g1 (by simp))).trans g1
    have q2 := fun l => (hget_app (h := h) l (hlt_of g2 (by simp))).trans g2
    obtain ⟨h3, e3, y0, y1, y2⟩ := ps_loop k p m n ks hks L hS r (i + 1) ((h ++ [AObj.vars [.int k2, .str (txt p2), .str (txt m2), .int n2, .slc false (l2.map tmV)]]).set 2 (.arr 5 ((subL L (ks.take (i + 1))).map tmV ++ List.replicate (ks.length - (i + 1)) zT) 0)) hd' (by omega) (by rw [hget_set_ne (by decide)]; exact q0 _) (by rw [hget_set_ne (by decide)]; exact q1 _) (hget_set_eq (by simp; omega))
    refine ⟨h3, ?_, y0, y1, y2⟩
    rw [← e3, ← hnx]
    generalize subT L ⟨k2, p2, m2, n2, l2⟩ = T at *
    obtain ⟨k3, p3, m3, n3, l3⟩ := T
    rw [tmV_mk, tmV_mk] at cs
    rw [tmV_mk]
    rw [lrun_atC loop48_0]
    simp (implicitDefEqProofs := false) (disch := first | omega | exact List.length_set) only [go_sem, Nat.reduceAdd, Nat.reduceSub, Nat.reduceMul, Nat.reduceLT, Nat.reduceLeDiff, Nat.reduceEqDiff, List.drop_zero, List.take_succ_cons, List.take_zero, List.drop_succ_cons, Bool.and_true, Bool.true_and, Bool.and_false, Bool.false_and, BitVec.reduceOfInt, Nat.zero_add, Nat.mul_one, Nat.add_zero, Int.zero_add, Int.reduceToNat, Nat.reducePow, ↓reduceIte, reduceCtorEq, Int.reduceLE, Int.reduceLT, Int.reduceEq, Int.reduceNe, Int.reduceAdd, Int.reduceSub, Int.reduceMul, Int.reduceNeg, Nat.reduceBEq, show regOf Try.f48 9 = Code.region _ _ _ from rfl, show regOf Try.f48 10 = Code.region _ _ _ from rfl, show regOf Try.f48 11 = Code.region _ _ _ from rfl, show regOf Try.f48 12 = Code.region _ _ _ from rfl, List.length_map, List.getElem?_map, ht, hx, Option.map_some, tmV_mk, hget_last, set_last, q0, q2, cs, septr_mid (hA := hA)]
    all_goals (congr 1 <;> simp only [List.cons.injEq, AV.val.injEq, Value.int.injEq, Value.bool.injEq, true_and, and_true] <;> omega)
theorem amake_33 (h : AHeap) (n : Nat) (hn : n ≤ 100000) : amake Try.prog 33 h (.int (n : Int)) (.int (n : Int)) = some (.arr h.length 0 n 0 5, h ++ [.arr 5 (List.replicate n zT) 0]) := by
  unfold amake
  rw [tslice_33, show Go.Ab.asInt (AV.int (n : Int)) = some (n : Int) from rfl]
  dsimp only
  rw [if_pos (by omega), Int.toNat_natCast]
theorem fv_ix (k : List UInt8) : ∀ (l : List Vl) (i : Nat), ix k (l.map Prod.fst) i = (fv k l i).map Prod.fst
  | [], i => rfl
  | e :: r, i => by
    show (if k = e.1 then some i else ix k (r.map Prod.fst) (i + 1)) = _
    unfold fv
    by_cases h : e.1 = k
    · rw [if_pos h, if_pos h.symm]; rfl
    · rw [if_neg h, if_neg (fun h' => h h'.symm)]; exact fv_ix k r (i + 1)
set_option maxHeartbeats 8000000 in
theorem ps_node (k : Int) (p m : List UInt8) (n : Int) (ks : List Tm) (hks : ks.length ≤ 100000) (L : List Vl) (hL : L.length ≤ 100000) (hS : ∀ t ∈ ks, PS L t) : PS L ⟨k, p, m, n, ks⟩ := by
  unfold PS
  have hix : ∀ h, doCall md (aval Try.prog md fg) 43 [nmV L, sV m] h = some (.int (fvI (fv m L 0)), h) := fun h => doCall_pure md43 (by simp only [solidL, solid, solid_names, Bool.not_false, Bool.and_true]) (by
    rw [index_p m (L.map Prod.fst) (by simp; omega), fv_ix]
    cases fv m L 0 <;> rfl)
  by_cases hf : ∃ j t, k = 1 ∧ fv m L 0 = some (j, t)
  · obtain ⟨j, t, rfl, hf⟩ := hf
    obtain ⟨_, hj⟩ := fv_at m L 0 j t hf
    rw [Nat.sub_zero] at hj
    have hjl := (List.getElem?_eq_some_iff.1 hj).1
    rw [subT, if_pos rfl, hf]
    rw [hf] at hix
    dsimp only at hix ⊢
    have ht : ((j : Int)).toNat = j := by omega
    have hs := solid_tm t
    obtain ⟨k2, p2, m2, n2, l2⟩ := t
    simp only [tmV_mk] at hs ⊢
    have e : ∃ h, aval Try.prog md fg 48 [.agg [.int 1, .str (txt p), .str (txt m), .int n, .slc false (ks.map tmV)], nmV L, byV L] [] = some (.agg [.int k2, .str (txt p2), .str (txt m2), .int n2, .slc false (l2.map tmV)], h) := by
      rw [aval_of Try.func48 body48 Try.results48 Try.ntmps48 ok48]
      simp (implicitDefEqProofs := false) (disch := omega) only [go_sem, Nat.reduceAdd, Nat.reduceSub, Nat.reduceMul, Nat.reduceLT, Nat.reduceLeDiff, Nat.reduceEqDiff, List.drop_zero, List.take_succ_cons, List.take_zero, List.drop_succ_cons, Bool.and_true, Bool.true_and, Bool.and_false, Bool.false_and, BitVec.reduceOfInt, Nat.zero_add, Nat.mul_one, Nat.add_zero, Int.zero_add, Int.reduceToNat, Nat.reducePow, ↓reduceIte, reduceCtorEq, Int.reduceLE, Int.reduceLT, Int.reduceEq, Int.reduceNe, Int.reduceAdd, Int.reduceSub, Int.reduceMul, Int.reduceNeg, Nat.reduceBEq, show regOf Try.f48 0 = Code.region _ _ _ from rfl, show regOf Try.f48 1 = Code.region _ _ _ from rfl, show regOf Try.f48 2 = Code.region _ _ _ from rfl, hix]
      simp only [fvI]
      simp (implicitDefEqProofs := false) (disch := omega) only [go_sem, Nat.reduceAdd, Nat.reduceSub, Nat.reduceMul, Nat.reduceLT, Nat.reduceLeDiff, Nat.reduceEqDiff, List.drop_zero, List.take_succ_cons, List.take_zero, List.drop_succ_cons, Bool.and_true, Bool.true_and, Bool.and_false, Bool.false_and, BitVec.reduceOfInt, Nat.zero_add, Nat.mul_one, Nat.add_zero, Int.zero_add, Int.reduceToNat, Nat.reducePow, ↓reduceIte, reduceCtorEq, Int.reduceLE, Int.reduceLT, Int.reduceEq, Int.reduceNe, Int.reduceAdd, Int.reduceSub, Int.reduceMul, Int.reduceNeg, Nat.reduceBEq, show regOf Try.f48 3 = Code.region _ _ _ from rfl, show regOf Try.f48 4 = Code.region _ _ _ from rfl, List.length_map, List.getElem?_map, ht, hj, Option.map_some, tmV_mk]
      exact ⟨_, rfl⟩
    obtain ⟨h, e⟩ := e
    rw [pcall_eq, e, pureRes_solid hs]
  · have hsub : subT L ⟨k, p, m, n, ks⟩ = ⟨k, p, m, n, subL L ks⟩ := by
      rw [subT]
      by_cases hk : k = 1
      · rw [if_pos hk]
        cases hfv : fv m L 0 with
        | none => rfl
        | some q => exact absurd ⟨q.1, q.2, hk, hfv⟩ hf
      · rw [if_neg hk]
    rw [hsub]
    by_cases hn : ks = []
    · subst hn
      have hs := solid_tm ⟨k, p, m, n, []⟩
      rw [show subL L [] = [] by rw [subL]]
      rw [tmV_mk] at hs ⊢
      have e : ∃ h, aval Try.prog md fg 48 [.agg [.int k, .str (txt p), .str (txt m), .int n, .slc false ([].map tmV)], nmV L, byV L] [] = some (.agg [.int k, .str (txt p), .str (txt m), .int n, .slc false ([].map tmV)], h) := by
        simp only [List.map_nil]
        rw [aval_of Try.func48 body48 Try.results48 Try.ntmps48 ok48]
        by_cases hk : k = 1
        · subst hk
          have hfv : fv m L 0 = none := by
            cases hfv : fv m L 0 with
            | none => rfl
            | some q => exact absurd ⟨q.1, q.2, rfl, hfv⟩ hf
          rw [hfv] at hix
          simp (implicitDefEqProofs := false) (disch := omega) only [go_sem, Nat.reduceAdd, Nat.reduceSub, Nat.reduceMul, Nat.reduceLT, Nat.reduceLeDiff, Nat.reduceEqDiff, List.drop_zero, List.take_succ_cons, List.take_zero, List.drop_succ_cons, Bool.and_true, Bool.true_and, Bool.and_false, Bool.false_and, BitVec.reduceOfInt, Nat.zero_add, Nat.mul_one, Nat.add_zero, Int.zero_add, Int.reduceToNat, Nat.reducePow, ↓reduceIte, reduceCtorEq, Int.reduceLE, Int.reduceLT, Int.reduceEq, Int.reduceNe, Int.reduceAdd, Int.reduceSub, Int.reduceMul, Int.reduceNeg, Nat.reduceBEq, show regOf Try.f48 0 = Code.region _ _ _ from rfl, show regOf Try.f48 1 = Code.region _ _ _ from rfl, show regOf Try.f48 2 = Code.region _ _ _ from rfl, hix]
          simp only [fvI]
          simp (implicitDefEqProofs := false) (disch := omega) only [go_sem, Nat.reduceAdd, Nat.reduceSub, Nat.reduceMul, Nat.reduceLT, Nat.reduceLeDiff, Nat.reduceEqDiff, List.drop_zero, List.take_succ_cons, List.take_zero, List.drop_succ_cons, Bool.and_true, Bool.true_and, Bool.and_false, Bool.false_and, BitVec.reduceOfInt, Nat.zero_add, Nat.mul_one, Nat.add_zero, Int.zero_add, Int.reduceToNat, Nat.reducePow, ↓reduceIte, reduceCtorEq, Int.reduceLE, Int.reduceLT, Int.reduceEq, Int.reduceNe, Int.reduceAdd, Int.reduceSub, Int.reduceMul, Int.reduceNeg, Nat.reduceBEq, show regOf Try.f48 3 = Code.region _ _ _ from rfl, show regOf Try.f48 5 = Code.region _ _ _ from rfl, show regOf Try.f48 6 = Code.region _ _ _ from rfl, List.length_nil]
          exact ⟨_, rfl⟩
        · simp (implicitDefEqProofs := false) (disch := omega) only [go_sem, Nat.reduceAdd, Nat.reduceSub, Nat.reduceMul, Nat.reduceLT, Nat.reduceLeDiff, Nat.reduceEqDiff, List.drop_zero, List.take_succ_cons, List.take_zero, List.drop_succ_cons, Bool.and_true, Bool.true_and, Bool.and_false, Bool.false_and, BitVec.reduceOfInt, Nat.zero_add, Nat.mul_one, Nat.add_zero, Int.zero_add, Int.reduceToNat, Nat.reducePow, ↓reduceIte, reduceCtorEq, Int.reduceLE, Int.reduceLT, Int.reduceEq, Int.reduceNe, Int.reduceAdd, Int.reduceSub, Int.reduceMul, Int.reduceNeg, Nat.reduceBEq, show regOf Try.f48 0 = Code.region _ _ _ from rfl, show regOf Try.f48 1 = Code.region _ _ _ from rfl, show regOf Try.f48 5 = Code.region _ _ _ from rfl, show regOf Try.f48 6 = Code.region _ _ _ from rfl, List.length_nil, hk]
          exact ⟨_, rfl⟩
      obtain ⟨h, e⟩ := e
      rw [pcall_eq, e, pureRes_solid hs]
    · have hlen : ¬ (ks.length : Int) = 0 := fun h => hn (List.length_eq_zero_iff.1 (by omega))
      obtain ⟨h2, e2, y0, y1, y2⟩ := ps_loop k p m n ks hks L hS ks 0 [.vars [.int k, .str (txt p), .str (txt m), .int n, .slc false (ks.map tmV)], .vars [.int 0, .str ⟨#[]⟩, .str ⟨#[]⟩, .int 0, .slc true []], .arr 5 (List.replicate ks.length zT) 0] (by simp) (by omega) rfl rfl (by rw [List.take_zero, subL]; rfl)
      simp only [Int.natCast_zero] at e2
      have hl0 : 0 < h2.length := hlt_of y0 (by simp)
      have hl1 : 1 < h2.length := hlt_of y1 (by simp)
      have hn2 : ((ks.length : Int)).toNat = ks.length := by omega
      have z0 : hget (h2.set 0 (.vars [.int k, .str (txt p), .str (txt m), .int n, .arr 2 0 ks.length 0 5])) 0 = .vars [.int k, .str (txt p), .str (txt m), .int n, .arr 2 0 ks.length 0 5] := hget_set_eq hl0
      have z1 : hget (h2.set 0 (.vars [.int k, .str (txt p), .str (txt m), .int n, .arr 2 0 ks.length 0 5])) 1 = _ := (hget_set_ne (by decide)).trans y1
      have z2 : hget ((h2.set 0 (.vars [.int k, .str (txt p), .str (txt m), .int n, .arr 2 0 ks.length 0 5])).set 1 (.vars [.int k, .str (txt p), .str (txt m), .int n, .arr 2 0 ks.length 0 5])) 1 = .vars [.int k, .str (txt p), .str (txt m), .int n, .arr 2 0 ks.length 0 5] := hget_set_eq (by simp; omega)
      have e : aval Try.prog md fg 48 [tmV ⟨k, p, m, n, ks⟩, nmV L, byV L] [] = some (.agg [.int k, .str (txt p), .str (txt m), .int n, .arr 2 0 ks.length 0 5], (h2.set 0 (.vars [.int k, .str (txt p), .str (txt m), .int n, .arr 2 0 ks.length 0 5])).set 1 (.vars [.int k, .str (txt p), .str (txt m), .int n, .arr 2 0 ks.length 0 5])) := by
        rw [tmV_mk]
        rw [aval_of Try.func48 body48 Try.results48 Try.ntmps48 ok48]
        by_cases hk : k = 1
        · subst hk
          have hfv : fv m L 0 = none := by
            cases hfv : fv m L 0 with
            | none => rfl
            | some q => exact absurd ⟨q.1, q.2, rfl, hfv⟩ hf
          rw [hfv] at hix
          simp (implicitDefEqProofs := false) (disch := omega) only [go_sem, Nat.reduceAdd, Nat.reduceSub, Nat.reduceMul, Nat.reduceLT, Nat.reduceLeDiff, Nat.reduceEqDiff, List.drop_zero, List.take_succ_cons, List.take_zero, List.drop_succ_cons, Bool.and_true, Bool.true_and, Bool.and_false, Bool.false_and, BitVec.reduceOfInt, Nat.zero_add, Nat.mul_one, Nat.add_zero, Int.zero_add, Int.reduceToNat, Nat.reducePow, ↓reduceIte, reduceCtorEq, Int.reduceLE, Int.reduceLT, Int.reduceEq, Int.reduceNe, Int.reduceAdd, Int.reduceSub, Int.reduceMul, Int.reduceNeg, Nat.reduceBEq, show regOf Try.f48 0 = Code.region _ _ _ from rfl, show regOf Try.f48 1 = Code.region _ _ _ from rfl, show regOf Try.f48 2 = Code.region _ _ _ from rfl, hix]
          simp only [fvI]
          simp (implicitDefEqProofs := false) (disch := omega) only [go_sem, Nat.reduceAdd, Nat.reduceSub, Nat.reduceMul, Nat.reduceLT, Nat.reduceLeDiff, Nat.reduceEqDiff, List.drop_zero, List.take_succ_cons, List.take_zero, List.drop_succ_cons, Bool.and_true, Bool.true_and, Bool.and_false, Bool.false_and, BitVec.reduceOfInt, Nat.zero_add, Nat.mul_one, Nat.add_zero, Int.zero_add, Int.reduceToNat, Nat.reducePow, ↓reduceIte, reduceCtorEq, Int.reduceLE, Int.reduceLT, Int.reduceEq, Int.reduceNe, Int.reduceAdd, Int.reduceSub, Int.reduceMul, Int.reduceNeg, Nat.reduceBEq, show regOf Try.f48 3 = Code.region _ _ _ from rfl, show regOf Try.f48 5 = Code.region _ _ _ from rfl, show regOf Try.f48 7 = Code.region _ _ _ from rfl, show regOf Try.f48 8 = Code.region _ _ _ from rfl, List.length_map, hlen, amake_33 (hn := hks), ato2_some, List.length_cons, List.length_nil, List.cons_append, List.nil_append, e2]
          simp (implicitDefEqProofs := false) (disch := omega) only [go_sem, Nat.reduceAdd, Nat.reduceSub, Nat.reduceMul, Nat.reduceLT, Nat.reduceLeDiff, Nat.reduceEqDiff, List.drop_zero, List.take_succ_cons, List.take_zero, List.drop_succ_cons, Bool.and_true, Bool.true_and, Bool.and_false, Bool.false_and, BitVec.reduceOfInt, Nat.zero_add, Nat.mul_one, Nat.add_zero, Int.zero_add, Int.reduceToNat, Nat.reducePow, ↓reduceIte, reduceCtorEq, Int.reduceLE, Int.reduceLT, Int.reduceEq, Int.reduceNe, Int.reduceAdd, Int.reduceSub, Int.reduceMul, Int.reduceNeg, Nat.reduceBEq, show regOf Try.f48 13 = Code.region _ _ _ from rfl, show regOf Try.f48 14 = Code.region _ _ _ from rfl, y0, z0, z1, z2, aresults, tupOf, Option.map_some]
        · simp (implicitDefEqProofs := false) (disch := omega) only [go_sem, Nat.reduceAdd, Nat.reduceSub, Nat.reduceMul, Nat.reduceLT, Nat.reduceLeDiff, Nat.reduceEqDiff, List.drop_zero, List.take_succ_cons, List.take_zero, List.drop_succ_cons, Bool.and_true, Bool.true_and, Bool.and_false, Bool.false_and, BitVec.reduceOfInt, Nat.zero_add, Nat.mul_one, Nat.add_zero, Int.zero_add, Int.reduceToNat, Nat.reducePow, ↓reduceIte, reduceCtorEq, Int.reduceLE, Int.reduceLT, Int.reduceEq, Int.reduceNe, Int.reduceAdd, Int.reduceSub, Int.reduceMul, Int.reduceNeg, Nat.reduceBEq, show regOf Try.f48 0 = Code.region _ _ _ from rfl, show regOf Try.f48 1 = Code.region _ _ _ from rfl, show regOf Try.f48 5 = Code.region _ _ _ from rfl, show regOf Try.f48 7 = Code.region _ _ _ from rfl, show regOf Try.f48 8 = Code.region _ _ _ from rfl, hk, List.length_map, hlen, amake_33 (hn := hks), ato2_some, List.length_cons, List.length_nil, List.cons_append, List.nil_append, e2]
          simp (implicitDefEqProofs := false) (disch := omega) only [go_sem, Nat.reduceAdd, Nat.reduceSub, Nat.reduceMul, Nat.reduceLT, Nat.reduceLeDiff, Nat.reduceEqDiff, List.drop_zero, List.take_succ_cons, List.take_zero, List.drop_succ_cons, Bool.and_true, Bool.true_and, Bool.and_false, Bool.false_and, BitVec.reduceOfInt, Nat.zero_add, Nat.mul_one, Nat.add_zero, Int.zero_add, Int.reduceToNat, Nat.reducePow, ↓reduceIte, reduceCtorEq, Int.reduceLE, Int.reduceLT, Int.reduceEq, Int.reduceNe, Int.reduceAdd, Int.reduceSub, Int.reduceMul, Int.reduceNeg, Nat.reduceBEq, show regOf Try.f48 13 = Code.region _ _ _ from rfl, show regOf Try.f48 14 = Code.region _ _ _ from rfl, y0, z0, z1, z2, aresults, tupOf, Option.map_some]
      have hT : TL h2 (.arr 2 0 ks.length 0 5) (subL L ks) := .inr ⟨2, 0, by rw [subL_len], y2⟩
      rw [pcall_eq, e, tl_pure (tl_set (tl_set hT y0) z1), tmV_mk]
mutual
theorem PS_all (L : List Vl) (hL : L.length ≤ 100000) : ∀ t : Tm, tsz t ≤ 100000 → PS L t
  | ⟨k, p, m, n, ks⟩, h => by
    rw [tsz] at h
    have hl : ∀ l : List Tm, l.length ≤ tszs l := by
      intro l
      induction l with
      | nil => simp
      | cons a b ih => have := tsz_pos a; simp only [tszs, List.length_cons]; omega
    exact ps_node k p m n ks (by have := hl ks; omega) L hL (PS_alls L hL ks (by omega))
theorem PS_alls (L : List Vl) (hL : L.length ≤ 100000) : ∀ l : List Tm, tszs l ≤ 100000 → ∀ t ∈ l, PS L t
  | [], _, t, h => by cases h
  | a :: r, hs, t, h => by
    rw [tszs] at hs
    rcases List.mem_cons.1 h with h | h
    · rw [h]; exact PS_all L hL a (by omega)
    · exact PS_alls L hL r (by omega) t h
end
def Z (t : Tm) : Prop := pcall Try.prog md fg 17 [tmV t] = some (.int (tsz t : Int))
theorem z_loop (k : Int) (p m : List UInt8) (n : Int) (l : List Tm) (hl : tszs l ≤ 100000) (hZ : ∀ t ∈ l, Z t) (hlen : l.length ≤ 100000) : ∀ (r : List Tm) (i : Nat) (c : Nat), l.drop i = r → i ≤ l.length → c + tszs r ≤ 200000 →
    lrun Try.prog md fg (fg 17) (loopOf Try.f17 0) (fg 17 1) ([.unk, .ptr 0 0, .unk, .int c, .int i, .unk, .unk, .unk, .unk, .unk, .unk, .unk, .unk, .unk, .unk, .unk, .unk, .unk, .unk, .unk, .unk]) [.vars [.int k, .str (txt p), .str (txt m), .int n, .slc false (l.map tmV)]] = some (.exit 0, [.unk, .ptr 0 0, .unk, .int (c + tszs r : Nat), .int l.length, .unk, .unk, .unk, .unk, .unk, .unk, .unk, .unk, .unk, .unk, .unk, .unk, .unk, .unk, .unk, .unk], [.vars [.int k, .str (txt p), .str (txt m), .int n, .slc false (l.map tmV)]])
  | [], i, c, hdr, hi, hc => by
    have : i = l.length := by have := congrArg List.length hdr; simp at this; omega
    subst this
    rw [tszs, Nat.add_zero]
    rw [lrun_atC loop17_0]
    simp (implicitDefEqProofs := false) (disch := omega) only [go_sem, Nat.reduceAdd, Nat.reduceSub, Nat.reduceMul, Nat.reduceLT, Nat.reduceLeDiff, Nat.reduceEqDiff, List.drop_zero, List.take_succ_cons, List.take_zero, List.drop_succ_cons, Bool.and_true, Bool.true_and, Bool.and_false, Bool.false_and, BitVec.reduceOfInt, Nat.zero_add, Nat.mul_one, Nat.add_zero, Int.zero_add, Int.reduceToNat, Nat.reducePow, ↓reduceIte, reduceCtorEq, Int.reduceLE, Int.reduceLT, Int.reduceEq, Int.reduceNe, Int.reduceAdd, Int.reduceSub, Int.reduceMul, Int.reduceNeg, Nat.reduceBEq, show regOf Try.f17 3 = Code.region _ _ _ from rfl, List.length_map]
  | ⟨k2, p2, m2, n2, l2⟩ :: r, i, c, hdr, hi, hc => by
    have hx : l[i]? = some ⟨k2, p2, m2, n2, l2⟩ := by have := congrArg (·[0]?) hdr; simpa using this
    have hlt : i < l.length := (List.getElem?_eq_some_iff.1 hx).1
    have hd' : l.drop (i + 1) = r := by rw [← List.tail_drop, hdr]; rfl
    have ht : ((i : Int)).toNat = i := by omega
    rw [tszs] at hc ⊢
    have cz : ∀ h : AHeap, doCall md (aval Try.prog md fg) 17 [tmV ⟨k2, p2, m2, n2, l2⟩] h = some (.int (tsz ⟨k2, p2, m2, n2, l2⟩ : Nat), h) := fun h => doCall_pure md17 (solid1 _) (hZ _ (List.mem_of_getElem? hx))
    generalize tsz ⟨k2, p2, m2, n2, l2⟩ = w at *
    have ih := z_loop k p m n l hl hZ hlen r (i + 1) (c + w) hd' (by omega) (by omega)
    rw [tmV_mk] at cz
    rw [← Nat.add_assoc, ← ih]
    rw [lrun_atC loop17_0]
    simp (implicitDefEqProofs := false) (disch := omega) only [go_sem, Nat.reduceAdd, Nat.reduceSub, Nat.reduceMul, Nat.reduceLT, Nat.reduceLeDiff, Nat.reduceEqDiff, List.drop_zero, List.take_succ_cons, List.take_zero, List.drop_succ_cons, Bool.and_true, Bool.true_and, Bool.and_false, Bool.false_and, BitVec.reduceOfInt, Nat.zero_add, Nat.mul_one, Nat.add_zero, Int.zero_add, Int.reduceToNat, Nat.reducePow, ↓reduceIte, reduceCtorEq, Int.reduceLE, Int.reduceLT, Int.reduceEq, Int.reduceNe, Int.reduceAdd, Int.reduceSub, Int.reduceMul, Int.reduceNeg, Nat.reduceBEq, show regOf Try.f17 3 = Code.region _ _ _ from rfl, show regOf Try.f17 4 = Code.region _ _ _ from rfl, show regOf Try.f17 5 = Code.region _ _ _ from rfl, List.length_map, List.getElem?_map, ht, hx, Option.map_some, tmV_mk, cz]
    all_goals (congr 1 <;> simp only [List.cons.injEq, AV.val.injEq, Value.int.injEq, Value.bool.injEq, true_and, and_true] <;> omega)
mutual
theorem Z_all : ∀ t : Tm, tsz t ≤ 100000 → Z t
  | ⟨k, p, m, n, l⟩, h => by
    have h0 := h
    rw [tsz] at h
    have hl : ∀ l : List Tm, l.length ≤ tszs l := by
      intro l
      induction l with
      | nil => simp
      | cons a b ih => have := tsz_pos a; simp only [tszs, List.length_cons]; omega
    have hll := hl l
    have ih := z_loop k p m n l (by omega) (Z_alls l (by omega)) (by omega) l 0 1 (by simp) (by omega) (by omega)
    have e : ∃ h, aval Try.prog md fg 17 [tmV ⟨k, p, m, n, l⟩] [] = some (.int (tsz ⟨k, p, m, n, l⟩ : Nat), h) := by
      rw [tmV_mk, tsz]
      simp only [Int.natCast_zero, Int.natCast_one] at ih
      rw [aval_of Try.func17 body17 Try.results17 Try.ntmps17 ok17]
      simp (implicitDefEqProofs := false) (disch := omega) only [go_sem, Nat.reduceAdd, Nat.reduceSub, Nat.reduceMul, Nat.reduceLT, Nat.reduceLeDiff, Nat.reduceEqDiff, List.drop_zero, List.take_succ_cons, List.take_zero, List.drop_succ_cons, Bool.and_true, Bool.true_and, Bool.and_false, Bool.false_and, BitVec.reduceOfInt, Nat.zero_add, Nat.mul_one, Nat.add_zero, Int.zero_add, Int.reduceToNat, Nat.reducePow, ↓reduceIte, reduceCtorEq, Int.reduceLE, Int.reduceLT, Int.reduceEq, Int.reduceNe, Int.reduceAdd, Int.reduceSub, Int.reduceMul, Int.reduceNeg, Nat.reduceBEq, show regOf Try.f17 0 = Code.region _ _ _ from rfl, show regOf Try.f17 1 = Code.region _ _ _ from rfl, show regOf Try.f17 2 = Code.region _ _ _ from rfl, show regOf Try.f17 6 = Code.region _ _ _ from rfl, ih]
      exact ⟨_, rfl⟩
    obtain ⟨h, e⟩ := e
    unfold Z
    rw [pcall_eq, e, pureRes_solid rfl]
theorem Z_alls : ∀ l : List Tm, tszs l ≤ 100000 → ∀ t ∈ l, Z t
  | [], _, t, h => by cases h
  | a :: r, hs, t, h => by
    rw [tszs] at hs
    rcases List.mem_cons.1 h with h | h
    · rw [h]; exact Z_all a (by omega)
    · exact Z_alls r (by omega) t h
end
def Q2 (t : Tm) : Prop := ∀ u : Tm, u.fit → pcall Try.prog md fg 16 [tmV t, tmV u] = some (.val (.bool (sameT t u)))
theorem r14_loop (k : Int) (p m : List UInt8) (n : Int) (l : List Tm) (k' : Int) (p' m' : List UInt8) (n' : Int) (l' : List Tm) (hl : l.length ≤ 9223372036854775807) (hll : l.length = l'.length) (hQ : ∀ t ∈ l, Q2 t) (hf : ∀ u ∈ l', u.fit) : ∀ (r : List Tm) (i : Nat), l.drop i = r → i ≤ l.length → ∃ (i' : Int),
    lrun Try.prog md fg (fg 16) (loopOf Try.f16 0) (fg 16 1) ((.unk :: .unk :: (.ptr 0 0) :: (.ptr 1 0) :: (.val (.bool false)) :: (.int i) :: .unk :: .unk :: .unk :: .unk :: .unk :: .unk :: .unk :: .unk :: .unk :: .unk :: .unk :: .unk :: .unk :: .unk :: .unk :: .unk :: .unk :: .unk :: .unk :: .unk :: .unk :: .unk :: .unk :: .unk :: .unk :: .unk :: .unk :: .unk :: .unk :: .unk :: .unk :: .unk :: .unk :: .unk :: .unk :: .unk :: .unk :: .unk :: .unk :: .unk :: .unk :: .unk :: .unk :: .unk :: .unk :: .unk :: .unk :: .unk :: .unk :: .unk :: .unk :: .unk :: .unk :: .unk :: [] : List AV)) [.vars [.int k, .str (txt p), .str (txt m), .int n, .slc false (l.map tmV)], .vars [.int k', .str (txt p'), .str (txt m'), .int n', .slc false (l'.map tmV)]] = some (if sameTs r (l'.drop i) then .exit 0 else .ret, (.unk :: .unk :: (.ptr 0 0) :: (.ptr 1 0) :: (.val (.bool false)) :: (.int i') :: .unk :: .unk :: .unk :: .unk :: .unk :: .unk :: .unk :: .unk :: .unk :: .unk :: .unk :: .unk :: .unk :: .unk :: .unk :: .unk :: .unk :: .unk :: .unk :: .unk :: .unk :: .unk :: .unk :: .unk :: .unk :: .unk :: .unk :: .unk :: .unk :: .unk :: .unk :: .unk :: .unk :: .unk :: .unk :: .unk :: .unk :: .unk :: .unk :: .unk :: .unk :: .unk :: .unk :: .unk :: .unk :: .unk :: .unk :: .unk :: .unk :: .unk :: .unk :: .unk :: .unk :: .unk :: [] : List AV), [.vars [.int k, .str (txt p), .str (txt m), .int n, .slc false (l.map tmV)], .vars [.int k', .str (txt p'), .str (txt m'), .int n', .slc false (l'.map tmV)]])
  | [], i, hdr, hi => by
    have : i = l.length := by have := congrArg List.length hdr; simp at this; omega
    subst this
    refine ⟨(l.length : Int), ?_⟩
    simp only [sameTs, if_true]
    rw [lrun_atC loop16_0]
    simp (implicitDefEqProofs := false) (disch := omega) only [go_sem, Nat.reduceAdd, Nat.reduceSub, Nat.reduceMul, Nat.reduceLT, Nat.reduceLeDiff, Nat.reduceEqDiff, List.drop_zero, List.take_succ_cons, List.take_zero, List.drop_succ_cons, Bool.and_true, Bool.true_and, Bool.and_false, Bool.false_and, BitVec.reduceOfInt, Nat.zero_add, Nat.mul_one, Nat.add_zero, Int.zero_add, Int.reduceToNat, Nat.reducePow, ↓reduceIte, reduceCtorEq, Int.reduceLE, Int.reduceLT, Int.reduceEq, Int.reduceNe, Int.reduceAdd, Int.reduceSub, Int.reduceMul, Int.reduceNeg, Nat.reduceBEq, show regOf Try.f16 4 = Code.region _ _ _ from rfl, List.length_map]
  | ⟨k2, p2, m2, n2, l2⟩ :: r, i, hdr, hi => by
    have hx : l[i]? = some ⟨k2, p2, m2, n2, l2⟩ := by have := congrArg (·[0]?) hdr; simpa using this
    have hlt : i < l.length := (List.getElem?_eq_some_iff.1 hx).1
    have hd' : l.drop (i + 1) = r := by rw [← List.tail_drop, hdr]; rfl
    have ht : ((i : Int)).toNat = i := by omega
    obtain ⟨u, hu⟩ : ∃ u, l'[i]? = some u := ⟨l'[i], List.getElem?_eq_getElem (by omega)⟩
    have hud : l'.drop i = u :: l'.drop (i + 1) := by
      rw [List.drop_eq_getElem_cons (by omega)]
      have := (List.getElem?_eq_some_iff.1 hu).2
      rw [this]
    have hq := hQ _ (List.mem_of_getElem? hx) u (hf u (List.mem_of_getElem? hu))
    have cy : ∀ h : AHeap, doCall md (aval Try.prog md fg) 16 [tmV ⟨k2, p2, m2, n2, l2⟩, tmV u] h = some (.val (.bool (sameT ⟨k2, p2, m2, n2, l2⟩ u)), h) := fun h => doCall_pure md16 (solid2 _ _) hq
    rw [hud]
    rw [sameTs]
    obtain ⟨k3, p3, m3, n3, l3⟩ := u
    rw [tmV_mk, tmV_mk] at cy
    generalize sameT ⟨k2, p2, m2, n2, l2⟩ ⟨k3, p3, m3, n3, l3⟩ = b at *
    cases b with
    | true =>
      obtain ⟨i', e2⟩ := r14_loop k p m n l k' p' m' n' l' hl hll hQ hf r (i + 1) hd' (by omega)
      refine ⟨i', ?_⟩
      rw [Bool.true_and, ← e2]
      rw [lrun_atC loop16_0]
      simp (implicitDefEqProofs := false) (disch := omega) only [go_sem, Nat.reduceAdd, Nat.reduceSub, Nat.reduceMul, Nat.reduceLT, Nat.reduceLeDiff, Nat.reduceEqDiff, List.drop_zero, List.take_succ_cons, List.take_zero, List.drop_succ_cons, Bool.and_true, Bool.true_and, Bool.and_false, Bool.false_and, BitVec.reduceOfInt, Nat.zero_add, Nat.mul_one, Nat.add_zero, Int.zero_add, Int.reduceToNat, Nat.reducePow, ↓reduceIte, reduceCtorEq, Int.reduceLE, Int.reduceLT, Int.reduceEq, Int.reduceNe, Int.reduceAdd, Int.reduceSub, Int.reduceMul, Int.reduceNeg, Nat.reduceBEq, show regOf Try.f16 4 = Code.region _ _ _ from rfl, show regOf Try.f16 5 = Code.region _ _ _ from rfl, show regOf Try.f16 6 = Code.region _ _ _ from rfl, show regOf Try.f16 7 = Code.region _ _ _ from rfl, List.length_map, List.getElem?_map, ht, hx, hu, Option.map_some, tmV_mk, cy]
      all_goals (congr 1 <;> simp only [List.cons.injEq, AV.val.injEq, Value.int.injEq, Value.bool.injEq, true_and, and_true] <;> omega)
    | false =>
      refine ⟨(i : Int), ?_⟩
      simp only [Bool.false_and, Bool.false_eq_true, if_false]
      rw [lrun_atC loop16_0]
      simp (implicitDefEqProofs := false) (disch := omega) only [go_sem, Nat.reduceAdd, Nat.reduceSub, Nat.reduceMul, Nat.reduceLT, Nat.reduceLeDiff, Nat.reduceEqDiff, List.drop_zero, List.take_succ_cons, List.take_zero, List.drop_succ_cons, Bool.and_true, Bool.true_and, Bool.and_false, Bool.false_and, BitVec.reduceOfInt, Nat.zero_add, Nat.mul_one, Nat.add_zero, Int.zero_add, Int.reduceToNat, Nat.reducePow, ↓reduceIte, reduceCtorEq, Int.reduceLE, Int.reduceLT, Int.reduceEq, Int.reduceNe, Int.reduceAdd, Int.reduceSub, Int.reduceMul, Int.reduceNeg, Nat.reduceBEq, show regOf Try.f16 4 = Code.region _ _ _ from rfl, show regOf Try.f16 5 = Code.region _ _ _ from rfl, show regOf Try.f16 6 = Code.region _ _ _ from rfl, show regOf Try.f16 7 = Code.region _ _ _ from rfl, List.length_map, List.getElem?_map, ht, hx, hu, Option.map_some, tmV_mk, cy]
mutual
theorem Q2_all : ∀ t : Tm, t.fit → Q2 t
  | ⟨k, p, m, n, l⟩, hf => by
    rw [Tm.fit] at hf
    obtain ⟨f1, f2, f3, f4⟩ := hf
    have ih := Q2_alls l f4
    intro u hu
    obtain ⟨k', p', m', n', l'⟩ := u
    rw [Tm.fit] at hu
    obtain ⟨g1, g2, g3, g4⟩ := hu
    have e : ∃ h, aval Try.prog md fg 16 [tmV ⟨k, p, m, n, l⟩, tmV ⟨k', p', m', n', l'⟩] [] = some (.val (.bool (sameT ⟨k, p, m, n, l⟩ ⟨k', p', m', n', l'⟩)), h) := by
      rw [tmV_mk, tmV_mk, sameT]
      have hp := str_eq p p'
      have hm := str_eq m m'
      have ek : (k == k') = decide (k = k') := rfl
      have en : (n == n') = decide (n = n') := rfl
      rw [ek, en]
      by_cases h1 : k = k'
      · by_cases h2 : p = p'
        · by_cases h3 : m = m'
          · by_cases h4 : n = n'
            · by_cases h5 : l.length = l'.length
              · subst h1; subst h2; subst h3; subst h4
                obtain ⟨i', e2⟩ := r14_loop k p m n l k p m n l' f3 h5 ih (fits_mem g4) l 0 (by simp) (by omega)
                simp only [Int.natCast_zero, List.drop_zero] at e2
                have h6 : ((l.length : Int) = (l'.length : Int)) = True := by simp [h5]
                generalize sameTs l l' = b at *
                rw [aval_of Try.func16 body16 Try.results16 Try.ntmps16 ok16]
                cases b <;> simp only [Bool.false_eq_true, if_false, if_true] at e2 <;>
                · simp (implicitDefEqProofs := false) (disch := omega) only [go_sem, Nat.reduceAdd, Nat.reduceSub, Nat.reduceMul, Nat.reduceLT, Nat.reduceLeDiff, Nat.reduceEqDiff, List.drop_zero, List.take_succ_cons, List.take_zero, List.drop_succ_cons, Bool.and_true, Bool.true_and, Bool.and_false, Bool.false_and, BitVec.reduceOfInt, Nat.zero_add, Nat.mul_one, Nat.add_zero, Int.zero_add, Int.reduceToNat, Nat.reducePow, ↓reduceIte, reduceCtorEq, Int.reduceLE, Int.reduceLT, Int.reduceEq, Int.reduceNe, Int.reduceAdd, Int.reduceSub, Int.reduceMul, Int.reduceNeg, Nat.reduceBEq, show regOf Try.f16 0 = Code.region _ _ _ from rfl, show regOf Try.f16 1 = Code.region _ _ _ from rfl, show regOf Try.f16 3 = Code.region _ _ _ from rfl, show regOf Try.f16 8 = Code.region _ _ _ from rfl, List.length_map, h6, e2, decide_eq_true h5]
                  exact ⟨_, rfl⟩
              · have h6 : ¬ (l.length : Int) = (l'.length : Int) := by omega
                rw [aval_of Try.func16 body16 Try.results16 Try.ntmps16 ok16]
                simp (implicitDefEqProofs := false) (disch := omega) only [go_sem, Nat.reduceAdd, Nat.reduceSub, Nat.reduceMul, Nat.reduceLT, Nat.reduceLeDiff, Nat.reduceEqDiff, List.drop_zero, List.take_succ_cons, List.take_zero, List.drop_succ_cons, Bool.and_true, Bool.true_and, Bool.and_false, Bool.false_and, BitVec.reduceOfInt, Nat.zero_add, Nat.mul_one, Nat.add_zero, Int.zero_add, Int.reduceToNat, Nat.reducePow, ↓reduceIte, reduceCtorEq, Int.reduceLE, Int.reduceLT, Int.reduceEq, Int.reduceNe, Int.reduceAdd, Int.reduceSub, Int.reduceMul, Int.reduceNeg, Nat.reduceBEq, show regOf Try.f16 0 = Code.region _ _ _ from rfl, show regOf Try.f16 1 = Code.region _ _ _ from rfl, show regOf Try.f16 2 = Code.region _ _ _ from rfl, List.length_map, h1, h2, h3, h4, h6, hp, hm, decide_eq_false h5]
                exact ⟨_, rfl⟩
            · rw [aval_of Try.func16 body16 Try.results16 Try.ntmps16 ok16]
              simp (implicitDefEqProofs := false) (disch := omega) only [go_sem, Nat.reduceAdd, Nat.reduceSub, Nat.reduceMul, Nat.reduceLT, Nat.reduceLeDiff, Nat.reduceEqDiff, List.drop_zero, List.take_succ_cons, List.take_zero, List.drop_succ_cons, Bool.and_true, Bool.true_and, Bool.and_false, Bool.false_and, BitVec.reduceOfInt, Nat.zero_add, Nat.mul_one, Nat.add_zero, Int.zero_add, Int.reduceToNat, Nat.reducePow, ↓reduceIte, reduceCtorEq, Int.reduceLE, Int.reduceLT, Int.reduceEq, Int.reduceNe, Int.reduceAdd, Int.reduceSub, Int.reduceMul, Int.reduceNeg, Nat.reduceBEq, show regOf Try.f16 0 = Code.region _ _ _ from rfl, show regOf Try.f16 1 = Code.region _ _ _ from rfl, show regOf Try.f16 2 = Code.region _ _ _ from rfl, h1, h2, h3, h4, hp, hm]
              exact ⟨_, rfl⟩
          · rw [aval_of Try.func16 body16 Try.results16 Try.ntmps16 ok16]
            simp (implicitDefEqProofs := false) (disch := omega) only [go_sem, Nat.reduceAdd, Nat.reduceSub, Nat.reduceMul, Nat.reduceLT, Nat.reduceLeDiff, Nat.reduceEqDiff, List.drop_zero, List.take_succ_cons, List.take_zero, List.drop_succ_cons, Bool.and_true, Bool.true_and, Bool.and_false, Bool.false_and, BitVec.reduceOfInt, Nat.zero_add, Nat.mul_one, Nat.add_zero, Int.zero_add, Int.reduceToNat, Nat.reducePow, ↓reduceIte, reduceCtorEq, Int.reduceLE, Int.reduceLT, Int.reduceEq, Int.reduceNe, Int.reduceAdd, Int.reduceSub, Int.reduceMul, Int.reduceNeg, Nat.reduceBEq, show regOf Try.f16 0 = Code.region _ _ _ from rfl, show regOf Try.f16 1 = Code.region _ _ _ from rfl, show regOf Try.f16 2 = Code.region _ _ _ from rfl, h1, h2, h3, hp, hm]
            exact ⟨_, rfl⟩
        · rw [aval_of Try.func16 body16 Try.results16 Try.ntmps16 ok16]
          simp (implicitDefEqProofs := false) (disch := omega) only [go_sem, Nat.reduceAdd, Nat.reduceSub, Nat.reduceMul, Nat.reduceLT, Nat.reduceLeDiff, Nat.reduceEqDiff, List.drop_zero, List.take_succ_cons, List.take_zero, List.drop_succ_cons, Bool.and_true, Bool.true_and, Bool.and_false, Bool.false_and, BitVec.reduceOfInt, Nat.zero_add, Nat.mul_one, Nat.add_zero, Int.zero_add, Int.reduceToNat, Nat.reducePow, ↓reduceIte, reduceCtorEq, Int.reduceLE, Int.reduceLT, Int.reduceEq, Int.reduceNe, Int.reduceAdd, Int.reduceSub, Int.reduceMul, Int.reduceNeg, Nat.reduceBEq, show regOf Try.f16 0 = Code.region _ _ _ from rfl, show regOf Try.f16 1 = Code.region _ _ _ from rfl, show regOf Try.f16 2 = Code.region _ _ _ from rfl, h1, h2, hp, hm]
          exact ⟨_, rfl⟩
      · rw [aval_of Try.func16 body16 Try.results16 Try.ntmps16 ok16]
        simp (implicitDefEqProofs := false) (disch := omega) only [go_sem, Nat.reduceAdd, Nat.reduceSub, Nat.reduceMul, Nat.reduceLT, Nat.reduceLeDiff, Nat.reduceEqDiff, List.drop_zero, List.take_succ_cons, List.take_zero, List.drop_succ_cons, Bool.and_true, Bool.true_and, Bool.and_false, Bool.false_and, BitVec.reduceOfInt, Nat.zero_add, Nat.mul_one, Nat.add_zero, Int.zero_add, Int.reduceToNat, Nat.reducePow, ↓reduceIte, reduceCtorEq, Int.reduceLE, Int.reduceLT, Int.reduceEq, Int.reduceNe, Int.reduceAdd, Int.reduceSub, Int.reduceMul, Int.reduceNeg, Nat.reduceBEq, show regOf Try.f16 0 = Code.region _ _ _ from rfl, show regOf Try.f16 1 = Code.region _ _ _ from rfl, show regOf Try.f16 2 = Code.region _ _ _ from rfl, h1, hp, hm]
        exact ⟨_, rfl⟩
    obtain ⟨h, e⟩ := e
    rw [pcall_eq, e, pureRes_solid rfl]
theorem Q2_alls : ∀ l : List Tm, Tm.fits l → ∀ t ∈ l, Q2 t
  | [], _, t, h => by cases h
  | a :: r, hf, t, h => by
    rw [Tm.fits] at hf
    rcases List.mem_cons.1 h with h | h
    · rw [h]; exact Q2_all a hf.1
    · exact Q2_alls r hf.2 t h
end
end Go.Proofs.Ytgijlgdhogbgbaa
namespace Go.Proofs.Ytgijlgdhogbgbaa
open Go Go.Ab Go.Proofs
set_option maxRecDepth 100000
set_option linter.unusedSimpArgs false
set_option linter.unusedVariables false
mutual
theorem sub_nil : ∀ t : Tm, subT [] t = t
  | ⟨k, p, m, n, ks⟩ => by
    rw [subT, subs_nil ks]
    split
    · rfl
    · rfl
theorem subs_nil : ∀ l : List Tm, subL [] l = l
  | [] => by rw [subL]
  | t :: r => by rw [subL, sub_nil t, subs_nil r]
end
/-- A call whose result is told as a value. -/
theorem doCall_rated2 {f : FuncId} {vs : List AV} {h H : AHeap} {r r' : AV} {ids : List Nat} (hm : md f = 3) (e : aval Try.prog md fg f vs h = some (r, H)) (hH : H.take h.length = h) (h1 : exp1 H expDepth r = some (r', ids)) (h2 : canFrz H ids = true) (h3 : ∀ i ∈ ids, h.length ≤ i) (hs : solid r' = true) : doCall md (aval Try.prog md fg) f vs h = some (r', h) := by
  rw [doCall_0 (by omega)]
  unfold doCall0
  rw [if_neg (by omega)]
  unfold rated
  rw [if_pos hm, e]
  dsimp only
  rw [h1]
  dsimp only
  rw [if_pos h2]
  dsimp only
  have ht := (frz_take ids H h3).trans hH
  have hg : GcOk h.length h (frzAll H ids) := fun i hi => .inl (by
    have := congrArg (fun l => l[i]?) ht
    rwa [List.getElem?_take_of_lt hi] at this)
  rw [if_pos ⟨solid_below _ _ hs, hg⟩, ht]
theorem isSliceT_33 : isSliceT Try.prog 33 = true := by kernel_rfl
theorem nilN33 : anilS Try.prog .eql 33 (.val (.slice none 0 0)) = some (.val (.bool true)) := by unfold anilS; rw [if_pos isSliceT_33]; rfl
theorem nilE33 : anilS Try.prog .eql 33 .emp = some (.val (.bool false)) := by unfold anilS; rw [if_pos isSliceT_33]; rfl
theorem nilC33 (b : Bool) (x : AV) (r : List AV) : anilS Try.prog .eql 33 (.slc b (x :: r)) = some (.val (.bool false)) := by unfold anilS; rw [if_pos isSliceT_33]; rfl
theorem aelems_emp (h : AHeap) : aelems h .emp = some [] := rfl
theorem appT_nil0 (h : AHeap) (z : AV) : appT (some (5, 72, z)) h (.slc true []) (some []) = some (.slc true [], h) := appT_slc0 _ _ _ _ rfl
theorem headOk_tm (l : List Tm) : headOk 5 (l.map tmV) = true := by
  cases l with
  | nil => rfl
  | cons t r => obtain ⟨k, p, m, n, ks⟩ := t; rw [List.map_cons, tmV_mk]; rfl
theorem clone_nil (h : AHeap) : doCall md (aval Try.prog md fg) 49 [.slc false []] h = some (.slc true [], h) := by
  have e1 : aval Try.prog md fg 49 [.val (.slice none 0 0)] h = some (.slc true [], h) := by
    rw [aval_of Try.func49 body49 Try.results49 Try.ntmps49 ok49]
    simp (implicitDefEqProofs := false) (disch := omega) only [go_sem, Nat.reduceAdd, Nat.reduceSub, Nat.reduceMul, Nat.reduceLT, Nat.reduceLeDiff, Nat.reduceEqDiff, List.drop_zero, List.take_succ_cons, List.take_zero, List.drop_succ_cons, Bool.and_true, Bool.true_and, Bool.and_false, Bool.false_and, BitVec.reduceOfInt, Nat.zero_add, Nat.mul_one, Nat.add_zero, Int.zero_add, Int.reduceToNat, Nat.reducePow, ↓reduceIte, reduceCtorEq, Int.reduceLE, Int.reduceLT, Int.reduceEq, Int.reduceNe, Int.reduceAdd, Int.reduceSub, Int.reduceMul, Int.reduceNeg, Nat.reduceBEq, show regOf Try.f49 0 = Code.region _ _ _ from rfl, show regOf Try.f49 1 = Code.region _ _ _ from rfl, show regOf Try.f49 2 = Code.region _ _ _ from rfl, nilN33]
  have e2 : aval Try.prog md fg 49 [.emp] h = some (.slc true [], h) := by
    rw [aval_of Try.func49 body49 Try.results49 Try.ntmps49 ok49]
    simp (implicitDefEqProofs := false) (disch := omega) only [go_sem, Nat.reduceAdd, Nat.reduceSub, Nat.reduceMul, Nat.reduceLT, Nat.reduceLeDiff, Nat.reduceEqDiff, List.drop_zero, List.take_succ_cons, List.take_zero, List.drop_succ_cons, Bool.and_true, Bool.true_and, Bool.and_false, Bool.false_and, BitVec.reduceOfInt, Nat.zero_add, Nat.mul_one, Nat.add_zero, Int.zero_add, Int.reduceToNat, Nat.reducePow, ↓reduceIte, reduceCtorEq, Int.reduceLE, Int.reduceLT, Int.reduceEq, Int.reduceNe, Int.reduceAdd, Int.reduceSub, Int.reduceMul, Int.reduceNeg, Nat.reduceBEq, show regOf Try.f49 0 = Code.region _ _ _ from rfl, show regOf Try.f49 1 = Code.region _ _ _ from rfl, show regOf Try.f49 3 = Code.region _ _ _ from rfl, nilE33, aelems_emp, appT_nil0]
  unfold doCall
  have : splitNil md 49 [.slc false []] = some ([.val (.slice none 0 0)], [.emp]) := rfl
  rw [this]
  dsimp only
  rw [e1, e2]
  unfold bothK
  dsimp only
  rw [if_pos rfl]
theorem clone_some (h : AHeap) (t : Tm) (r : List Tm) (hl : r.length ≤ 100000) : doCall md (aval Try.prog md fg) 49 [.slc false ((t :: r).map tmV)] h = some (.arr h.length 0 (t :: r).length 0 5, h ++ [.arr 5 ((t :: r).map tmV) 0]) := by
  have e : aval Try.prog md fg 49 [.slc false ((t :: r).map tmV)] h = some (.arr h.length 0 (t :: r).length 0 5, h ++ [.arr 5 ((t :: r).map tmV) 0]) := by
    have ha : ∀ z, appT (some (5, 72, z)) h (.slc true []) (some ((t :: r).map tmV)) = some (.arr h.length 0 (t :: r).length 0 5, h ++ [.arr 5 ((t :: r).map tmV) 0]) := fun z => by
      rw [appT_slc _ _ _ _ _ (headOk_tm (t :: r)) rfl (by simp) (by simp; omega)]
      simp
    rw [List.map_cons] at ha ⊢
    rw [aval_of Try.func49 body49 Try.results49 Try.ntmps49 ok49]
    simp (implicitDefEqProofs := false) (disch := omega) only [go_sem, Nat.reduceAdd, Nat.reduceSub, Nat.reduceMul, Nat.reduceLT, Nat.reduceLeDiff, Nat.reduceEqDiff, List.drop_zero, List.take_succ_cons, List.take_zero, List.drop_succ_cons, Bool.and_true, Bool.true_and, Bool.and_false, Bool.false_and, BitVec.reduceOfInt, Nat.zero_add, Nat.mul_one, Nat.add_zero, Int.zero_add, Int.reduceToNat, Nat.reducePow, ↓reduceIte, reduceCtorEq, Int.reduceLE, Int.reduceLT, Int.reduceEq, Int.reduceNe, Int.reduceAdd, Int.reduceSub, Int.reduceMul, Int.reduceNeg, Nat.reduceBEq, show regOf Try.f49 0 = Code.region _ _ _ from rfl, show regOf Try.f49 1 = Code.region _ _ _ from rfl, show regOf Try.f49 3 = Code.region _ _ _ from rfl, nilC33, ha]
  have hs : splitNil md 49 [.slc false ((t :: r).map tmV)] = none := rfl
  unfold doCall
  rw [hs]
  dsimp only
  unfold doCall0
  rw [if_neg (by decide)]
  have : rated (md 49) (aval Try.prog md fg 49 [.slc false ((t :: r).map tmV)] h) = aval Try.prog md fg 49 [.slc false ((t :: r).map tmV)] h := rfl
  rw [this, e]
  dsimp only
  rw [if_neg]
  simp [below]
/-- What a type is, expanded. -/
def EXs (P : MapS Al) (t u : Tm) : Prop := ∀ h : AHeap, Tb h P → doCall md (aval Try.prog md fg) 38 [.ptr 4 0, tmV t] h = some (tmV u, h)
set_option maxHeartbeats 8000000 in
theorem ex_ali {P : MapS Al} {m s : Nm} {n : Int} {ty u : Tm} (hm : mg P m = some ⟨s, [], ty⟩) (hz : tsz ty ≤ 100000) (hE : EXs P ty u) : EXs P ⟨2, [], m, n, []⟩ u := by
  intro h hT
  have ca := fun j => alias_c (tb_app hT j) ⟨2, [], m, n, []⟩
  unfold alT at ca
  change ∀ j, _ = some (AV.tup [((mg P m).map alV).getD zA, AV.bool (decide ((2 : Int) = 2 ∧ ([] : Nm) = []) && (mg P m).isSome)], _) at ca
  rw [hm, decide_eq_true (show (2 : Int) = 2 ∧ ([] : Nm) = [] from ⟨rfl, rfl⟩)] at ca
  have cE := fun j => hE (h ++ j) (tb_app hT j)
  have cS : ∀ h, doCall md (aval Try.prog md fg) 48 [tmV ty, .slc false [], .slc false []] h = some (tmV ty, h) := fun h => by
    have := PS_all [] (by simp) ty hz
    unfold PS at this
    rw [sub_nil] at this
    exact doCall_pure md48 (by simp only [solidL, solid, solid_tm, Bool.not_false, Bool.and_true]) this
  have hs := solid_tm u
  obtain ⟨k2, p2, m2, n2, l2⟩ := ty
  obtain ⟨k3, p3, m3, n3, l3⟩ := u
  simp only [Option.map_some, Option.getD_some, Option.isSome_some, Bool.and_self, alV_mk, tmV_mk, List.map_nil] at ca cE cS
  have e : ∃ j, aval Try.prog md fg 38 [.ptr 4 0, tmV ⟨2, [], m, n, []⟩] h = some (tmV ⟨k3, p3, m3, n3, l3⟩, h ++ j) := by
    rw [tmV_mk, tmV_mk, List.map_nil]
    refine ⟨[.vars [.int 2, .str (txt []), .str (txt m), .int n, .slc false []], .vars [.int k3, .str (txt p3), .str (txt m3), .int n3, .slc false (l3.map tmV)], .vars [sV s, .slc false [], .int k2, .str (txt p2), .str (txt m2), .int n2, .slc false (l2.map tmV)]], ?_⟩
    rw [aval_of Try.func38 body38 Try.results38 Try.ntmps38 ok38]
    simp (implicitDefEqProofs := false) (disch := first | omega | exact List.length_set) only [go_sem, Nat.reduceAdd, Nat.reduceSub, Nat.reduceMul, Nat.reduceLT, Nat.reduceLeDiff, Nat.reduceEqDiff, List.drop_zero, List.take_succ_cons, List.take_zero, List.drop_succ_cons, Bool.and_true, Bool.true_and, Bool.and_false, Bool.false_and, BitVec.reduceOfInt, Nat.zero_add, Nat.mul_one, Nat.add_zero, Int.zero_add, Int.reduceToNat, Nat.reducePow, ↓reduceIte, reduceCtorEq, Int.reduceLE, Int.reduceLT, Int.reduceEq, Int.reduceNe, Int.reduceAdd, Int.reduceSub, Int.reduceMul, Int.reduceNeg, Nat.reduceBEq, show regOf Try.f38 0 = Code.region _ _ _ from rfl, show regOf Try.f38 1 = Code.region _ _ _ from rfl, show regOf Try.f38 2 = Code.region _ _ _ from rfl, show regOf Try.f38 3 = Code.region _ _ _ from rfl, ca, cE, cS, hget_last, set_last, Option.map_some, List.append_assoc, List.cons_append, List.nil_append, List.length_append, List.length_cons, List.length_nil, sb_get0, sb_get1, sb_get2, sb_set0, sb_set1, sb_set2, aresults, tupOf]
  obtain ⟨j, e⟩ := e
  exact doCall_rated2 md38 e (List.take_left' rfl) (exp1_solid hs) rfl (by intro i hi; cases hi) hs
end Go.Proofs.Ytgijlgdhogbgbaa
namespace Go.Proofs.Ytgijlgdhogbgbaa
open Go Go.Ab Go.Proofs
set_option maxRecDepth 100000
set_option linter.unusedSimpArgs false
set_option linter.unusedVariables false
set_option maxHeartbeats 8000000 in
theorem ex_loop {P : MapS Al} (k : Int) (p m : Nm) (n : Int) (ks us : List Tm) (hks : ks.length ≤ 100000) (hlen : ks.length = us.length) (hE : ∀ (i : Nat) (t u : Tm), ks[i]? = some t → us[i]? = some u → EXs P t u) (h : AHeap) (hT : Tb h P) (n0 : Nat) (hn0 : h.length = n0) : ∀ (r : List Tm) (i : Nat) (H : AHeap), ks.drop i = r → i ≤ ks.length → H.take n0 = h → n0 + 3 < H.length → hget H n0 = .vars [.int k, .str (txt p), .str (txt m), .int n, .slc false (ks.map tmV)] → hget H (n0 + 1) = .vars [.int 0, .str ⟨#[]⟩, .str ⟨#[]⟩, .int 0, .slc true []] → hget H (n0 + 3) = .arr 5 ((us.take i).map tmV ++ r.map tmV) 0 → ∃ H',
    lrun Try.prog md fg (fg 38) (loopOf Try.f38 0) (fg 38 1) (((.ptr 4 0) :: .unk :: .unk :: (.ptr n0 0) :: (.ptr (n0 + 1) 0) :: .unk :: .unk :: (.arr (n0 + 3) 0 ks.length 0 5) :: .unk :: .unk :: .unk :: .unk :: .unk :: .unk :: .unk :: .unk :: .unk :: .unk :: .unk :: .unk :: .unk :: .unk :: .unk :: .unk :: .unk :: .unk :: .unk :: .unk :: .unk :: (.arr (n0 + 3) 0 ks.length 0 5) :: (.int ks.length) :: (.int i) :: .unk :: .unk :: .unk :: .unk :: .unk :: .unk :: .unk :: .unk :: .unk :: .unk :: .unk :: .unk :: .unk :: .unk :: [] : List AV)) H = some (.exit 0, ((.ptr 4 0) :: .unk :: .unk :: (.ptr n0 0) :: (.ptr (n0 + 1) 0) :: .unk :: .unk :: (.arr (n0 + 3) 0 ks.length 0 5) :: .unk :: .unk :: .unk :: .unk :: .unk :: .unk :: .unk :: .unk :: .unk :: .unk :: .unk :: .unk :: .unk :: .unk :: .unk :: .unk :: .unk :: .unk :: .unk :: .unk :: .unk :: (.arr (n0 + 3) 0 ks.length 0 5) :: (.int ks.length) :: (.int ks.length) :: .unk :: .unk :: .unk :: .unk :: .unk :: .unk :: .unk :: .unk :: .unk :: .unk :: .unk :: .unk :: .unk :: .unk :: [] : List AV), H') ∧ H'.take n0 = h ∧ n0 + 3 < H'.length ∧ hget H' n0 = .vars [.int k, .str (txt p), .str (txt m), .int n, .slc false (ks.map tmV)] ∧ hget H' (n0 + 1) = .vars [.int 0, .str ⟨#[]⟩, .str ⟨#[]⟩, .int 0, .slc true []] ∧ hget H' (n0 + 3) = .arr 5 (us.map tmV) 0
  | [], i, H, hdr, hi, hH, hHl, g0, g1, g3 => by
    have : i = ks.length := by have := congrArg List.length hdr; simp at this; omega
    subst this
    rw [hlen, List.take_length, List.map_nil, List.append_nil] at g3
    refine ⟨H, ?_, hH, hHl, g0, g1, g3⟩
    rw [lrun_atC loop38_0]
    simp (implicitDefEqProofs := false) (disch := omega) only [go_sem, Nat.reduceAdd, Nat.reduceSub, Nat.reduceMul, Nat.reduceLT, Nat.reduceLeDiff, Nat.reduceEqDiff, List.drop_zero, List.take_succ_cons, List.take_zero, List.drop_succ_cons, Bool.and_true, Bool.true_and, Bool.and_false, Bool.false_and, BitVec.reduceOfInt, Nat.zero_add, Nat.mul_one, Nat.add_zero, Int.zero_add, Int.reduceToNat, Nat.reducePow, ↓reduceIte, reduceCtorEq, Int.reduceLE, Int.reduceLT, Int.reduceEq, Int.reduceNe, Int.reduceAdd, Int.reduceSub, Int.reduceMul, Int.reduceNeg, Nat.reduceBEq, show regOf Try.f38 6 = Code.region _ _ _ from rfl]
  | ⟨k2, p2, m2, n2, l2⟩ :: r, i, H, hdr, hi, hH, hHl, g0, g1, g3 => by
    have hx : ks[i]? = some ⟨k2, p2, m2, n2, l2⟩ := by have := congrArg (·[0]?) hdr; simpa using this
    have hlt : i < ks.length := (List.getElem?_eq_some_iff.1 hx).1
    have hd' : ks.drop (i + 1) = r := by rw [← List.tail_drop, hdr]; rfl
    have ht : ((i : Int)).toNat = i := by omega
    obtain ⟨u, hu⟩ : ∃ u, us[i]? = some u := ⟨us[i], List.getElem?_eq_getElem (by omega)⟩
    have hHj : H = h ++ H.drop n0 := by conv => lhs; rw [← List.take_append_drop n0 H, hH]
    have hTH : ∀ j, Tb (H ++ j) P := fun j => by rw [hHj]; exact tb_app (tb_app hT _) j
    have cE := hE i _ u hx hu (H ++ [.vars [.int k2, .str (txt p2), .str (txt m2), .int n2, .slc false (l2.map tmV)]]) (hTH _)
    rw [List.map_cons, tmV_mk] at g3
    have hA : ((us.take i).map tmV).length = i := by rw [List.length_map, List.length_take]; omega
    have hgt := mid_get ((us.take i).map tmV) (.agg [.int k2, .str (txt p2), .str (txt m2), .int n2, .slc false (l2.map tmV)]) (r.map tmV) hA
    have hnx : (us.take i).map tmV ++ tmV u :: r.map tmV = (us.take (i + 1)).map tmV ++ r.map tmV := by
      rw [List.take_add_one, hu]; simp
    have q0 := fun l => (hget_app (h := H) l (hlt_of g0 (by simp))).trans g0
    have q1 := fun l => (hget_app (h := H) l (hlt_of g1 (by simp))).trans g1
    have q3 := fun l => (hget_app (h := H) l (hlt_of g3 (by simp))).trans g3
    obtain ⟨H3, e3, y0, y1, y2, y3, y4⟩ := ex_loop k p m n ks us hks hlen hE h hT n0 hn0 r (i + 1) ((H ++ [AObj.vars [.int k2, .str (txt p2), .str (txt m2), .int n2, .slc false (l2.map tmV)]]).set (n0 + 3) (.arr 5 ((us.take (i + 1)).map tmV ++ r.map tmV) 0)) hd' (by omega) (by rw [take_set_ge _ (by omega), List.take_append_of_le_length (by omega), hH]) (by simp; omega) (by rw [hget_set_ne (by omega)]; exact q0 _) (by rw [hget_set_ne (by omega)]; exact q1 _) (hget_set_eq (by simp; omega))
    refine ⟨H3, ?_, y0, y1, y2, y3, y4⟩
    rw [← e3, ← hnx]
    obtain ⟨k3, p3, m3, n3, l3⟩ := u
    rw [tmV_mk, tmV_mk] at cE
    rw [tmV_mk]
    rw [lrun_atC loop38_0]
    simp (implicitDefEqProofs := false) (disch := first | omega | exact List.length_set) only [go_sem, Nat.reduceAdd, Nat.reduceSub, Nat.reduceMul, Nat.reduceLT, Nat.reduceLeDiff, Nat.reduceEqDiff, List.drop_zero, List.take_succ_cons, List.take_zero, List.drop_succ_cons, Bool.and_true, Bool.true_and, Bool.and_false, Bool.false_and, BitVec.reduceOfInt, Nat.zero_add, Nat.mul_one, Nat.add_zero, Int.zero_add, Int.reduceToNat, Nat.reducePow, ↓reduceIte, reduceCtorEq, Int.reduceLE, Int.reduceLT, Int.reduceEq, Int.reduceNe, Int.reduceAdd, Int.reduceSub, Int.reduceMul, Int.reduceNeg, Nat.reduceBEq, show regOf Try.f38 6 = Code.region _ _ _ from rfl, show regOf Try.f38 7 = Code.region _ _ _ from rfl, show regOf Try.f38 8 = Code.region _ _ _ from rfl, show regOf Try.f38 9 = Code.region _ _ _ from rfl, List.length_map, ht, hgt, Option.map_some, hget_last, set_last, g3, q3, cE, septr_mid (hA := hA)]
    all_goals (congr 1 <;> simp only [List.cons.injEq, AV.val.injEq, Value.int.injEq, Value.bool.injEq, true_and, and_true] <;> omega)
theorem exp_agg5 {H : AHeap} {v : AV} {us : List Tm} {ids : List Nat} (a b c d : Value) (hn : solid v = false) (e : exp1 H 59 v = some (.slc false (us.map tmV), ids)) : exp1 H expDepth (.agg [.val a, .val b, .val c, .val d, v]) = some (.agg [.val a, .val b, .val c, .val d, .slc false (us.map tmV)], ids) := by
  have hb : ∀ a : Value, exp1 H (58 + 1) (.val a) = some (.val a, []) := fun a => rfl
  show exp1 H (58 + 1 + 1) _ = _
  rw [exp1]
  have e : exp1 H (58 + 1) v = some (.slc false (us.map tmV), ids) := e
  simp only [solid, solidL, hn, Bool.false_and, Bool.and_false, Bool.true_and, if_false, Bool.false_eq_true, expL, hb, e, List.nil_append, List.append_nil, Option.map_some]
set_option maxHeartbeats 8000000 in
theorem ex_node {P : MapS Al} (k : Int) (p m : Nm) (n : Int) (ks us : List Tm) (hks : ks.length ≤ 100000) (hna : ¬ ((k = 2 ∧ p = []) ∧ ∃ a, mg P m = some a)) (hlen : ks.length = us.length) (hE : ∀ (i : Nat) (t u : Tm), ks[i]? = some t → us[i]? = some u → EXs P t u) : EXs P ⟨k, p, m, n, ks⟩ ⟨k, p, m, n, us⟩ := by
  intro h hT
  have ca := fun j => alias_c (tb_app hT j) ⟨k, p, m, n, ks⟩
  unfold alT at ca
  change ∀ j, _ = some (AV.tup [((mg P m).map alV).getD zA, AV.bool (decide (k = 2 ∧ p = []) && (mg P m).isSome)], _) at ca
  have hb : (decide (k = 2 ∧ p = []) && (mg P m).isSome) = false := by
    cases hm : mg P m with
    | none => simp
    | some a => rw [decide_eq_false (fun h => hna ⟨h, a, hm⟩)]; rfl
  rw [hb] at ca
  have hv : ∃ c0 c1 c2 c3 c4 c5 c6, ((mg P m).map alV).getD zA = .agg [c0, c1, c2, c3, c4, c5, c6] := by
    cases mg P m with
    | none => exact ⟨_, _, _, _, _, _, _, rfl⟩
    | some a => exact ⟨_, _, _, _, _, _, _, rfl⟩
  obtain ⟨c0, c1, c2, c3, c4, c5, c6, hv⟩ := hv
  rw [hv] at ca
  rw [tmV_mk] at ca
  have hs := solid_tm ⟨k, p, m, n, us⟩
  rw [tmV_mk] at hs
  cases ks with
  | nil =>
    have : us = [] := List.length_eq_zero_iff.1 (by simpa using hlen.symm)
    subst this
    have e : ∃ j, aval Try.prog md fg 38 [.ptr 4 0, tmV ⟨k, p, m, n, []⟩] h = some (.agg [.int k, .str (txt p), .str (txt m), .int n, .slc true []], h ++ j) := by
      rw [tmV_mk]
      rw [List.map_nil] at ca ⊢
      refine ⟨[.vars [.int k, .str (txt p), .str (txt m), .int n, .slc true []], .vars [.int k, .str (txt p), .str (txt m), .int n, .slc true []], .vars [c0, c1, c2, c3, c4, c5, c6]], ?_⟩
      have z0 : lrun Try.prog md fg (fg 38) (loopOf Try.f38 0) (fg 38 1) (((.ptr 4 0) :: .unk :: .unk :: (.ptr h.length 0) :: (.ptr (h.length + 1) 0) :: .unk :: .unk :: (.slc true []) :: .unk :: .unk :: .unk :: .unk :: .unk :: .unk :: .unk :: .unk :: .unk :: .unk :: .unk :: .unk :: .unk :: .unk :: .unk :: .unk :: .unk :: .unk :: .unk :: .unk :: .unk :: (.slc true []) :: (.int 0) :: (.int 0) :: .unk :: .unk :: .unk :: .unk :: .unk :: .unk :: .unk :: .unk :: .unk :: .unk :: .unk :: .unk :: .unk :: .unk :: [] : List AV)) (h ++ [.vars [.int k, .str (txt p), .str (txt m), .int n, .slc false []], .vars [.int 0, .str ⟨#[]⟩, .str ⟨#[]⟩, .int 0, .slc true []], .vars [c0, c1, c2, c3, c4, c5, c6]]) = some (.exit 0, ((.ptr 4 0) :: .unk :: .unk :: (.ptr h.length 0) :: (.ptr (h.length + 1) 0) :: .unk :: .unk :: (.slc true []) :: .unk :: .unk :: .unk :: .unk :: .unk :: .unk :: .unk :: .unk :: .unk :: .unk :: .unk :: .unk :: .unk :: .unk :: .unk :: .unk :: .unk :: .unk :: .unk :: .unk :: .unk :: (.slc true []) :: (.int 0) :: (.int 0) :: .unk :: .unk :: .unk :: .unk :: .unk :: .unk :: .unk :: .unk :: .unk :: .unk :: .unk :: .unk :: .unk :: .unk :: [] : List AV), (h ++ [.vars [.int k, .str (txt p), .str (txt m), .int n, .slc false []], .vars [.int 0, .str ⟨#[]⟩, .str ⟨#[]⟩, .int 0, .slc true []], .vars [c0, c1, c2, c3, c4, c5, c6]])) := by
        rw [lrun_atC loop38_0]
        simp (implicitDefEqProofs := false) (disch := omega) only [go_sem, Nat.reduceAdd, Nat.reduceSub, Nat.reduceMul, Nat.reduceLT, Nat.reduceLeDiff, Nat.reduceEqDiff, List.drop_zero, List.take_succ_cons, List.take_zero, List.drop_succ_cons, Bool.and_true, Bool.true_and, Bool.and_false, Bool.false_and, BitVec.reduceOfInt, Nat.zero_add, Nat.mul_one, Nat.add_zero, Int.zero_add, Int.reduceToNat, Nat.reducePow, ↓reduceIte, reduceCtorEq, Int.reduceLE, Int.reduceLT, Int.reduceEq, Int.reduceNe, Int.reduceAdd, Int.reduceSub, Int.reduceMul, Int.reduceNeg, Nat.reduceBEq, show regOf Try.f38 6 = Code.region _ _ _ from rfl]
      rw [aval_of Try.func38 body38 Try.results38 Try.ntmps38 ok38]
      simp (implicitDefEqProofs := false) (disch := first | omega | exact List.length_set) only [go_sem, Nat.reduceAdd, Nat.reduceSub, Nat.reduceMul, Nat.reduceLT, Nat.reduceLeDiff, Nat.reduceEqDiff, List.drop_zero, List.take_succ_cons, List.take_zero, List.drop_succ_cons, Bool.and_true, Bool.true_and, Bool.and_false, Bool.false_and, BitVec.reduceOfInt, Nat.zero_add, Nat.mul_one, Nat.add_zero, Int.zero_add, Int.reduceToNat, Nat.reducePow, ↓reduceIte, reduceCtorEq, Int.reduceLE, Int.reduceLT, Int.reduceEq, Int.reduceNe, Int.reduceAdd, Int.reduceSub, Int.reduceMul, Int.reduceNeg, Nat.reduceBEq, show regOf Try.f38 0 = Code.region _ _ _ from rfl, show regOf Try.f38 1 = Code.region _ _ _ from rfl, show regOf Try.f38 2 = Code.region _ _ _ from rfl, show regOf Try.f38 4 = Code.region _ _ _ from rfl, show regOf Try.f38 5 = Code.region _ _ _ from rfl, show regOf Try.f38 10 = Code.region _ _ _ from rfl, show regOf Try.f38 11 = Code.region _ _ _ from rfl, ca, clone_nil, z0, hget_last, set_last, Option.map_some, List.append_assoc, List.cons_append, List.nil_append, List.length_append, List.length_cons, List.length_nil, Int.natCast_zero, sb_get0, sb_get1, sb_get2, sb_set0, sb_set1, sb_set2, aresults, tupOf]
    obtain ⟨j, e⟩ := e
    rw [show tmV ⟨k, p, m, n, []⟩ = _ from tmV_mk k p m n []]
    rw [tmV_mk] at e
    exact doCall_rated2 md38 e (List.take_left' rfl) (exp_agg5 (us := []) _ _ _ _ rfl rfl) rfl (by intro i hi; cases hi) hs
  | cons t r =>
    obtain ⟨H2, e2, y0, y1, y2, y3, y4⟩ := ex_loop k p m n (t :: r) us hks hlen hE h hT h.length rfl (t :: r) 0 (h ++ [.vars [.int k, .str (txt p), .str (txt m), .int n, .slc false ((t :: r).map tmV)], .vars [.int 0, .str ⟨#[]⟩, .str ⟨#[]⟩, .int 0, .slc true []], .vars [c0, c1, c2, c3, c4, c5, c6], .arr 5 ((t :: r).map tmV) 0]) (by simp) (by omega) (List.take_left' rfl) (by simp) (sb_get0 _ _ rfl) (sb_get1 _ _ _ rfl) (by rw [sb_get3 _ _ _ _ _ rfl]; simp)
    simp only [Int.natCast_zero] at e2
    have hl0 : h.length < H2.length := by omega
    have hl1 : h.length + 1 < H2.length := by omega
    have cc := fun h => clone_some h t r (by simp only [List.length_cons] at hks; omega)
    generalize hks' : t :: r = ks at *
    have z0 : hget (H2.set h.length (.vars [.int k, .str (txt p), .str (txt m), .int n, .arr (h.length + 3) 0 ks.length 0 5])) h.length = .vars [.int k, .str (txt p), .str (txt m), .int n, .arr (h.length + 3) 0 ks.length 0 5] := hget_set_eq hl0
    have z1 : hget (H2.set h.length (.vars [.int k, .str (txt p), .str (txt m), .int n, .arr (h.length + 3) 0 ks.length 0 5])) (h.length + 1) = _ := (hget_set_ne (by omega)).trans y3
    have z2 : hget ((H2.set h.length (.vars [.int k, .str (txt p), .str (txt m), .int n, .arr (h.length + 3) 0 ks.length 0 5])).set (h.length + 1) (.vars [.int k, .str (txt p), .str (txt m), .int n, .arr (h.length + 3) 0 ks.length 0 5])) (h.length + 1) = .vars [.int k, .str (txt p), .str (txt m), .int n, .arr (h.length + 3) 0 ks.length 0 5] := hget_set_eq (by simp; omega)
    have e : aval Try.prog md fg 38 [.ptr 4 0, tmV ⟨k, p, m, n, ks⟩] h = some (.agg [.int k, .str (txt p), .str (txt m), .int n, .arr (h.length + 3) 0 ks.length 0 5], (H2.set h.length (.vars [.int k, .str (txt p), .str (txt m), .int n, .arr (h.length + 3) 0 ks.length 0 5])).set (h.length + 1) (.vars [.int k, .str (txt p), .str (txt m), .int n, .arr (h.length + 3) 0 ks.length 0 5])) := by
      rw [tmV_mk]
      rw [aval_of Try.func38 body38 Try.results38 Try.ntmps38 ok38]
      simp (implicitDefEqProofs := false) (disch := first | omega | exact List.length_set) only [go_sem, Nat.reduceAdd, Nat.reduceSub, Nat.reduceMul, Nat.reduceLT, Nat.reduceLeDiff, Nat.reduceEqDiff, List.drop_zero, List.take_succ_cons, List.take_zero, List.drop_succ_cons, Bool.and_true, Bool.true_and, Bool.and_false, Bool.false_and, BitVec.reduceOfInt, Nat.zero_add, Nat.mul_one, Nat.add_zero, Int.zero_add, Int.reduceToNat, Nat.reducePow, ↓reduceIte, reduceCtorEq, Int.reduceLE, Int.reduceLT, Int.reduceEq, Int.reduceNe, Int.reduceAdd, Int.reduceSub, Int.reduceMul, Int.reduceNeg, Nat.reduceBEq, show regOf Try.f38 0 = Code.region _ _ _ from rfl, show regOf Try.f38 1 = Code.region _ _ _ from rfl, show regOf Try.f38 2 = Code.region _ _ _ from rfl, show regOf Try.f38 4 = Code.region _ _ _ from rfl, show regOf Try.f38 5 = Code.region _ _ _ from rfl, show regOf Try.f38 10 = Code.region _ _ _ from rfl, show regOf Try.f38 11 = Code.region _ _ _ from rfl, ca, cc, hget_last, set_last, Option.map_some, List.append_assoc, List.cons_append, List.nil_append, List.length_append, List.length_cons, List.length_nil, sb_get0, sb_get1, sb_get2, sb_set0, sb_set1, sb_set2, e2, y2, y3, z0, z1, z2, aresults, tupOf]
    have hg3 : hget ((H2.set h.length (.vars [.int k, .str (txt p), .str (txt m), .int n, .arr (h.length + 3) 0 ks.length 0 5])).set (h.length + 1) (.vars [.int k, .str (txt p), .str (txt m), .int n, .arr (h.length + 3) 0 ks.length 0 5])) (h.length + 3) = .arr 5 (us.map tmV) 0 := by
      rw [hget_set_ne (by omega), hget_set_ne (by omega)]; exact y4
    have hx := arr_exp hg3 (solid_tmL us) 58
    rw [List.length_map, ← hlen] at hx
    rw [show tmV ⟨k, p, m, n, us⟩ = _ from tmV_mk k p m n us]
    exact doCall_rated2 md38 e (by rw [take_set_ge _ (by omega), take_set_ge _ (Nat.le_refl _)]; exact y0) (exp_agg5 _ _ _ _ rfl hx) (by simp [canFrz, hg3]) (by intro i hi; rw [List.mem_singleton.1 hi]; omega) hs
end Go.Proofs.Ytgijlgdhogbgbaa
namespace Go.Proofs.Ytgijlgdhogbgbaa
open Go Go.Ab Go.Proofs
set_option maxRecDepth 100000
set_option linter.unusedSimpArgs false
set_option linter.unusedVariables false
def cap (x : Int) : Int := if x < 1001 then x else 1001
theorem cap_le (x : Int) : cap x ≤ 1001 := by unfold cap; split <;> omega
theorem cap_nn {x : Int} (h : 0 ≤ x) : 0 ≤ cap x := by unfold cap; split <;> omega
theorem plus_p (a b : Int) (ha : 0 ≤ a ∧ a ≤ 1001) (hb : 0 ≤ b ∧ b ≤ 1001) : pcall Try.prog md fg 47 [.int a, .int b] = some (.int (cap (a + b))) := by
  have e : ∃ h, aval Try.prog md fg 47 [.int a, .int b] [] = some (.int (cap (a + b)), h) := by
    unfold cap
    rw [aval_of Try.func47 body47 Try.results47 Try.ntmps47 ok47]
    simp (implicitDefEqProofs := false) (disch := omega) only [go_sem, Nat.reduceAdd, Nat.reduceSub, Nat.reduceMul, Nat.reduceLT, Nat.reduceLeDiff, Nat.reduceEqDiff, List.drop_zero, List.take_succ_cons, List.take_zero, List.drop_succ_cons, Bool.and_true, Bool.true_and, Bool.and_false, Bool.false_and, BitVec.reduceOfInt, Nat.zero_add, Nat.mul_one, Nat.add_zero, Int.zero_add, Int.reduceToNat, Nat.reducePow, ↓reduceIte, reduceCtorEq, Int.reduceLE, Int.reduceLT, Int.reduceEq, Int.reduceNe, Int.reduceAdd, Int.reduceSub, Int.reduceMul, Int.reduceNeg, Nat.reduceBEq, show regOf Try.f47 0 = Code.region _ _ _ from rfl, show regOf Try.f47 1 = Code.region _ _ _ from rfl]
    exact ⟨_, rfl⟩
  obtain ⟨h, e⟩ := e
  rw [pcall_eq, e, pureRes_solid rfl]
theorem times_p (a : Int) (ha : 0 ≤ a ∧ a ≤ 1001) : pcall Try.prog md fg 53 [.int a, .int 1] = some (.int (cap a)) := by
  have e : ∃ h, aval Try.prog md fg 53 [.int a, .int 1] [] = some (.int (cap a), h) := by
    unfold cap
    rw [aval_of Try.func53 body53 Try.results53 Try.ntmps53 ok53]
    simp (implicitDefEqProofs := false) (disch := omega) only [go_sem, Nat.reduceAdd, Nat.reduceSub, Nat.reduceMul, Nat.reduceLT, Nat.reduceLeDiff, Nat.reduceEqDiff, List.drop_zero, List.take_succ_cons, List.take_zero, List.drop_succ_cons, Bool.and_true, Bool.true_and, Bool.and_false, Bool.false_and, BitVec.reduceOfInt, Nat.zero_add, Nat.mul_one, Nat.add_zero, Int.zero_add, Int.reduceToNat, Nat.reducePow, ↓reduceIte, reduceCtorEq, Int.reduceLE, Int.reduceLT, Int.reduceEq, Int.reduceNe, Int.reduceAdd, Int.reduceSub, Int.reduceMul, Int.reduceNeg, Nat.reduceBEq, show regOf Try.f53 0 = Code.region _ _ _ from rfl, show regOf Try.f53 1 = Code.region _ _ _ from rfl, Int.mul_one]
    exact ⟨_, rfl⟩
  obtain ⟨h, e⟩ := e
  rw [pcall_eq, e, pureRes_solid rfl]
theorem plus_c (a b : Int) (ha : 0 ≤ a ∧ a ≤ 1001) (hb : 0 ≤ b ∧ b ≤ 1001) (h : AHeap) : doCall md (aval Try.prog md fg) 47 [.int a, .int b] h = some (.int (cap (a + b)), h) := doCall_pure md47 rfl (plus_p a b ha hb)
theorem times_c (a : Int) (ha : 0 ≤ a ∧ a ≤ 1001) (h : AHeap) : doCall md (aval Try.prog md fg) 53 [.int a, .int 1] h = some (.int (cap a), h) := doCall_pure md53 rfl (times_p a ha)
theorem isMapT93' : isMapT Try.prog 93 = true := isMapT_93
theorem aop_range0 {P : Program} {env : Env} {h : AHeap} {d : Option Tmp} {ty : TypeId} {pos : String} {aft : Array Edge} {g : Option (Nat × Bool)} (t : TypeId) (x : Operand) : aop P env h ⟨d, .range t x, ty, pos, aft, g⟩ = ato2 (arange P t h (oval env x)) := rfl
theorem aop_next0 {P : Program} {env : Env} {h : AHeap} {d : Option Tmp} {ty : TypeId} {pos : String} {aft : Array Edge} {g : Option (Nat × Bool)} (x : Operand) : aop P env h ⟨d, .next x false, ty, pos, aft, g⟩ = ato2 (anext h (oval env x)) := rfl
/-- A walk over a map with nothing in it. -/
theorem range_mt {h : AHeap} {m : Nat} (hm : hget h m = .map [] 0) : arange Try.prog 93 h (.mp m) = some (.ptr h.length 0, h ++ [.iter (some m) 0 [] 0]) := by
  unfold arange
  rw [if_pos isMapT_93]
  dsimp only
  rw [hm]
theorem next_mt {h : AHeap} {m i : Nat} (hi : hget h i = .iter (some m) 0 [] 0) (hm : hget h m = .map [] 0) : anext h (.ptr i 0) = some (.tup [.bool false], h) := by
  simp only [anext, hi, hm]
  rfl
theorem eff47 (d : Option Tmp) : (md 47 == 1 || md 47 == 3 || decide (100 ≤ md 47) && d == some (md 47 - 100)) = false := rfl
theorem eff53 (d : Option Tmp) : (md 53 == 1 || md 53 == 3 || decide (100 ≤ md 53) && d == some (md 53 - 100)) = false := rfl
theorem add_loop {h : AHeap} {m i sid : Nat} (hi : hget h i = .iter (some m) 0 [] 0) (hm : hget h m = .map [] 0) :
    lrun Try.prog md fg (fg 50) (loopOf Try.f50 0) (fg 50 1) (((.ptr sid 0) :: .unk :: (.int 1) :: .unk :: .unk :: .unk :: .unk :: .unk :: .unk :: .unk :: .unk :: .unk :: .unk :: .unk :: .unk :: .unk :: .unk :: .unk :: .unk :: .unk :: .unk :: .unk :: (.ptr i 0) :: .unk :: .unk :: .unk :: .unk :: .unk :: .unk :: .unk :: .unk :: .unk :: .unk :: .unk :: .unk :: .unk :: .unk :: .unk :: .unk :: .unk :: .unk :: .unk :: .unk :: [] : List AV)) h = some (.exit 0, ((.ptr sid 0) :: .unk :: (.int 1) :: .unk :: .unk :: .unk :: .unk :: .unk :: .unk :: .unk :: .unk :: .unk :: .unk :: .unk :: .unk :: .unk :: .unk :: .unk :: .unk :: .unk :: .unk :: .unk :: (.ptr i 0) :: .unk :: .unk :: .unk :: .unk :: .unk :: .unk :: .unk :: .unk :: .unk :: .unk :: .unk :: .unk :: .unk :: .unk :: .unk :: .unk :: .unk :: .unk :: .unk :: .unk :: [] : List AV), h) := by
  have hn := next_mt hi hm
  rw [lrun_atC loop50_0]
  simp (implicitDefEqProofs := false) (disch := omega) only [go_sem, Nat.reduceAdd, Nat.reduceSub, Nat.reduceMul, Nat.reduceLT, Nat.reduceLeDiff, Nat.reduceEqDiff, List.drop_zero, List.take_succ_cons, List.take_zero, List.drop_succ_cons, Bool.and_true, Bool.true_and, Bool.and_false, Bool.false_and, BitVec.reduceOfInt, Nat.zero_add, Nat.mul_one, Nat.add_zero, Int.zero_add, Int.reduceToNat, Nat.reducePow, ↓reduceIte, reduceCtorEq, Int.reduceLE, Int.reduceLT, Int.reduceEq, Int.reduceNe, Int.reduceAdd, Int.reduceSub, Int.reduceMul, Int.reduceNeg, Nat.reduceBEq, show regOf Try.f50 3 = Code.region _ _ _ from rfl, aop_next0, hn, List.getElem?_cons_zero]
set_option maxHeartbeats 4000000 in
theorem add_c {h : AHeap} {sid m ms : Nat} {c w : Int} (hs : hget h sid = .vars [.int c, .mp ms]) (hm : hget h m = .map [] 0) (hms : ms < h.length) (hc : 0 ≤ c ∧ c ≤ 1001) (hw : 0 ≤ w ∧ w ≤ 1001) :
    doCall md (aval Try.prog md fg) 50 [.ptr sid 0, .agg [.int w, .mp m], .int 1] h = some (.tup [], h.set sid (.vars [.int (cap (c + cap w)), .mp ms])) := by
  have hsl := hlt_of hs (by simp)
  have hml := hlt_of hm (by simp)
  have hne : ¬ sid = m := by rintro rfl; rw [hs] at hm; cases hm
  have e : aval Try.prog md fg 50 [.ptr sid 0, .agg [.int w, .mp m], .int 1] h = some (.tup [], h.set sid (.vars [.int (cap (c + cap w)), .mp ms]) ++ [.vars [.int w, .mp m], .iter (some m) 0 [] 0]) := by
    have g1 : ∀ l, hget (h ++ l) sid = .vars [.int c, .mp ms] := fun l => by rw [hget_app l hsl]; exact hs
    have ct := times_c w hw
    have cp := plus_c c (cap w) hc ⟨cap_nn hw.1, cap_le w⟩
    generalize cap (c + cap w) = z at *
    generalize cap w = y at *
    have hset : (h ++ [AObj.vars [.int w, .mp m]]).set sid (.vars [.int z, .mp ms]) = h.set sid (.vars [.int z, .mp ms]) ++ [.vars [.int w, .mp m]] := List.set_append_left _ _ hsl
    have hl : (h.set sid (.vars [.int z, .mp ms])).length = h.length := List.length_set
    have gm : ∀ l, hget (h.set sid (.vars [.int z, .mp ms]) ++ l) m = .map [] 0 := fun l => by rw [hget_app l (by rw [hl]; exact hml), hget_set_ne hne]; exact hm
    have gb : hget (h.set sid (.vars [.int z, .mp ms]) ++ [.vars [.int w, .mp m]]) h.length = .vars [.int w, .mp m] := sb_get0 _ _ hl
    have hr := range_mt (gm [.vars [.int w, .mp m]])
    rw [List.append_assoc] at hr
    simp only [List.length_append, List.length_cons, List.length_nil, hl, List.cons_append, List.nil_append, Nat.zero_add] at hr
    have hlo := add_loop (sid := sid) (h := h.set sid (.vars [.int z, .mp ms]) ++ [.vars [.int w, .mp m], .iter (some m) 0 [] 0]) (i := h.length + 1) (sb_get1 _ _ _ hl) (gm _)
    rw [aval_of Try.func50 body50 Try.results50 Try.ntmps50 ok50]
    simp (implicitDefEqProofs := false) (disch := first | omega | exact List.length_set) only [go_sem, Nat.reduceAdd, Nat.reduceSub, Nat.reduceMul, Nat.reduceLT, Nat.reduceLeDiff, Nat.reduceEqDiff, List.drop_zero, List.take_succ_cons, List.take_zero, List.drop_succ_cons, Bool.and_true, Bool.true_and, Bool.and_false, Bool.false_and, BitVec.reduceOfInt, Nat.zero_add, Nat.mul_one, Nat.add_zero, Int.zero_add, Int.reduceToNat, Nat.reducePow, ↓reduceIte, reduceCtorEq, Int.reduceLE, Int.reduceLT, Int.reduceEq, Int.reduceNe, Int.reduceAdd, Int.reduceSub, Int.reduceMul, Int.reduceNeg, Nat.reduceBEq, show regOf Try.f50 0 = Code.region _ _ _ from rfl, show regOf Try.f50 1 = Code.region _ _ _ from rfl, show regOf Try.f50 2 = Code.region _ _ _ from rfl, cells_mp, okVal_mp, g1, hget_last, ct, cp, eff47, eff53, hset, gb, aop_range0, hr, hlo, ↓tail_nil, ↓subs_nil_all, ↓List.forall_mem_cons, ↓all_nil, Bool.true_or, killAt_nil, thenDraw_store]
  have hl : (h.set sid (.vars [.int (cap (c + cap w)), .mp ms])).length = h.length := List.length_set
  have := doCall_ref (by decide) (by decide) (by decide) e rfl (fun i hi => by
    by_cases hsi : sid = i
    · subst hsi
      right
      rw [hget_app _ (by rw [hl]; exact hi), hget_set_eq hi]
      simp [belowO, belowL, below, hms]
    · left
      rw [List.getElem?_append_left (by rw [hl]; exact hi), List.getElem?_set_ne hsi])
  rw [this, List.take_left' hl]
end Go.Proofs.Ytgijlgdhogbgbaa
namespace Go.Proofs.Ytgijlgdhogbgbaa
open Go Go.Ab Go.Proofs
set_option maxRecDepth 100000
set_option linter.unusedSimpArgs false
set_option linter.unusedVariables false
theorem sb_get4 {h : AHeap} {n : Nat} (A B C D E : AObj) (l : AHeap) (hn : h.length = n) : hget (h ++ A :: B :: C :: D :: E :: l) (n + 4) = E := by
  subst hn; unfold hget; rw [List.getD_eq_getElem?_getD, List.getElem?_append_right (by omega), show h.length + 4 - h.length = 4 by omega]; rfl
theorem sb_set4 {h : AHeap} {n : Nat} (A B C D E F : AObj) (l : AHeap) (hn : h.length = n) : (h ++ A :: B :: C :: D :: E :: l).set (n + 4) F = h ++ A :: B :: C :: D :: F :: l := by
  subst hn; rw [List.set_append_right _ _ (by omega), show h.length + 4 - h.length = 4 by omega]; rfl
def szV (v : Int × Nat) : AV := .agg [.int v.1, .mp v.2]
/-- The table, and the sizes that were noted. -/
def STt (P : MapS Al) (α : Nm → Int) (h : AHeap) : Prop := Tb h P ∧ ∃ S : MapS (Int × Nat), hget h 3 = .map (encM szV S.1) S.2 ∧ ∀ k v, mg S k = some v → hget h v.2 = .map [] 0 ∧ v.1 = α k
/-- All but the sizes stays. -/
def Kx (h H : AHeap) : Prop := h.length ≤ H.length ∧ ∀ j, j < h.length → j ≠ 3 → hget H j = hget h j
theorem Kx.refl (h : AHeap) : Kx h h := ⟨Nat.le_refl _, fun _ _ _ => rfl⟩
theorem Kx.trans {a b c : AHeap} (x : Kx a b) (y : Kx b c) : Kx a c := ⟨Nat.le_trans x.1 y.1, fun j hj h3 => (y.2 j (Nat.lt_of_lt_of_le hj x.1) h3).trans (x.2 j hj h3)⟩
theorem kx_app (h l : AHeap) : Kx h (h ++ l) := ⟨by simp, fun j hj _ => hget_app l hj⟩
theorem kx_set {h H : AHeap} (k : Kx h H) {i : Nat} (o : AObj) (hi : h.length ≤ i) : Kx h (H.set i o) := ⟨by rw [List.length_set]; exact k.1, fun j hj h3 => by rw [hget_set_ne (by omega)]; exact k.2 j hj h3⟩
theorem kx_more {h H : AHeap} (k : Kx h H) (l : AHeap) : Kx h (H ++ l) := k.trans (kx_app H l)
theorem st_app {P : MapS Al} {α : Nm → Int} {h : AHeap} (s : STt P α h) (l : AHeap) : STt P α (h ++ l) := by
  obtain ⟨hT, S, h3, hS⟩ := s
  refine ⟨tb_app hT l, S, by rw [hget_app l (hlt_of h3 (by simp))]; exact h3, fun k v e => ?_⟩
  obtain ⟨a, b⟩ := hS k v e
  exact ⟨by rw [hget_app l (hlt_of a (by simp))]; exact a, b⟩
theorem tb_set {P : MapS Al} {h : AHeap} (hT : Tb h P) {i : Nat} {cs : List AV} {o : AObj} (hi : hget h i = .vars cs) (h4 : i ≠ 4) : Tb (h.set i o) P := by
  obtain ⟨a, nv, b, c⟩ := hT
  refine ⟨?_, nv, ?_, ?_⟩
  · rw [hget_set_ne (by rintro rfl; rw [hi] at a; cases a)]; exact a
  · rw [hget_set_ne h4]; exact b
  · rcases c with c | ⟨k, g, c1, c2⟩
    · exact .inl c
    · exact .inr ⟨k, g, c1, by rw [hget_set_ne (by rintro rfl; rw [hi] at c2; cases c2)]; exact c2⟩
theorem stt_set {P : MapS Al} {α : Nm → Int} {h : AHeap} (s : STt P α h) {i : Nat} {cs : List AV} {o : AObj} (hi : hget h i = .vars cs) (h4 : i ≠ 4) : STt P α (h.set i o) := by
  obtain ⟨hT, S, h3, hS⟩ := s
  refine ⟨tb_set hT hi h4, S, ?_, fun k v e => ?_⟩
  · rw [hget_set_ne (by rintro rfl; rw [hi] at h3; cases h3)]; exact h3
  · obtain ⟨a, b⟩ := hS k v e
    refine ⟨?_, b⟩
    rw [hget_set_ne (by intro hh; rw [hh, a] at hi; cases hi)]; exact a
theorem st_len {P : MapS Al} {α : Nm → Int} {h : AHeap} (s : STt P α h) : 4 < h.length := by
  obtain ⟨⟨_, nv, b, _⟩, _⟩ := s
  exact hlt_of b (by simp)
/-- How much a type is. -/
def WG (P : MapS Al) (α : Nm → Int) (t : Tm) (w : Int) : Prop := (0 ≤ w ∧ w ≤ 1001) ∧ ∀ h, STt P α h → ∃ m H, doCall md (aval Try.prog md fg) 46 [.ptr 4 0, tmV t] h = some (.agg [.int w, .mp m], H) ∧ STt P α H ∧ hget H m = .map [] 0 ∧ Kx h H ∧ h.length ≤ m
def SO (P : MapS Al) (α : Nm → Int) (a : Al) : Prop := (0 ≤ α a.nm ∧ α a.nm ≤ 1001) ∧ ∀ h, STt P α h → ∃ m H, doCall md (aval Try.prog md fg) 51 [.ptr 4 0, alV a] h = some (.agg [.int (α a.nm), .mp m], H) ∧ STt P α H ∧ hget H m = .map [] 0 ∧ Kx h H
def csum : Int → List Int → Int
  | c, [] => c
  | c, w :: r => csum (cap (c + cap w)) r
theorem csum_b : ∀ (l : List Int) (c : Int), 0 ≤ c → c ≤ 1001 → (∀ w ∈ l, 0 ≤ w) → 0 ≤ csum c l ∧ csum c l ≤ 1001
  | [], c, h0, h1, _ => ⟨h0, h1⟩
  | w :: r, c, h0, h1, hw => csum_b r _ (cap_nn (by have := cap_nn (hw w (by simp)); omega)) (cap_le _) (fun x hx => hw x (by simp [hx]))
set_option maxHeartbeats 8000000 in
theorem wg_loop {P : MapS Al} {α : Nm → Int} (ks : List Tm) (hks : ks.length ≤ 100000) (h : AHeap) (n0 : Nat) (hn0 : h.length = n0) (hn5 : 4 < n0) : ∀ (r : List Tm) (ws : List Int) (i : Nat) (H : AHeap) (c : Int), ks.drop i = r → i ≤ ks.length → r.length = ws.length → (∀ (j : Nat) (t : Tm) (w : Int), r[j]? = some t → ws[j]? = some w → WG P α t w) → 0 ≤ c ∧ c ≤ 1001 → STt P α H → Kx h H → hget H (n0 + 1) = .vars [.int 0, .val (.map none)] → hget H (n0 + 2) = .map [] 0 → hget H (n0 + 3) = .vars [.int c, .mp (n0 + 2)] → n0 + 4 < H.length → ∃ H',
    lrun Try.prog md fg (fg 46) (loopOf Try.f46 0) (fg 46 1) (((.ptr 4 0) :: .unk :: .unk :: .unk :: (.ptr (n0 + 1) 0) :: (.ptr (n0 + 3) 0) :: .unk :: .unk :: .unk :: .unk :: .unk :: .unk :: .unk :: .unk :: .unk :: .unk :: .unk :: .unk :: .unk :: .unk :: .unk :: .unk :: .unk :: .unk :: .unk :: .unk :: .unk :: .unk :: .unk :: .unk :: .unk :: .unk :: .unk :: (.slc false (ks.map tmV)) :: (.int ks.length) :: (.int i) :: .unk :: .unk :: .unk :: .unk :: .unk :: .unk :: .unk :: .unk :: .unk :: .unk :: .unk :: .unk :: .unk :: .unk :: .unk :: .unk :: .unk :: .unk :: .unk :: .unk :: .unk :: .unk :: .unk :: .unk :: .unk :: .unk :: .unk :: .unk :: .unk :: .unk :: .unk :: .unk :: .unk :: .unk :: .unk :: .unk :: .unk :: .unk :: .unk :: .unk :: .unk :: .unk :: .unk :: .unk :: .unk :: .unk :: .unk :: .unk :: .unk :: .unk :: .unk :: [] : List AV)) H = some (.exit 0, ((.ptr 4 0) :: .unk :: .unk :: .unk :: (.ptr (n0 + 1) 0) :: (.ptr (n0 + 3) 0) :: .unk :: .unk :: .unk :: .unk :: .unk :: .unk :: .unk :: .unk :: .unk :: .unk :: .unk :: .unk :: .unk :: .unk :: .unk :: .unk :: .unk :: .unk :: .unk :: .unk :: .unk :: .unk :: .unk :: .unk :: .unk :: .unk :: .unk :: (.slc false (ks.map tmV)) :: (.int ks.length) :: (.int ks.length) :: .unk :: .unk :: .unk :: .unk :: .unk :: .unk :: .unk :: .unk :: .unk :: .unk :: .unk :: .unk :: .unk :: .unk :: .unk :: .unk :: .unk :: .unk :: .unk :: .unk :: .unk :: .unk :: .unk :: .unk :: .unk :: .unk :: .unk :: .unk :: .unk :: .unk :: .unk :: .unk :: .unk :: .unk :: .unk :: .unk :: .unk :: .unk :: .unk :: .unk :: .unk :: .unk :: .unk :: .unk :: .unk :: .unk :: .unk :: .unk :: .unk :: .unk :: .unk :: [] : List AV), H') ∧ STt P α H' ∧ Kx h H' ∧ hget H' (n0 + 1) = .vars [.int 0, .val (.map none)] ∧ hget H' (n0 + 2) = .map [] 0 ∧ hget H' (n0 + 3) = .vars [.int (csum c ws), .mp (n0 + 2)] ∧ n0 + 4 < H'.length
  | [], ws, i, H, c, hdr, hi, hl, hw, hc, hS, hK, g1, g2, g3, hH => by
    have : i = ks.length := by have := congrArg List.length hdr; simp at this; omega
    subst this
    have : ws = [] := List.length_eq_zero_iff.1 (by simpa using hl.symm)
    subst this
    refine ⟨H, ?_, hS, hK, g1, g2, g3, hH⟩
    rw [lrun_atC loop46_0]
    simp (implicitDefEqProofs := false) (disch := omega) only [go_sem, Nat.reduceAdd, Nat.reduceSub, Nat.reduceMul, Nat.reduceLT, Nat.reduceLeDiff, Nat.reduceEqDiff, List.drop_zero, List.take_succ_cons, List.take_zero, List.drop_succ_cons, Bool.and_true, Bool.true_and, Bool.and_false, Bool.false_and, BitVec.reduceOfInt, Nat.zero_add, Nat.mul_one, Nat.add_zero, Int.zero_add, Int.reduceToNat, Nat.reducePow, ↓reduceIte, reduceCtorEq, Int.reduceLE, Int.reduceLT, Int.reduceEq, Int.reduceNe, Int.reduceAdd, Int.reduceSub, Int.reduceMul, Int.reduceNeg, Nat.reduceBEq, show regOf Try.f46 7 = Code.region _ _ _ from rfl]
  | ⟨k2, p2, m2, n2, l2⟩ :: r, ws, i, H, c, hdr, hi, hl, hw, hc, hS, hK, g1, g2, g3, hH => by
    have hx : ks[i]? = some ⟨k2, p2, m2, n2, l2⟩ := by have := congrArg (·[0]?) hdr; simpa using this
    have hlt : i < ks.length := (List.getElem?_eq_some_iff.1 hx).1
    have hd' : ks.drop (i + 1) = r := by rw [← List.tail_drop, hdr]; rfl
    have ht : ((i : Int)).toNat = i := by omega
    cases ws with
    | nil => simp at hl
    | cons w ws =>
      obtain ⟨wb, wg⟩ := hw 0 _ w rfl rfl
      obtain ⟨m, H2, c46, s2, gm, k2x, hml⟩ := wg (H ++ [.vars [.int k2, .str (txt p2), .str (txt m2), .int n2, .slc false (l2.map tmV)]]) (st_app hS _)
      rw [tmV_mk] at c46
      have q : ∀ j o, j ≠ 3 → hget H j = o → o ≠ .dead → hget H2 j = o := fun j o h3 e hd => by
        have hj := hlt_of e hd
        rw [k2x.2 j (by simp; omega) h3, hget_app _ hj, e]
      have q1 := q _ _ (by omega) g1 (by simp)
      have q2 := q _ _ (by omega) g2 (by simp)
      have q3 := q _ _ (by omega) g3 (by simp)
      have hH2 : n0 + 4 < H2.length := by have := k2x.1; simp at this; omega
      have c50 := add_c q3 gm (by omega) hc wb
      have kH2 : Kx h H2 := (hK.trans (kx_app H _)).trans k2x
      obtain ⟨H', e, y1, y2, y3, y4, y5, y6⟩ := wg_loop ks hks h n0 hn0 hn5 r ws (i + 1) (H2.set (n0 + 3) (.vars [.int (cap (c + cap w)), .mp (n0 + 2)])) (cap (c + cap w)) hd' (by omega) (by simpa using hl) (fun j t w h1 h2 => hw (j + 1) t w (by simpa using h1) (by simpa using h2)) ⟨cap_nn (by have := cap_nn wb.1; omega), cap_le _⟩ (stt_set s2 q3 (by omega)) (kx_set kH2 _ (by omega)) (by rw [hget_set_ne (by omega)]; exact q1) (by rw [hget_set_ne (by omega)]; exact q2) (hget_set_eq (by omega)) (by rw [List.length_set]; exact hH2)
      refine ⟨H', ?_, y1, y2, y3, y4, by rw [csum]; exact y5, y6⟩
      rw [← e]
      rw [lrun_atC loop46_0]
      simp (implicitDefEqProofs := false) (disch := first | omega | exact List.length_set) only [go_sem, Nat.reduceAdd, Nat.reduceSub, Nat.reduceMul, Nat.reduceLT, Nat.reduceLeDiff, Nat.reduceEqDiff, List.drop_zero, List.take_succ_cons, List.take_zero, List.drop_succ_cons, Bool.and_true, Bool.true_and, Bool.and_false, Bool.false_and, BitVec.reduceOfInt, Nat.zero_add, Nat.mul_one, Nat.add_zero, Int.zero_add, Int.reduceToNat, Nat.reducePow, ↓reduceIte, reduceCtorEq, Int.reduceLE, Int.reduceLT, Int.reduceEq, Int.reduceNe, Int.reduceAdd, Int.reduceSub, Int.reduceMul, Int.reduceNeg, Nat.reduceBEq, show regOf Try.f46 7 = Code.region _ _ _ from rfl, show regOf Try.f46 8 = Code.region _ _ _ from rfl, show regOf Try.f46 9 = Code.region _ _ _ from rfl, show regOf Try.f46 10 = Code.region _ _ _ from rfl, List.length_map, List.getElem?_map, ht, hx, Option.map_some, tmV_mk, hget_last, set_last, c46, c50]
      all_goals (congr 1 <;> simp only [List.cons.injEq, AV.val.injEq, Value.int.injEq, Value.bool.injEq, true_and, and_true] <;> omega)
set_option maxHeartbeats 8000000 in
theorem wg_node {P : MapS Al} {α : Nm → Int} (k : Int) (p m : Nm) (n : Int) (ks : List Tm) (ws : List Int) (hk1 : k ≠ 1) (hks : ks.length ≤ 100000) (hna : ¬ ((k = 2 ∧ p = []) ∧ ∃ a, mg P m = some a)) (hl : ks.length = ws.length) (hw : ∀ (j : Nat) (t : Tm) (w : Int), ks[j]? = some t → ws[j]? = some w → WG P α t w) : WG P α ⟨k, p, m, n, ks⟩ (csum 1 ws) := by
  refine ⟨csum_b ws 1 (by omega) (by omega) (fun w hw' => ?_), fun h hS => ?_⟩
  · obtain ⟨j, hj⟩ := List.mem_iff_getElem?.1 hw'
    have hjl := (List.getElem?_eq_some_iff.1 hj).1
    exact (hw j ks[j] w (List.getElem?_eq_getElem (by omega)) hj).1.1
  have h4 := st_len hS
  have ca := fun j => alias_c (tb_app hS.1 j) ⟨k, p, m, n, ks⟩
  unfold alT at ca
  change ∀ j, _ = some (AV.tup [((mg P m).map alV).getD zA, AV.bool (decide (k = 2 ∧ p = []) && (mg P m).isSome)], _) at ca
  have hb : (decide (k = 2 ∧ p = []) && (mg P m).isSome) = false := by
    cases hm : mg P m with
    | none => simp
    | some a => rw [decide_eq_false (fun h => hna ⟨h, a, hm⟩)]; rfl
  rw [hb] at ca
  have hv : ∃ c0 c1 c2 c3 c4 c5 c6, ((mg P m).map alV).getD zA = .agg [c0, c1, c2, c3, c4, c5, c6] := by
    cases mg P m with
    | none => exact ⟨_, _, _, _, _, _, _, rfl⟩
    | some a => exact ⟨_, _, _, _, _, _, _, rfl⟩
  obtain ⟨c0, c1, c2, c3, c4, c5, c6, hv⟩ := hv
  rw [hv, tmV_mk] at ca
  obtain ⟨H', e, y1, y2, y3, y4, y5, y6⟩ := wg_loop ks hks h h.length rfl h4 ks ws 0 (h ++ [.vars [.int k, .str (txt p), .str (txt m), .int n, .slc false (ks.map tmV)], .vars [.int 0, .val (.map none)], .map [] 0, .vars [.int 1, .mp (h.length + 2)], .vars [c0, c1, c2, c3, c4, c5, c6]]) 1 (by simp) (by omega) hl hw (by omega) (st_app hS _) (kx_app h _) (sb_get1 _ _ _ rfl) (sb_get2 _ _ _ _ rfl) (sb_get3 _ _ _ _ _ rfl) (by simp)
  simp only [Int.natCast_zero] at e
  have z1 : hget (H'.set (h.length + 1) (.vars [.int (csum 1 ws), .mp (h.length + 2)])) (h.length + 1) = .vars [.int (csum 1 ws), .mp (h.length + 2)] := hget_set_eq (by omega)
  have e46 : aval Try.prog md fg 46 [.ptr 4 0, tmV ⟨k, p, m, n, ks⟩] h = some (.agg [.int (csum 1 ws), .mp (h.length + 2)], H'.set (h.length + 1) (.vars [.int (csum 1 ws), .mp (h.length + 2)])) := by
    rw [tmV_mk]
    generalize csum 1 ws = z at *
    rw [aval_of Try.func46 body46 Try.results46 Try.ntmps46 ok46]
    simp (implicitDefEqProofs := false) (disch := first | omega | exact List.length_set) only [go_sem, Nat.reduceAdd, Nat.reduceSub, Nat.reduceMul, Nat.reduceLT, Nat.reduceLeDiff, Nat.reduceEqDiff, List.drop_zero, List.take_succ_cons, List.take_zero, List.drop_succ_cons, Bool.and_true, Bool.true_and, Bool.and_false, Bool.false_and, BitVec.reduceOfInt, Nat.zero_add, Nat.mul_one, Nat.add_zero, Int.zero_add, Int.reduceToNat, Nat.reducePow, ↓reduceIte, reduceCtorEq, Int.reduceLE, Int.reduceLT, Int.reduceEq, Int.reduceNe, Int.reduceAdd, Int.reduceSub, Int.reduceMul, Int.reduceNeg, Nat.reduceBEq, show regOf Try.f46 0 = Code.region _ _ _ from rfl, show regOf Try.f46 1 = Code.region _ _ _ from rfl, show regOf Try.f46 2 = Code.region _ _ _ from rfl, show regOf Try.f46 4 = Code.region _ _ _ from rfl, show regOf Try.f46 5 = Code.region _ _ _ from rfl, show regOf Try.f46 6 = Code.region _ _ _ from rfl, show regOf Try.f46 11 = Code.region _ _ _ from rfl, aop_makeMap0, isMapT_93, cells_mp, okVal_mp, fits_mp1, hk1, ca, hget_last, set_last, Option.map_some, List.append_assoc, List.cons_append, List.nil_append, List.length_append, List.length_cons, List.length_nil, List.length_map, sb_get0, sb_get1, sb_get2, sb_get3, sb_get4, sb_set0, sb_set1, sb_set2, sb_set3, sb_set4, e, y3, y5, z1, aresults, tupOf]
  refine ⟨h.length + 2, _, doCall_keep (by decide) (by decide) (by decide) e46 (by simp [below, belowL]), stt_set y1 y3 (by omega), ?_, kx_set y2 _ (by omega), by omega⟩
  rw [hget_set_ne (by omega)]; exact y4
end Go.Proofs.Ytgijlgdhogbgbaa
namespace Go.Proofs.Ytgijlgdhogbgbaa
open Go Go.Ab Go.Proofs
set_option maxRecDepth 100000
set_option linter.unusedSimpArgs false
set_option linter.unusedVariables false
theorem w2_loop {h : AHeap} {m i a b c : Nat} (hi : hget h i = .iter (some m) 0 [] 0) (hm : hget h m = .map [] 0) :
    lrun Try.prog md fg (fg 46) (loopOf Try.f46 2) (fg 46 3) (((.ptr 4 0) :: .unk :: .unk :: (.ptr a 0) :: (.ptr b 0) :: (.ptr c 0) :: (.ptr (a + 4) 0) :: .unk :: .unk :: .unk :: .unk :: .unk :: .unk :: .unk :: .unk :: .unk :: .unk :: .unk :: .unk :: .unk :: .unk :: .unk :: .unk :: .unk :: .unk :: .unk :: .unk :: .unk :: .unk :: .unk :: .unk :: .unk :: .unk :: .unk :: .unk :: .unk :: .unk :: .unk :: .unk :: .unk :: .unk :: .unk :: .unk :: .unk :: .unk :: .unk :: .unk :: .unk :: .unk :: .unk :: .unk :: .unk :: .unk :: (.ptr i 0) :: .unk :: .unk :: .unk :: .unk :: .unk :: .unk :: .unk :: .unk :: .unk :: .unk :: .unk :: .unk :: .unk :: .unk :: .unk :: .unk :: .unk :: .unk :: .unk :: .unk :: .unk :: .unk :: .unk :: .unk :: .unk :: .unk :: .unk :: .unk :: .unk :: .unk :: .unk :: .unk :: .unk :: [] : List AV)) h = some (.exit 2, ((.ptr 4 0) :: .unk :: .unk :: (.ptr a 0) :: (.ptr b 0) :: (.ptr c 0) :: (.ptr (a + 4) 0) :: .unk :: .unk :: .unk :: .unk :: .unk :: .unk :: .unk :: .unk :: .unk :: .unk :: .unk :: .unk :: .unk :: .unk :: .unk :: .unk :: .unk :: .unk :: .unk :: .unk :: .unk :: .unk :: .unk :: .unk :: .unk :: .unk :: .unk :: .unk :: .unk :: .unk :: .unk :: .unk :: .unk :: .unk :: .unk :: .unk :: .unk :: .unk :: .unk :: .unk :: .unk :: .unk :: .unk :: .unk :: .unk :: .unk :: (.ptr i 0) :: .unk :: .unk :: .unk :: .unk :: .unk :: .unk :: .unk :: .unk :: .unk :: .unk :: .unk :: .unk :: .unk :: .unk :: .unk :: .unk :: .unk :: .unk :: .unk :: .unk :: .unk :: .unk :: .unk :: .unk :: .unk :: .unk :: .unk :: .unk :: .unk :: .unk :: .unk :: .unk :: .unk :: [] : List AV), h) := by
  have hn := next_mt hi hm
  rw [lrun_atC loop46_2]
  simp (implicitDefEqProofs := false) (disch := omega) only [go_sem, Nat.reduceAdd, Nat.reduceSub, Nat.reduceMul, Nat.reduceLT, Nat.reduceLeDiff, Nat.reduceEqDiff, List.drop_zero, List.take_succ_cons, List.take_zero, List.drop_succ_cons, Bool.and_true, Bool.true_and, Bool.and_false, Bool.false_and, BitVec.reduceOfInt, Nat.zero_add, Nat.mul_one, Nat.add_zero, Int.zero_add, Int.reduceToNat, Nat.reducePow, ↓reduceIte, reduceCtorEq, Int.reduceLE, Int.reduceLT, Int.reduceEq, Int.reduceNe, Int.reduceAdd, Int.reduceSub, Int.reduceMul, Int.reduceNeg, Nat.reduceBEq, show regOf Try.f46 15 = Code.region _ _ _ from rfl, aop_next0, hn, List.getElem?_cons_zero]
set_option maxHeartbeats 8000000 in
theorem wg_ali {P : MapS Al} {α : Nm → Int} (m : Nm) (n : Int) (ks : List Tm) (a : Al) (ha : mg P m = some a) (hS : SO P α a) : WG P α ⟨2, [], m, n, ks⟩ (α a.nm) := by
  refine ⟨hS.1, fun h hs => ?_⟩
  have h4 := st_len hs
  have ca := fun j => alias_c (tb_app hs.1 j) ⟨2, [], m, n, ks⟩
  unfold alT at ca
  change ∀ j, _ = some (AV.tup [((mg P m).map alV).getD zA, AV.bool (decide ((2 : Int) = 2 ∧ ([] : Nm) = []) && (mg P m).isSome)], _) at ca
  rw [ha, decide_eq_true (show (2 : Int) = 2 ∧ ([] : Nm) = [] from ⟨rfl, rfl⟩)] at ca
  obtain ⟨w0, hso⟩ := hS
  obtain ⟨s, ps, k2, p2, m2, n2, l2⟩ := a
  dsimp only at w0 hso ⊢
  simp only [Option.map_some, Option.getD_some, Option.isSome_some, Bool.and_self, alV_mk, tmV_mk] at ca hso
  obtain ⟨M, H2, c51, s2, gM, k2x⟩ := hso (h ++ [.vars [.int 2, .str (txt []), .str (txt m), .int n, .slc false (ks.map tmV)], .vars [.int 0, .val (.map none)], .map [] 0, .vars [.int 1, .mp (h.length + 2)], .vars [sV s, .slc false (ps.map sV), .int k2, .str (txt p2), .str (txt m2), .int n2, .slc false (l2.map tmV)]]) (st_app hs _)
  have hl2 : h.length + 4 < H2.length := by have := k2x.1; simp at this; omega
  have q1 : hget H2 (h.length + 1) = .vars [.int 0, .val (.map none)] := by rw [k2x.2 _ (by simp) (by omega)]; exact sb_get1 _ _ _ rfl
  have q2 : hget H2 (h.length + 2) = .map [] 0 := by rw [k2x.2 _ (by simp) (by omega)]; exact sb_get2 _ _ _ _ rfl
  have q3 : hget H2 (h.length + 3) = .vars [.int 1, .mp (h.length + 2)] := by rw [k2x.2 _ (by simp) (by omega)]; exact sb_get3 _ _ _ _ _ rfl
  generalize α s = w at *
  have gMl := hlt_of gM (by simp)
  have hM3 : ¬ h.length + 3 = M := by intro e; rw [← e, q3] at gM; cases gM
  have hM1 : ¬ h.length + 1 = M := by intro e; rw [← e, q1] at gM; cases gM
  -- the heaps, one behind the other
  have r3 : hget (H2 ++ [.vars [.int w, .mp M]]) (h.length + 3) = .vars [.int 1, .mp (h.length + 2)] := by rw [hget_app _ (by omega)]; exact q3
  generalize hHb : (H2 ++ [AObj.vars [.int w, .mp M]]).set (h.length + 3) (.vars [.int w, .mp (h.length + 2)]) = Hb at *
  have lb : Hb.length = H2.length + 1 := by rw [← hHb]; simp
  have b0 : hget Hb H2.length = .vars [.int w, .mp M] := by rw [← hHb, hget_set_ne (by omega), hget_last]
  have bM : hget Hb M = .map [] 0 := by rw [← hHb, hget_set_ne hM3, hget_app _ gMl]; exact gM
  have b1 : hget Hb (h.length + 1) = .vars [.int 0, .val (.map none)] := by rw [← hHb, hget_set_ne (by omega), hget_app _ (by omega)]; exact q1
  have b2 : hget Hb (h.length + 2) = .map [] 0 := by rw [← hHb, hget_set_ne (by omega), hget_app _ (by omega)]; exact q2
  have b3 : hget Hb (h.length + 3) = .vars [.int w, .mp (h.length + 2)] := by rw [← hHb]; exact hget_set_eq (by simp; omega)
  have sb : STt P α Hb := by rw [← hHb]; exact stt_set (st_app s2 _) r3 (by omega)
  have kb : Kx h Hb := by rw [← hHb]; exact kx_set (kx_more ((kx_app h _).trans k2x) _) _ (by omega)
  have hr := range_mt bM
  have c0 := fun j => hget_app (h := Hb) j (i := h.length + 1) (by omega)
  have hcM : hget (Hb ++ [AObj.iter (some M) 0 [] 0]) M = .map [] 0 := by rw [hget_app _ (by omega)]; exact bM
  have hc3 : hget (Hb ++ [AObj.iter (some M) 0 [] 0]) (h.length + 3) = .vars [.int w, .mp (h.length + 2)] := by rw [hget_app _ (by omega)]; exact b3
  have hc1 : hget (Hb ++ [AObj.iter (some M) 0 [] 0]) (h.length + 1) = .vars [.int 0, .val (.map none)] := by rw [hget_app _ (by omega)]; exact b1
  have hlo := w2_loop (a := h.length) (b := h.length + 1) (c := h.length + 3) (h := Hb ++ [AObj.iter (some M) 0 [] 0]) (i := Hb.length) hget_last hcM
  have hd1 : hget ((Hb ++ [AObj.iter (some M) 0 [] 0]).set (h.length + 1) (.vars [.int w, .mp (h.length + 2)])) (h.length + 1) = .vars [.int w, .mp (h.length + 2)] := hget_set_eq (by simp; omega)
  have e46 : aval Try.prog md fg 46 [.ptr 4 0, tmV ⟨2, [], m, n, ks⟩] h = some (.agg [.int w, .mp (h.length + 2)], (Hb ++ [AObj.iter (some M) 0 [] 0]).set (h.length + 1) (.vars [.int w, .mp (h.length + 2)])) := by
    rw [tmV_mk]
    rw [aval_of Try.func46 body46 Try.results46 Try.ntmps46 ok46]
    simp (implicitDefEqProofs := false) (disch := first | omega | exact List.length_set) only [go_sem, Nat.reduceAdd, Nat.reduceSub, Nat.reduceMul, Nat.reduceLT, Nat.reduceLeDiff, Nat.reduceEqDiff, List.drop_zero, List.take_succ_cons, List.take_zero, List.drop_succ_cons, Bool.and_true, Bool.true_and, Bool.and_false, Bool.false_and, BitVec.reduceOfInt, Nat.zero_add, Nat.mul_one, Nat.add_zero, Int.zero_add, Int.reduceToNat, Nat.reducePow, ↓reduceIte, reduceCtorEq, Int.reduceLE, Int.reduceLT, Int.reduceEq, Int.reduceNe, Int.reduceAdd, Int.reduceSub, Int.reduceMul, Int.reduceNeg, Nat.reduceBEq, show regOf Try.f46 0 = Code.region _ _ _ from rfl, show regOf Try.f46 1 = Code.region _ _ _ from rfl, show regOf Try.f46 2 = Code.region _ _ _ from rfl, show regOf Try.f46 4 = Code.region _ _ _ from rfl, show regOf Try.f46 5 = Code.region _ _ _ from rfl, show regOf Try.f46 12 = Code.region _ _ _ from rfl, show regOf Try.f46 13 = Code.region _ _ _ from rfl, show regOf Try.f46 14 = Code.region _ _ _ from rfl, show regOf Try.f46 21 = Code.region _ _ _ from rfl, aop_makeMap0, isMapT_93, cells_mp, okVal_mp, fits_mp1, ca, hget_last, set_last, Option.map_some, List.append_assoc, List.cons_append, List.nil_append, List.length_append, List.length_cons, List.length_nil, List.length_map, sb_get0, sb_get1, sb_get2, sb_get3, sb_get4, sb_set0, sb_set1, sb_set2, sb_set3, sb_set4, c51, r3, hHb, b0, aop_range0, hr, hlo, hc3, hc1, hd1, aresults, tupOf]
  refine ⟨h.length + 2, _, doCall_keep (by decide) (by decide) (by decide) e46 (by simp [below, belowL]), stt_set (st_app sb _) hc1 (by omega), ?_, kx_set (kx_more kb _) _ (by omega), by omega⟩
  rw [hget_set_ne (by omega), hget_app _ (by omega)]; exact b2
end Go.Proofs.Ytgijlgdhogbgbaa
