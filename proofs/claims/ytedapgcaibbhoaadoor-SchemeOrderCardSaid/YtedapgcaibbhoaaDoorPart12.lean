/- Parts of the proof, each with its own heading: The variables of a type. The variables of a type, by the program. Vars of one type. Match. The document's Subst. The document's Subst: done. Values are the same as themselves. What a match is: both ways find the same. What a match is: what both find. What the law's loop gathers; a call that hands arrays away. -/
import Derived.Test.YtedapgcaibbhoaaDoorPart11
set_option linter.unusedSimpArgs false
set_option linter.unusedVariables false
namespace Go.Proofs.YtedapgcaibbhoaaDoor
open Go Go.Ab Go.Proofs
set_option maxRecDepth 100000
set_option linter.unusedSimpArgs false
set_option linter.unusedVariables false
theorem set_same {h : AHeap} {i : Nat} {o : AObj} (ho : hget h i = o) (hi : i < h.length) : h.set i o = h := by
  apply List.ext_getElem?
  intro j
  by_cases hij : i = j
  · subst hij
    rw [List.getElem?_set_self hi, List.getElem?_eq_getElem hi]
    unfold hget at ho
    rw [List.getD_eq_getElem?_getD, List.getElem?_eq_getElem hi] at ho
    simpa using ho.symm
  · rw [List.getElem?_set_ne hij]
/-- A list of names in a variable. -/
def WN (h : AHeap) (id : Nat) (l : List (List UInt8)) : Prop :=
  id < h.length ∧ ((hget h id = .vars [.slc true []] ∧ l = []) ∨ ∃ k g, k < h.length ∧ k ≠ id ∧ hget h id = .vars [.arr k 0 l.length g 1] ∧ hget h k = .arr 1 (l.map sV) g)
/-- Variables elsewhere stay. -/
def Fr (id : Nat) (h h' : AHeap) : Prop := h.length ≤ h'.length ∧ ∀ j cs, j ≠ id → hget h j = .vars cs → hget h' j = .vars cs
theorem Fr.refl (id : Nat) (h : AHeap) : Fr id h h := ⟨Nat.le_refl _, fun _ _ _ e => e⟩
theorem Fr.trans {id : Nat} {a b c : AHeap} (x : Fr id a b) (y : Fr id b c) : Fr id a c := ⟨Nat.le_trans x.1 y.1, fun j cs hj e => y.2 j cs hj (x.2 j cs hj e)⟩
theorem fr_app (id : Nat) (h l : AHeap) : Fr id h (h ++ l) := ⟨by simp, fun j cs _ e => by rw [hget_app l (hlt_of e (by simp))]; exact e⟩
theorem wn_app (h l0 : AHeap) {id : Nat} {l : List (List UInt8)} (hw : WN h id l) : WN (h ++ l0) id l := by
  obtain ⟨hid, hb | ⟨k, g, hk, hne, hb, ho⟩⟩ := hw
  · exact ⟨by simp; omega, .inl ⟨by rw [hget_app _ hid]; exact hb.1, hb.2⟩⟩
  · exact ⟨by simp; omega, .inr ⟨k, g, by simp; omega, hne, by rw [hget_app _ hid]; exact hb, by rw [hget_app _ hk]; exact ho⟩⟩
/-- One more. -/
theorem wn_add {h : AHeap} {id : Nat} {l : List (List UInt8)} (m : List UInt8) (hw : WN h id l) (hn : l.length ≤ 100000) :
    ∃ bv v h1, hget h id = .vars [bv] ∧ (∀ z, appT (some (1, 16, z)) h bv (some [sV m]) = some (v, h1)) ∧ hget h1 id = .vars [bv] ∧ fits 1 v = true ∧ v.cells = [v] ∧ WN (h1.set id (.vars [v])) id (l ++ [m]) ∧ Fr id h (h1.set id (.vars [v])) := by
  obtain ⟨hid, ⟨hb, rfl⟩ | ⟨k, g, hk, hne, hb, ho⟩⟩ := hw
  · refine ⟨_, .arr h.length 0 (0 + 1) 0 1, h ++ [.arr 1 ([] ++ [sV m]) 0], hb, fun z => appT_slc _ _ _ _ _ rfl rfl (by simp) (by simp), ?_, rfl, rfl, ?_, ?_⟩
    · rw [hget_push hid]; exact hb
    · refine ⟨by simp; omega, .inr ⟨h.length, 0, by simp, by omega, ?_, ?_⟩⟩
      · rw [hget_set_eq (by simp; omega)]; simp
      · rw [hget_set_ne (by omega), hget_last]; simp
    · refine ⟨by simp, fun j cs hj e => ?_⟩
      rw [hget_set_ne (by omega), hget_push (hlt_of e (by simp))]; exact e
  · refine ⟨_, .arr k 0 (l.length + 1) (g + 1) 1, h.set k (.arr 1 (l.map sV ++ [sV m]) (g + 1)), hb, fun z => appT_arr _ _ _ _ _ _ _ _ ho (by simp) rfl (by simp; omega), ?_, rfl, rfl, ?_, ?_⟩
    · rw [hget_set_ne hne]; exact hb
    · refine ⟨by simp; exact hid, .inr ⟨k, g + 1, by simp; exact hk, hne, ?_, ?_⟩⟩
      · rw [hget_set_eq (by simp; exact hid)]; simp
      · rw [hget_set_ne (by omega), hget_set_eq hk]; simp
    · refine ⟨by simp, fun j cs hj e => ?_⟩
      have hjk : k ≠ j := by rintro rfl; rw [ho] at e; cases e
      rw [hget_set_ne (by omega), hget_set_ne hjk]; exact e
/-- A call by reference: what is kept of memory. -/
theorem doCall_fr {f : FuncId} {vs : List AV} {h h' : AHeap} {id : Nat} {l l0 : List (List UInt8)} {r : AV} (hm : md f = 1) (e : aval Tryd.prog md fg f vs h = some (r, h')) (hw0 : WN h id l0) (hw : WN h' id l) (hf : Fr id h h') :
    ∃ h'', doCall md (aval Tryd.prog md fg) f vs h = some (r, h'') ∧ WN h'' id l ∧ Fr id h h'' := by
  have hid := hw0.1
  rw [doCall_0 (by omega)]
  unfold doCall0
  rw [if_neg (by omega), rated_id (by omega), e]
  dsimp only
  split
  · rename_i hg
    refine ⟨_, rfl, ?_, ?_⟩
    · obtain ⟨h1, h2 | ⟨k, g, hk, hne, hb, ho⟩⟩ := hw
      · refine ⟨by simp; omega, .inl ⟨?_, h2.2⟩⟩
        unfold hget at h2 ⊢
        rw [List.getD_eq_getElem?_getD, List.getElem?_take_of_lt hid, ← List.getD_eq_getElem?_getD]; exact h2.1
      · have hkl : k < h.length := by
          rcases hg.2 id hid with e1 | e1
          · have : hget h' id = hget h id := by unfold hget; rw [List.getD_eq_getElem?_getD, e1, ← List.getD_eq_getElem?_getD]
            rw [hb] at this
            rcases hw0.2 with ⟨e2, _⟩ | ⟨k0, g0, hk0, _, e2, _⟩
            · rw [e2] at this; cases this
            · rw [e2] at this
              simp only [AObj.vars.injEq, List.cons.injEq, AV.arr.injEq, and_true] at this
              omega
          · rw [hb] at e1
            simpa [belowO, belowL, below] using e1
        refine ⟨by simp; omega, .inr ⟨k, g, by simp; omega, hne, ?_, ?_⟩⟩
        · unfold hget at hb ⊢
          rw [List.getD_eq_getElem?_getD, List.getElem?_take_of_lt hid, ← List.getD_eq_getElem?_getD]; exact hb
        · unfold hget at ho ⊢
          rw [List.getD_eq_getElem?_getD, List.getElem?_take_of_lt hkl, ← List.getD_eq_getElem?_getD]; exact ho
    · refine ⟨by have := hf.1; simp; omega, fun j cs hj e1 => ?_⟩
      have hjl : j < h.length := hlt_of e1 (by simp)
      have := hf.2 j cs hj e1
      unfold hget at this ⊢
      rw [List.getD_eq_getElem?_getD, List.getElem?_take_of_lt hjl, ← List.getD_eq_getElem?_getD]; exact this
  · exact ⟨_, rfl, hw, hf⟩
theorem names_exp {h : AHeap} {id : Nat} {l : List (List UInt8)} (hw : WN h id l) : ∃ bv ids, hget h id = .vars [bv] ∧ exp1 h expDepth bv = some (.slc false (l.map sV), ids) ∧ canFrz h ids = true := by
  obtain ⟨hid, ⟨hb, rfl⟩ | ⟨k, g, hk, hne, hb, ho⟩⟩ := hw
  · exact ⟨_, [], hb, rfl, rfl⟩
  · have := arr_exp ho (solid_names l) 59
    rw [List.length_map] at this
    exact ⟨_, [k], hb, this, by simp [canFrz, ho]⟩
theorem contains_c {h : AHeap} {id : Nat} {l : List (List UInt8)} (hw : WN h id l) (m : List UInt8) (hn : l.length ≤ 100000) : ∃ bv, hget h id = .vars [bv] ∧ ∀ l0, doCall md (aval Tryd.prog md fg) 41 [bv, sV m] (h ++ l0) = some (.val (.bool (decide (m ∈ l))), h ++ l0) := by
  obtain ⟨bv, ids, e1, e2, e3⟩ := names_exp hw
  refine ⟨bv, e1, fun l0 => ?_⟩
  obtain ⟨bv', ids', f1, f2, f3⟩ := names_exp (wn_app h l0 hw)
  rw [hget_app _ hw.1, e1] at f1
  cases f1
  refine doCall_look md41 (as' := [.slc false (l.map sV), sV m]) (ids := ids') ?_ f3 (contains_p m l (by omega)) rfl
  simp only [expL, f2, exp1_solid (show solid (sV m) = true from rfl), List.append_nil]
end Go.Proofs.YtedapgcaibbhoaaDoor
namespace Go.Proofs.YtedapgcaibbhoaaDoor
open Go Go.Ab Go.Proofs
set_option maxRecDepth 100000
set_option linter.unusedSimpArgs false
set_option linter.unusedVariables false
theorem callable_40 : callable Tryd.prog 40 = true := by kernel_rfl
def vadd (out : List (List UInt8)) (k : Int) (m : List UInt8) : List (List UInt8) := if k = 1 ∧ m ∉ out then out ++ [m] else out
mutual
/-- The variables' names, each once, put behind some. -/
def vsT : List (List UInt8) → Tm → List (List UInt8) | out, .mk k p m n ks => vsL (vadd out k m) ks
def vsL : List (List UInt8) → List Tm → List (List UInt8) | out, [] => out | out, t :: r => vsL (vsT out t) r
end
theorem vadd_len (out : List (List UInt8)) (k : Int) (m : List UInt8) : (vadd out k m).length ≤ out.length + 1 := by unfold vadd; split <;> simp
mutual
theorem vsT_len : ∀ (t : Tm) (out : List (List UInt8)), (vsT out t).length ≤ out.length + tsz t
  | ⟨k, p, m, n, ks⟩, out => by rw [vsT, tsz]; have := vsL_len ks (vadd out k m); have := vadd_len out k m; omega
theorem vsL_len : ∀ (ts : List Tm) (out : List (List UInt8)), (vsL out ts).length ≤ out.length + tszs ts
  | [], out => by rw [vsL]; omega
  | t :: r, out => by rw [vsL, tszs]; have := vsL_len r (vsT out t); have := vsT_len t out; omega
end
abbrev walkV : AObj := .vars [.clo 40 [] [.ptr 0 0, .ptr 1 0]]
def VT (t : Tm) : Prop := ∀ (h : AHeap) (out : List (List UInt8)), WN h 0 out → hget h 1 = walkV → out.length + tsz t ≤ 100000 → ∃ h', doCall md (aval Tryd.prog md fg) 40 [tmV t, .ptr 0 0, .ptr 1 0] h = some (.tup [], h') ∧ WN h' 0 (vsT out t) ∧ Fr 0 h h'
theorem v_loop (ks : List Tm) (hl : ks.length ≤ 9223372036854775807) (hV : ∀ t ∈ ks, VT t) : ∀ (r : List Tm) (i : Nat) (h : AHeap) (out : List (List UInt8)), ks.drop i = r → i ≤ ks.length → WN h 0 out → hget h 1 = walkV → out.length + tszs r ≤ 100000 → ∃ h',
    lrun Tryd.prog md fg (fg 40) (loopOf Tryd.f40 0) (fg 40 1) ((.unk :: .unk :: (.ptr 1 0) :: .unk :: .unk :: .unk :: .unk :: .unk :: .unk :: .unk :: .unk :: .unk :: .unk :: .unk :: .unk :: .unk :: .unk :: .unk :: .unk :: .unk :: .unk :: .unk :: (.slc false (ks.map tmV)) :: (.int ks.length) :: (.int i) :: .unk :: .unk :: .unk :: .unk :: .unk :: .unk :: .unk :: [] : List AV)) h = some (.exit 0, (.unk :: .unk :: (.ptr 1 0) :: .unk :: .unk :: .unk :: .unk :: .unk :: .unk :: .unk :: .unk :: .unk :: .unk :: .unk :: .unk :: .unk :: .unk :: .unk :: .unk :: .unk :: .unk :: .unk :: (.slc false (ks.map tmV)) :: (.int ks.length) :: (.int ks.length) :: .unk :: .unk :: .unk :: .unk :: .unk :: .unk :: .unk :: [] : List AV), h') ∧ WN h' 0 (vsL out r) ∧ Fr 0 h h'
  | [], i, h, out, hdr, hi, hw, h1, hn => by
    have : i = ks.length := by have := congrArg List.length hdr; simp at this; omega
    subst this
    refine ⟨h, ?_, by rw [vsL]; exact hw, Fr.refl _ _⟩
    rw [lrun_atC loop40_0]
    simp (implicitDefEqProofs := false) (disch := omega) only [go_sem, Nat.reduceAdd, Nat.reduceSub, Nat.reduceMul, Nat.reduceLT, Nat.reduceLeDiff, Nat.reduceEqDiff, List.drop_zero, List.take_succ_cons, List.take_zero, List.drop_succ_cons, Bool.and_true, Bool.true_and, Bool.and_false, Bool.false_and, BitVec.reduceOfInt, Nat.zero_add, Nat.mul_one, Nat.add_zero, Int.zero_add, Int.reduceToNat, Nat.reducePow, ↓reduceIte, reduceCtorEq, Int.reduceLE, Int.reduceLT, Int.reduceEq, Int.reduceNe, Int.reduceAdd, Int.reduceSub, Int.reduceMul, Int.reduceNeg, Nat.reduceBEq, show regOf Tryd.f40 4 = Code.region _ _ _ from rfl]
  | ⟨k2, p2, m2, n2, l2⟩ :: r, i, h, out, hdr, hi, hw, h1, hn => by
    have hx : ks[i]? = some ⟨k2, p2, m2, n2, l2⟩ := by have := congrArg (·[0]?) hdr; simpa using this
    have hlt : i < ks.length := (List.getElem?_eq_some_iff.1 hx).1
    have hd' : ks.drop (i + 1) = r := by rw [← List.tail_drop, hdr]; rfl
    have ht : ((i : Int)).toNat = i := by omega
    simp only [tszs] at hn
    have hvl := vsT_len ⟨k2, p2, m2, n2, l2⟩ out
    have g1 : ∀ l, hget (h ++ l) 1 = walkV := fun l => by rw [hget_app l (hlt_of h1 (by simp))]; exact h1
    obtain ⟨h2, e2, w2, f2⟩ := hV _ (List.mem_of_getElem? hx) (h ++ [.vars [.int k2, .str (txt p2), .str (txt m2), .int n2, .slc false (l2.map tmV)]]) out (wn_app h _ hw) (g1 _) (by omega)
    rw [tmV_mk] at e2
    obtain ⟨h3, e3, w3, f3⟩ := v_loop ks hl hV r (i + 1) h2 (vsT out ⟨k2, p2, m2, n2, l2⟩) hd' (by omega) w2 (f2.2 1 _ (by decide) (g1 _)) (by omega)
    refine ⟨h3, ?_, by rw [vsL]; exact w3, (fr_app 0 h _).trans (f2.trans f3)⟩
    rw [← e3]
    rw [lrun_atC loop40_0]
    simp (implicitDefEqProofs := false) (disch := first | omega | exact List.length_set) only [go_sem, Nat.reduceAdd, Nat.reduceSub, Nat.reduceMul, Nat.reduceLT, Nat.reduceLeDiff, Nat.reduceEqDiff, List.drop_zero, List.take_succ_cons, List.take_zero, List.drop_succ_cons, Bool.and_true, Bool.true_and, Bool.and_false, Bool.false_and, BitVec.reduceOfInt, Nat.zero_add, Nat.mul_one, Nat.add_zero, Int.zero_add, Int.reduceToNat, Nat.reducePow, ↓reduceIte, reduceCtorEq, Int.reduceLE, Int.reduceLT, Int.reduceEq, Int.reduceNe, Int.reduceAdd, Int.reduceSub, Int.reduceMul, Int.reduceNeg, Nat.reduceBEq, show regOf Tryd.f40 4 = Code.region _ _ _ from rfl, show regOf Tryd.f40 5 = Code.region _ _ _ from rfl, show regOf Tryd.f40 6 = Code.region _ _ _ from rfl, show regOf Tryd.f40 7 = Code.region _ _ _ from rfl, List.getElem?_map, ht, hx, Option.map_some, tmV_mk, hget_last, set_last, g1, e2, List.nil_append, List.cons_append, callable_40]
    all_goals (congr 1 <;> simp only [List.cons.injEq, AV.val.injEq, Value.int.injEq, Value.bool.injEq, true_and, and_true] <;> omega)
set_option maxHeartbeats 8000000 in
theorem v_node (k : Int) (p m : List UInt8) (n : Int) (ks : List Tm) (hl : ks.length ≤ 9223372036854775807) (hV : ∀ t ∈ ks, VT t) : VT ⟨k, p, m, n, ks⟩ := by
  intro h out hw h1 hn
  rw [tsz] at hn
  rw [tmV_mk, vsT]
  have hid := hw.1
  have g1 : ∀ l, hget (h ++ l) 1 = walkV := fun l => by rw [hget_app l (hlt_of h1 (by simp))]; exact h1
  obtain ⟨bv, eb, cc⟩ := contains_c hw m (by omega)
  have g0 : ∀ l, hget (h ++ l) 0 = .vars [bv] := fun l => by rw [hget_app l hid]; exact eb
  suffices e : ∃ h', aval Tryd.prog md fg 40 [.agg [.int k, .str (txt p), .str (txt m), .int n, .slc false (ks.map tmV)], .ptr 0 0, .ptr 1 0] h = some (.tup [], h') ∧ WN h' 0 (vsL (vadd out k m) ks) ∧ Fr 0 h h' by
    obtain ⟨h', e, w, f⟩ := e
    exact doCall_fr (by decide) e hw w f
  by_cases hc : k = 1 ∧ m ∉ out
  · have hva : vadd out k m = out ++ [m] := by unfold vadd; rw [if_pos hc]
    rw [hva]
    obtain ⟨rfl, hmo⟩ := hc
    rw [decide_eq_false hmo] at cc
    obtain ⟨bv2, v, h3, x1, x2, x3, x4, x5, x6, x7⟩ := wn_add m (wn_app h [.vars [.int 1, .str (txt p), .str (txt m), .int n, .slc false (ks.map tmV)]] hw) (by omega)
    rw [g0] at x1
    cases x1
    have q1 : hget (h ++ [.vars [.int 1, .str (txt p), .str (txt m), .int n, .slc false (ks.map tmV)]]) h.length = .vars [.int 1, .str (txt p), .str (txt m), .int n, .slc false (ks.map tmV)] := hget_last
    have q2 := x7.2 h.length _ (by omega) q1
    obtain ⟨h4, e4, w4, f4⟩ := v_loop ks hl hV ks 0 (h3.set 0 (.vars [v])) (out ++ [m]) (by simp) (by omega) x6 (x7.2 1 _ (by decide) (g1 _)) (by simp only [List.length_append, List.length_cons, List.length_nil]; omega)
    simp only [Int.natCast_zero] at e4
    refine ⟨h4, ?_, w4, (fr_app 0 h _).trans (x7.trans f4)⟩
    rw [aval_of Tryd.func40 body40 Tryd.results40 Tryd.ntmps40 ok40]
    simp (implicitDefEqProofs := false) (disch := first | omega | exact List.length_set) only [go_sem, Nat.reduceAdd, Nat.reduceSub, Nat.reduceMul, Nat.reduceLT, Nat.reduceLeDiff, Nat.reduceEqDiff, List.drop_zero, List.take_succ_cons, List.take_zero, List.drop_succ_cons, Bool.and_true, Bool.true_and, Bool.and_false, Bool.false_and, BitVec.reduceOfInt, Nat.zero_add, Nat.mul_one, Nat.add_zero, Int.zero_add, Int.reduceToNat, Nat.reducePow, ↓reduceIte, reduceCtorEq, Int.reduceLE, Int.reduceLT, Int.reduceEq, Int.reduceNe, Int.reduceAdd, Int.reduceSub, Int.reduceMul, Int.reduceNeg, Nat.reduceBEq, show regOf Tryd.f40 0 = Code.region _ _ _ from rfl, show regOf Tryd.f40 1 = Code.region _ _ _ from rfl, show regOf Tryd.f40 2 = Code.region _ _ _ from rfl, show regOf Tryd.f40 3 = Code.region _ _ _ from rfl, List.length_map, hget_last, g0, cc, x2, x3, x4, x5, q2, e4]
  · have hva : vadd out k m = out := by unfold vadd; rw [if_neg hc]
    rw [hva]
    have q1 : hget (h ++ [.vars [.int k, .str (txt p), .str (txt m), .int n, .slc false (ks.map tmV)]]) h.length = .vars [.int k, .str (txt p), .str (txt m), .int n, .slc false (ks.map tmV)] := hget_last
    obtain ⟨h4, e4, w4, f4⟩ := v_loop ks hl hV ks 0 (h ++ [.vars [.int k, .str (txt p), .str (txt m), .int n, .slc false (ks.map tmV)]]) out (by simp) (by omega) (wn_app h _ hw) (g1 _) (by omega)
    simp only [Int.natCast_zero] at e4
    refine ⟨h4, ?_, w4, (fr_app 0 h _).trans f4⟩
    rw [aval_of Tryd.func40 body40 Tryd.results40 Tryd.ntmps40 ok40]
    by_cases hk : k = 1
    · subst hk
      have hmo : m ∈ out := Classical.byContradiction fun h => hc ⟨rfl, h⟩
      rw [decide_eq_true hmo] at cc
      simp (implicitDefEqProofs := false) (disch := first | omega | exact List.length_set) only [go_sem, Nat.reduceAdd, Nat.reduceSub, Nat.reduceMul, Nat.reduceLT, Nat.reduceLeDiff, Nat.reduceEqDiff, List.drop_zero, List.take_succ_cons, List.take_zero, List.drop_succ_cons, Bool.and_true, Bool.true_and, Bool.and_false, Bool.false_and, BitVec.reduceOfInt, Nat.zero_add, Nat.mul_one, Nat.add_zero, Int.zero_add, Int.reduceToNat, Nat.reducePow, ↓reduceIte, reduceCtorEq, Int.reduceLE, Int.reduceLT, Int.reduceEq, Int.reduceNe, Int.reduceAdd, Int.reduceSub, Int.reduceMul, Int.reduceNeg, Nat.reduceBEq, show regOf Tryd.f40 0 = Code.region _ _ _ from rfl, show regOf Tryd.f40 1 = Code.region _ _ _ from rfl, show regOf Tryd.f40 3 = Code.region _ _ _ from rfl, List.length_map, hget_last, g0, cc, e4]
    · simp (implicitDefEqProofs := false) (disch := first | omega | exact List.length_set) only [go_sem, Nat.reduceAdd, Nat.reduceSub, Nat.reduceMul, Nat.reduceLT, Nat.reduceLeDiff, Nat.reduceEqDiff, List.drop_zero, List.take_succ_cons, List.take_zero, List.drop_succ_cons, Bool.and_true, Bool.true_and, Bool.and_false, Bool.false_and, BitVec.reduceOfInt, Nat.zero_add, Nat.mul_one, Nat.add_zero, Int.zero_add, Int.reduceToNat, Nat.reducePow, ↓reduceIte, reduceCtorEq, Int.reduceLE, Int.reduceLT, Int.reduceEq, Int.reduceNe, Int.reduceAdd, Int.reduceSub, Int.reduceMul, Int.reduceNeg, Nat.reduceBEq, show regOf Tryd.f40 0 = Code.region _ _ _ from rfl, show regOf Tryd.f40 1 = Code.region _ _ _ from rfl, show regOf Tryd.f40 3 = Code.region _ _ _ from rfl, hk, List.length_map, hget_last, g0, e4]
mutual
theorem VT_all : ∀ t : Tm, t.fit → VT t
  | ⟨k, p, m, n, ks⟩, hf => by
    rw [Tm.fit] at hf
    exact v_node k p m n ks hf.2.2.1 (VT_alls ks hf.2.2.2)
theorem VT_alls : ∀ l : List Tm, Tm.fits l → ∀ t ∈ l, VT t
  | [], _, t, h => by cases h
  | a :: r, hf, t, h => by
    rw [Tm.fits] at hf
    rcases List.mem_cons.1 h with h | h
    · rw [h]; exact VT_all a hf.1
    · exact VT_alls r hf.2 t h
end
end Go.Proofs.YtedapgcaibbhoaaDoor
namespace Go.Proofs.YtedapgcaibbhoaaDoor
open Go Go.Ab Go.Proofs
set_option maxRecDepth 100000
set_option linter.unusedSimpArgs false
set_option linter.unusedVariables false
theorem fits_clo (f : FuncId) (a b : List AV) : fits 1 (.clo f a b) = true := rfl
theorem cells_clo (f : FuncId) (a b : List AV) : (AV.clo f a b).cells = [.clo f a b] := rfl
set_option maxHeartbeats 4000000 in
theorem vars_p (t : Tm) (ht : t.fit) (hz : tsz t ≤ 100000) : pcall Tryd.prog md fg 28 [.slc false [tmV t]] = some (.slc false ((vsT [] t).map sV)) := by
  have e : ∃ bv h, aval Tryd.prog md fg 28 [.slc false [tmV t]] [] = some (bv, h) ∧ WN h 0 (vsT [] t) ∧ hget h 0 = .vars [bv] := by
    obtain ⟨h2, e2, w2, f2⟩ := VT_all t ht [.vars [.slc true []], walkV, .vars (tmV t).cells] [] ⟨by simp, .inl ⟨rfl, rfl⟩⟩ rfl (by simpa using hz)
    have g1 := f2.2 1 _ (by decide) rfl
    have hb : ∃ bv, hget h2 0 = .vars [bv] := by
      obtain ⟨_, ⟨hb, _⟩ | ⟨k, g, _, _, hb, _⟩⟩ := w2
      · exact ⟨_, hb⟩
      · exact ⟨_, hb⟩
    obtain ⟨bv, hb⟩ := hb
    refine ⟨bv, h2, ?_, w2, hb⟩
    clear w2 f2
    obtain ⟨k, p, m, n, l⟩ := t
    rw [tmV_mk] at e2 ⊢
    change doCall md (aval Tryd.prog md fg) 40 _ [.vars [.slc true []], .vars [.clo 40 [] [.ptr 0 0, .ptr 1 0]], .vars [.int k, .str (txt p), .str (txt m), .int n, .slc false (l.map tmV)]] = _ at e2
    have r1 : lrun Tryd.prog md fg (fg 28) (loopOf Tryd.f28 0) (fg 28 1) ([.unk, .unk, .unk, .ptr 0 0, .ptr 1 0, .unk, .unk, .unk, .slc false [.agg [.int k, .str (txt p), .str (txt m), .int n, .slc false (l.map tmV)]], .int 1, .int 0, .unk, .unk, .unk, .unk, .unk, .unk, .unk, .unk]) [.vars [.slc true []], .vars [.clo 40 [] [.ptr 0 0, .ptr 1 0]]] = lrun Tryd.prog md fg (fg 28) (loopOf Tryd.f28 0) (fg 28 1) ([.unk, .unk, .unk, .ptr 0 0, .ptr 1 0, .unk, .unk, .unk, .slc false [.agg [.int k, .str (txt p), .str (txt m), .int n, .slc false (l.map tmV)]], .int 1, .int 1, .unk, .unk, .unk, .unk, .unk, .unk, .unk, .unk]) h2 := by
      rw [lrun_atC loop28_0]
      simp (implicitDefEqProofs := false) (disch := omega) only [go_sem, Nat.reduceAdd, Nat.reduceSub, Nat.reduceMul, Nat.reduceLT, Nat.reduceLeDiff, Nat.reduceEqDiff, List.drop_zero, List.take_succ_cons, List.take_zero, List.drop_succ_cons, Bool.and_true, Bool.true_and, Bool.and_false, Bool.false_and, BitVec.reduceOfInt, Nat.zero_add, Nat.mul_one, Nat.add_zero, Int.zero_add, Int.reduceToNat, Nat.reducePow, ↓reduceIte, reduceCtorEq, Int.reduceLE, Int.reduceLT, Int.reduceEq, Int.reduceNe, Int.reduceAdd, Int.reduceSub, Int.reduceMul, Int.reduceNeg, Nat.reduceBEq, show regOf Tryd.f28 5 = Code.region _ _ _ from rfl, show regOf Tryd.f28 6 = Code.region _ _ _ from rfl, show regOf Tryd.f28 7 = Code.region _ _ _ from rfl, show regOf Tryd.f28 8 = Code.region _ _ _ from rfl, callable_40, List.cons_append, List.nil_append, e2]
    have r2 : ∀ g, lrun Tryd.prog md fg (fg 28) (loopOf Tryd.f28 0) (fg 28 1) ([.unk, .unk, .unk, .ptr 0 0, .ptr 1 0, .unk, .unk, .unk, .slc false [.agg [.int k, .str (txt p), .str (txt m), .int n, .slc false (l.map tmV)]], .int 1, .int 1, .unk, .unk, .unk, .unk, .unk, .unk, .unk, .unk]) g = some (.exit 0, [.unk, .unk, .unk, .ptr 0 0, .ptr 1 0, .unk, .unk, .unk, .slc false [.agg [.int k, .str (txt p), .str (txt m), .int n, .slc false (l.map tmV)]], .int 1, .int 1, .unk, .unk, .unk, .unk, .unk, .unk, .unk, .unk], g) := by
      intro g
      rw [lrun_atC loop28_0]
      simp (implicitDefEqProofs := false) (disch := omega) only [go_sem, Nat.reduceAdd, Nat.reduceSub, Nat.reduceMul, Nat.reduceLT, Nat.reduceLeDiff, Nat.reduceEqDiff, List.drop_zero, List.take_succ_cons, List.take_zero, List.drop_succ_cons, Bool.and_true, Bool.true_and, Bool.and_false, Bool.false_and, BitVec.reduceOfInt, Nat.zero_add, Nat.mul_one, Nat.add_zero, Int.zero_add, Int.reduceToNat, Nat.reducePow, ↓reduceIte, reduceCtorEq, Int.reduceLE, Int.reduceLT, Int.reduceEq, Int.reduceNe, Int.reduceAdd, Int.reduceSub, Int.reduceMul, Int.reduceNeg, Nat.reduceBEq, show regOf Tryd.f28 5 = Code.region _ _ _ from rfl]
    rw [aval_of Tryd.func28 body28 Tryd.results28 Tryd.ntmps28 ok28]
    simp (implicitDefEqProofs := false) (disch := omega) only [go_sem, Nat.reduceAdd, Nat.reduceSub, Nat.reduceMul, Nat.reduceLT, Nat.reduceLeDiff, Nat.reduceEqDiff, List.drop_zero, List.take_succ_cons, List.take_zero, List.drop_succ_cons, Bool.and_true, Bool.true_and, Bool.and_false, Bool.false_and, BitVec.reduceOfInt, Nat.zero_add, Nat.mul_one, Nat.add_zero, Int.zero_add, Int.reduceToNat, Nat.reducePow, ↓reduceIte, reduceCtorEq, Int.reduceLE, Int.reduceLT, Int.reduceEq, Int.reduceNe, Int.reduceAdd, Int.reduceSub, Int.reduceMul, Int.reduceNeg, Nat.reduceBEq, show regOf Tryd.f28 0 = Code.region _ _ _ from rfl, show regOf Tryd.f28 1 = Code.region _ _ _ from rfl, show regOf Tryd.f28 2 = Code.region _ _ _ from rfl, show regOf Tryd.f28 3 = Code.region _ _ _ from rfl, show regOf Tryd.f28 4 = Code.region _ _ _ from rfl, List.length_cons, List.length_nil, Int.natCast_one, fits_clo, cells_clo]
    simp (implicitDefEqProofs := false) (disch := omega) only [go_sem, Nat.reduceAdd, Nat.reduceSub, Nat.reduceMul, Nat.reduceLT, Nat.reduceLeDiff, Nat.reduceEqDiff, List.drop_zero, List.take_succ_cons, List.take_zero, List.drop_succ_cons, Bool.and_true, Bool.true_and, Bool.and_false, Bool.false_and, BitVec.reduceOfInt, Nat.zero_add, Nat.mul_one, Nat.add_zero, Int.zero_add, Int.reduceToNat, Nat.reducePow, ↓reduceIte, reduceCtorEq, Int.reduceLE, Int.reduceLT, Int.reduceEq, Int.reduceNe, Int.reduceAdd, Int.reduceSub, Int.reduceMul, Int.reduceNeg, Nat.reduceBEq, show regOf Tryd.f28 9 = Code.region _ _ _ from rfl, r1, r2, hb]
  obtain ⟨bv, h, e, w, hb⟩ := e
  obtain ⟨bv', ids, x1, x2, x3⟩ := names_exp w
  rw [hb] at x1
  cases x1
  rw [pcall_eq, e]
  unfold pureRes
  dsimp only
  rw [x2]
  dsimp only
  rw [if_pos x3]
end Go.Proofs.YtedapgcaibbhoaaDoor
namespace Go.Proofs.YtedapgcaibbhoaaDoor
open Go Go.Ab Go.Proofs
set_option maxRecDepth 100000
set_option linter.unusedSimpArgs false
set_option linter.unusedVariables false
set_option maxHeartbeats 8000000 in
theorem match_c2 (a b : Tm) (ha : a.fit) (hb : b.fit) (hsz : tsz a ≤ 100000) (h0 : AHeap) {P : Put} (hP : mS (tsz a) [(a, b)] ([], 0) = some P) : ∃ (h' : AHeap), doCall md (aval Tryd.prog md fg) 27 [tmV a, tmV b] h0 = some (.tup [.mp (h0.length + 2), .bool true], h') ∧ hget h' (h0.length + 2) = .map (encP P.1) P.2 ∧ KeepV h0 h' := by
  have hfit : ∀ p ∈ [(a, b)], p.1.fit ∧ p.2.fit := fun p hp => by rw [List.mem_singleton.1 hp]; exact ⟨ha, hb⟩
  obtain ⟨k, p, m, n, l⟩ := a
  obtain ⟨k', p', m', n', l'⟩ := b
  have ih := m_loop (M := h0.length + 2) (tsz ⟨k, p, m, n, l⟩) [(⟨k, p, m, n, l⟩, ⟨k', p', m', n', l'⟩)] ([], 0) (h0 ++ [AObj.vars [.int k, .str (txt p), .str (txt m), .int n, .slc false (l.map tmV)], AObj.vars [.int k', .str (txt p'), .str (txt m'), .int n', .slc false (l'.map tmV)], AObj.map [] 0, AObj.arr 10 [pairV (⟨k, p, m, n, l⟩, ⟨k', p', m', n', l'⟩)] 0]) (.arr (h0.length + 3) 0 1 0 10) (.val (.map .none)) (.val (.bool false)) (by simp only [psz]; omega) hsz hfit (fun e he => by cases he) (sb_get2 _ _ _ _ rfl) ⟨h0.length + 3, 0, [pairV (⟨k, p, m, n, l⟩, ⟨k', p', m', n', l'⟩)], rfl, by
    unfold hget; rw [List.getD_eq_getElem?_getD, List.getElem?_append_right (by omega), show h0.length + 3 - h0.length = 3 by omega]; rfl, by simp, by simp⟩
  rw [tmV_mk, tmV_mk]
  rw [pairV_mk] at ih
  rw [hP] at ih
  obtain ⟨v', h', a4, a5, e1, e2, e3⟩ := ih
  refine ⟨h', doCall_keep (by decide) (by decide) (by decide) (?_ : aval Tryd.prog md fg 27 _ h0 = some (.tup [.mp (h0.length + 2), .bool true], h')) (by simp [below, belowL]), e2, (keepV_app h0 _).trans e3⟩
  rw [aval_of Tryd.func27 body27 Tryd.results27 Tryd.ntmps27 ok27]
  simp (implicitDefEqProofs := false) (disch := first | omega | exact List.length_set) only [go_sem, Nat.reduceAdd, Nat.reduceSub, Nat.reduceMul, Nat.reduceLT, Nat.reduceLeDiff, Nat.reduceEqDiff, List.drop_zero, List.take_succ_cons, List.take_zero, List.drop_succ_cons, Bool.and_true, Bool.true_and, Bool.and_false, Bool.false_and, BitVec.reduceOfInt, Nat.zero_add, Nat.mul_one, Nat.add_zero, Int.zero_add, Int.reduceToNat, Nat.reducePow, ↓reduceIte, reduceCtorEq, Int.reduceLE, Int.reduceLT, Int.reduceEq, Int.reduceNe, Int.reduceAdd, Int.reduceSub, Int.reduceMul, Int.reduceNeg, Nat.reduceBEq, show regOf Tryd.f27 0 = Code.region _ _ _ from rfl, show regOf Tryd.f27 1 = Code.region _ _ _ from rfl, show regOf Tryd.f27 2 = Code.region _ _ _ from rfl, show regOf Tryd.f27 18 = Code.region _ _ _ from rfl, aop_makeMap0, isMapT_47, ofCell_nilmap, b69, List.append_assoc, List.cons_append, List.nil_append, List.length_append, List.length_cons, List.length_nil, sb_get0, sb_get1, sb_get2, sb_set0, sb_set1, e1, aresults, tupOf, Option.map_some]
theorem look_p2 {M : Nat} {h : AHeap} {es : List (List UInt8 × Tm × Nat)} {c : Nat} (hm : hget h M = .map (encP es) c) {k : List UInt8} {j : Nat} {t : Tm} (hf : pf k es 0 = some (j, t)) :
    alookup Tryd.prog 47 h (.mp M) (.str (txt k)) false = some (tmV t) := by
  unfold alookup
  rw [tmap_47]
  dsimp only
  rw [tzero_24]
  dsimp only
  rw [if_pos (strKey _), hm]
  dsimp only
  rw [afind_pf, hf]
  rfl
/-- A list of values in an array of one's own. -/
def VB (h : AHeap) (v : AV) (L : List Vl) : Prop := (v = .slc true [] ∧ L = []) ∨ ∃ k g, v = .arr k 0 L.length g 6 ∧ hget h k = .arr 6 (L.map vlV) g
theorem vb_add {h : AHeap} {v : AV} {L : List Vl} (hv : VB h v L) (x : Vl) (hn : L.length ≤ 100000) : ∃ v' h', (∀ z, appT (some (6, 88, z)) h v (some [vlV x]) = some (v', h')) ∧ VB h' v' (L ++ [x]) ∧ KeepO h h' := by
  have hx : headOk 6 [vlV x] = true := by obtain ⟨s, k, p, m, n, ks⟩ := x; rw [vlV_mk]; rfl
  obtain ⟨rfl, rfl⟩ | ⟨k, g, rfl, ho⟩ := hv
  · exact ⟨.arr h.length 0 (0 + 1) 0 6, h ++ [.arr 6 ([] ++ [vlV x]) 0], fun z => appT_slc _ _ _ _ _ hx rfl (by simp) (by simp), .inr ⟨h.length, 0, by simp, hget_last⟩, keep_app _ _⟩
  · have hk := hlt_of ho (by simp)
    refine ⟨.arr k 0 (L.length + 1) (g + 1) 6, h.set k (.arr 6 (L.map vlV ++ [vlV x]) (g + 1)), fun z => appT_arr _ _ _ _ _ _ _ _ ho (by simp) hx (by simp; omega), .inr ⟨k, g + 1, by simp, by rw [hget_set_eq hk]; simp⟩, by simp, fun j o e h1 h2 => ?_⟩
    have hjk : ¬ k = j := by rintro rfl; rw [ho] at e; exact h1 _ _ _ e.symm
    rw [hget_set_ne hjk]; exact e
theorem vb_pure {h : AHeap} {v : AV} {L : List Vl} (hv : VB h v L) (b : Value) : pureRes (some (.tup [v, .val b], h)) = some (.tup [.slc false (L.map vlV), .val b]) := by
  obtain ⟨rfl, rfl⟩ | ⟨k, g, rfl, ho⟩ := hv
  · rfl
  · have := pure_arr b ho (solid_vl L)
    rw [List.length_map] at this
    exact this
theorem mt_loop {M : Nat} {es : List (List UInt8 × Tm × Nat)} {c : Nat} (L : List Vl) (hL : L.length ≤ 100000) (hin : ∀ v ∈ L, ∃ j, pf v.1 es 0 = some (j, v.2)) : ∀ (r : List Vl) (i : Nat) (h : AHeap) (v : AV), L.drop i = r → i ≤ L.length → hget h M = .map (encP es) c → VB h v (L.take i) → ∃ v' h',
    lrun Tryd.prog md fg (fg 15) (loopOf Tryd.f15 0) (fg 15 1) ((.unk :: .unk :: .unk :: .unk :: .unk :: .unk :: (.mp M) :: .unk :: (v) :: .unk :: .unk :: .unk :: .unk :: .unk :: .unk :: .unk :: .unk :: .unk :: .unk :: .unk :: .unk :: (.slc false ((L.map Prod.fst).map sV)) :: (.int L.length) :: (.int i) :: .unk :: .unk :: .unk :: .unk :: .unk :: .unk :: .unk :: .unk :: .unk :: .unk :: .unk :: .unk :: .unk :: [] : List AV)) h = some (.exit 0, (.unk :: .unk :: .unk :: .unk :: .unk :: .unk :: (.mp M) :: .unk :: (v') :: .unk :: .unk :: .unk :: .unk :: .unk :: .unk :: .unk :: .unk :: .unk :: .unk :: .unk :: .unk :: (.slc false ((L.map Prod.fst).map sV)) :: (.int L.length) :: (.int L.length) :: .unk :: .unk :: .unk :: .unk :: .unk :: .unk :: .unk :: .unk :: .unk :: .unk :: .unk :: .unk :: .unk :: [] : List AV), h') ∧ VB h' v' L
  | [], i, h, v, hdr, hi, hm, hv => by
    have : i = L.length := by have := congrArg List.length hdr; simp at this; omega
    subst this
    rw [List.take_length] at hv
    refine ⟨v, h, ?_, hv⟩
    rw [lrun_atC loop15_0]
    simp (implicitDefEqProofs := false) (disch := omega) only [go_sem, Nat.reduceAdd, Nat.reduceSub, Nat.reduceMul, Nat.reduceLT, Nat.reduceLeDiff, Nat.reduceEqDiff, List.drop_zero, List.take_succ_cons, List.take_zero, List.drop_succ_cons, Bool.and_true, Bool.true_and, Bool.and_false, Bool.false_and, BitVec.reduceOfInt, Nat.zero_add, Nat.mul_one, Nat.add_zero, Int.zero_add, Int.reduceToNat, Nat.reducePow, ↓reduceIte, reduceCtorEq, Int.reduceLE, Int.reduceLT, Int.reduceEq, Int.reduceNe, Int.reduceAdd, Int.reduceSub, Int.reduceMul, Int.reduceNeg, Nat.reduceBEq, show regOf Tryd.f15 6 = Code.region _ _ _ from rfl]
  | ⟨s, k2, p2, m2, n2, l2⟩ :: r, i, h, v, hdr, hi, hm, hv => by
    have hx : L[i]? = some (s, ⟨k2, p2, m2, n2, l2⟩) := by have := congrArg (·[0]?) hdr; simpa using this
    have hlt : i < L.length := (List.getElem?_eq_some_iff.1 hx).1
    have hd' : L.drop (i + 1) = r := by rw [← List.tail_drop, hdr]; rfl
    have ht : ((i : Int)).toNat = i := by omega
    obtain ⟨j, hj⟩ := hin _ (List.mem_of_getElem? hx)
    have lk := look_p2 hm hj
    rw [tmV_mk] at lk
    obtain ⟨v1, h1, e1, x1, k1⟩ := vb_add hv (s, ⟨k2, p2, m2, n2, l2⟩) (by simp; omega)
    rw [vlV_mk] at e1
    have htk : L.take i ++ [(s, (⟨k2, p2, m2, n2, l2⟩ : Tm))] = L.take (i + 1) := by
      rw [List.take_add_one, hx]; rfl
    rw [htk] at x1
    obtain ⟨v2, h2, e2, x2⟩ := mt_loop L hL hin r (i + 1) h1 v1 hd' (by omega) (k1.2 M _ hm (by simp) (by simp)) x1
    refine ⟨v2, h2, ?_, x2⟩
    rw [← e2]
    rw [lrun_atC loop15_0]
    simp (implicitDefEqProofs := false) (disch := omega) only [go_sem, Nat.reduceAdd, Nat.reduceSub, Nat.reduceMul, Nat.reduceLT, Nat.reduceLeDiff, Nat.reduceEqDiff, List.drop_zero, List.take_succ_cons, List.take_zero, List.drop_succ_cons, Bool.and_true, Bool.true_and, Bool.and_false, Bool.false_and, BitVec.reduceOfInt, Nat.zero_add, Nat.mul_one, Nat.add_zero, Int.zero_add, Int.reduceToNat, Nat.reducePow, ↓reduceIte, reduceCtorEq, Int.reduceLE, Int.reduceLT, Int.reduceEq, Int.reduceNe, Int.reduceAdd, Int.reduceSub, Int.reduceMul, Int.reduceNeg, Nat.reduceBEq, show regOf Tryd.f15 6 = Code.region _ _ _ from rfl, show regOf Tryd.f15 7 = Code.region _ _ _ from rfl, show regOf Tryd.f15 8 = Code.region _ _ _ from rfl, show regOf Tryd.f15 9 = Code.region _ _ _ from rfl, aop_lookup, List.getElem?_map, ht, hx, Option.map_some, lk, b38, e1]
    all_goals (congr 1 <;> simp only [List.cons.injEq, AV.val.injEq, Value.int.injEq, Value.bool.injEq, true_and, and_true] <;> omega)
set_option maxHeartbeats 8000000 in
theorem match15 (a b : Tm) (ha : a.fit) (hb : b.fit) (hsz : tsz a ≤ 100000) {P : Put} (hP : mS (tsz a) [(a, b)] ([], 0) = some P) (L : List Vl) (hL : L.map Prod.fst = vsT [] a) (hin : ∀ v ∈ L, ∃ j, pf v.1 P.1 0 = some (j, v.2)) : pcall Tryd.prog md fg 15 [tmV a, tmV b] = some (mtV (some L)) := by
  have hlen : L.length ≤ 100000 := by
    have h1 := congrArg List.length hL
    have h2 := vsT_len a []
    rw [List.length_map] at h1
    simp only [List.length_nil] at h2; omega
  have e : ∃ v h, aval Tryd.prog md fg 15 [tmV a, tmV b] [] = some (.tup [v, .bool true], h) ∧ VB h v L := by
    obtain ⟨h1, e1, m1, k1⟩ := match_c2 a b ha hb hsz [.vars (tmV a).cells, .vars (tmV b).cells] hP
    have g0 := k1.2 0 _ rfl
    obtain ⟨v2, h2, e2, x2⟩ := mt_loop (M := 4) L hlen hin L 0 h1 (.slc true []) (by simp) (by omega) m1 (.inl ⟨rfl, by simp⟩)
    refine ⟨v2, h2, ?_, x2⟩
    have cv : ∀ h, doCall md (aval Tryd.prog md fg) 28 [.slc true [tmV a]] h = some (.slc false ((vsT [] a).map sV), h) := fun h => doCall_exp md28 (by
      have : exp1 h expDepth (.slc true [tmV a]) = some (.slc false [tmV a], []) := by
        show exp1 h (59 + 1) _ = _
        rw [exp1]
        simp only [solid, Bool.not_true, Bool.false_and, Bool.false_eq_true, if_false]
        rw [expL_solid (solid1 a)]; rfl
      simp only [expL, this, List.append_nil]) (vars_p a ha hsz)
    rw [← hL] at cv
    simp only [Int.natCast_zero] at e2
    have hN : ((L.map Prod.fst).map sV).length = L.length := by simp
    generalize (L.map Prod.fst).map sV = N at *
    clear hP hin x2 m1 k1 hsz ha hb
    obtain ⟨k, p, m, n, l⟩ := a
    obtain ⟨k', p', m', n', l'⟩ := b
    rw [tmV_mk, tmV_mk] at *
    change doCall md (aval Tryd.prog md fg) 27 _ [.vars [.int k, .str (txt p), .str (txt m), .int n, .slc false (l.map tmV)], .vars [.int k', .str (txt p'), .str (txt m'), .int n', .slc false (l'.map tmV)]] = some (.tup [.mp 4, .bool true], h1) at e1
    change hget h1 0 = .vars [.int k, .str (txt p), .str (txt m), .int n, .slc false (l.map tmV)] at g0
    rw [aval_of Tryd.func15 body15 Tryd.results15 Tryd.ntmps15 ok15]
    simp (implicitDefEqProofs := false) (disch := omega) only [go_sem, Nat.reduceAdd, Nat.reduceSub, Nat.reduceMul, Nat.reduceLT, Nat.reduceLeDiff, Nat.reduceEqDiff, List.drop_zero, List.take_succ_cons, List.take_zero, List.drop_succ_cons, Bool.and_true, Bool.true_and, Bool.and_false, Bool.false_and, BitVec.reduceOfInt, Nat.zero_add, Nat.mul_one, Nat.add_zero, Int.zero_add, Int.reduceToNat, Nat.reducePow, ↓reduceIte, reduceCtorEq, Int.reduceLE, Int.reduceLT, Int.reduceEq, Int.reduceNe, Int.reduceAdd, Int.reduceSub, Int.reduceMul, Int.reduceNeg, Nat.reduceBEq, show regOf Tryd.f15 0 = Code.region _ _ _ from rfl, show regOf Tryd.f15 1 = Code.region _ _ _ from rfl, show regOf Tryd.f15 2 = Code.region _ _ _ from rfl, show regOf Tryd.f15 4 = Code.region _ _ _ from rfl, show regOf Tryd.f15 5 = Code.region _ _ _ from rfl, e1, g0, cv]
    simp (implicitDefEqProofs := false) (disch := omega) only [go_sem, Nat.reduceAdd, Nat.reduceSub, Nat.reduceMul, Nat.reduceLT, Nat.reduceLeDiff, Nat.reduceEqDiff, List.drop_zero, List.take_succ_cons, List.take_zero, List.drop_succ_cons, Bool.and_true, Bool.true_and, Bool.and_false, Bool.false_and, BitVec.reduceOfInt, Nat.zero_add, Nat.mul_one, Nat.add_zero, Int.zero_add, Int.reduceToNat, Nat.reducePow, ↓reduceIte, reduceCtorEq, Int.reduceLE, Int.reduceLT, Int.reduceEq, Int.reduceNe, Int.reduceAdd, Int.reduceSub, Int.reduceMul, Int.reduceNeg, Nat.reduceBEq, show regOf Tryd.f15 10 = Code.region _ _ _ from rfl, hN, e2, aresults, tupOf, Option.map_some]
  obtain ⟨v, h, e, x⟩ := e
  rw [pcall_eq, e, vb_pure x]
  rfl
theorem match15n (a b : Tm) (ha : a.fit) (hb : b.fit) (hsz : tsz a ≤ 100000) (hP : mS (tsz a) [(a, b)] ([], 0) = none) : pcall Tryd.prog md fg 15 [tmV a, tmV b] = some (mtV none) := by
  have e : ∃ h, aval Tryd.prog md fg 15 [tmV a, tmV b] [] = some (.tup [.slc true [], .bool false], h) := by
    obtain ⟨x, h1, e1⟩ := match_c a b ha hb hsz [.vars (tmV a).cells, .vars (tmV b).cells] (fun i hi => by
      match i, hi with
      | 0, _ => exact ⟨_, rfl⟩
      | 1, _ => exact ⟨_, rfl⟩)
    have hab : abv a b = false := by unfold abv; rw [hP]; rfl
    rw [hab] at e1
    obtain ⟨k, p, m, n, l⟩ := a
    obtain ⟨k', p', m', n', l'⟩ := b
    rw [tmV_mk, tmV_mk] at *
    change doCall md (aval Tryd.prog md fg) 27 _ [.vars [.int k, .str (txt p), .str (txt m), .int n, .slc false (l.map tmV)], .vars [.int k', .str (txt p'), .str (txt m'), .int n', .slc false (l'.map tmV)]] = _ at e1
    rw [aval_of Tryd.func15 body15 Tryd.results15 Tryd.ntmps15 ok15]
    simp (implicitDefEqProofs := false) (disch := omega) only [go_sem, Nat.reduceAdd, Nat.reduceSub, Nat.reduceMul, Nat.reduceLT, Nat.reduceLeDiff, Nat.reduceEqDiff, List.drop_zero, List.take_succ_cons, List.take_zero, List.drop_succ_cons, Bool.and_true, Bool.true_and, Bool.and_false, Bool.false_and, BitVec.reduceOfInt, Nat.zero_add, Nat.mul_one, Nat.add_zero, Int.zero_add, Int.reduceToNat, Nat.reducePow, ↓reduceIte, reduceCtorEq, Int.reduceLE, Int.reduceLT, Int.reduceEq, Int.reduceNe, Int.reduceAdd, Int.reduceSub, Int.reduceMul, Int.reduceNeg, Nat.reduceBEq, show regOf Tryd.f15 0 = Code.region _ _ _ from rfl, show regOf Tryd.f15 1 = Code.region _ _ _ from rfl, show regOf Tryd.f15 2 = Code.region _ _ _ from rfl, show regOf Tryd.f15 3 = Code.region _ _ _ from rfl, e1, aresults, tupOf, Option.map_some]
    exact ⟨_, rfl⟩
  obtain ⟨h, e⟩ := e
  rw [pcall_eq, e]
  rfl
end Go.Proofs.YtedapgcaibbhoaaDoor
namespace Go.Proofs.YtedapgcaibbhoaaDoor
open Go Go.Ab Go.Proofs
set_option maxRecDepth 100000
set_option linter.unusedSimpArgs false
set_option linter.unusedVariables false
mutual
/-- Types in the place of variables. -/
def subT (L : List Vl) : Tm → Tm | .mk k p m n ks => if k = 1 then (match fv m L 0 with | some (_, t) => t | none => .mk k p m n (subL L ks)) else .mk k p m n (subL L ks)
def subL (L : List Vl) : List Tm → List Tm | [] => [] | t :: r => subT L t :: subL L r
end
abbrev nmV (L : List Vl) : AV := .slc false ((L.map Prod.fst).map sV)
abbrev byV (L : List Vl) : AV := .slc false ((L.map Prod.snd).map tmV)
theorem s_loop1 (p m : List UInt8) (n : Int) (ks : List Tm) (L : List Vl) (hL : L.length ≤ 100000) : ∀ (r : List Vl) (i : Nat), L.drop i = r → i ≤ L.length → ∃ i' : Int,
    lrun Tryd.prog md fg (fg 11) (loopOf Tryd.f11 0) (fg 11 1) ((.unk :: (nmV L) :: (byV L) :: (.ptr 0 0) :: .unk :: .unk :: (.ptr 1 0) :: (.int i) :: .unk :: .unk :: .unk :: .unk :: .unk :: .unk :: .unk :: .unk :: .unk :: .unk :: .unk :: .unk :: .unk :: .unk :: .unk :: .unk :: .unk :: .unk :: .unk :: .unk :: .unk :: .unk :: .unk :: .unk :: .unk :: .unk :: .unk :: .unk :: .unk :: .unk :: .unk :: .unk :: .unk :: .unk :: .unk :: .unk :: .unk :: .unk :: .unk :: .unk :: .unk :: .unk :: .unk :: .unk :: .unk :: .unk :: .unk :: .unk :: .unk :: .unk :: .unk :: .unk :: .unk :: .unk :: .unk :: .unk :: .unk :: .unk :: [] : List AV)) [.vars [.int 1, .str (txt p), .str (txt m), .int n, .slc false (ks.map tmV)], .vars [.int 0, .str ⟨#[]⟩, .str ⟨#[]⟩, .int 0, .slc true []]] = some (match fv m r i with
      | some (_, t) => (.ret, (.unk :: (nmV L) :: (byV L) :: (.ptr 0 0) :: .unk :: .unk :: (.ptr 1 0) :: (.int i') :: .unk :: .unk :: .unk :: .unk :: .unk :: .unk :: .unk :: .unk :: .unk :: .unk :: .unk :: .unk :: .unk :: .unk :: .unk :: .unk :: .unk :: .unk :: .unk :: .unk :: .unk :: .unk :: .unk :: .unk :: .unk :: .unk :: .unk :: .unk :: .unk :: .unk :: .unk :: .unk :: .unk :: .unk :: .unk :: .unk :: .unk :: .unk :: .unk :: .unk :: .unk :: .unk :: .unk :: .unk :: .unk :: .unk :: .unk :: .unk :: .unk :: .unk :: .unk :: .unk :: .unk :: .unk :: .unk :: .unk :: .unk :: .unk :: [] : List AV), [.vars [.int 1, .str (txt p), .str (txt m), .int n, .slc false (ks.map tmV)], .vars (tmV t).cells])
      | none => (.exit 0, (.unk :: (nmV L) :: (byV L) :: (.ptr 0 0) :: .unk :: .unk :: (.ptr 1 0) :: (.int i') :: .unk :: .unk :: .unk :: .unk :: .unk :: .unk :: .unk :: .unk :: .unk :: .unk :: .unk :: .unk :: .unk :: .unk :: .unk :: .unk :: .unk :: .unk :: .unk :: .unk :: .unk :: .unk :: .unk :: .unk :: .unk :: .unk :: .unk :: .unk :: .unk :: .unk :: .unk :: .unk :: .unk :: .unk :: .unk :: .unk :: .unk :: .unk :: .unk :: .unk :: .unk :: .unk :: .unk :: .unk :: .unk :: .unk :: .unk :: .unk :: .unk :: .unk :: .unk :: .unk :: .unk :: .unk :: .unk :: .unk :: .unk :: .unk :: [] : List AV), [.vars [.int 1, .str (txt p), .str (txt m), .int n, .slc false (ks.map tmV)], .vars [.int 0, .str ⟨#[]⟩, .str ⟨#[]⟩, .int 0, .slc true []]]))
  | [], i, hdr, hi => by
    have : i = L.length := by have := congrArg List.length hdr; simp at this; omega
    subst this
    refine ⟨(L.length : Int), ?_⟩
    simp only [fv]
    rw [lrun_atC loop11_0]
    simp (implicitDefEqProofs := false) (disch := omega) only [go_sem, Nat.reduceAdd, Nat.reduceSub, Nat.reduceMul, Nat.reduceLT, Nat.reduceLeDiff, Nat.reduceEqDiff, List.drop_zero, List.take_succ_cons, List.take_zero, List.drop_succ_cons, Bool.and_true, Bool.true_and, Bool.and_false, Bool.false_and, BitVec.reduceOfInt, Nat.zero_add, Nat.mul_one, Nat.add_zero, Int.zero_add, Int.reduceToNat, Nat.reducePow, ↓reduceIte, reduceCtorEq, Int.reduceLE, Int.reduceLT, Int.reduceEq, Int.reduceNe, Int.reduceAdd, Int.reduceSub, Int.reduceMul, Int.reduceNeg, Nat.reduceBEq, show regOf Tryd.f11 2 = Code.region _ _ _ from rfl, List.length_map]
  | ⟨s, k2, p2, m2, n2, l2⟩ :: r, i, hdr, hi => by
    have hx : L[i]? = some (s, ⟨k2, p2, m2, n2, l2⟩) := by have := congrArg (·[0]?) hdr; simpa using this
    have hlt : i < L.length := (List.getElem?_eq_some_iff.1 hx).1
    have hd' : L.drop (i + 1) = r := by rw [← List.tail_drop, hdr]; rfl
    have ht : ((i : Int)).toNat = i := by omega
    have hs := str_eq s m
    by_cases hk : s = m
    · refine ⟨(i : Int), ?_⟩
      rw [fv, if_pos hk]
      subst hk
      dsimp only
      rw [tmV_mk]
      rw [lrun_atC loop11_0]
      simp (implicitDefEqProofs := false) (disch := omega) only [go_sem, Nat.reduceAdd, Nat.reduceSub, Nat.reduceMul, Nat.reduceLT, Nat.reduceLeDiff, Nat.reduceEqDiff, List.drop_zero, List.take_succ_cons, List.take_zero, List.drop_succ_cons, Bool.and_true, Bool.true_and, Bool.and_false, Bool.false_and, BitVec.reduceOfInt, Nat.zero_add, Nat.mul_one, Nat.add_zero, Int.zero_add, Int.reduceToNat, Nat.reducePow, ↓reduceIte, reduceCtorEq, Int.reduceLE, Int.reduceLT, Int.reduceEq, Int.reduceNe, Int.reduceAdd, Int.reduceSub, Int.reduceMul, Int.reduceNeg, Nat.reduceBEq, show regOf Tryd.f11 2 = Code.region _ _ _ from rfl, show regOf Tryd.f11 4 = Code.region _ _ _ from rfl, show regOf Tryd.f11 5 = Code.region _ _ _ from rfl, show regOf Tryd.f11 6 = Code.region _ _ _ from rfl, ↓tail_nil, ↓subs_nil_all, ↓List.forall_mem_cons, ↓all_nil, List.length_map, List.getElem?_map, ht, hx, Option.map_some, tmV_mk]
    · obtain ⟨i', e⟩ := s_loop1 p m n ks L hL r (i + 1) hd' (by omega)
      refine ⟨i', ?_⟩
      rw [fv, if_neg (show ¬ (s, (⟨k2, p2, m2, n2, l2⟩ : Tm)).1 = m from hk), ← e]
      rw [lrun_atC loop11_0]
      simp (implicitDefEqProofs := false) (disch := omega) only [go_sem, Nat.reduceAdd, Nat.reduceSub, Nat.reduceMul, Nat.reduceLT, Nat.reduceLeDiff, Nat.reduceEqDiff, List.drop_zero, List.take_succ_cons, List.take_zero, List.drop_succ_cons, Bool.and_true, Bool.true_and, Bool.and_false, Bool.false_and, BitVec.reduceOfInt, Nat.zero_add, Nat.mul_one, Nat.add_zero, Int.zero_add, Int.reduceToNat, Nat.reducePow, ↓reduceIte, reduceCtorEq, Int.reduceLE, Int.reduceLT, Int.reduceEq, Int.reduceNe, Int.reduceAdd, Int.reduceSub, Int.reduceMul, Int.reduceNeg, Nat.reduceBEq, show regOf Tryd.f11 2 = Code.region _ _ _ from rfl, show regOf Tryd.f11 4 = Code.region _ _ _ from rfl, show regOf Tryd.f11 3 = Code.region _ _ _ from rfl, ↓tail_nil, ↓subs_nil_all, ↓List.forall_mem_cons, ↓all_nil, List.length_map, List.getElem?_map, ht, hx, Option.map_some, hs, hk]
      all_goals (congr 1 <;> simp only [List.cons.injEq, AV.val.injEq, Value.int.injEq, Value.bool.injEq, true_and, and_true] <;> omega)
/-- A list of terms in an array of one's own. -/
def TL (h : AHeap) (v : AV) (L : List Tm) : Prop := (v = .slc true [] ∧ L = []) ∨ ∃ k g, v = .arr k 0 L.length g 5 ∧ hget h k = .arr 5 (L.map tmV) g
theorem tl_add {h : AHeap} {v : AV} {L : List Tm} (hv : TL h v L) (x : Tm) (hn : L.length ≤ 100000) : ∃ v' h', (∀ z, appT (some (5, 72, z)) h v (some [tmV x]) = some (v', h')) ∧ TL h' v' (L ++ [x]) ∧ KeepO h h' ∧ fits 1 v' = true ∧ v'.cells = [v'] := by
  have hx : headOk 5 [tmV x] = true := by obtain ⟨k, p, m, n, ks⟩ := x; rw [tmV_mk]; rfl
  obtain ⟨rfl, rfl⟩ | ⟨k, g, rfl, ho⟩ := hv
  · exact ⟨.arr h.length 0 (0 + 1) 0 5, h ++ [.arr 5 ([] ++ [tmV x]) 0], fun z => appT_slc _ _ _ _ _ hx rfl (by simp) (by simp), .inr ⟨h.length, 0, by simp, hget_last⟩, keep_app _ _, rfl, rfl⟩
  · have hk := hlt_of ho (by simp)
    refine ⟨.arr k 0 (L.length + 1) (g + 1) 5, h.set k (.arr 5 (L.map tmV ++ [tmV x]) (g + 1)), fun z => appT_arr _ _ _ _ _ _ _ _ ho (by simp) hx (by simp; omega), .inr ⟨k, g + 1, by simp, by rw [hget_set_eq hk]; simp⟩, ⟨by simp, fun j o e h1 h2 => ?_⟩, rfl, rfl⟩
    have hjk : ¬ k = j := by rintro rfl; rw [ho] at e; exact h1 _ _ _ e.symm
    rw [hget_set_ne hjk]; exact e
theorem tl_set {h : AHeap} {v : AV} {L : List Tm} (hv : TL h v L) {j : Nat} {cs : List AV} {o' : AObj} (hj : hget h j = .vars cs) : TL (h.set j o') v L := by
  obtain h1 | ⟨k, g, e, ho⟩ := hv
  · exact .inl h1
  · refine .inr ⟨k, g, e, ?_⟩
    have hjk : ¬ j = k := by rintro rfl; rw [hj] at ho; cases ho
    rw [hget_set_ne hjk]; exact ho
def ST (L : List Vl) (t : Tm) : Prop := pcall Tryd.prog md fg 11 [tmV t, nmV L, byV L] = some (tmV (subT L t))
theorem solid_byl : ∀ l : List Tm, solidL (l.map tmV) = true := fun l => by rw [← tmsV_eq]; exact solid_tms l
set_option maxHeartbeats 4000000 in
theorem s_loop2 (k : Int) (p m : List UInt8) (n : Int) (ks : List Tm) (hks : ks.length ≤ 100000) (L : List Vl) (hS : ∀ t ∈ ks, ST L t) (Z : AObj) : ∀ (r : List Tm) (i : Nat) (h : AHeap) (v : AV), ks.drop i = r → i ≤ ks.length → hget h 0 = .vars [.int k, .str (txt p), .str (txt m), .int n, .slc false (ks.map tmV)] → hget h 1 = .vars [.int 0, .str ⟨#[]⟩, .str ⟨#[]⟩, .int 0, .slc true []] → hget h 2 = .vars [.int k, .str (txt p), .str (txt m), .int n, v] → TL h v (subL L (ks.take i)) → ∃ v' h',
    lrun Tryd.prog md fg (fg 11) (loopOf Tryd.f11 2) (fg 11 3) ((.unk :: (nmV L) :: (byV L) :: (.ptr 0 0) :: .unk :: .unk :: (.ptr 1 0) :: .unk :: (.ptr 2 0) :: (.int i) :: .unk :: .unk :: .unk :: .unk :: .unk :: .unk :: .unk :: .unk :: .unk :: .unk :: .unk :: .unk :: .unk :: .unk :: .unk :: .unk :: .unk :: .unk :: .unk :: .unk :: .unk :: .unk :: .unk :: .unk :: .unk :: .unk :: .unk :: .unk :: .unk :: .unk :: .unk :: .unk :: .unk :: .unk :: .unk :: .unk :: .unk :: .unk :: .unk :: .unk :: .unk :: .unk :: .unk :: .unk :: .unk :: .unk :: .unk :: .unk :: .unk :: .unk :: .unk :: .unk :: .unk :: .unk :: .unk :: .unk :: [] : List AV)) h = some (.exit 2, (.unk :: (nmV L) :: (byV L) :: (.ptr 0 0) :: .unk :: .unk :: (.ptr 1 0) :: .unk :: (.ptr 2 0) :: (.int ks.length) :: .unk :: .unk :: .unk :: .unk :: .unk :: .unk :: .unk :: .unk :: .unk :: .unk :: .unk :: .unk :: .unk :: .unk :: .unk :: .unk :: .unk :: .unk :: .unk :: .unk :: .unk :: .unk :: .unk :: .unk :: .unk :: .unk :: .unk :: .unk :: .unk :: .unk :: .unk :: .unk :: .unk :: .unk :: .unk :: .unk :: .unk :: .unk :: .unk :: .unk :: .unk :: .unk :: .unk :: .unk :: .unk :: .unk :: .unk :: .unk :: .unk :: .unk :: .unk :: .unk :: .unk :: .unk :: .unk :: .unk :: [] : List AV), h') ∧ hget h' 1 = .vars [.int 0, .str ⟨#[]⟩, .str ⟨#[]⟩, .int 0, .slc true []] ∧ hget h' 2 = .vars [.int k, .str (txt p), .str (txt m), .int n, v'] ∧ TL h' v' (subL L ks)
  | [], i, h, v, hdr, hi, g0, g1, g2, hT => by
    have : i = ks.length := by have := congrArg List.length hdr; simp at this; omega
    subst this
    rw [List.take_length] at hT
    refine ⟨v, h, ?_, g1, g2, hT⟩
    rw [lrun_atC loop11_2]
    simp (implicitDefEqProofs := false) (disch := omega) only [go_sem, Nat.reduceAdd, Nat.reduceSub, Nat.reduceMul, Nat.reduceLT, Nat.reduceLeDiff, Nat.reduceEqDiff, List.drop_zero, List.take_succ_cons, List.take_zero, List.drop_succ_cons, Bool.and_true, Bool.true_and, Bool.and_false, Bool.false_and, BitVec.reduceOfInt, Nat.zero_add, Nat.mul_one, Nat.add_zero, Int.zero_add, Int.reduceToNat, Nat.reducePow, ↓reduceIte, reduceCtorEq, Int.reduceLE, Int.reduceLT, Int.reduceEq, Int.reduceNe, Int.reduceAdd, Int.reduceSub, Int.reduceMul, Int.reduceNeg, Nat.reduceBEq, show regOf Tryd.f11 9 = Code.region _ _ _ from rfl, List.length_map, g0]
  | ⟨k2, p2, m2, n2, l2⟩ :: r, i, h, v, hdr, hi, g0, g1, g2, hT => by
    have hx : ks[i]? = some ⟨k2, p2, m2, n2, l2⟩ := by have := congrArg (·[0]?) hdr; simpa using this
    have hlt : i < ks.length := (List.getElem?_eq_some_iff.1 hx).1
    have hd' : ks.drop (i + 1) = r := by rw [← List.tail_drop, hdr]; rfl
    have ht : ((i : Int)).toNat = i := by omega
    have hst := hS _ (List.mem_of_getElem? hx)
    have cs : ∀ h, doCall md (aval Tryd.prog md fg) 11 [tmV ⟨k2, p2, m2, n2, l2⟩, nmV L, byV L] h = some (tmV (subT L ⟨k2, p2, m2, n2, l2⟩), h) := fun h => doCall_pure6 (by rw [md11]; decide) (by simp only [solidL, solid, solid_tm, solid_names, solid_byl, Bool.not_false, Bool.and_true]) hst
    have hsl : ∀ a b : List Tm, subL L (a ++ b) = subL L a ++ subL L b := by
      intro a
      induction a with
      | nil => intro b; rw [subL]; rfl
      | cons x a ih => intro b; rw [List.cons_append, subL, subL, ih]; rfl
    have hlen : ∀ a : List Tm, (subL L a).length = a.length := by
      intro a
      induction a with
      | nil => rw [subL]
      | cons x a ih => rw [subL, List.length_cons, ih, List.length_cons]
    obtain ⟨v1, h1, e1, x1, k1, f1, c1⟩ := tl_add hT (subT L ⟨k2, p2, m2, n2, l2⟩) (by rw [hlen]; simp; omega)
    have htk : subL L (ks.take i) ++ [subT L ⟨k2, p2, m2, n2, l2⟩] = subL L (ks.take (i + 1)) := by
      rw [List.take_add_one, hx, hsl]
      show _ = _ ++ subL L [_]
      rw [subL, subL]
    rw [htk] at x1
    have q0 := k1.2 0 _ g0 (by simp) (by simp)
    have q1 := k1.2 1 _ g1 (by simp) (by simp)
    have q2 := k1.2 2 _ g2 (by simp) (by simp)
    have hl2 : 2 < h1.length := hlt_of q2 (by simp)
    obtain ⟨v2, h2, e2, y1, y2, y3⟩ := s_loop2 k p m n ks hks L hS Z r (i + 1) (h1.set 2 (.vars [.int k, .str (txt p), .str (txt m), .int n, v1])) v1 hd' (by omega) (by rw [hget_set_ne (by decide)]; exact q0) (by rw [hget_set_ne (by decide)]; exact q1) (hget_set_eq hl2) (tl_set x1 q2)
    refine ⟨v2, h2, ?_, y1, y2, y3⟩
    rw [← e2]
    generalize subT L ⟨k2, p2, m2, n2, l2⟩ = T at *
    obtain ⟨k3, p3, m3, n3, l3⟩ := T
    rw [tmV_mk] at e1
    rw [tmV_mk, tmV_mk] at cs
    rw [lrun_atC loop11_2]
    simp (implicitDefEqProofs := false) (disch := omega) only [go_sem, Nat.reduceAdd, Nat.reduceSub, Nat.reduceMul, Nat.reduceLT, Nat.reduceLeDiff, Nat.reduceEqDiff, List.drop_zero, List.take_succ_cons, List.take_zero, List.drop_succ_cons, Bool.and_true, Bool.true_and, Bool.and_false, Bool.false_and, BitVec.reduceOfInt, Nat.zero_add, Nat.mul_one, Nat.add_zero, Int.zero_add, Int.reduceToNat, Nat.reducePow, ↓reduceIte, reduceCtorEq, Int.reduceLE, Int.reduceLT, Int.reduceEq, Int.reduceNe, Int.reduceAdd, Int.reduceSub, Int.reduceMul, Int.reduceNeg, Nat.reduceBEq, show regOf Tryd.f11 9 = Code.region _ _ _ from rfl, show regOf Tryd.f11 11 = Code.region _ _ _ from rfl, show regOf Tryd.f11 10 = Code.region _ _ _ from rfl, ↓tail_nil, ↓subs_nil_all, ↓List.forall_mem_cons, ↓all_nil, md11, Bool.or_self, Bool.false_or, Bool.or_false, Option.some_beq_some, Nat.reduceBEq, thenDraw_append, thenDraw_store, List.length_map, List.getElem?_map, ht, hx, Option.map_some, tmV_mk, g0, g2, q0, q2, cs, e1, f1, c1]

    all_goals (congr 1 <;> simp only [List.cons.injEq, AV.val.injEq, Value.int.injEq, Value.bool.injEq, true_and, and_true] <;> omega)
end Go.Proofs.YtedapgcaibbhoaaDoor
namespace Go.Proofs.YtedapgcaibbhoaaDoor
open Go Go.Ab Go.Proofs
set_option maxRecDepth 100000
set_option linter.unusedSimpArgs false
set_option linter.unusedVariables false
theorem tl_exp {h : AHeap} {v : AV} {L : List Tm} (hv : TL h v L) (d : Nat) : solid v = false ∧ ∃ ids, exp1 h (d + 1) v = some (.slc false (L.map tmV), ids) ∧ canFrz h ids = true := by
  obtain ⟨rfl, rfl⟩ | ⟨k, g, rfl, ho⟩ := hv
  · exact ⟨rfl, [], rfl, rfl⟩
  · have := arr_exp ho (solid_byl L) d
    rw [List.length_map] at this
    exact ⟨rfl, [k], this, by simp [canFrz, ho]⟩
theorem tl_pure {h : AHeap} {v : AV} {L : List Tm} (hv : TL h v L) (a b c d : Value) : pureRes (some (.agg [.val a, .val b, .val c, .val d, v], h)) = some (.agg [.val a, .val b, .val c, .val d, .slc false (L.map tmV)]) := by
  obtain ⟨hn, ids, e, hc⟩ := tl_exp hv 58
  have hb : ∀ a : Value, exp1 h (58 + 1) (.val a) = some (.val a, []) := fun a => rfl
  have e2 : exp1 h expDepth (.agg [.val a, .val b, .val c, .val d, v]) = some (.agg [.val a, .val b, .val c, .val d, .slc false (L.map tmV)], ids) := by
    show exp1 h (58 + 1 + 1) _ = _
    rw [exp1]
    simp only [solid, solidL, hn, Bool.false_and, Bool.and_false, Bool.true_and, if_false, Bool.false_eq_true, expL, hb, e, List.nil_append, List.append_nil, Option.map_some]
  unfold pureRes
  dsimp only
  rw [e2]
  dsimp only
  rw [if_pos hc]
set_option maxHeartbeats 8000000 in
theorem s_node (k : Int) (p m : List UInt8) (n : Int) (ks : List Tm) (hks : ks.length ≤ 100000) (L : List Vl) (hL : L.length ≤ 100000) (hS : ∀ t ∈ ks, ST L t) : ST L ⟨k, p, m, n, ks⟩ := by
  unfold ST
  have node : (∃ i' : Int, lrun Tryd.prog md fg (fg 11) (loopOf Tryd.f11 0) (fg 11 1) ((.unk :: (nmV L) :: (byV L) :: (.ptr 0 0) :: .unk :: .unk :: (.ptr 1 0) :: (.int 0) :: .unk :: .unk :: .unk :: .unk :: .unk :: .unk :: .unk :: .unk :: .unk :: .unk :: .unk :: .unk :: .unk :: .unk :: .unk :: .unk :: .unk :: .unk :: .unk :: .unk :: .unk :: .unk :: .unk :: .unk :: .unk :: .unk :: .unk :: .unk :: .unk :: .unk :: .unk :: .unk :: .unk :: .unk :: .unk :: .unk :: .unk :: .unk :: .unk :: .unk :: .unk :: .unk :: .unk :: .unk :: .unk :: .unk :: .unk :: .unk :: .unk :: .unk :: .unk :: .unk :: .unk :: .unk :: .unk :: .unk :: .unk :: .unk :: [] : List AV)) [.vars [.int k, .str (txt p), .str (txt m), .int n, .slc false (ks.map tmV)], .vars [.int 0, .str ⟨#[]⟩, .str ⟨#[]⟩, .int 0, .slc true []]] = some (.exit 0, (.unk :: (nmV L) :: (byV L) :: (.ptr 0 0) :: .unk :: .unk :: (.ptr 1 0) :: (.int i') :: .unk :: .unk :: .unk :: .unk :: .unk :: .unk :: .unk :: .unk :: .unk :: .unk :: .unk :: .unk :: .unk :: .unk :: .unk :: .unk :: .unk :: .unk :: .unk :: .unk :: .unk :: .unk :: .unk :: .unk :: .unk :: .unk :: .unk :: .unk :: .unk :: .unk :: .unk :: .unk :: .unk :: .unk :: .unk :: .unk :: .unk :: .unk :: .unk :: .unk :: .unk :: .unk :: .unk :: .unk :: .unk :: .unk :: .unk :: .unk :: .unk :: .unk :: .unk :: .unk :: .unk :: .unk :: .unk :: .unk :: .unk :: .unk :: [] : List AV), [.vars [.int k, .str (txt p), .str (txt m), .int n, .slc false (ks.map tmV)], .vars [.int 0, .str ⟨#[]⟩, .str ⟨#[]⟩, .int 0, .slc true []]])) → pcall Tryd.prog md fg 11 [tmV ⟨k, p, m, n, ks⟩, nmV L, byV L] = some (tmV ⟨k, p, m, n, subL L ks⟩) := by
    rintro ⟨i', e1⟩
    obtain ⟨v2, h2, e2, y1, y2, y3⟩ := s_loop2 k p m n ks hks L hS .dead ks 0 [.vars [.int k, .str (txt p), .str (txt m), .int n, .slc false (ks.map tmV)], .vars [.int 0, .str ⟨#[]⟩, .str ⟨#[]⟩, .int 0, .slc true []], .vars [.int k, .str (txt p), .str (txt m), .int n, .slc true []]] (.slc true []) (by simp) (by omega) rfl rfl rfl (.inl ⟨rfl, by rw [List.take_zero, subL]⟩)
    simp only [Int.natCast_zero] at e2
    have hl1 : 1 < h2.length := hlt_of y1 (by simp)
    have z1 : hget (h2.set 1 (.vars [.int k, .str (txt p), .str (txt m), .int n, v2])) 1 = .vars [.int k, .str (txt p), .str (txt m), .int n, v2] := hget_set_eq hl1
    have e : aval Tryd.prog md fg 11 [tmV ⟨k, p, m, n, ks⟩, nmV L, byV L] [] = some (.agg [.int k, .str (txt p), .str (txt m), .int n, v2], h2.set 1 (.vars [.int k, .str (txt p), .str (txt m), .int n, v2])) := by
      rw [tmV_mk]
      rw [aval_of Tryd.func11 body11 Tryd.results11 Tryd.ntmps11 ok11]
      simp (implicitDefEqProofs := false) (disch := omega) only [go_sem, Nat.reduceAdd, Nat.reduceSub, Nat.reduceMul, Nat.reduceLT, Nat.reduceLeDiff, Nat.reduceEqDiff, List.drop_zero, List.take_succ_cons, List.take_zero, List.drop_succ_cons, Bool.and_true, Bool.true_and, Bool.and_false, Bool.false_and, BitVec.reduceOfInt, Nat.zero_add, Nat.mul_one, Nat.add_zero, Int.zero_add, Int.reduceToNat, Nat.reducePow, ↓reduceIte, reduceCtorEq, Int.reduceLE, Int.reduceLT, Int.reduceEq, Int.reduceNe, Int.reduceAdd, Int.reduceSub, Int.reduceMul, Int.reduceNeg, Nat.reduceBEq, show regOf Tryd.f11 0 = Code.region _ _ _ from rfl, show regOf Tryd.f11 1 = Code.region _ _ _ from rfl, show regOf Tryd.f11 7 = Code.region _ _ _ from rfl, show regOf Tryd.f11 8 = Code.region _ _ _ from rfl, e1, e2]
      simp (implicitDefEqProofs := false) (disch := omega) only [go_sem, Nat.reduceAdd, Nat.reduceSub, Nat.reduceMul, Nat.reduceLT, Nat.reduceLeDiff, Nat.reduceEqDiff, List.drop_zero, List.take_succ_cons, List.take_zero, List.drop_succ_cons, Bool.and_true, Bool.true_and, Bool.and_false, Bool.false_and, BitVec.reduceOfInt, Nat.zero_add, Nat.mul_one, Nat.add_zero, Int.zero_add, Int.reduceToNat, Nat.reducePow, ↓reduceIte, reduceCtorEq, Int.reduceLE, Int.reduceLT, Int.reduceEq, Int.reduceNe, Int.reduceAdd, Int.reduceSub, Int.reduceMul, Int.reduceNeg, Nat.reduceBEq, show regOf Tryd.f11 12 = Code.region _ _ _ from rfl, y1, y2, z1, aresults, tupOf, Option.map_some]
    rw [pcall_eq, e, tl_pure (tl_set y3 y1), tmV_mk]
  rw [subT]
  by_cases hk : k = 1
  · subst hk
    rw [if_pos rfl]
    obtain ⟨i', e1⟩ := s_loop1 p m n ks L hL L 0 (by simp) (by omega)
    simp only [Int.natCast_zero] at e1
    cases hf : fv m L 0 with
    | none =>
      rw [hf] at e1
      dsimp only at e1 ⊢
      exact node ⟨i', e1⟩
    | some q =>
      obtain ⟨j, t⟩ := q
      rw [hf] at e1
      dsimp only at e1 ⊢
      have hs := solid_tm t
      obtain ⟨k2, p2, m2, n2, l2⟩ := t
      simp only [tmV_mk] at e1 hs ⊢
      have e : ∃ h, aval Tryd.prog md fg 11 [.agg [.int 1, .str (txt p), .str (txt m), .int n, .slc false (ks.map tmV)], nmV L, byV L] [] = some (.agg [.int k2, .str (txt p2), .str (txt m2), .int n2, .slc false (l2.map tmV)], h) := by
        change _ = some (Ex.ret, _, [_, AObj.vars [.int k2, .str (txt p2), .str (txt m2), .int n2, .slc false (l2.map tmV)]]) at e1
        rw [aval_of Tryd.func11 body11 Tryd.results11 Tryd.ntmps11 ok11]
        simp (implicitDefEqProofs := false) (disch := omega) only [go_sem, Nat.reduceAdd, Nat.reduceSub, Nat.reduceMul, Nat.reduceLT, Nat.reduceLeDiff, Nat.reduceEqDiff, List.drop_zero, List.take_succ_cons, List.take_zero, List.drop_succ_cons, Bool.and_true, Bool.true_and, Bool.and_false, Bool.false_and, BitVec.reduceOfInt, Nat.zero_add, Nat.mul_one, Nat.add_zero, Int.zero_add, Int.reduceToNat, Nat.reducePow, ↓reduceIte, reduceCtorEq, Int.reduceLE, Int.reduceLT, Int.reduceEq, Int.reduceNe, Int.reduceAdd, Int.reduceSub, Int.reduceMul, Int.reduceNeg, Nat.reduceBEq, show regOf Tryd.f11 0 = Code.region _ _ _ from rfl, show regOf Tryd.f11 1 = Code.region _ _ _ from rfl, e1, aresults, tupOf, Option.map_some]
        exact ⟨_, rfl⟩
      obtain ⟨h, e⟩ := e
      rw [pcall_eq, e, pureRes_solid hs]
  · rw [if_neg hk]
    refine node ⟨0, ?_⟩
    rw [lrun_atC loop11_0]
    by_cases h0 : L.length = 0
    · have : L = [] := List.length_eq_zero_iff.1 h0
      subst this
      simp (implicitDefEqProofs := false) (disch := omega) only [go_sem, Nat.reduceAdd, Nat.reduceSub, Nat.reduceMul, Nat.reduceLT, Nat.reduceLeDiff, Nat.reduceEqDiff, List.drop_zero, List.take_succ_cons, List.take_zero, List.drop_succ_cons, Bool.and_true, Bool.true_and, Bool.and_false, Bool.false_and, BitVec.reduceOfInt, Nat.zero_add, Nat.mul_one, Nat.add_zero, Int.zero_add, Int.reduceToNat, Nat.reducePow, ↓reduceIte, reduceCtorEq, Int.reduceLE, Int.reduceLT, Int.reduceEq, Int.reduceNe, Int.reduceAdd, Int.reduceSub, Int.reduceMul, Int.reduceNeg, Nat.reduceBEq, show regOf Tryd.f11 2 = Code.region _ _ _ from rfl, List.map_nil, List.length_nil]
    · simp (implicitDefEqProofs := false) (disch := omega) only [go_sem, Nat.reduceAdd, Nat.reduceSub, Nat.reduceMul, Nat.reduceLT, Nat.reduceLeDiff, Nat.reduceEqDiff, List.drop_zero, List.take_succ_cons, List.take_zero, List.drop_succ_cons, Bool.and_true, Bool.true_and, Bool.and_false, Bool.false_and, BitVec.reduceOfInt, Nat.zero_add, Nat.mul_one, Nat.add_zero, Int.zero_add, Int.reduceToNat, Nat.reducePow, ↓reduceIte, reduceCtorEq, Int.reduceLE, Int.reduceLT, Int.reduceEq, Int.reduceNe, Int.reduceAdd, Int.reduceSub, Int.reduceMul, Int.reduceNeg, Nat.reduceBEq, show regOf Tryd.f11 2 = Code.region _ _ _ from rfl, List.length_map, hk]
mutual
theorem ST_all (L : List Vl) (hL : L.length ≤ 100000) : ∀ t : Tm, tsz t ≤ 100000 → ST L t
  | ⟨k, p, m, n, ks⟩, h => by
    rw [tsz] at h
    have hl : ∀ l : List Tm, l.length ≤ tszs l := by
      intro l
      induction l with
      | nil => simp
      | cons a b ih => have := tsz_pos a; simp only [tszs, List.length_cons]; omega
    exact s_node k p m n ks (by have := hl ks; omega) L hL (ST_alls L hL ks (by omega))
theorem ST_alls (L : List Vl) (hL : L.length ≤ 100000) : ∀ l : List Tm, tszs l ≤ 100000 → ∀ t ∈ l, ST L t
  | [], _, t, h => by cases h
  | a :: r, hs, t, h => by
    rw [tszs] at hs
    rcases List.mem_cons.1 h with h | h
    · rw [h]; exact ST_all L hL a (by omega)
    · exact ST_alls L hL r (by omega) t h
end
theorem u_loop (L : List Vl) (hL : L.length ≤ 100000) (hf : ∀ v ∈ L, v.2.fit) : ∀ (r : List Vl) (i : Nat) (a4 : AV), L.drop i = r → i ≤ L.length → ∃ a' : AV,
    lrun Tryd.prog md fg (fg 17) (loopOf Tryd.f17 0) (fg 17 1) (((.slc false (L.map vlV)) :: (.slc false (L.map vlV)) :: .unk :: .unk :: (a4) :: (.int i) :: .unk :: .unk :: .unk :: .unk :: .unk :: .unk :: .unk :: .unk :: .unk :: .unk :: .unk :: .unk :: .unk :: .unk :: .unk :: .unk :: .unk :: .unk :: .unk :: .unk :: .unk :: .unk :: .unk :: .unk :: .unk :: .unk :: .unk :: .unk :: .unk :: .unk :: .unk :: .unk :: .unk :: .unk :: .unk :: .unk :: [] : List AV)) [] = some (.exit 0, ((.slc false (L.map vlV)) :: (.slc false (L.map vlV)) :: .unk :: .unk :: (a') :: (.int L.length) :: .unk :: .unk :: .unk :: .unk :: .unk :: .unk :: .unk :: .unk :: .unk :: .unk :: .unk :: .unk :: .unk :: .unk :: .unk :: .unk :: .unk :: .unk :: .unk :: .unk :: .unk :: .unk :: .unk :: .unk :: .unk :: .unk :: .unk :: .unk :: .unk :: .unk :: .unk :: .unk :: .unk :: .unk :: .unk :: .unk :: [] : List AV), [])
  | [], i, a4, hdr, hi => by
    have : i = L.length := by have := congrArg List.length hdr; simp at this; omega
    subst this
    refine ⟨a4, ?_⟩
    rw [lrun_atC loop17_0]
    simp (implicitDefEqProofs := false) (disch := omega) only [go_sem, Nat.reduceAdd, Nat.reduceSub, Nat.reduceMul, Nat.reduceLT, Nat.reduceLeDiff, Nat.reduceEqDiff, List.drop_zero, List.take_succ_cons, List.take_zero, List.drop_succ_cons, Bool.and_true, Bool.true_and, Bool.and_false, Bool.false_and, BitVec.reduceOfInt, Nat.zero_add, Nat.mul_one, Nat.add_zero, Int.zero_add, Int.reduceToNat, Nat.reducePow, ↓reduceIte, reduceCtorEq, Int.reduceLE, Int.reduceLT, Int.reduceEq, Int.reduceNe, Int.reduceAdd, Int.reduceSub, Int.reduceMul, Int.reduceNeg, Nat.reduceBEq, show regOf Tryd.f17 4 = Code.region _ _ _ from rfl, List.length_map]
  | ⟨s, k2, p2, m2, n2, l2⟩ :: r, i, a4, hdr, hi => by
    have hx : L[i]? = some (s, ⟨k2, p2, m2, n2, l2⟩) := by have := congrArg (·[0]?) hdr; simpa using this
    have hlt : i < L.length := (List.getElem?_eq_some_iff.1 hx).1
    have hd' : L.drop (i + 1) = r := by rw [← List.tail_drop, hdr]; rfl
    have ht : ((i : Int)).toNat = i := by omega
    have hft := hf _ (List.mem_of_getElem? hx)
    have cs := rsame_c ⟨k2, p2, m2, n2, l2⟩ ⟨k2, p2, m2, n2, l2⟩ hft hft
    rw [(sameT_iff _ _).2 rfl, tmV_mk] at cs
    obtain ⟨a', e⟩ := u_loop L hL hf r (i + 1) a4 hd' (by omega)
    refine ⟨a', ?_⟩
    rw [← e]
    rw [lrun_atC loop17_0]
    simp (implicitDefEqProofs := false) (disch := omega) only [go_sem, Nat.reduceAdd, Nat.reduceSub, Nat.reduceMul, Nat.reduceLT, Nat.reduceLeDiff, Nat.reduceEqDiff, List.drop_zero, List.take_succ_cons, List.take_zero, List.drop_succ_cons, Bool.and_true, Bool.true_and, Bool.and_false, Bool.false_and, BitVec.reduceOfInt, Nat.zero_add, Nat.mul_one, Nat.add_zero, Int.zero_add, Int.reduceToNat, Nat.reducePow, ↓reduceIte, reduceCtorEq, Int.reduceLE, Int.reduceLT, Int.reduceEq, Int.reduceNe, Int.reduceAdd, Int.reduceSub, Int.reduceMul, Int.reduceNeg, Nat.reduceBEq, show regOf Tryd.f17 4 = Code.region _ _ _ from rfl, show regOf Tryd.f17 6 = Code.region _ _ _ from rfl, show regOf Tryd.f17 5 = Code.region _ _ _ from rfl, ↓tail_nil, ↓subs_nil_all, ↓List.forall_mem_cons, ↓all_nil, List.length_map, List.getElem?_map, ht, hx, Option.map_some, vlV_mk, cs]
    all_goals (congr 1 <;> simp only [List.cons.injEq, AV.val.injEq, Value.int.injEq, Value.bool.injEq, true_and, and_true] <;> omega)
theorem usame_c (L : List Vl) (hL : L.length ≤ 100000) (hf : ∀ v ∈ L, v.2.fit) (h : AHeap) : doCall md (aval Tryd.prog md fg) 17 [.slc false (L.map vlV), .slc false (L.map vlV)] h = some (.val (.bool true), h) := by
  refine doCall_pure md17 (by simp only [solidL, solid, solid_vl, Bool.not_false, Bool.and_true]) ?_
  have e : ∃ h, aval Tryd.prog md fg 17 [.slc false (L.map vlV), .slc false (L.map vlV)] [] = some (.val (.bool true), h) := by
    obtain ⟨a', e⟩ := u_loop L hL hf L 0 (.val (.bool false)) (by simp) (by omega)
    simp only [Int.natCast_zero] at e
    rw [aval_of Tryd.func17 body17 Tryd.results17 Tryd.ntmps17 ok17]
    simp (implicitDefEqProofs := false) (disch := omega) only [go_sem, Nat.reduceAdd, Nat.reduceSub, Nat.reduceMul, Nat.reduceLT, Nat.reduceLeDiff, Nat.reduceEqDiff, List.drop_zero, List.take_succ_cons, List.take_zero, List.drop_succ_cons, Bool.and_true, Bool.true_and, Bool.and_false, Bool.false_and, BitVec.reduceOfInt, Nat.zero_add, Nat.mul_one, Nat.add_zero, Int.zero_add, Int.reduceToNat, Nat.reducePow, ↓reduceIte, reduceCtorEq, Int.reduceLE, Int.reduceLT, Int.reduceEq, Int.reduceNe, Int.reduceAdd, Int.reduceSub, Int.reduceMul, Int.reduceNeg, Nat.reduceBEq, show regOf Tryd.f17 0 = Code.region _ _ _ from rfl, show regOf Tryd.f17 1 = Code.region _ _ _ from rfl, show regOf Tryd.f17 3 = Code.region _ _ _ from rfl, show regOf Tryd.f17 8 = Code.region _ _ _ from rfl, List.length_map, e]
    exact ⟨_, rfl⟩
  obtain ⟨h, e⟩ := e
  rw [pcall_eq, e, pureRes_solid rfl]
end Go.Proofs.YtedapgcaibbhoaaDoor
namespace Go.Proofs.YtedapgcaibbhoaaDoor
open Go Go.Ab Go.Proofs
set_option maxRecDepth 100000
set_option linter.unusedSimpArgs false
set_option linter.unusedVariables false
abbrev hds (k : Int) (p m : List UInt8) (n : Int) (ks : List Tm) (s : Tm) : Prop := k = s.kind ∧ p = s.pkg ∧ m = s.name ∧ n = s.n ∧ ks.length = s.kids.length
mutual
/-- What stands at a type's variables, left to right. -/
def cons : Tm → Tm → Option (List Vl)
  | .mk k p m n ks, s => if k = 1 then some [(m, s)] else if hds k p m n ks s then conss ks s.kids else none
def conss : List Tm → List Tm → Option (List Vl)
  | [], _ => some []
  | _ :: _, [] => some []
  | t :: r, u :: s => (cons t u).bind fun c => (conss r s).map (c ++ ·)
end
def addV : List Vl → List Vl → Option (List Vl)
  | l, [] => some l
  | l, v :: c => match fv v.1 l 0 with
    | some (_, t) => if sameT t v.2 then addV l c else none
    | none => addV (l ++ [v]) c
theorem addV_append : ∀ (a b l : List Vl), addV l (a ++ b) = (addV l a).bind fun l' => addV l' b
  | [], b, l => rfl
  | v :: a, b, l => by
    show addV l (v :: (a ++ b)) = _
    rw [addV, addV]
    cases fv v.1 l 0 with
    | none => exact addV_append a b _
    | some q =>
      obtain ⟨j, t⟩ := q
      dsimp only
      by_cases h : sameT t v.2 = true
      · rw [if_pos h, if_pos h]; exact addV_append a b l
      · rw [if_neg h, if_neg h]; rfl
mutual
theorem rM_cons : ∀ (g s : Tm) (l : List Vl), rM l g s = (cons g s).bind (addV l)
  | ⟨k, p, m, n, ks⟩, s, l => by
    rw [rM, cons]
    by_cases hk : k = 1
    · rw [if_pos hk, if_pos hk]
      show _ = addV l [(m, s)]
      rw [addV]
      cases fv m l 0 with
      | none => rfl
      | some q => rfl
    · rw [if_neg hk, if_neg hk]
      by_cases hh : hds k p m n ks s
      · rw [if_pos hh, if_pos hh]; exact rMs_cons ks s.kids l
      · rw [if_neg hh, if_neg hh]; rfl
theorem rMs_cons : ∀ (gs ss : List Tm) (l : List Vl), rMs l gs ss = (conss gs ss).bind (addV l)
  | [], ss, l => by rw [rMs, conss]; rfl
  | _ :: _, [], l => by rw [rMs, conss]; rfl
  | t :: r, u :: s, l => by
    rw [rMs, conss, rM_cons t u l]
    cases cons t u with
    | none => rfl
    | some c =>
      show (addV l c).bind (fun l' => rMs l' r s) = ((conss r s).map (c ++ ·)).bind (addV l)
      cases hcs : conss r s with
      | none =>
        have : (fun l' => rMs l' r s) = fun _ => none := by funext l'; rw [rMs_cons r s l', hcs]; rfl
        rw [this]
        cases addV l c <;> rfl
      | some c' =>
        have : (fun l' => rMs l' r s) = fun l' => addV l' c' := by funext l'; rw [rMs_cons r s l', hcs]; rfl
        rw [this]
        show _ = addV l (c ++ c')
        rw [addV_append]
end
def putall : Put → List Vl → Option Put
  | P, [] => some P
  | P, v :: c => match pf v.1 P.1 0 with
    | some (_, was) => if sameT was v.2 then putall (putS P v.1 v.2) c else none
    | none => putall (putS P v.1 v.2) c
def consSt : List (Tm × Tm) → Option (List Vl)
  | [] => some []
  | x :: r => (cons x.1 x.2).bind fun c => (consSt r).map (c.reverse ++ ·)
theorem consSt_zip : ∀ (ks us : List Tm) (r : List (Tm × Tm)), ks.length = us.length → consSt ((ks.zip us).reverse ++ r) = (conss ks us).bind fun c => (consSt r).map (c.reverse ++ ·)
  | [], us, r, h => by
    rw [conss]
    show consSt r = (consSt r).map ([] ++ ·)
    cases consSt r <;> rfl
  | _ :: _, [], r, h => by simp at h
  | t :: ks, u :: us, r, h => by
    rw [List.zip_cons_cons, List.reverse_cons, List.append_assoc, List.singleton_append, consSt_zip ks us _ (by simpa using h), conss, consSt]
    dsimp only
    cases cons t u with
    | none => cases conss ks us <;> rfl
    | some d =>
      cases conss ks us with
      | none => rfl
      | some c =>
        cases consSt r with
        | none => rfl
        | some e =>
          simp only [Option.bind_some, Option.map_some, List.reverse_append, List.append_assoc]
theorem mS_cons : ∀ (f : Nat) (st : List (Tm × Tm)) (P : Put), psz st ≤ f → mS f st P = (consSt st).bind (putall P)
  | f, [], P, h => by cases f <;> rfl
  | 0, x :: r, P, h => by have := tsz_pos x.1; simp only [psz] at h; omega
  | f + 1, (⟨k, p, m, n, ks⟩, s) :: r, P, h => by
    simp only [psz, tsz] at h
    rw [mS, consSt]
    dsimp only
    rw [cons]
    by_cases hk : k = 1
    · rw [if_pos (show Tm.kind ⟨k, p, m, n, ks⟩ = 1 from hk), if_pos hk]
      have ih := mS_cons f r (putS P m s) (by omega)
      show (match pf m P.1 0 with | some (_, was) => if sameT was s = true then mS f r (putS P m s) else none | none => mS f r (putS P m s)) = ((consSt r).map ([(m, s)].reverse ++ ·)).bind (putall P)
      rw [ih]
      cases consSt r with
      | none =>
        cases pf m P.1 0 with
        | none => rfl
        | some q => dsimp only; split <;> rfl
      | some c =>
        show _ = putall P ((m, s) :: c)
        rw [putall]
        cases pf m P.1 0 with
        | none => rfl
        | some q => rfl
    · rw [if_neg (show ¬ Tm.kind ⟨k, p, m, n, ks⟩ = 1 from hk), if_neg hk]
      by_cases hh : hds k p m n ks s
      · rw [if_pos hh]
        refine Eq.trans (if_pos hh) ?_
        have hz := psz_zip ks s.kids
        rw [mS_cons f _ P (by rw [psz_append, psz_rev]; exact Nat.le_trans (Nat.add_le_add_right hz _) (by omega))]
        show (consSt ((ks.zip s.kids).reverse ++ r)).bind (putall P) = _
        rw [consSt_zip ks s.kids r hh.2.2.2.2]
      · rw [if_neg hh]
        exact if_neg hh
/-- What a list of values holds for a name. -/
def fT (m : List UInt8) : List Vl → Option Tm
  | [] => none
  | e :: r => if e.1 = m then some e.2 else fT m r
theorem fv_fT (m : List UInt8) : ∀ (l : List Vl) (i : Nat), (fv m l i).map (·.2) = fT m l
  | [], i => rfl
  | e :: r, i => by
    unfold fv fT
    split
    · rfl
    · exact fv_fT m r (i + 1)
theorem fT_append (m : List UInt8) : ∀ (l r : List Vl), fT m (l ++ r) = match fT m l with | some t => some t | none => fT m r
  | [], r => rfl
  | e :: l, r => by
    show (if e.1 = m then some e.2 else fT m (l ++ r)) = match (if e.1 = m then some e.2 else fT m l) with | some t => some t | none => fT m r
    by_cases h : e.1 = m
    · rw [if_pos h, if_pos h]
    · rw [if_neg h, if_neg h]; exact fT_append m l r
def pT (m : List UInt8) : List (List UInt8 × Tm × Nat) → Option Tm
  | [] => none
  | e :: r => if m = e.1 then some e.2.1 else pT m r
theorem pf_pT (m : List UInt8) : ∀ (l : List (List UInt8 × Tm × Nat)) (i : Nat), (pf m l i).map (·.2) = pT m l
  | [], i => rfl
  | e :: r, i => by
    unfold pf pT
    split
    · rfl
    · exact pf_pT m r (i + 1)
theorem pT_append (m : List UInt8) : ∀ (l r : List (List UInt8 × Tm × Nat)), pT m (l ++ r) = match pT m l with | some t => some t | none => pT m r
  | [], r => rfl
  | e :: l, r => by
    show (if m = e.1 then some e.2.1 else pT m (l ++ r)) = match (if m = e.1 then some e.2.1 else pT m l) with | some t => some t | none => pT m r
    by_cases h : m = e.1
    · rw [if_pos h, if_pos h]
    · rw [if_neg h, if_neg h]; exact pT_append m l r
theorem pT_modify (k m : List UInt8) (t : Tm) : ∀ (es : List (List UInt8 × Tm × Nat)) (j i : Nat) (w : Tm), pf k es j = some (i, w) → pT m (es.modify (i - j) fun e => (e.1, t, e.2.2)) = if m = k then some t else pT m es
  | [], j, i, w, h => by cases h
  | e :: r, j, i, w, h => by
    unfold pf at h
    by_cases hk : k = e.1
    · rw [if_pos hk] at h
      cases h
      rw [Nat.sub_self]
      show pT m ((e.1, t, e.2.2) :: r) = _
      unfold pT
      rw [← hk]
      split
      · rfl
      · rfl
    · rw [if_neg hk] at h
      have h1 := (pf_at k r (j + 1) i w h).1
      rw [show i - j = (i - (j + 1)) + 1 by omega]
      show pT m (e :: r.modify (i - (j + 1)) fun e => (e.1, t, e.2.2)) = _
      unfold pT
      rw [pT_modify k m t r (j + 1) i w h]
      by_cases hm : m = k
      · rw [if_pos hm, if_pos hm, if_neg (by rw [hm]; exact hk)]
      · rw [if_neg hm, if_neg hm]
theorem pT_put (P : Put) (k m : List UInt8) (t : Tm) : pT m (putS P k t).1 = if m = k then some t else pT m P.1 := by
  unfold putS
  cases h : pf k P.1 0 with
  | none =>
    dsimp only
    have h0 := pf_pT k P.1 0
    rw [h] at h0
    rw [pT_append]
    by_cases hm : m = k
    · subst hm
      rw [if_pos rfl, ← h0]
      show pT m [(m, t, P.2)] = _
      unfold pT; rw [if_pos rfl]
    · rw [if_neg hm]
      cases pT m P.1 with
      | some x => rfl
      | none => show pT m [(k, t, P.2)] = none; unfold pT; rw [if_neg hm]; rfl
  | some q =>
    obtain ⟨i, w⟩ := q
    dsimp only
    have := pT_modify k m t P.1 0 i w h
    rw [Nat.sub_zero] at this
    exact this
end Go.Proofs.YtedapgcaibbhoaaDoor
namespace Go.Proofs.YtedapgcaibbhoaaDoor
open Go Go.Ab Go.Proofs
set_option maxRecDepth 100000
set_option linter.unusedSimpArgs false
set_option linter.unusedVariables false
/-- No name with two types. -/
def Cns (c : List Vl) : Prop := ∀ m s s', (m, s) ∈ c → (m, s') ∈ c → s = s'
theorem fT_of {m : List UInt8} {l : List Vl} {j : Nat} {t : Tm} (h : fv m l 0 = some (j, t)) : fT m l = some t := by rw [← fv_fT m l 0, h]; rfl
theorem fT_none {m : List UInt8} {l : List Vl} (h : fv m l 0 = none) : fT m l = none := by rw [← fv_fT m l 0, h]; rfl
theorem pT_of {m : List UInt8} {l : List (List UInt8 × Tm × Nat)} {j : Nat} {t : Tm} (h : pf m l 0 = some (j, t)) : pT m l = some t := by rw [← pf_pT m l 0, h]; rfl
theorem pT_none {m : List UInt8} {l : List (List UInt8 × Tm × Nat)} (h : pf m l 0 = none) : pT m l = none := by rw [← pf_pT m l 0, h]; rfl
theorem fT_one (m : List UInt8) (v : Vl) : fT m [v] = if v.1 = m then some v.2 else none := by unfold fT; split <;> rfl
theorem addV_keep : ∀ (c l l' : List Vl), addV l c = some l' → ∀ m t, fT m l = some t → fT m l' = some t
  | [], l, l', h, m, t, hm => by rw [addV] at h; cases h; exact hm
  | v :: c, l, l', h, m, t, hm => by
    rw [addV] at h
    cases hf : fv v.1 l 0 with
    | none =>
      rw [hf] at h
      exact addV_keep c _ l' h m t (by rw [fT_append, hm])
    | some q =>
      rw [hf] at h
      dsimp only at h
      split at h
      · exact addV_keep c l l' h m t hm
      · cases h
theorem addV_has : ∀ (c l l' : List Vl), addV l c = some l' → ∀ v ∈ c, fT v.1 l' = some v.2
  | [], l, l', h, v, hv => by cases hv
  | x :: c, l, l', h, v, hv => by
    rw [addV] at h
    cases hf : fv x.1 l 0 with
    | none =>
      rw [hf] at h
      rcases List.mem_cons.1 hv with rfl | hv
      · exact addV_keep c _ l' h _ _ (by rw [fT_append, fT_none hf]; dsimp only; rw [fT_one, if_pos rfl])
      · exact addV_has c _ l' h v hv
    | some q =>
      rw [hf] at h
      dsimp only at h
      split at h
      · rename_i hs
        rcases List.mem_cons.1 hv with rfl | hv
        · exact addV_keep c l l' h _ _ (by rw [fT_of hf]; exact congrArg some ((sameT_iff _ _).1 hs))
        · exact addV_has c l l' h v hv
      · cases h
theorem addV_ok : ∀ (c l : List Vl), Cns c → (∀ v ∈ c, ∀ t, fT v.1 l = some t → t = v.2) → ∃ l', addV l c = some l'
  | [], l, _, _ => ⟨l, rfl⟩
  | x :: c, l, hc, hl => by
    rw [addV]
    have hc' : Cns c := fun m s s' a b => hc m s s' (List.mem_cons_of_mem _ a) (List.mem_cons_of_mem _ b)
    cases hf : fv x.1 l 0 with
    | none =>
      refine addV_ok c _ hc' fun v hv t ht => ?_
      rw [fT_append] at ht
      cases h1 : fT v.1 l with
      | some t' =>
        rw [h1] at ht
        cases ht
        exact hl v (List.mem_cons_of_mem _ hv) t h1
      | none =>
        rw [h1] at ht
        dsimp only at ht
        rw [fT_one] at ht
        split at ht
        · rename_i hx
          cases ht
          exact hc v.1 x.2 v.2 (by rw [← hx]; exact List.mem_cons_self ..) (List.mem_cons_of_mem _ hv)
        · cases ht
    | some q =>
      have ht := hl x (List.mem_cons_self ..) q.2 (fT_of hf)
      dsimp only
      rw [ht, (sameT_iff _ _).2 rfl, if_pos rfl]
      exact addV_ok c l hc' fun v hv => hl v (List.mem_cons_of_mem _ hv)
theorem putall_keep : ∀ (c : List Vl) (P P' : Put), putall P c = some P' → ∀ m t, pT m P.1 = some t → pT m P'.1 = some t
  | [], P, P', h, m, t, hm => by rw [putall] at h; cases h; exact hm
  | v :: c, P, P', h, m, t, hm => by
    rw [putall] at h
    cases hf : pf v.1 P.1 0 with
    | none =>
      rw [hf] at h
      refine putall_keep c _ P' h m t ?_
      rw [pT_put]
      split
      · rename_i hx; rw [hx, pT_none hf] at hm; cases hm
      · exact hm
    | some q =>
      rw [hf] at h
      dsimp only at h
      split at h
      · rename_i hs
        refine putall_keep c _ P' h m t ?_
        rw [pT_put]
        split
        · rename_i hx
          rw [hx, pT_of hf] at hm
          rw [← hm]; exact congrArg some ((sameT_iff _ _).1 hs).symm
        · exact hm
      · cases h
theorem putall_has : ∀ (c : List Vl) (P P' : Put), putall P c = some P' → ∀ v ∈ c, pT v.1 P'.1 = some v.2
  | [], P, P', h, v, hv => by cases hv
  | x :: c, P, P', h, v, hv => by
    rw [putall] at h
    have key : putall (putS P x.1 x.2) c = some P' := by
      cases hf : pf x.1 P.1 0 with
      | none => rw [hf] at h; exact h
      | some q =>
        rw [hf] at h
        dsimp only at h
        split at h
        · exact h
        · cases h
    rcases List.mem_cons.1 hv with rfl | hv
    · exact putall_keep c _ P' key _ _ (by rw [pT_put, if_pos rfl])
    · exact putall_has c _ P' key v hv
theorem putall_ok : ∀ (c : List Vl) (P : Put), Cns c → (∀ v ∈ c, ∀ t, pT v.1 P.1 = some t → t = v.2) → ∃ P', putall P c = some P'
  | [], P, _, _ => ⟨P, rfl⟩
  | x :: c, P, hc, hl => by
    have hc' : Cns c := fun m s s' a b => hc m s s' (List.mem_cons_of_mem _ a) (List.mem_cons_of_mem _ b)
    obtain ⟨P', ih⟩ := putall_ok c (putS P x.1 x.2) hc' fun v hv t ht => by
      rw [pT_put] at ht
      split at ht
      · rename_i hx
        cases ht
        exact hc v.1 x.2 v.2 (by rw [hx]; exact List.mem_cons_self ..) (List.mem_cons_of_mem _ hv)
      · exact hl v (List.mem_cons_of_mem _ hv) t ht
    refine ⟨P', ?_⟩
    rw [putall]
    cases hf : pf x.1 P.1 0 with
    | none => exact ih
    | some q =>
      have ht := hl x (List.mem_cons_self ..) q.2 (pT_of hf)
      dsimp only
      rw [ht, (sameT_iff _ _).2 rfl, if_pos rfl]
      exact ih
theorem cns_rev {c : List Vl} (h : Cns c) : Cns c.reverse := fun m s s' a b => h m s s' (List.mem_reverse.1 a) (List.mem_reverse.1 b)
theorem cns_of_add {c l' : List Vl} {l : List Vl} (h : addV l c = some l') : Cns c := fun m s s' a b => by
  have h1 := addV_has c l l' h _ a
  have h2 := addV_has c l l' h _ b
  rw [h1] at h2; exact Option.some.inj h2
theorem cns_of_put {c : List Vl} {P P' : Put} (h : putall P c = some P') : Cns c := fun m s s' a b => by
  have h1 := putall_has c P P' h _ a
  have h2 := putall_has c P P' h _ b
  rw [h1] at h2; exact Option.some.inj h2
theorem mS_one (g s : Tm) : mS (tsz g) [(g, s)] ([], 0) = (cons g s).bind fun c => putall ([], 0) c.reverse := by
  rw [mS_cons _ _ _ (by simp [psz])]
  show ((cons g s).bind fun c => ((some []).map (c.reverse ++ ·))).bind (putall ([], 0)) = _
  cases cons g s with
  | none => rfl
  | some c => show putall ([], 0) (c.reverse ++ []) = _; rw [List.append_nil]; rfl
/-- Both find something, or neither does. -/
theorem abv_rM (g s : Tm) : abv g s = (rM [] g s).isSome := by
  unfold abv
  rw [mS_one, rM_cons]
  cases cons g s with
  | none => rfl
  | some c =>
    show (putall ([], 0) c.reverse).isSome = (addV [] c).isSome
    cases h1 : addV [] c with
    | some l' =>
      obtain ⟨P', h2⟩ := putall_ok c.reverse ([], 0) (cns_rev (cns_of_add h1)) fun v _ t ht => by cases ht
      rw [h2]; rfl
    | none =>
      cases h2 : putall ([], 0) c.reverse with
      | none => rfl
      | some P' =>
        have hc := cns_rev (cns_of_put h2)
        rw [List.reverse_reverse] at hc
        obtain ⟨l', h3⟩ := addV_ok c [] hc fun v _ t ht => by cases ht
        rw [h1] at h3; cases h3
/-- Names, each once. -/
def namesOf : List (List UInt8) → List Vl → List (List UInt8)
  | out, [] => out
  | out, v :: c => namesOf (vadd out 1 v.1) c
theorem namesOf_append : ∀ (a b : List Vl) (out : List (List UInt8)), namesOf out (a ++ b) = namesOf (namesOf out a) b
  | [], b, out => rfl
  | v :: a, b, out => namesOf_append a b _
theorem fT_mem (m : List UInt8) : ∀ l : List Vl, (fT m l).isSome = true ↔ m ∈ l.map Prod.fst
  | [] => by simp [fT]
  | e :: r => by
    unfold fT
    by_cases h : e.1 = m
    · rw [if_pos h]; simp [h]
    · rw [if_neg h, fT_mem m r, List.map_cons, List.mem_cons]
      exact ⟨.inr, fun hc => hc.resolve_left fun e => h e.symm⟩
theorem addV_names : ∀ (c l l' : List Vl), addV l c = some l' → l'.map Prod.fst = namesOf (l.map Prod.fst) c
  | [], l, l', h => by rw [addV] at h; cases h; rfl
  | v :: c, l, l', h => by
    rw [addV] at h
    show _ = namesOf (vadd (l.map Prod.fst) 1 v.1) c
    cases hf : fv v.1 l 0 with
    | none =>
      rw [hf] at h
      have hn : v.1 ∉ l.map Prod.fst := fun hm => by have := (fT_mem v.1 l).2 hm; rw [fT_none hf] at this; cases this
      have : vadd (l.map Prod.fst) 1 v.1 = (l ++ [v]).map Prod.fst := by unfold vadd; rw [if_pos ⟨rfl, hn⟩, List.map_append]; rfl
      rw [this]
      exact addV_names c _ l' h
    | some q =>
      rw [hf] at h
      have hn : v.1 ∈ l.map Prod.fst := (fT_mem v.1 l).1 (by rw [fT_of hf]; rfl)
      have : vadd (l.map Prod.fst) 1 v.1 = l.map Prod.fst := by unfold vadd; rw [if_neg fun h => h.2 hn]
      rw [this]
      dsimp only at h
      split at h
      · exact addV_names c l l' h
      · cases h
mutual
theorem vsT_cons : ∀ (g s : Tm) (c : List Vl) (out : List (List UInt8)), typ g → cons g s = some c → vsT out g = namesOf out c
  | ⟨k, p, m, n, ks⟩, s, c, out, ht, h => by
    rw [typ] at ht
    rw [cons] at h
    rw [vsT]
    by_cases hk : k = 1
    · rw [if_pos hk] at h
      cases h
      rw [(ht.2.2.2.1 hk).1, vsL, hk]; rfl
    · rw [if_neg hk] at h
      by_cases hh : hds k p m n ks s
      · rw [if_pos hh] at h
        have : vadd out k m = out := by unfold vadd; rw [if_neg fun h => hk h.1]
        rw [this]
        exact vsL_conss ks s.kids c out ht.2.2.2.2 hh.2.2.2.2 h
      · rw [if_neg hh] at h; cases h
theorem vsL_conss : ∀ (gs ss : List Tm) (c : List Vl) (out : List (List UInt8)), typs gs → gs.length = ss.length → conss gs ss = some c → vsL out gs = namesOf out c
  | [], ss, c, out, _, _, h => by rw [conss] at h; cases h; rw [vsL]; rfl
  | _ :: _, [], c, out, _, hl, h => by simp at hl
  | t :: r, u :: s, c, out, ht, hl, h => by
    rw [typs] at ht
    rw [conss] at h
    rw [vsL]
    cases h1 : cons t u with
    | none => rw [h1] at h; cases h
    | some c1 =>
      rw [h1] at h
      cases h2 : conss r s with
      | none => rw [h2] at h; cases h
      | some c2 =>
        rw [h2] at h
        cases h
        rw [vsT_cons t u c1 out ht.1 h1, vsL_conss r s c2 _ ht.2 (by simpa using hl) h2]
        exact (namesOf_append c1 c2 out).symm
end
mutual
theorem subT_cons (L : List Vl) : ∀ (g s : Tm) (c : List Vl), cons g s = some c → (∀ v ∈ c, fT v.1 L = some v.2) → subT L g = s
  | ⟨k, p, m, n, ks⟩, s, c, h, hv => by
    rw [cons] at h
    rw [subT]
    by_cases hk : k = 1
    · rw [if_pos hk] at h ⊢
      cases h
      have := hv _ (List.mem_cons_self ..)
      rw [← fv_fT m L 0] at this
      cases hf : fv m L 0 with
      | none => rw [hf] at this; cases this
      | some q => rw [hf] at this; exact Option.some.inj this
    · rw [if_neg hk] at h ⊢
      by_cases hh : hds k p m n ks s
      · rw [if_pos hh] at h
        obtain ⟨k', p', m', n', ks'⟩ := s
        obtain ⟨h1, h2, h3, h4, h5⟩ := hh
        have := subL_conss L ks ks' c h5 h hv
        rw [this]
        simp only [Tm.kind, Tm.pkg, Tm.name, Tm.n] at h1 h2 h3 h4
        rw [h1, h2, h3, h4]
      · rw [if_neg hh] at h; cases h
theorem subL_conss (L : List Vl) : ∀ (gs ss : List Tm) (c : List Vl), gs.length = ss.length → conss gs ss = some c → (∀ v ∈ c, fT v.1 L = some v.2) → subL L gs = ss
  | [], ss, c, hl, h, hv => by
    have : ss = [] := List.length_eq_zero_iff.1 (by simpa using hl.symm)
    rw [this, subL]
  | _ :: _, [], c, hl, h, hv => by simp at hl
  | t :: r, u :: s, c, hl, h, hv => by
    rw [conss] at h
    rw [subL]
    cases h1 : cons t u with
    | none => rw [h1] at h; cases h
    | some c1 =>
      rw [h1] at h
      cases h2 : conss r s with
      | none => rw [h2] at h; cases h
      | some c2 =>
        rw [h2] at h
        cases h
        rw [subT_cons L t u c1 h1 fun v hv' => hv v (List.mem_append_left _ hv'), subL_conss L r s c2 (by simpa using hl) h2 fun v hv' => hv v (List.mem_append_right _ hv')]
end
end Go.Proofs.YtedapgcaibbhoaaDoor
namespace Go.Proofs.YtedapgcaibbhoaaDoor
open Go Go.Ab Go.Proofs
set_option maxRecDepth 100000
set_option linter.unusedSimpArgs false
set_option linter.unusedVariables false
theorem addV_sub : ∀ (c l l' : List Vl), addV l c = some l' → ∀ v ∈ l', v ∈ l ∨ v ∈ c
  | [], l, l', h, v, hv => by rw [addV] at h; cases h; exact .inl hv
  | x :: c, l, l', h, v, hv => by
    rw [addV] at h
    cases hf : fv x.1 l 0 with
    | none =>
      rw [hf] at h
      rcases addV_sub c _ l' h v hv with h1 | h1
      · rcases List.mem_append.1 h1 with h1 | h1
        · exact .inl h1
        · rw [List.mem_singleton.1 h1]; exact .inr (List.mem_cons_self ..)
      · exact .inr (List.mem_cons_of_mem _ h1)
    | some q =>
      rw [hf] at h
      dsimp only at h
      split at h
      · rcases addV_sub c l l' h v hv with h1 | h1
        · exact .inl h1
        · exact .inr (List.mem_cons_of_mem _ h1)
      · cases h
/-- All of a match. -/
theorem rM_all {g s : Tm} {L : List Vl} (ht : typ g) (h : rM [] g s = some L) : L.map Prod.fst = vsT [] g ∧ subT L g = s ∧ ∃ P, mS (tsz g) [(g, s)] ([], 0) = some P ∧ ∀ v ∈ L, ∃ j, pf v.1 P.1 0 = some (j, v.2) := by
  have ha := abv_rM g s
  rw [h] at ha
  unfold abv at ha
  obtain ⟨P, hP⟩ := Option.isSome_iff_exists.1 ha
  rw [rM_cons] at h
  cases hc : cons g s with
  | none => rw [hc] at h; cases h
  | some c =>
    rw [hc] at h
    have h : addV [] c = some L := h
    refine ⟨by rw [addV_names c [] L h]; exact (vsT_cons g s c [] ht hc).symm, subT_cons L g s c hc (addV_has c [] L h), P, hP, fun v hv => ?_⟩
    rw [mS_one, hc] at hP
    have hP : putall ([], 0) c.reverse = some P := hP
    have hvc : v ∈ c := (addV_sub c [] L h v hv).resolve_left (by simp)
    have hp := putall_has c.reverse ([], 0) P hP v (List.mem_reverse.2 hvc)
    rw [← pf_pT v.1 P.1 0] at hp
    cases hf : pf v.1 P.1 0 with
    | none => rw [hf] at hp; cases hp
    | some q =>
      rw [hf] at hp
      exact ⟨q.1, congrArg some (Prod.ext rfl (Option.some.inj hp))⟩
theorem match15_c (g s : Tm) (hg : g.fit) (hs : s.fit) (hz : tsz g ≤ 100000) (ht : typ g) (h : AHeap) : doCall md (aval Tryd.prog md fg) 15 [tmV g, tmV s] h = some (mtV (rM [] g s), h) := by
  refine doCall_pure md15 (solid2 g s) ?_
  cases ho : rM [] g s with
  | some L =>
    obtain ⟨h1, _, P, h2, h3⟩ := rM_all ht ho
    exact match15 g s hg hs hz h2 L h1 h3
  | none =>
    have ha := abv_rM g s
    rw [ho] at ha
    unfold abv at ha
    exact match15n g s hg hs hz (by simpa using ha)
/-- A list of names in an array of one's own. -/
def NB (h : AHeap) (v : AV) (l : List (List UInt8)) : Prop := (v = .slc true [] ∧ l = []) ∨ ∃ k g, v = .arr k 0 l.length g 1 ∧ hget h k = .arr 1 (l.map sV) g
/-- Arrays of other elements stay. -/
def KeepA (c : Nat) (h h' : AHeap) : Prop := ∀ j k es g, hget h j = .arr k es g → k ≠ c → hget h' j = .arr k es g
theorem keepA_app (c : Nat) (h l : AHeap) : KeepA c h (h ++ l) := fun j k es g e _ => by rw [hget_app l (hlt_of e (by simp))]; exact e
theorem keepA_set {c : Nat} {h : AHeap} {i : Nat} {es : List AV} {g : Nat} {o : AObj} (ho : hget h i = .arr c es g) : KeepA c h (h.set i o) := fun j k es' g' e hk => by
  have hij : ¬ i = j := by
    rintro rfl
    rw [ho] at e
    exact hk (by injection e with h1; exact h1.symm)
  rw [hget_set_ne hij]; exact e
theorem nb_add {h : AHeap} {v : AV} {l : List (List UInt8)} (hv : NB h v l) (m : List UInt8) (hn : l.length ≤ 100000) : ∃ v' h', (∀ z, appT (some (1, 16, z)) h v (some [sV m]) = some (v', h')) ∧ NB h' v' (l ++ [m]) ∧ KeepO h h' ∧ KeepA 1 h h' := by
  obtain ⟨rfl, rfl⟩ | ⟨k, g, rfl, ho⟩ := hv
  · exact ⟨.arr h.length 0 (0 + 1) 0 1, h ++ [.arr 1 ([] ++ [sV m]) 0], fun z => appT_slc _ _ _ _ _ rfl rfl (by simp) (by simp), .inr ⟨h.length, 0, by simp, hget_last⟩, keep_app _ _, keepA_app _ _ _⟩
  · have hk := hlt_of ho (by simp)
    refine ⟨.arr k 0 (l.length + 1) (g + 1) 1, h.set k (.arr 1 (l.map sV ++ [sV m]) (g + 1)), fun z => appT_arr _ _ _ _ _ _ _ _ ho (by simp) rfl (by simp; omega), .inr ⟨k, g + 1, by simp, by rw [hget_set_eq hk]; simp⟩, ⟨by simp, fun j o e h1 h2 => ?_⟩, keepA_set ho⟩
    have hjk : ¬ k = j := by rintro rfl; rw [ho] at e; exact h1 _ _ _ e.symm
    rw [hget_set_ne hjk]; exact e
theorem tl_add2 {h : AHeap} {v : AV} {L : List Tm} (hv : TL h v L) (x : Tm) (hn : L.length ≤ 100000) : ∃ v' h', (∀ z, appT (some (5, 72, z)) h v (some [tmV x]) = some (v', h')) ∧ TL h' v' (L ++ [x]) ∧ KeepO h h' ∧ KeepA 5 h h' := by
  have hx : headOk 5 [tmV x] = true := by obtain ⟨k, p, m, n, ks⟩ := x; rw [tmV_mk]; rfl
  obtain ⟨rfl, rfl⟩ | ⟨k, g, rfl, ho⟩ := hv
  · exact ⟨.arr h.length 0 (0 + 1) 0 5, h ++ [.arr 5 ([] ++ [tmV x]) 0], fun z => appT_slc _ _ _ _ _ hx rfl (by simp) (by simp), .inr ⟨h.length, 0, by simp, hget_last⟩, keep_app _ _, keepA_app _ _ _⟩
  · have hk := hlt_of ho (by simp)
    refine ⟨.arr k 0 (L.length + 1) (g + 1) 5, h.set k (.arr 5 (L.map tmV ++ [tmV x]) (g + 1)), fun z => appT_arr _ _ _ _ _ _ _ _ ho (by simp) hx (by simp; omega), .inr ⟨k, g + 1, by simp, by rw [hget_set_eq hk]; simp⟩, ⟨by simp, fun j o e h1 h2 => ?_⟩, keepA_set ho⟩
    have hjk : ¬ k = j := by rintro rfl; rw [ho] at e; exact h1 _ _ _ e.symm
    rw [hget_set_ne hjk]; exact e
theorem nb_keep {h h' : AHeap} {v : AV} {l : List (List UInt8)} (hv : NB h v l) (k : KeepA 5 h h') : NB h' v l := by
  obtain h1 | ⟨i, g, e, ho⟩ := hv
  · exact .inl h1
  · exact .inr ⟨i, g, e, k _ _ _ _ ho (by decide)⟩
theorem tl_keep {h h' : AHeap} {v : AV} {l : List Tm} (hv : TL h v l) (k : KeepA 1 h h') : TL h' v l := by
  obtain h1 | ⟨i, g, e, ho⟩ := hv
  · exact .inl h1
  · exact .inr ⟨i, g, e, k _ _ _ _ ho (by decide)⟩
theorem nb_app {h : AHeap} {v : AV} {l : List (List UInt8)} (hv : NB h v l) (l0 : AHeap) : NB (h ++ l0) v l := nb_keep hv (keepA_app _ _ _)
theorem tl_app {h : AHeap} {v : AV} {l : List Tm} (hv : TL h v l) (l0 : AHeap) : TL (h ++ l0) v l := tl_keep hv (keepA_app _ _ _)
set_option maxHeartbeats 4000000 in
theorem g_loop (G S : AObj) (cG cS : List AV) (hG : G = .vars cG) (hS : S = .vars cS) (L : List Vl) (hL : L.length ≤ 100000) : ∀ (r : List Vl) (i : Nat) (h : AHeap) (v w : AV), L.drop i = r → i ≤ L.length → hget h 0 = G → hget h 1 = S → NB h v ((L.take i).map Prod.fst) → TL h w ((L.take i).map Prod.snd) → ∃ v' w' h',
    lrun Tryd.prog md fg (fg 5) (loopOf Tryd.f5 0) (fg 5 1) ((.unk :: .unk :: (.ptr 0 0) :: (.ptr 1 0) :: .unk :: .unk :: .unk :: .unk :: .unk :: (v) :: (w) :: .unk :: .unk :: .unk :: .unk :: .unk :: .unk :: .unk :: .unk :: .unk :: .unk :: .unk :: .unk :: .unk :: .unk :: .unk :: .unk :: .unk :: .unk :: .unk :: .unk :: .unk :: .unk :: .unk :: .unk :: .unk :: .unk :: .unk :: .unk :: .unk :: .unk :: .unk :: .unk :: .unk :: .unk :: .unk :: .unk :: .unk :: .unk :: .unk :: .unk :: .unk :: .unk :: .unk :: .unk :: .unk :: .unk :: .unk :: .unk :: .unk :: .unk :: .unk :: .unk :: .unk :: .unk :: (.slc false (L.map vlV)) :: (.int L.length) :: (.int i) :: .unk :: .unk :: .unk :: .unk :: .unk :: .unk :: .unk :: .unk :: .unk :: .unk :: .unk :: .unk :: .unk :: .unk :: .unk :: .unk :: .unk :: .unk :: .unk :: .unk :: .unk :: .unk :: .unk :: [] : List AV)) h = some (.exit 0, (.unk :: .unk :: (.ptr 0 0) :: (.ptr 1 0) :: .unk :: .unk :: .unk :: .unk :: .unk :: (v') :: (w') :: .unk :: .unk :: .unk :: .unk :: .unk :: .unk :: .unk :: .unk :: .unk :: .unk :: .unk :: .unk :: .unk :: .unk :: .unk :: .unk :: .unk :: .unk :: .unk :: .unk :: .unk :: .unk :: .unk :: .unk :: .unk :: .unk :: .unk :: .unk :: .unk :: .unk :: .unk :: .unk :: .unk :: .unk :: .unk :: .unk :: .unk :: .unk :: .unk :: .unk :: .unk :: .unk :: .unk :: .unk :: .unk :: .unk :: .unk :: .unk :: .unk :: .unk :: .unk :: .unk :: .unk :: .unk :: (.slc false (L.map vlV)) :: (.int L.length) :: (.int L.length) :: .unk :: .unk :: .unk :: .unk :: .unk :: .unk :: .unk :: .unk :: .unk :: .unk :: .unk :: .unk :: .unk :: .unk :: .unk :: .unk :: .unk :: .unk :: .unk :: .unk :: .unk :: .unk :: .unk :: [] : List AV), h') ∧ hget h' 0 = G ∧ hget h' 1 = S ∧ NB h' v' (L.map Prod.fst) ∧ TL h' w' (L.map Prod.snd)
  | [], i, h, v, w, hdr, hi, g0, g1, hN, hT => by
    have : i = L.length := by have := congrArg List.length hdr; simp at this; omega
    subst this
    rw [List.take_length] at hN hT
    refine ⟨v, w, h, ?_, g0, g1, hN, hT⟩
    rw [lrun_atC loop5_0]
    simp (implicitDefEqProofs := false) (disch := omega) only [go_sem, Nat.reduceAdd, Nat.reduceSub, Nat.reduceMul, Nat.reduceLT, Nat.reduceLeDiff, Nat.reduceEqDiff, List.drop_zero, List.take_succ_cons, List.take_zero, List.drop_succ_cons, Bool.and_true, Bool.true_and, Bool.and_false, Bool.false_and, BitVec.reduceOfInt, Nat.zero_add, Nat.mul_one, Nat.add_zero, Int.zero_add, Int.reduceToNat, Nat.reducePow, ↓reduceIte, reduceCtorEq, Int.reduceLE, Int.reduceLT, Int.reduceEq, Int.reduceNe, Int.reduceAdd, Int.reduceSub, Int.reduceMul, Int.reduceNeg, Nat.reduceBEq, show regOf Tryd.f5 12 = Code.region _ _ _ from rfl]
  | ⟨s, k2, p2, m2, n2, l2⟩ :: r, i, h, v, w, hdr, hi, g0, g1, hN, hT => by
    have hx : L[i]? = some (s, ⟨k2, p2, m2, n2, l2⟩) := by have := congrArg (·[0]?) hdr; simpa using this
    have hlt : i < L.length := (List.getElem?_eq_some_iff.1 hx).1
    have hd' : L.drop (i + 1) = r := by rw [← List.tail_drop, hdr]; rfl
    have ht : ((i : Int)).toNat = i := by omega
    have q0 : hget (h ++ [.vars [.str (txt s), .int k2, .str (txt p2), .str (txt m2), .int n2, .slc false (l2.map tmV)]]) h.length = .vars [.str (txt s), .int k2, .str (txt p2), .str (txt m2), .int n2, .slc false (l2.map tmV)] := hget_last
    obtain ⟨v1, h1, e1, x1, k1, a1⟩ := nb_add (nb_app hN [.vars [.str (txt s), .int k2, .str (txt p2), .str (txt m2), .int n2, .slc false (l2.map tmV)]]) s (by simp; omega)
    obtain ⟨w1, h2, e2, x2, k2', a2⟩ := tl_add2 (tl_keep (tl_app hT [.vars [.str (txt s), .int k2, .str (txt p2), .str (txt m2), .int n2, .slc false (l2.map tmV)]]) a1) ⟨k2, p2, m2, n2, l2⟩ (by simp; omega)
    have y1 := nb_keep x1 a2
    rw [tmV_mk] at e2
    have q1 := k1.2 _ _ q0 (by simp) (by simp)
    have q2 := k2'.2 _ _ q1 (by simp) (by simp)
    have f1 : (L.take i).map Prod.fst ++ [s] = (L.take (i + 1)).map Prod.fst := by rw [List.take_add_one, hx]; simp
    have f2 : (L.take i).map Prod.snd ++ [(⟨k2, p2, m2, n2, l2⟩ : Tm)] = (L.take (i + 1)).map Prod.snd := by rw [List.take_add_one, hx]; simp
    rw [f1] at y1
    rw [f2] at x2
    have kk := ((keep_app h [.vars [.str (txt s), .int k2, .str (txt p2), .str (txt m2), .int n2, .slc false (l2.map tmV)]]).trans k1).trans k2'
    obtain ⟨v2, w2, h3, e3, z0, z1, zN, zT⟩ := g_loop G S cG cS hG hS L hL r (i + 1) h2 v1 w1 hd' (by omega) (kk.2 0 _ g0 (by rw [hG]; simp) (by rw [hG]; simp)) (kk.2 1 _ g1 (by rw [hS]; simp) (by rw [hS]; simp)) y1 x2
    refine ⟨v2, w2, h3, ?_, z0, z1, zN, zT⟩
    rw [← e3]
    rw [lrun_atC loop5_0]
    simp (implicitDefEqProofs := false) (disch := first | omega | exact List.length_set) only [go_sem, Nat.reduceAdd, Nat.reduceSub, Nat.reduceMul, Nat.reduceLT, Nat.reduceLeDiff, Nat.reduceEqDiff, List.drop_zero, List.take_succ_cons, List.take_zero, List.drop_succ_cons, Bool.and_true, Bool.true_and, Bool.and_false, Bool.false_and, BitVec.reduceOfInt, Nat.zero_add, Nat.mul_one, Nat.add_zero, Int.zero_add, Int.reduceToNat, Nat.reducePow, ↓reduceIte, reduceCtorEq, Int.reduceLE, Int.reduceLT, Int.reduceEq, Int.reduceNe, Int.reduceAdd, Int.reduceSub, Int.reduceMul, Int.reduceNeg, Nat.reduceBEq, show regOf Tryd.f5 12 = Code.region _ _ _ from rfl, show regOf Tryd.f5 13 = Code.region _ _ _ from rfl, List.getElem?_map, ht, hx, Option.map_some, vlV_mk, hget_last, set_last]
    simp (implicitDefEqProofs := false) (maxSteps := 400000) (disch := first | omega | exact List.length_set) only [go_sem, Nat.reduceAdd, Nat.reduceSub, Nat.reduceMul, Nat.reduceLT, Nat.reduceLeDiff, Nat.reduceEqDiff, List.drop_zero, List.take_succ_cons, List.take_zero, List.drop_succ_cons, Bool.and_true, Bool.true_and, Bool.and_false, Bool.false_and, BitVec.reduceOfInt, Nat.zero_add, Nat.mul_one, Nat.add_zero, Int.zero_add, Int.reduceToNat, Nat.reducePow, ↓reduceIte, reduceCtorEq, Int.reduceLE, Int.reduceLT, Int.reduceEq, Int.reduceNe, Int.reduceAdd, Int.reduceSub, Int.reduceMul, Int.reduceNeg, Nat.reduceBEq, show regOf Tryd.f5 14 = Code.region _ _ _ from rfl, show regOf Tryd.f5 15 = Code.region _ _ _ from rfl, ↓tail_nil, ↓subs_nil_all, ↓List.forall_mem_cons, ↓all_nil, Bool.true_or, q0, q1, q2, e1, e2]

    all_goals (congr 1 <;> simp only [List.cons.injEq, AV.val.injEq, Value.int.injEq, Value.bool.injEq, true_and, and_true] <;> omega)
theorem nb_exp {h : AHeap} {v : AV} {l : List (List UInt8)} (hv : NB h v l) : ∃ ids, exp1 h expDepth v = some (.slc false (l.map sV), ids) ∧ canFrz h ids = true := by
  obtain ⟨rfl, rfl⟩ | ⟨k, g, rfl, ho⟩ := hv
  · exact ⟨[], rfl, rfl⟩
  · have := arr_exp ho (solid_names l) 59
    rw [List.length_map] at this
    exact ⟨[k], this, by simp [canFrz, ho]⟩
theorem frz_keep : ∀ (ids : List Nat) (h : AHeap) (j : Nat) (cs : List AV), hget h j = .vars cs → hget (frzAll h ids) j = .vars cs
  | [], h, j, cs, e => e
  | i :: r, h, j, cs, e => by
    rw [frzAll]
    refine frz_keep r _ j cs ?_
    unfold frz1
    split
    · rename_i k es g ho
      have hij : ¬ i = j := by rintro rfl; rw [ho] at e; cases e
      rw [hget_set_ne hij]; exact e
    · exact e
/-- A call by value that hands arrays of the run's own away. -/
theorem doCall_frz {f : FuncId} {xs ys : List AV} {ids : List Nat} {h : AHeap} {r : AV} (hm : 100 ≤ md f) (hs : expL (exp1 h expDepth) xs = some (ys, ids)) (hc : canFrz h ids = true) (e : pcall Tryd.prog md fg f ys = some r) : ∃ h', doCall md (aval Tryd.prog md fg) f xs h = some (r, h') ∧ ∀ j cs, hget h j = .vars cs → hget h' j = .vars cs := by
  rw [doCall_0 (by omega)]; unfold doCall0
  rw [if_pos (.inr hm), hs]
  simp only [hc, if_true]
  rw [← pcall_eq, e]
  by_cases hf : flat r = true
  · exact ⟨h, by simp [hf], fun _ _ e => e⟩
  · exact ⟨frzAll h ids, by simp [hf], fun j cs e => frz_keep ids h j cs e⟩
end Go.Proofs.YtedapgcaibbhoaaDoor
