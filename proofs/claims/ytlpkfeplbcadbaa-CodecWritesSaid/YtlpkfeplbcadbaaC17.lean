/- Writers, by rounds. -/
import Derived.Test.YtlpkfeplbcadbaaC16
namespace Go.Proofs.Ytlpkfeplbcadbaa
open Go Go.Ab Go.Proofs
set_option maxRecDepth 100000
set_option linter.unusedSimpArgs false
set_option linter.unusedVariables false
section
variable {P : Program} {md : FuncId → Nat} {d : Option Tmp} {ty : TypeId} {pos : String} {aft : Array Edge} {g : Option (Nat × Bool)} {env : Env}
theorem thenDraw_append (cs : Array Operand) (ts : Array TypeId) (h0 : AHeap) (v : AV) (h' : AHeap) (call : CallF) (k : Env → AHeap → Option (Env × AHeap)) : thenDraw P ⟨d, .call ⟨.builtin .append, cs, ts⟩, ty, pos, aft, g⟩ h0 (some (.value v h')) md call d k env = k (aput env d v) h' := thenDraw_eff _ _ _ _ _ _ rfl
theorem thenDraw_store (t : TypeId) (a x : Operand) (h0 : AHeap) (v : AV) (h' : AHeap) (call : CallF) (k : Env → AHeap → Option (Env × AHeap)) : thenDraw P ⟨d, .store t a x, ty, pos, aft, g⟩ h0 (some (.value v h')) md call d k env = k (aput env d v) h' := thenDraw_eff _ _ _ _ _ _ rfl
end
theorem hget_push {h : AHeap} {o : AObj} {i : Nat} (hi : i < h.length) : hget (h ++ [o]) i = hget h i := by
  unfold hget; rw [List.getD_eq_getElem?_getD, List.getElem?_append_left hi, ← List.getD_eq_getElem?_getD]
theorem hget_last {h : AHeap} {o : AObj} : hget (h ++ [o]) h.length = o := by
  unfold hget; rw [List.getD_eq_getElem?_getD, List.getElem?_append_right (Nat.le_refl _), Nat.sub_self]; rfl
theorem hget_out {h : AHeap} {i : Nat} (hi : h.length ≤ i) : hget h i = .dead := by
  unfold hget; rw [List.getD_eq_getElem?_getD, List.getElem?_eq_none hi]; rfl
/-- A writer at a place, with what was written. -/
def WB (h : AHeap) (id : Nat) (l : List UInt8) : Prop :=
  id < h.length ∧ ((hget h id = .vars [.slc true []] ∧ l = []) ∨ ∃ k g, k < h.length ∧ k ≠ id ∧ hget h id = .vars [.arr k 0 l.length g 1] ∧ hget h k = .arr 1 (l.map byteVal) g)
/-- Variables elsewhere stay. -/
def Fr (id : Nat) (h h' : AHeap) : Prop := h.length ≤ h'.length ∧ ∀ j cs, j ≠ id → hget h j = .vars cs → hget h' j = .vars cs
theorem Fr.refl (id : Nat) (h : AHeap) : Fr id h h := ⟨Nat.le_refl _, fun _ _ _ e => e⟩
theorem Fr.trans {id : Nat} {a b c : AHeap} (x : Fr id a b) (y : Fr id b c) : Fr id a c := ⟨Nat.le_trans x.1 y.1, fun j cs hj e => y.2 j cs hj (x.2 j cs hj e)⟩
/-- What an append to the writer's bytes makes. -/
theorem wb_app {h : AHeap} {id : Nat} {l xs : List UInt8} (hw : WB h id l) (z : AV) (hn : l.length + xs.length ≤ 140737488355328) :
    ∃ bv v h1, hget h id = .vars [bv] ∧ appT (some (1, 1, z)) h bv (some (xs.map byteVal)) = some (v, h1) ∧ hget h1 id = .vars [bv] ∧ fits 1 v = true ∧ v.cells = [v] ∧ WB (h1.set id (.vars [v])) id (l ++ xs) ∧ Fr id h (h1.set id (.vars [v])) := by
  obtain ⟨hid, ⟨hb, rfl⟩ | ⟨k, g, hk, hne, hb, ho⟩⟩ := hw
  · cases xs with
    | nil =>
      refine ⟨_, .slc true [], h, hb, appT_slc0 _ _ _ _ rfl, hb, rfl, rfl, ?_, ?_⟩
      · rw [set_same hb hid]; exact ⟨hid, .inl ⟨hb, rfl⟩⟩
      · rw [set_same hb hid]; exact Fr.refl _ _
    | cons x xs =>
      refine ⟨_, .arr h.length 0 (0 + ((x :: xs).map byteVal).length) 0 1, h ++ [.arr 1 ([] ++ (x :: xs).map byteVal) 0], hb, appT_slc _ _ _ _ _ rfl rfl (by simp) (by simp only [List.length_nil, List.length_map] at hn ⊢; omega), ?_, rfl, rfl, ?_, ?_⟩
      · rw [hget_push hid]; exact hb
      · refine ⟨by simp; omega, .inr ⟨h.length, 0, by simp, by omega, ?_, ?_⟩⟩
        · rw [hget_set_eq (by simp; omega)]; simp
        · rw [hget_set_ne (by omega), hget_last]; simp
      · refine ⟨by simp, fun j cs hj e => ?_⟩
        have hjl : j < h.length := by
          refine Classical.byContradiction fun hc => ?_
          rw [hget_out (by omega)] at e; cases e
        rw [hget_set_ne (by omega), hget_push hjl]; exact e
  · refine ⟨_, .arr k 0 (l.length + (xs.map byteVal).length) (g + 1) 1, h.set k (.arr 1 (l.map byteVal ++ xs.map byteVal) (g + 1)), hb, appT_arr _ _ _ _ _ _ _ _ ho (by simp) (by cases xs <;> rfl) (by simp; omega), ?_, rfl, rfl, ?_, ?_⟩
    · rw [hget_set_ne hne]; exact hb
    · refine ⟨by simp; exact hid, .inr ⟨k, g + 1, by simp; exact hk, hne, ?_, ?_⟩⟩
      · rw [hget_set_eq (by simp; exact hid)]; simp
      · rw [hget_set_ne (by omega), hget_set_eq hk]; simp
    · refine ⟨by simp, fun j cs hj e => ?_⟩
      have hjk : k ≠ j := by rintro rfl; rw [ho] at e; cases e
      rw [hget_set_ne (by omega), hget_set_ne hjk]; exact e
/-- A call by reference: what is kept of memory. -/
theorem doCall_fr {f : FuncId} {vs : List AV} {h h' : AHeap} {id : Nat} {l l0 : List UInt8} {r : AV} (hm : md f ≠ 0) (e : aval Try.prog md fg f vs h = some (r, h')) (hw0 : WB h id l0) (hw : WB h' id l) (hf : Fr id h h') :
    ∃ h'', doCall md (aval Try.prog md fg) f vs h = some (r, h'') ∧ WB h'' id l ∧ Fr id h h'' := by
  have hid := hw0.1
  unfold doCall
  rw [if_neg hm, e]
  dsimp only
  split
  · rename_i hg
    refine ⟨_, rfl, ?_, ?_⟩
    · obtain ⟨h1, h2 | ⟨k, g, hk, hne, hb, ho⟩⟩ := hw
      · refine ⟨by simp; omega, .inl ⟨?_, h2.2⟩⟩
        unfold hget at h2 ⊢
        rw [List.getD_eq_getElem?_getD, List.getElem?_take_of_lt hid, ← List.getD_eq_getElem?_getD]; exact h2.1
      · have hkl : k < h.length := by
          rcases hg.2 id hid with e1 | e1
          · have : hget h' id = hget h id := by unfold hget; rw [List.getD_eq_getElem?_getD, e1, ← List.getD_eq_getElem?_getD]
            rw [hb] at this
            rcases hw0.2 with ⟨e2, _⟩ | ⟨k0, g0, hk0, _, e2, _⟩
            · rw [e2] at this; cases this
            · rw [e2] at this
              simp only [AObj.vars.injEq, List.cons.injEq, AV.arr.injEq, and_true] at this
              omega
          · rw [hb] at e1
            simpa [belowO, belowL, below] using e1
        refine ⟨by simp; omega, .inr ⟨k, g, by simp; omega, hne, ?_, ?_⟩⟩
        · unfold hget at hb ⊢
          rw [List.getD_eq_getElem?_getD, List.getElem?_take_of_lt hid, ← List.getD_eq_getElem?_getD]; exact hb
        · unfold hget at ho ⊢
          rw [List.getD_eq_getElem?_getD, List.getElem?_take_of_lt hkl, ← List.getD_eq_getElem?_getD]; exact ho
    · refine ⟨by have := hf.1; simp; omega, fun j cs hj e1 => ?_⟩
      have hjl : j < h.length := by
        refine Classical.byContradiction fun hc => ?_
        rw [hget_out (by omega)] at e1; cases e1
      have := hf.2 j cs hj e1
      unfold hget at this ⊢
      rw [List.getD_eq_getElem?_getD, List.getElem?_take_of_lt hjl, ← List.getD_eq_getElem?_getD]; exact this
  · exact ⟨_, rfl, hw, hf⟩
theorem fits_cells {v : AV} (hf : fits 1 v = true) (hc : v.cells = [v]) : True := trivial
/-- One number. -/
theorem wU {h : AHeap} {id : Nat} {l : List UInt8} (x : BitVec 64) (hw : WB h id l) (hn : l.length ≤ 100000) :
    ∃ h', aval Try.prog md fg 28 [.ptr id 0, .slc true [v64 x]] h = some (.tup [], h') ∧ WB h' id (l ++ uvarN x.toNat) ∧ Fr id h h' := by
  have hu := uvarN_len x.toNat x.isLt
  obtain ⟨bv, v, h1, e1, e2, e3, e4, e5, e6, e7⟩ := wb_app (xs := uvarN x.toNat) hw (.val (.int .u8 0)) (by omega)
  refine ⟨_, ?_, e6, e7⟩
  have cu : ∀ g, doCall md (aval Try.prog md fg) 23 [v64 x] g = some (.val (.string (txt (uvarN x.toNat))), g) := fun g => doCall_pure md23 rfl (uvarint_p x)
  have r1 : lrun Try.prog md fg (fg 28) (loopOf Try.f28 0) (fg 28 1) ([.ptr id 0, .unk, .unk, .unk, .unk, .unk, .unk, .unk, .slc true [v64 x], .int 1, .int 0, .unk, .unk, .unk, .unk, .unk, .unk, .unk, .unk, .unk, .unk, .unk, .unk, .unk, .unk]) h = lrun Try.prog md fg (fg 28) (loopOf Try.f28 0) (fg 28 1) ([.ptr id 0, .unk, .unk, .unk, .unk, .unk, .unk, .unk, .slc true [v64 x], .int 1, .int 1, .unk, .unk, .unk, .unk, .unk, .unk, .unk, .unk, .unk, .unk, .unk, .unk, .unk, .unk]) (h1.set id (.vars [v])) := by
    rw [lrun_atC loop28_0]
    simp (implicitDefEqProofs := false) (disch := omega) only [go_sem, Nat.reduceAdd, Nat.reduceSub, Nat.reduceMul, Nat.reduceLT, Nat.reduceLeDiff, Nat.reduceEqDiff, List.drop_zero, List.take_succ_cons, List.take_zero, List.drop_succ_cons, Bool.and_true, Bool.true_and, Bool.and_false, Bool.false_and, BitVec.reduceOfInt, Nat.zero_add, Nat.mul_one, Nat.add_zero, Int.zero_add, Int.reduceToNat, Nat.reducePow, ↓reduceIte, reduceCtorEq, Int.reduceLE, Int.reduceLT, Int.reduceEq, Int.reduceNe, Int.reduceAdd, Int.reduceSub, Int.reduceMul, Int.reduceNeg, Nat.reduceBEq, show regOf Try.f28 2 = Code.region _ _ _ from rfl, show regOf Try.f28 3 = Code.region _ _ _ from rfl, show regOf Try.f28 4 = Code.region _ _ _ from rfl, show regOf Try.f28 5 = Code.region _ _ _ from rfl, cu, e1, e2, e3, e4, e5, txt_list, thenDraw_append, thenDraw_store]
  have r2 : ∀ g, lrun Try.prog md fg (fg 28) (loopOf Try.f28 0) (fg 28 1) ([.ptr id 0, .unk, .unk, .unk, .unk, .unk, .unk, .unk, .slc true [v64 x], .int 1, .int 1, .unk, .unk, .unk, .unk, .unk, .unk, .unk, .unk, .unk, .unk, .unk, .unk, .unk, .unk]) g = some (.exit 0, [.ptr id 0, .unk, .unk, .unk, .unk, .unk, .unk, .unk, .slc true [v64 x], .int 1, .int 1, .unk, .unk, .unk, .unk, .unk, .unk, .unk, .unk, .unk, .unk, .unk, .unk, .unk, .unk], g) := by
    intro g
    rw [lrun_atC loop28_0]
    simp (implicitDefEqProofs := false) (disch := omega) only [go_sem, Nat.reduceAdd, Nat.reduceSub, Nat.reduceMul, Nat.reduceLT, Nat.reduceLeDiff, Nat.reduceEqDiff, List.drop_zero, List.take_succ_cons, List.take_zero, List.drop_succ_cons, Bool.and_true, Bool.true_and, Bool.and_false, Bool.false_and, BitVec.reduceOfInt, Nat.zero_add, Nat.mul_one, Nat.add_zero, Int.zero_add, Int.reduceToNat, Nat.reducePow, ↓reduceIte, reduceCtorEq, Int.reduceLE, Int.reduceLT, Int.reduceEq, Int.reduceNe, Int.reduceAdd, Int.reduceSub, Int.reduceMul, Int.reduceNeg, Nat.reduceBEq, show regOf Try.f28 2 = Code.region _ _ _ from rfl, show regOf Try.f28 3 = Code.region _ _ _ from rfl, show regOf Try.f28 4 = Code.region _ _ _ from rfl, show regOf Try.f28 5 = Code.region _ _ _ from rfl]
  rw [aval_of Try.func28 body28 Try.results28 Try.ntmps28 ok28]
  simp (implicitDefEqProofs := false) (disch := omega) only [go_sem, Nat.reduceAdd, Nat.reduceSub, Nat.reduceMul, Nat.reduceLT, Nat.reduceLeDiff, Nat.reduceEqDiff, List.drop_zero, List.take_succ_cons, List.take_zero, List.drop_succ_cons, Bool.and_true, Bool.true_and, Bool.and_false, Bool.false_and, BitVec.reduceOfInt, Nat.zero_add, Nat.mul_one, Nat.add_zero, Int.zero_add, Int.reduceToNat, Nat.reducePow, ↓reduceIte, reduceCtorEq, Int.reduceLE, Int.reduceLT, Int.reduceEq, Int.reduceNe, Int.reduceAdd, Int.reduceSub, Int.reduceMul, Int.reduceNeg, Nat.reduceBEq, show regOf Try.f28 0 = Code.region _ _ _ from rfl, show regOf Try.f28 1 = Code.region _ _ _ from rfl, Int.natCast_one, r1, r2]
theorem wU_c {h : AHeap} {id : Nat} {l : List UInt8} (x : BitVec 64) (hw : WB h id l) (hn : l.length ≤ 100000) :
    ∃ h', doCall md (aval Try.prog md fg) 28 [.ptr id 0, .slc true [v64 x]] h = some (.tup [], h') ∧ WB h' id (l ++ uvarN x.toNat) ∧ Fr id h h' := by
  obtain ⟨h', e, w, f⟩ := wU x hw hn
  exact doCall_fr (by decide) e hw w f
theorem wI {h : AHeap} {id : Nat} {l : List UInt8} {n : Int} (n1 : -9223372036854775808 ≤ n) (n2 : n ≤ 9223372036854775807) (hw : WB h id l) (hn : l.length ≤ 100000) :
    ∃ h', aval Try.prog md fg 29 [.ptr id 0, .slc true [.int n]] h = some (.tup [], h') ∧ WB h' id (l ++ uvarN (zigN n).toNat) ∧ Fr id h h' := by
  have hz := zigN_range n1 n2
  obtain ⟨y, hy⟩ : ∃ y : BitVec 64, zigN n = (y.toNat : Int) := ⟨_, v64_of hz.1 hz.2⟩
  obtain ⟨h', e, w, f⟩ := wU_c y hw hn
  rw [hy, Int.toNat_natCast]
  refine ⟨h', ?_, w, f⟩
  have cz : ∀ g, doCall md (aval Try.prog md fg) 15 [.int n] g = some (v64 y, g) := fun g => doCall_pure md15 rfl ((zigI_p n1 n2).trans (by rw [hy]))
  have r1 : lrun Try.prog md fg (fg 29) (loopOf Try.f29 0) (fg 29 1) ([.ptr id 0, .unk, .unk, .unk, .unk, .unk, .slc true [.int n], .int 1, .int 0, .unk, .unk, .unk, .unk, .unk, .unk, .unk, .unk, .unk]) h = lrun Try.prog md fg (fg 29) (loopOf Try.f29 0) (fg 29 1) ([.ptr id 0, .unk, .unk, .unk, .unk, .unk, .slc true [.int n], .int 1, .int 1, .unk, .unk, .unk, .unk, .unk, .unk, .unk, .unk, .unk]) h' := by
    rw [lrun_atC loop29_0]
    simp (implicitDefEqProofs := false) (disch := omega) only [go_sem, Nat.reduceAdd, Nat.reduceSub, Nat.reduceMul, Nat.reduceLT, Nat.reduceLeDiff, Nat.reduceEqDiff, List.drop_zero, List.take_succ_cons, List.take_zero, List.drop_succ_cons, Bool.and_true, Bool.true_and, Bool.and_false, Bool.false_and, BitVec.reduceOfInt, Nat.zero_add, Nat.mul_one, Nat.add_zero, Int.zero_add, Int.reduceToNat, Nat.reducePow, ↓reduceIte, reduceCtorEq, Int.reduceLE, Int.reduceLT, Int.reduceEq, Int.reduceNe, Int.reduceAdd, Int.reduceSub, Int.reduceMul, Int.reduceNeg, Nat.reduceBEq, show regOf Try.f29 1 = Code.region _ _ _ from rfl, show regOf Try.f29 2 = Code.region _ _ _ from rfl, show regOf Try.f29 3 = Code.region _ _ _ from rfl, show regOf Try.f29 4 = Code.region _ _ _ from rfl, cz, e]
  have r2 : ∀ g, lrun Try.prog md fg (fg 29) (loopOf Try.f29 0) (fg 29 1) ([.ptr id 0, .unk, .unk, .unk, .unk, .unk, .slc true [.int n], .int 1, .int 1, .unk, .unk, .unk, .unk, .unk, .unk, .unk, .unk, .unk]) g = some (.exit 0, [.ptr id 0, .unk, .unk, .unk, .unk, .unk, .slc true [.int n], .int 1, .int 1, .unk, .unk, .unk, .unk, .unk, .unk, .unk, .unk, .unk], g) := by
    intro g
    rw [lrun_atC loop29_0]
    simp (implicitDefEqProofs := false) (disch := omega) only [go_sem, Nat.reduceAdd, Nat.reduceSub, Nat.reduceMul, Nat.reduceLT, Nat.reduceLeDiff, Nat.reduceEqDiff, List.drop_zero, List.take_succ_cons, List.take_zero, List.drop_succ_cons, Bool.and_true, Bool.true_and, Bool.and_false, Bool.false_and, BitVec.reduceOfInt, Nat.zero_add, Nat.mul_one, Nat.add_zero, Int.zero_add, Int.reduceToNat, Nat.reducePow, ↓reduceIte, reduceCtorEq, Int.reduceLE, Int.reduceLT, Int.reduceEq, Int.reduceNe, Int.reduceAdd, Int.reduceSub, Int.reduceMul, Int.reduceNeg, Nat.reduceBEq, show regOf Try.f29 1 = Code.region _ _ _ from rfl, show regOf Try.f29 2 = Code.region _ _ _ from rfl, show regOf Try.f29 3 = Code.region _ _ _ from rfl, show regOf Try.f29 4 = Code.region _ _ _ from rfl]
  rw [aval_of Try.func29 body29 Try.results29 Try.ntmps29 ok29]
  simp (implicitDefEqProofs := false) (disch := omega) only [go_sem, Nat.reduceAdd, Nat.reduceSub, Nat.reduceMul, Nat.reduceLT, Nat.reduceLeDiff, Nat.reduceEqDiff, List.drop_zero, List.take_succ_cons, List.take_zero, List.drop_succ_cons, Bool.and_true, Bool.true_and, Bool.and_false, Bool.false_and, BitVec.reduceOfInt, Nat.zero_add, Nat.mul_one, Nat.add_zero, Int.zero_add, Int.reduceToNat, Nat.reducePow, ↓reduceIte, reduceCtorEq, Int.reduceLE, Int.reduceLT, Int.reduceEq, Int.reduceNe, Int.reduceAdd, Int.reduceSub, Int.reduceMul, Int.reduceNeg, Nat.reduceBEq, show regOf Try.f29 0 = Code.region _ _ _ from rfl, Int.natCast_one, r1, r2]
theorem wI_c {h : AHeap} {id : Nat} {l : List UInt8} {n : Int} (n1 : -9223372036854775808 ≤ n) (n2 : n ≤ 9223372036854775807) (hw : WB h id l) (hn : l.length ≤ 100000) :
    ∃ h', doCall md (aval Try.prog md fg) 29 [.ptr id 0, .slc true [.int n]] h = some (.tup [], h') ∧ WB h' id (l ++ uvarN (zigN n).toNat) ∧ Fr id h h' := by
  obtain ⟨h', e, w, f⟩ := wI n1 n2 hw hn
  exact doCall_fr (by decide) e hw w f
/-- A text: its length, its bytes. -/
def textL (t : List UInt8) : List UInt8 := uvarN t.length ++ t
theorem wT {h : AHeap} {id : Nat} {l t : List UInt8} (hw : WB h id l) (hn : l.length ≤ 100000) (ht : t.length ≤ 100000) :
    ∃ h', aval Try.prog md fg 30 [.ptr id 0, .slc true [.val (.string (txt t))]] h = some (.tup [], h') ∧ WB h' id (l ++ textL t) ∧ Fr id h h' := by
  obtain ⟨h1, e1, w1, f1⟩ := wU_c (BitVec.ofNat 64 t.length) hw hn
  have hlen : (BitVec.ofNat 64 t.length).toNat = t.length := by rw [BitVec.toNat_ofNat]; exact Nat.mod_eq_of_lt (by omega)
  rw [hlen] at w1
  have hu := uvarN_len t.length (by omega)
  obtain ⟨bv, v, h2, e2, e3, e4, e5, e6, e7, e8⟩ := wb_app (xs := t) w1 (.val (.int .u8 0)) (by simp only [List.length_append]; omega)
  rw [List.append_assoc] at e7
  refine ⟨_, ?_, e7, f1.trans e8⟩
  have r1 : lrun Try.prog md fg (fg 30) (loopOf Try.f30 0) (fg 30 1) ([.ptr id 0, .unk, .unk, .unk, .unk, .unk, .unk, .unk, .slc true [.val (.string (txt t))], .int 1, .int 0, .unk, .unk, .unk, .unk, .unk, .unk, .unk, .unk, .unk, .unk, .unk, .unk, .unk, .unk, .unk, .unk, .unk, .unk, .unk]) h = lrun Try.prog md fg (fg 30) (loopOf Try.f30 0) (fg 30 1) ([.ptr id 0, .unk, .unk, .unk, .unk, .unk, .unk, .unk, .slc true [.val (.string (txt t))], .int 1, .int 1, .unk, .unk, .unk, .unk, .unk, .unk, .unk, .unk, .unk, .unk, .unk, .unk, .unk, .unk, .unk, .unk, .unk, .unk, .unk]) (h2.set id (.vars [v])) := by
    rw [lrun_atC loop30_0]
    simp (implicitDefEqProofs := false) (disch := omega) only [go_sem, Nat.reduceAdd, Nat.reduceSub, Nat.reduceMul, Nat.reduceLT, Nat.reduceLeDiff, Nat.reduceEqDiff, List.drop_zero, List.take_succ_cons, List.take_zero, List.drop_succ_cons, Bool.and_true, Bool.true_and, Bool.and_false, Bool.false_and, BitVec.reduceOfInt, Nat.zero_add, Nat.mul_one, Nat.add_zero, Int.zero_add, Int.reduceToNat, Nat.reducePow, ↓reduceIte, reduceCtorEq, Int.reduceLE, Int.reduceLT, Int.reduceEq, Int.reduceNe, Int.reduceAdd, Int.reduceSub, Int.reduceMul, Int.reduceNeg, Nat.reduceBEq, show regOf Try.f30 2 = Code.region _ _ _ from rfl, show regOf Try.f30 3 = Code.region _ _ _ from rfl, show regOf Try.f30 4 = Code.region _ _ _ from rfl, show regOf Try.f30 5 = Code.region _ _ _ from rfl, show regOf Try.f30 6 = Code.region _ _ _ from rfl, txt_size, BitVec.ofInt_natCast, e1, e2, e3, e4, e5, e6, txt_list]
  have r2 : ∀ g, lrun Try.prog md fg (fg 30) (loopOf Try.f30 0) (fg 30 1) ([.ptr id 0, .unk, .unk, .unk, .unk, .unk, .unk, .unk, .slc true [.val (.string (txt t))], .int 1, .int 1, .unk, .unk, .unk, .unk, .unk, .unk, .unk, .unk, .unk, .unk, .unk, .unk, .unk, .unk, .unk, .unk, .unk, .unk, .unk]) g = some (.exit 0, [.ptr id 0, .unk, .unk, .unk, .unk, .unk, .unk, .unk, .slc true [.val (.string (txt t))], .int 1, .int 1, .unk, .unk, .unk, .unk, .unk, .unk, .unk, .unk, .unk, .unk, .unk, .unk, .unk, .unk, .unk, .unk, .unk, .unk, .unk], g) := by
    intro g
    rw [lrun_atC loop30_0]
    simp (implicitDefEqProofs := false) (disch := omega) only [go_sem, Nat.reduceAdd, Nat.reduceSub, Nat.reduceMul, Nat.reduceLT, Nat.reduceLeDiff, Nat.reduceEqDiff, List.drop_zero, List.take_succ_cons, List.take_zero, List.drop_succ_cons, Bool.and_true, Bool.true_and, Bool.and_false, Bool.false_and, BitVec.reduceOfInt, Nat.zero_add, Nat.mul_one, Nat.add_zero, Int.zero_add, Int.reduceToNat, Nat.reducePow, ↓reduceIte, reduceCtorEq, Int.reduceLE, Int.reduceLT, Int.reduceEq, Int.reduceNe, Int.reduceAdd, Int.reduceSub, Int.reduceMul, Int.reduceNeg, Nat.reduceBEq, show regOf Try.f30 2 = Code.region _ _ _ from rfl, show regOf Try.f30 3 = Code.region _ _ _ from rfl, show regOf Try.f30 4 = Code.region _ _ _ from rfl, show regOf Try.f30 5 = Code.region _ _ _ from rfl, show regOf Try.f30 6 = Code.region _ _ _ from rfl]
  rw [aval_of Try.func30 body30 Try.results30 Try.ntmps30 ok30]
  simp (implicitDefEqProofs := false) (disch := omega) only [go_sem, Nat.reduceAdd, Nat.reduceSub, Nat.reduceMul, Nat.reduceLT, Nat.reduceLeDiff, Nat.reduceEqDiff, List.drop_zero, List.take_succ_cons, List.take_zero, List.drop_succ_cons, Bool.and_true, Bool.true_and, Bool.and_false, Bool.false_and, BitVec.reduceOfInt, Nat.zero_add, Nat.mul_one, Nat.add_zero, Int.zero_add, Int.reduceToNat, Nat.reducePow, ↓reduceIte, reduceCtorEq, Int.reduceLE, Int.reduceLT, Int.reduceEq, Int.reduceNe, Int.reduceAdd, Int.reduceSub, Int.reduceMul, Int.reduceNeg, Nat.reduceBEq, show regOf Try.f30 0 = Code.region _ _ _ from rfl, show regOf Try.f30 1 = Code.region _ _ _ from rfl, Int.natCast_one, r1, r2]
theorem wT_c {h : AHeap} {id : Nat} {l t : List UInt8} (hw : WB h id l) (hn : l.length ≤ 100000) (ht : t.length ≤ 100000) :
    ∃ h', doCall md (aval Try.prog md fg) 30 [.ptr id 0, .slc true [.val (.string (txt t))]] h = some (.tup [], h') ∧ WB h' id (l ++ textL t) ∧ Fr id h h' := by
  obtain ⟨h', e, w, f⟩ := wT hw hn ht
  exact doCall_fr (by decide) e hw w f
theorem wS {h : AHeap} {id : Nat} {l : List UInt8} (hw : WB h id l) : aval Try.prog md fg 32 [.ptr id 0] h = some (.val (.string (txt l)), h) := by
  rw [aval_of Try.func32 body32 Try.results32 Try.ntmps32 ok32]
  obtain ⟨hid, ⟨hb, rfl⟩ | ⟨k, g, hk, hne, hb, ho⟩⟩ := hw
  · simp (implicitDefEqProofs := false) (disch := omega) only [go_sem, Nat.reduceAdd, Nat.reduceSub, Nat.reduceMul, Nat.reduceLT, Nat.reduceLeDiff, Nat.reduceEqDiff, List.drop_zero, List.take_succ_cons, List.take_zero, List.drop_succ_cons, Bool.and_true, Bool.true_and, Bool.and_false, Bool.false_and, BitVec.reduceOfInt, Nat.zero_add, Nat.mul_one, Nat.add_zero, Int.zero_add, Int.reduceToNat, Nat.reducePow, ↓reduceIte, reduceCtorEq, Int.reduceLE, Int.reduceLT, Int.reduceEq, Int.reduceNe, Int.reduceAdd, Int.reduceSub, Int.reduceMul, Int.reduceNeg, Nat.reduceBEq, show regOf Try.f32 0 = Code.region _ _ _ from rfl, show regOf Try.f32 1 = Code.region _ _ _ from rfl, show regOf Try.f32 3 = Code.region _ _ _ from rfl, hb]
    rfl
  · have hv : sview h (.arr k 0 l.length g 1) = some (l.map byteVal) := sview_arr _ _ _ _ _ ho (by simp)
    simp (implicitDefEqProofs := false) (disch := omega) only [go_sem, Nat.reduceAdd, Nat.reduceSub, Nat.reduceMul, Nat.reduceLT, Nat.reduceLeDiff, Nat.reduceEqDiff, List.drop_zero, List.take_succ_cons, List.take_zero, List.drop_succ_cons, Bool.and_true, Bool.true_and, Bool.and_false, Bool.false_and, BitVec.reduceOfInt, Nat.zero_add, Nat.mul_one, Nat.add_zero, Int.zero_add, Int.reduceToNat, Nat.reducePow, ↓reduceIte, reduceCtorEq, Int.reduceLE, Int.reduceLT, Int.reduceEq, Int.reduceNe, Int.reduceAdd, Int.reduceSub, Int.reduceMul, Int.reduceNeg, Nat.reduceBEq, show regOf Try.f32 0 = Code.region _ _ _ from rfl, show regOf Try.f32 1 = Code.region _ _ _ from rfl, show regOf Try.f32 3 = Code.region _ _ _ from rfl, hb, hv]
    rfl
theorem wS_c {h : AHeap} {id : Nat} {l : List UInt8} (hw : WB h id l) : doCall md (aval Try.prog md fg) 32 [.ptr id 0] h = some (.val (.string (txt l)), h) := doCall_len (by decide) (wS hw) rfl
end Go.Proofs.Ytlpkfeplbcadbaa
