/- CodecWrites: all of it. -/
import Derived.Test.YtlpkfeplbcadbaaC20
namespace Go.Proofs.Ytlpkfeplbcadbaa
open Go Go.Ab Go.Proofs
set_option maxRecDepth 100000
set_option linter.unusedSimpArgs false
set_option linter.unusedVariables false
theorem cr_end (l : List Itm) {h : AHeap} {r : Nat} :
    lrun Try.prog md fg (fg 8) (loopOf Try.f8 3) (fg 8 4) ([.unk, .unk, .unk, .unk, .unk, .unk, .unk, .ptr r 0, .unk, .unk, .unk, .unk, .unk, .unk, .unk, .unk, .unk, .unk, .unk, .unk, .unk, .unk, .unk, .unk, .unk, .unk, .unk, .unk, .unk, .unk, .unk, .unk, .unk, .unk, .unk, .unk, .unk, .unk, .unk, .unk, .unk, .unk, .unk, .unk, .unk, .unk, .unk, .unk, .unk, .unk, .unk, .unk, .unk, .unk, .unk, .unk, .unk, .unk, .unk, .unk, .unk, .unk, .unk, .unk, .unk, .unk, .slc false (l.map Itm.v), .int l.length, .int l.length, .unk, .unk, .unk, .unk, .unk, .unk, .unk, .unk, .unk, .unk, .unk, .unk, .unk, .unk, .unk, .unk, .unk, .unk, .unk, .unk, .unk, .unk, .unk, .unk, .unk, .unk, .unk, .unk, .unk, .unk, .unk, .unk, .unk, .unk, .unk, .unk, .unk, .unk, .unk, .unk, .unk, .unk, .unk, .unk, .unk, .unk, .unk, .unk, .unk, .unk, .unk, .unk, .unk]) h = some (.exit 3, [.unk, .unk, .unk, .unk, .unk, .unk, .unk, .ptr r 0, .unk, .unk, .unk, .unk, .unk, .unk, .unk, .unk, .unk, .unk, .unk, .unk, .unk, .unk, .unk, .unk, .unk, .unk, .unk, .unk, .unk, .unk, .unk, .unk, .unk, .unk, .unk, .unk, .unk, .unk, .unk, .unk, .unk, .unk, .unk, .unk, .unk, .unk, .unk, .unk, .unk, .unk, .unk, .unk, .unk, .unk, .unk, .unk, .unk, .unk, .unk, .unk, .unk, .unk, .unk, .unk, .unk, .unk, .slc false (l.map Itm.v), .int l.length, .int l.length, .unk, .unk, .unk, .unk, .unk, .unk, .unk, .unk, .unk, .unk, .unk, .unk, .unk, .unk, .unk, .unk, .unk, .unk, .unk, .unk, .unk, .unk, .unk, .unk, .unk, .unk, .unk, .unk, .unk, .unk, .unk, .unk, .unk, .unk, .unk, .unk, .unk, .unk, .unk, .unk, .unk, .unk, .unk, .unk, .unk, .unk, .unk, .unk, .unk, .unk, .unk, .unk, .unk], h) := by
  rw [lrun_atC loop8_3]
  simp (implicitDefEqProofs := false) (disch := omega) only [go_sem, Nat.reduceAdd, Nat.reduceSub, Nat.reduceMul, Nat.reduceLT, Nat.reduceLeDiff, Nat.reduceEqDiff, List.drop_zero, List.take_succ_cons, List.take_zero, List.drop_succ_cons, Bool.and_true, Bool.true_and, Bool.and_false, Bool.false_and, BitVec.reduceOfInt, Nat.zero_add, Nat.mul_one, Nat.add_zero, Int.zero_add, Int.reduceToNat, Nat.reducePow, ↓reduceIte, reduceCtorEq, Int.reduceLE, Int.reduceLT, Int.reduceEq, Int.reduceNe, Int.reduceAdd, Int.reduceSub, Int.reduceMul, Int.reduceNeg, Nat.reduceBEq, show regOf Try.f8 22 = Code.region _ _ _ from rfl]
theorem cr_loop (l : List Itm) (h60 : l.length ≤ 60) (hN : itN l ≤ 3000) : ∀ (m k : Nat) (h : AHeap) (r : Nat), k + m = l.length → hget h r = RO (encs (l.drop k)) false → r < h.length → (encs (l.drop k)).length ≤ 90000 →
    ∃ h', hget h' r = RO [] false ∧
    lrun Try.prog md fg (fg 8) (loopOf Try.f8 3) (fg 8 4) ([.unk, .unk, .unk, .unk, .unk, .unk, .unk, .ptr r 0, .unk, .unk, .unk, .unk, .unk, .unk, .unk, .unk, .unk, .unk, .unk, .unk, .unk, .unk, .unk, .unk, .unk, .unk, .unk, .unk, .unk, .unk, .unk, .unk, .unk, .unk, .unk, .unk, .unk, .unk, .unk, .unk, .unk, .unk, .unk, .unk, .unk, .unk, .unk, .unk, .unk, .unk, .unk, .unk, .unk, .unk, .unk, .unk, .unk, .unk, .unk, .unk, .unk, .unk, .unk, .unk, .unk, .unk, .slc false (l.map Itm.v), .int l.length, .int k, .unk, .unk, .unk, .unk, .unk, .unk, .unk, .unk, .unk, .unk, .unk, .unk, .unk, .unk, .unk, .unk, .unk, .unk, .unk, .unk, .unk, .unk, .unk, .unk, .unk, .unk, .unk, .unk, .unk, .unk, .unk, .unk, .unk, .unk, .unk, .unk, .unk, .unk, .unk, .unk, .unk, .unk, .unk, .unk, .unk, .unk, .unk, .unk, .unk, .unk, .unk, .unk, .unk]) h = some (.exit 3, [.unk, .unk, .unk, .unk, .unk, .unk, .unk, .ptr r 0, .unk, .unk, .unk, .unk, .unk, .unk, .unk, .unk, .unk, .unk, .unk, .unk, .unk, .unk, .unk, .unk, .unk, .unk, .unk, .unk, .unk, .unk, .unk, .unk, .unk, .unk, .unk, .unk, .unk, .unk, .unk, .unk, .unk, .unk, .unk, .unk, .unk, .unk, .unk, .unk, .unk, .unk, .unk, .unk, .unk, .unk, .unk, .unk, .unk, .unk, .unk, .unk, .unk, .unk, .unk, .unk, .unk, .unk, .slc false (l.map Itm.v), .int l.length, .int l.length, .unk, .unk, .unk, .unk, .unk, .unk, .unk, .unk, .unk, .unk, .unk, .unk, .unk, .unk, .unk, .unk, .unk, .unk, .unk, .unk, .unk, .unk, .unk, .unk, .unk, .unk, .unk, .unk, .unk, .unk, .unk, .unk, .unk, .unk, .unk, .unk, .unk, .unk, .unk, .unk, .unk, .unk, .unk, .unk, .unk, .unk, .unk, .unk, .unk, .unk, .unk, .unk, .unk], h')
  | 0, k, h, r, hm, hr, hrl, hl => by
    obtain rfl : k = l.length := by omega
    have e : l.drop l.length = [] := List.drop_length
    rw [e] at hr
    exact ⟨h, hr, cr_end l⟩
  | m + 1, k, h, r, hm, hr, hrl, hl => by
    have hk : k < l.length := by omega
    have hd : l.drop k = l[k] :: l.drop (k + 1) := List.drop_eq_getElem_cons hk
    have hi := itN_le l l[k] (List.getElem_mem hk)
    have he : encs (l.drop k) = enc l[k] ++ encs (l.drop (k + 1)) := by
      rw [hd]; simp only [encs, List.map_cons, List.flatten_cons]
    rw [he] at hr hl
    obtain ⟨h1, r1, l1, e1⟩ := cr_round l k hk h60 (by omega) hr hrl hl
    obtain ⟨h2, r2, e2⟩ := cr_loop l h60 hN m (k + 1) h1 r (by omega) r1 l1 (by rw [List.length_append] at hl; omega)
    exact ⟨h2, r2, e1.trans e2⟩
theorem encs_len (l : List Itm) (h9 : ∀ i ∈ l, i.s.length ≤ 9000) : (encs l).length ≤ 10 * l.length + itN l := by
  induction l with
  | nil => simp [encs, itN]
  | cons a r ih =>
    have h1 := enc_len a (h9 a (List.mem_cons_self ..))
    have h2 := ih fun i hi => h9 i (List.mem_cons_of_mem _ hi)
    have h3 := h9 a (List.mem_cons_self ..)
    have e1 : encs (a :: r) = enc a ++ encs r := by simp only [encs, List.map_cons, List.flatten_cons]
    have e2 : itN (a :: r) = min a.s.length 100000 + itN r := by simp only [itN, List.map_cons, List.sum_cons]
    rw [e1, e2, List.length_append, List.length_cons]; omega
theorem solid_itms (l : List Itm) : solidL (l.map Itm.v) = true := by
  induction l with
  | nil => rfl
  | cons a r ih => simp only [List.map_cons, solidL, solid, Itm.v, Itm.cells, Bool.and_self, Bool.true_and]; exact ih
theorem items_p (l : List Itm) : pcall Try.prog md fg 27 [.slc false (l.map Itm.v)] = some (.val (.bool (itB l))) := by
  rw [pcall_eq, items, pureRes_solid rfl]
theorem codecWrites (l : List Itm) : pcall Try.prog md fg 8 [.slc false (l.map Itm.v)] = some (.bool true) := by
  have ca : ∀ h, doCall md (aval Try.prog md fg) 12 [] h = some (.val (.bool true), h) := fun h => doCall_pure md12 rfl alive
  have ci : ∀ h, doCall md (aval Try.prog md fg) 27 [.slc false (l.map Itm.v)] h = some (.val (.bool (itB l)), h) := fun h => doCall_pure md27 (by simp only [solidL, solid, solid_itms]; rfl) (items_p l)
  rw [pcall_eq]
  rw [aval_of Try.func8 body8 Try.results8 Try.ntmps8 ok8]
  by_cases hB : itB l = true
  · have hB2 := hB
    simp only [itB, Bool.and_eq_true, decide_eq_true_eq] at hB2
    obtain ⟨h60, hN⟩ := hB2
    have h9 : ∀ i ∈ l, i.s.length ≤ 9000 := fun i hi => by have := itN_le l i hi; omega
    have hlen := encs_len l h9
    obtain ⟨h1, w1, e1⟩ := cw_loop l h60 hN l.length 0 [.vars [.slc true []]] [] (by omega) ⟨by simp, .inl ⟨rfl, rfl⟩⟩ (by simp only [List.length_nil, List.drop_zero]; omega)
    simp only [Int.natCast_zero, List.drop_zero, List.nil_append] at e1 w1
    have e0 : txt [] = ⟨#[]⟩ := rfl
    rw [e0] at e1
    have cs := wS_c w1
    have cn : doCall md (aval Try.prog md fg) 33 [.val (.string (txt (encs l)))] h1 = some (.ptr h1.length 0, h1 ++ [RO (encs l) false]) := doCall_keep (by rw [md33]; decide) (newReader (txt (encs l)) h1) (by simp [below])
    obtain ⟨h2, r2, e2⟩ := cr_loop l h60 hN l.length 0 (h1 ++ [RO (encs l) false]) h1.length (by omega) (by rw [List.drop_zero]; exact hget_last) (by simp) (by rw [List.drop_zero]; omega)
    simp only [Int.natCast_zero] at e2
    have cd := rDone_c r2
    have cb := rBad_c r2
    rw [hB] at ci
    simp (implicitDefEqProofs := false) (disch := omega) only [go_sem, Nat.reduceAdd, Nat.reduceSub, Nat.reduceMul, Nat.reduceLT, Nat.reduceLeDiff, Nat.reduceEqDiff, List.drop_zero, List.take_succ_cons, List.take_zero, List.drop_succ_cons, Bool.and_true, Bool.true_and, Bool.and_false, Bool.false_and, BitVec.reduceOfInt, Nat.zero_add, Nat.mul_one, Nat.add_zero, Int.zero_add, Int.reduceToNat, Nat.reducePow, ↓reduceIte, reduceCtorEq, Int.reduceLE, Int.reduceLT, Int.reduceEq, Int.reduceNe, Int.reduceAdd, Int.reduceSub, Int.reduceMul, Int.reduceNeg, Nat.reduceBEq, show regOf Try.f8 0 = Code.region _ _ _ from rfl, show regOf Try.f8 1 = Code.region _ _ _ from rfl, show regOf Try.f8 3 = Code.region _ _ _ from rfl, show regOf Try.f8 4 = Code.region _ _ _ from rfl, show regOf Try.f8 5 = Code.region _ _ _ from rfl, show regOf Try.f8 18 = Code.region _ _ _ from rfl, show regOf Try.f8 20 = Code.region _ _ _ from rfl, show regOf Try.f8 21 = Code.region _ _ _ from rfl, show regOf Try.f8 27 = Code.region _ _ _ from rfl, abuild_struct _ _ tplaces_46, List.length_map, ci, e1, cs, cn, e2, cd, cb, ca, List.isEmpty_nil, Bool.not_false, Bool.and_self]
    rw [pureRes_solid rfl]
  · have hB : itB l = false := by simpa using hB
    rw [hB] at ci
    simp (implicitDefEqProofs := false) (disch := omega) only [go_sem, Nat.reduceAdd, Nat.reduceSub, Nat.reduceMul, Nat.reduceLT, Nat.reduceLeDiff, Nat.reduceEqDiff, List.drop_zero, List.take_succ_cons, List.take_zero, List.drop_succ_cons, Bool.and_true, Bool.true_and, Bool.and_false, Bool.false_and, BitVec.reduceOfInt, Nat.zero_add, Nat.mul_one, Nat.add_zero, Int.zero_add, Int.reduceToNat, Nat.reducePow, ↓reduceIte, reduceCtorEq, Int.reduceLE, Int.reduceLT, Int.reduceEq, Int.reduceNe, Int.reduceAdd, Int.reduceSub, Int.reduceMul, Int.reduceNeg, Nat.reduceBEq, show regOf Try.f8 0 = Code.region _ _ _ from rfl, show regOf Try.f8 1 = Code.region _ _ _ from rfl, show regOf Try.f8 2 = Code.region _ _ _ from rfl, ci, ca]
    rw [pureRes_solid rfl]
end Go.Proofs.Ytlpkfeplbcadbaa
