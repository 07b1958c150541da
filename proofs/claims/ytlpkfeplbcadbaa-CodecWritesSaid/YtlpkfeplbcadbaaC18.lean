/- CodecReads, by rounds. -/
import Derived.Test.YtlpkfeplbcadbaaC17
namespace Go.Proofs.Ytlpkfeplbcadbaa
open Go Go.Ab Go.Proofs
set_option maxRecDepth 100000
set_option linter.unusedSimpArgs false
set_option linter.unusedVariables false
/-! ### What is read is what would be written -/
theorem uS_ok {s : List UInt8} {b : Bool} (h : (uS s b).2 = false) : b = false ∧ uvarN (uA s b).toNat ++ (uS s b).1 = s := by
  cases b with
  | true => simp [uS] at h
  | false =>
    refine ⟨rfl, ?_⟩
    unfold uS uRest at h ⊢
    unfold uA uAns
    rw [if_neg (by simp)] at h ⊢
    rw [if_neg (by simp)]
    by_cases h0 : (goU 0 0#64 s).2 = 0
    · rw [if_pos h0] at h; simp at h
    · rw [if_neg h0]
      rw [goU_eq] at h0 ⊢
      unfold refU at h0 ⊢
      dsimp only at h0 ⊢
      split
      · rename_i h1; rw [if_pos h1] at h0; exact absurd rfl h0
      · rename_i h1
        split
        · rename_i h2
          dsimp only
          rw [h2, List.take_append_drop]
        · rename_i h2; rw [if_neg h1, if_neg h2] at h0; exact absurd rfl h0
theorem uS_bad {s : List UInt8} {b : Bool} (h : (uS s b).2 = true) : uA s b = 0#64 := by
  cases b with
  | true => simp [uA]
  | false =>
    unfold uS uRest at h
    unfold uA uAns
    rw [if_neg (by simp)] at h ⊢
    by_cases h0 : (goU 0 0#64 s).2 = 0
    · exact goU_zero h0
    · rw [if_neg h0] at h; simp at h
theorem tS_ok {s : List UInt8} {b : Bool} (h : (tS s b).2 = false) : b = false ∧ textL (tA s b) ++ (tS s b).1 = s := by
  unfold tS at h ⊢
  unfold tA
  by_cases hc : (uS s b).2 = true ∨ (uS s b).1.length < (uA s b).toNat
  · rw [if_pos hc] at h; simp at h
  · rw [if_neg hc, if_neg hc]
    have hb : (uS s b).2 = false := by
      cases h1 : (uS s b).2 with
      | false => rfl
      | true => exact absurd (.inl h1) hc
    obtain ⟨h1, h2⟩ := uS_ok hb
    refine ⟨h1, ?_⟩
    have hlen : ((uS s b).1.take (uA s b).toNat).length = (uA s b).toNat := by rw [List.length_take]; omega
    rw [textL, hlen, List.append_assoc, List.take_append_drop, h2]
theorem tS_bad {s : List UInt8} {b : Bool} (h : (tS s b).2 = true) : tA s b = [] := by
  unfold tS at h
  unfold tA
  by_cases hc : (uS s b).2 = true ∨ (uS s b).1.length < (uA s b).toNat
  · rw [if_pos hc]
  · rw [if_neg hc] at h; simp at h
theorem WB_set {h : AHeap} {id j : Nat} {l : List UInt8} {cs : List AV} {o : AObj} (hw : WB h id l) (hj : j ≠ id) (ho : hget h j = .vars cs) : WB (h.set j o) id l := by
  obtain ⟨h1, ⟨h2, h3⟩ | ⟨k, g, hk, hne, hb, hk2⟩⟩ := hw
  · exact ⟨by simp; exact h1, .inl ⟨by rw [hget_set_ne hj]; exact h2, h3⟩⟩
  · have hjk : j ≠ k := by rintro rfl; rw [ho] at hk2; cases hk2
    exact ⟨by simp; exact h1, .inr ⟨k, g, by simp; exact hk, hne, by rw [hget_set_ne hj]; exact hb, by rw [hget_set_ne hjk]; exact hk2⟩⟩
/-- The three that a law holds: a reader, the reference's reader, a writer. -/
structure RQW (S : List UInt8) (h : AHeap) (s : List UInt8) (b : Bool) (l : List UInt8) (k : Nat) : Prop where
  r : hget h 0 = RO s b
  q : hget h 1 = RO s b
  w : WB h 2 l
  len : l.length ≤ 2000 + k
  lens : s.length ≤ 2000
  ok : b = false → l ++ s = S
theorem uvarN_zero : uvarN (0#64 : BitVec 64).toNat = [0] := by
  rw [show (0#64 : BitVec 64).toNat = 0 from rfl, uvarN_small (by decide)]; rfl
theorem step_len {S s l a : List UInt8} {b : Bool} {k : Nat} (hS : S.length ≤ 2000) (hl : l.length ≤ 2000 + k) (hok : b = false → (l ++ a) ++ s = S) (hbad : b = true → a.length = 1) : (l ++ a).length ≤ 2000 + (k + 1) := by
  cases b with
  | false =>
    have := congrArg List.length (hok rfl)
    rw [List.length_append] at this; omega
  | true => rw [List.length_append, hbad rfl]; omega
theorem reads_round (S : List UInt8) (hS : S.length ≤ 2000) (is : List Int) (k : Nat) (hk : k < is.length) (h60 : is.length ≤ 60) (hki : -9223372036854775808 ≤ is[k] ∧ is[k] ≤ 9223372036854775807)
    {h : AHeap} {s : List UInt8} {b : Bool} {l : List UInt8} (I : RQW S h s b l k) : ∃ h' s' b' l', RQW S h' s' b' l' (k + 1) ∧
    lrun Try.prog md fg (fg 9) (loopOf Try.f9 0) (fg 9 1) ([.str (txt S), .unk, .unk, .unk, .bool false, .ptr 0 0, .ptr 1 0, .ptr 2 0, .unk, .unk, .unk, .unk, .unk, .unk, .unk, .unk, .unk, .unk, .unk, .unk, .unk, .unk, .unk, .unk, .unk, .unk, .unk, .unk, .unk, .slc false (is.map .int), .int is.length, .int k, .unk, .unk, .unk, .unk, .unk, .unk, .unk, .unk, .unk, .unk, .unk, .unk, .unk, .unk, .unk, .unk, .unk, .unk, .unk, .unk, .unk, .unk, .unk, .unk, .unk, .unk, .unk, .unk, .unk, .unk, .unk, .unk, .unk, .unk, .unk, .unk, .unk, .unk, .unk, .unk, .unk, .unk, .unk, .unk, .unk, .unk, .unk, .unk, .unk, .unk, .unk, .unk, .unk, .unk, .unk, .unk, .unk, .unk, .unk, .unk, .unk, .unk, .unk, .unk, .unk, .unk, .unk, .unk, .unk, .unk, .unk, .unk, .unk, .unk]) h = lrun Try.prog md fg (fg 9) (loopOf Try.f9 0) (fg 9 1) ([.str (txt S), .unk, .unk, .unk, .bool false, .ptr 0 0, .ptr 1 0, .ptr 2 0, .unk, .unk, .unk, .unk, .unk, .unk, .unk, .unk, .unk, .unk, .unk, .unk, .unk, .unk, .unk, .unk, .unk, .unk, .unk, .unk, .unk, .slc false (is.map .int), .int is.length, .int ((k + 1 : Nat) : Int), .unk, .unk, .unk, .unk, .unk, .unk, .unk, .unk, .unk, .unk, .unk, .unk, .unk, .unk, .unk, .unk, .unk, .unk, .unk, .unk, .unk, .unk, .unk, .unk, .unk, .unk, .unk, .unk, .unk, .unk, .unk, .unk, .unk, .unk, .unk, .unk, .unk, .unk, .unk, .unk, .unk, .unk, .unk, .unk, .unk, .unk, .unk, .unk, .unk, .unk, .unk, .unk, .unk, .unk, .unk, .unk, .unk, .unk, .unk, .unk, .unk, .unk, .unk, .unk, .unk, .unk, .unk, .unk, .unk, .unk, .unk, .unk, .unk, .unk]) h' := by
  obtain ⟨hr, hq, hw, hlen, hlens, hok⟩ := I
  have h0 : 0 < h.length := by
    refine Classical.byContradiction fun hc => ?_
    rw [hget_out (by omega)] at hr; cases hr
  have h1 : 1 < h.length := by
    refine Classical.byContradiction fun hc => ?_
    rw [hget_out (by omega)] at hq; cases hq
  have hkk : is[k]? = some is[k] := List.getElem?_eq_getElem hk
  by_cases hT : is[k] = 0 ∨ is[k] = 1
  · -- a number
    have hq1 : hget (h.set 0 (RO (uS s b).1 (uS s b).2)) 1 = RO s b := by rw [hget_set_ne (by decide)]; exact hq
    have w2 : WB ((h.set 0 (RO (uS s b).1 (uS s b).2)).set 1 (RO (uS s b).1 (uS s b).2)) 2 l := WB_set (WB_set hw (by decide) hr) (by decide) hq1
    have cq := qU_c hq1 (by simp; exact h1) (by omega)
    have ul := uS_len s b
    have fin : ∀ h3, WB h3 2 (l ++ uvarN (uA s b).toNat) → Fr 2 ((h.set 0 (RO (uS s b).1 (uS s b).2)).set 1 (RO (uS s b).1 (uS s b).2)) h3 → RQW S h3 (uS s b).1 (uS s b).2 (l ++ uvarN (uA s b).toNat) (k + 1) := by
      intro h3 w3 f3
      have hok' : (uS s b).2 = false → (l ++ uvarN (uA s b).toNat) ++ (uS s b).1 = S := fun hb => by
        obtain ⟨e1, e2⟩ := uS_ok hb
        rw [List.append_assoc, e2]; exact hok e1
      refine ⟨f3.2 0 _ (by decide) (by rw [hget_set_ne (by decide), hget_set_eq h0]), f3.2 1 _ (by decide) (by rw [hget_set_eq (by simp; exact h1)]), w3, step_len hS hlen hok' fun hb => by rw [uS_bad hb, uvarN_zero]; rfl, by omega, hok'⟩
    rcases hT with h0k | h1k
    · have cu := rU_c hr h0 (by omega)
      obtain ⟨h3, cw, w3, f3⟩ := wU_c (uA s b) w2 (by omega)
      have I3 := fin h3 w3 f3
      refine ⟨h3, _, _, _, I3, ?_⟩
      have cb := rBad_c I3.r
      have q3 := I3.q
      rw [lrun_atC loop9_0]
      simp (implicitDefEqProofs := false) (disch := omega) only [go_sem, Nat.reduceAdd, Nat.reduceSub, Nat.reduceMul, Nat.reduceLT, Nat.reduceLeDiff, Nat.reduceEqDiff, List.drop_zero, List.take_succ_cons, List.take_zero, List.drop_succ_cons, Bool.and_true, Bool.true_and, Bool.and_false, Bool.false_and, BitVec.reduceOfInt, Nat.zero_add, Nat.mul_one, Nat.add_zero, Int.zero_add, Int.reduceToNat, Nat.reducePow, ↓reduceIte, reduceCtorEq, Int.reduceLE, Int.reduceLT, Int.reduceEq, Int.reduceNe, Int.reduceAdd, Int.reduceSub, Int.reduceMul, Int.reduceNeg, Nat.reduceBEq, show regOf Try.f9 7 = Code.region _ _ _ from rfl, show regOf Try.f9 8 = Code.region _ _ _ from rfl, show regOf Try.f9 9 = Code.region _ _ _ from rfl, show regOf Try.f9 14 = Code.region _ _ _ from rfl, show regOf Try.f9 15 = Code.region _ _ _ from rfl, show regOf Try.f9 16 = Code.region _ _ _ from rfl, show regOf Try.f9 18 = Code.region _ _ _ from rfl, show regOf Try.f9 24 = Code.region _ _ _ from rfl, show regOf Try.f9 26 = Code.region _ _ _ from rfl, List.getElem?_map, List.length_map, hkk, cu, cq, cw, cb, q3]
      all_goals (congr 1 <;> simp only [List.cons.injEq, AV.val.injEq, Value.int.injEq, Value.bool.injEq, true_and, and_true] <;> omega)
    · have cu := rI_c hr h0 (by omega)
      have zr := zagN_range (x := ((uA s b).toNat : Int)) (by omega) (by have := (uA s b).isLt; omega)
      obtain ⟨h3, cw, w3, f3⟩ := wI_c zr.1 zr.2 w2 (by omega)
      rw [zig_zag (by omega), Int.toNat_natCast] at w3
      have I3 := fin h3 w3 f3
      refine ⟨h3, _, _, _, I3, ?_⟩
      have cb := rBad_c I3.r
      have q3 := I3.q
      have cz : ∀ g, doCall md (aval Try.prog md fg) 18 [v64 (uA s b)] g = some (.val (.int .i64 (zagN (uA s b).toNat)), g) := fun g => doCall_pure md18 rfl (refZag_p (by omega) (by have := (uA s b).isLt; omega))
      rw [lrun_atC loop9_0]
      simp (implicitDefEqProofs := false) (disch := omega) only [go_sem, Nat.reduceAdd, Nat.reduceSub, Nat.reduceMul, Nat.reduceLT, Nat.reduceLeDiff, Nat.reduceEqDiff, List.drop_zero, List.take_succ_cons, List.take_zero, List.drop_succ_cons, Bool.and_true, Bool.true_and, Bool.and_false, Bool.false_and, BitVec.reduceOfInt, Nat.zero_add, Nat.mul_one, Nat.add_zero, Int.zero_add, Int.reduceToNat, Nat.reducePow, ↓reduceIte, reduceCtorEq, Int.reduceLE, Int.reduceLT, Int.reduceEq, Int.reduceNe, Int.reduceAdd, Int.reduceSub, Int.reduceMul, Int.reduceNeg, Nat.reduceBEq, show regOf Try.f9 7 = Code.region _ _ _ from rfl, show regOf Try.f9 8 = Code.region _ _ _ from rfl, show regOf Try.f9 9 = Code.region _ _ _ from rfl, show regOf Try.f9 14 = Code.region _ _ _ from rfl, show regOf Try.f9 19 = Code.region _ _ _ from rfl, show regOf Try.f9 20 = Code.region _ _ _ from rfl, show regOf Try.f9 21 = Code.region _ _ _ from rfl, show regOf Try.f9 23 = Code.region _ _ _ from rfl, show regOf Try.f9 24 = Code.region _ _ _ from rfl, show regOf Try.f9 26 = Code.region _ _ _ from rfl, List.getElem?_map, List.length_map, hkk, cu, cq, cw, cb, q3, cz]
      all_goals (congr 1 <;> simp only [List.cons.injEq, AV.val.injEq, Value.int.injEq, Value.bool.injEq, true_and, and_true] <;> omega)
  · -- a text
    have hq1 : hget (h.set 0 (RO (tS s b).1 (tS s b).2)) 1 = RO s b := by rw [hget_set_ne (by decide)]; exact hq
    have w2 : WB ((h.set 0 (RO (tS s b).1 (tS s b).2)).set 1 (RO (tS s b).1 (tS s b).2)) 2 l := WB_set (WB_set hw (by decide) hr) (by decide) hq1
    have cq := qT_c hq1 (by simp; exact h1) (by omega)
    have cu := rT_c hr h0 (by omega)
    have tl := tS_len s b
    have tal : (tA s b).length ≤ 2000 := by
      unfold tA; split
      · simp
      · have := uS_len s b
        rw [List.length_take]; omega
    obtain ⟨h3, cw, w3, f3⟩ := wT_c (t := tA s b) w2 (by omega) (by omega)
    have hok' : (tS s b).2 = false → (l ++ textL (tA s b)) ++ (tS s b).1 = S := fun hb => by
      obtain ⟨e1, e2⟩ := tS_ok hb
      rw [List.append_assoc, e2]; exact hok e1
    have I3 : RQW S h3 (tS s b).1 (tS s b).2 (l ++ textL (tA s b)) (k + 1) :=
      ⟨f3.2 0 _ (by decide) (by rw [hget_set_ne (by decide), hget_set_eq h0]), f3.2 1 _ (by decide) (by rw [hget_set_eq (by simp; exact h1)]), w3, step_len hS hlen hok' fun hb => by rw [tS_bad hb, textL, List.append_nil]; show (uvarN 0).length = 1; rw [uvarN_small (by decide)]; rfl, by omega, hok'⟩
    refine ⟨h3, _, _, _, I3, ?_⟩
    have cb := rBad_c I3.r
    have q3 := I3.q
    rw [lrun_atC loop9_0]
    simp (implicitDefEqProofs := false) (disch := omega) only [go_sem, Nat.reduceAdd, Nat.reduceSub, Nat.reduceMul, Nat.reduceLT, Nat.reduceLeDiff, Nat.reduceEqDiff, List.drop_zero, List.take_succ_cons, List.take_zero, List.drop_succ_cons, Bool.and_true, Bool.true_and, Bool.and_false, Bool.false_and, BitVec.reduceOfInt, Nat.zero_add, Nat.mul_one, Nat.add_zero, Int.zero_add, Int.reduceToNat, Nat.reducePow, ↓reduceIte, reduceCtorEq, Int.reduceLE, Int.reduceLT, Int.reduceEq, Int.reduceNe, Int.reduceAdd, Int.reduceSub, Int.reduceMul, Int.reduceNeg, Nat.reduceBEq, show regOf Try.f9 7 = Code.region _ _ _ from rfl, show regOf Try.f9 8 = Code.region _ _ _ from rfl, show regOf Try.f9 9 = Code.region _ _ _ from rfl, show regOf Try.f9 14 = Code.region _ _ _ from rfl, show regOf Try.f9 19 = Code.region _ _ _ from rfl, show regOf Try.f9 10 = Code.region _ _ _ from rfl, show regOf Try.f9 11 = Code.region _ _ _ from rfl, show regOf Try.f9 13 = Code.region _ _ _ from rfl, show regOf Try.f9 24 = Code.region _ _ _ from rfl, show regOf Try.f9 26 = Code.region _ _ _ from rfl, List.getElem?_map, List.length_map, hkk, cu, cq, cw, cb, q3]
    all_goals (congr 1 <;> simp only [List.cons.injEq, AV.val.injEq, Value.int.injEq, Value.bool.injEq, true_and, and_true] <;> omega)
theorem reads_end (S : List UInt8) (is : List Int) (h : AHeap) :
    lrun Try.prog md fg (fg 9) (loopOf Try.f9 0) (fg 9 1) ([.str (txt S), .unk, .unk, .unk, .bool false, .ptr 0 0, .ptr 1 0, .ptr 2 0, .unk, .unk, .unk, .unk, .unk, .unk, .unk, .unk, .unk, .unk, .unk, .unk, .unk, .unk, .unk, .unk, .unk, .unk, .unk, .unk, .unk, .slc false (is.map .int), .int is.length, .int is.length, .unk, .unk, .unk, .unk, .unk, .unk, .unk, .unk, .unk, .unk, .unk, .unk, .unk, .unk, .unk, .unk, .unk, .unk, .unk, .unk, .unk, .unk, .unk, .unk, .unk, .unk, .unk, .unk, .unk, .unk, .unk, .unk, .unk, .unk, .unk, .unk, .unk, .unk, .unk, .unk, .unk, .unk, .unk, .unk, .unk, .unk, .unk, .unk, .unk, .unk, .unk, .unk, .unk, .unk, .unk, .unk, .unk, .unk, .unk, .unk, .unk, .unk, .unk, .unk, .unk, .unk, .unk, .unk, .unk, .unk, .unk, .unk, .unk, .unk]) h = some (.exit 0, [.str (txt S), .unk, .unk, .unk, .bool false, .ptr 0 0, .ptr 1 0, .ptr 2 0, .unk, .unk, .unk, .unk, .unk, .unk, .unk, .unk, .unk, .unk, .unk, .unk, .unk, .unk, .unk, .unk, .unk, .unk, .unk, .unk, .unk, .slc false (is.map .int), .int is.length, .int is.length, .unk, .unk, .unk, .unk, .unk, .unk, .unk, .unk, .unk, .unk, .unk, .unk, .unk, .unk, .unk, .unk, .unk, .unk, .unk, .unk, .unk, .unk, .unk, .unk, .unk, .unk, .unk, .unk, .unk, .unk, .unk, .unk, .unk, .unk, .unk, .unk, .unk, .unk, .unk, .unk, .unk, .unk, .unk, .unk, .unk, .unk, .unk, .unk, .unk, .unk, .unk, .unk, .unk, .unk, .unk, .unk, .unk, .unk, .unk, .unk, .unk, .unk, .unk, .unk, .unk, .unk, .unk, .unk, .unk, .unk, .unk, .unk, .unk, .unk], h) := by
  rw [lrun_atC loop9_0]
  simp (implicitDefEqProofs := false) (disch := omega) only [go_sem, Nat.reduceAdd, Nat.reduceSub, Nat.reduceMul, Nat.reduceLT, Nat.reduceLeDiff, Nat.reduceEqDiff, List.drop_zero, List.take_succ_cons, List.take_zero, List.drop_succ_cons, Bool.and_true, Bool.true_and, Bool.and_false, Bool.false_and, BitVec.reduceOfInt, Nat.zero_add, Nat.mul_one, Nat.add_zero, Int.zero_add, Int.reduceToNat, Nat.reducePow, ↓reduceIte, reduceCtorEq, Int.reduceLE, Int.reduceLT, Int.reduceEq, Int.reduceNe, Int.reduceAdd, Int.reduceSub, Int.reduceMul, Int.reduceNeg, Nat.reduceBEq, show regOf Try.f9 7 = Code.region _ _ _ from rfl]
theorem reads_loop (S : List UInt8) (hS : S.length ≤ 2000) (is : List Int) (h60 : is.length ≤ 60) (hki : ∀ x ∈ is, -9223372036854775808 ≤ x ∧ x ≤ 9223372036854775807) : ∀ (m k : Nat) (h : AHeap) (s : List UInt8) (b : Bool) (l : List UInt8), k + m = is.length → RQW S h s b l k → ∃ h' s' b' l', RQW S h' s' b' l' is.length ∧
    lrun Try.prog md fg (fg 9) (loopOf Try.f9 0) (fg 9 1) ([.str (txt S), .unk, .unk, .unk, .bool false, .ptr 0 0, .ptr 1 0, .ptr 2 0, .unk, .unk, .unk, .unk, .unk, .unk, .unk, .unk, .unk, .unk, .unk, .unk, .unk, .unk, .unk, .unk, .unk, .unk, .unk, .unk, .unk, .slc false (is.map .int), .int is.length, .int k, .unk, .unk, .unk, .unk, .unk, .unk, .unk, .unk, .unk, .unk, .unk, .unk, .unk, .unk, .unk, .unk, .unk, .unk, .unk, .unk, .unk, .unk, .unk, .unk, .unk, .unk, .unk, .unk, .unk, .unk, .unk, .unk, .unk, .unk, .unk, .unk, .unk, .unk, .unk, .unk, .unk, .unk, .unk, .unk, .unk, .unk, .unk, .unk, .unk, .unk, .unk, .unk, .unk, .unk, .unk, .unk, .unk, .unk, .unk, .unk, .unk, .unk, .unk, .unk, .unk, .unk, .unk, .unk, .unk, .unk, .unk, .unk, .unk, .unk]) h = some (.exit 0, [.str (txt S), .unk, .unk, .unk, .bool false, .ptr 0 0, .ptr 1 0, .ptr 2 0, .unk, .unk, .unk, .unk, .unk, .unk, .unk, .unk, .unk, .unk, .unk, .unk, .unk, .unk, .unk, .unk, .unk, .unk, .unk, .unk, .unk, .slc false (is.map .int), .int is.length, .int is.length, .unk, .unk, .unk, .unk, .unk, .unk, .unk, .unk, .unk, .unk, .unk, .unk, .unk, .unk, .unk, .unk, .unk, .unk, .unk, .unk, .unk, .unk, .unk, .unk, .unk, .unk, .unk, .unk, .unk, .unk, .unk, .unk, .unk, .unk, .unk, .unk, .unk, .unk, .unk, .unk, .unk, .unk, .unk, .unk, .unk, .unk, .unk, .unk, .unk, .unk, .unk, .unk, .unk, .unk, .unk, .unk, .unk, .unk, .unk, .unk, .unk, .unk, .unk, .unk, .unk, .unk, .unk, .unk, .unk, .unk, .unk, .unk, .unk, .unk], h')
  | 0, k, h, s, b, l, hm, I => by
    obtain rfl : k = is.length := by omega
    exact ⟨h, s, b, l, I, reads_end S is h⟩
  | m + 1, k, h, s, b, l, hm, I => by
    have hk : k < is.length := by omega
    obtain ⟨h1, s1, b1, l1, I1, e1⟩ := reads_round S hS is k hk h60 (hki _ (List.getElem_mem hk)) I
    obtain ⟨h2, s2, b2, l2, I2, e2⟩ := reads_loop S hS is h60 hki m (k + 1) h1 s1 b1 l1 (by omega) I1
    exact ⟨h2, s2, b2, l2, I2, e1.trans e2⟩
theorem codecReads (s : ByteArray) (is : List Int) (hki : ∀ x ∈ is, -9223372036854775808 ≤ x ∧ x ≤ 9223372036854775807) : pcall Try.prog md fg 9 [.val (.string s), .slc false (is.map .int)] = some (.bool true) := by
  obtain ⟨S, rfl⟩ := txt_of s
  have hz := txt_size S
  have ca : ∀ h, doCall md (aval Try.prog md fg) 12 [] h = some (.val (.bool true), h) := fun h => doCall_pure md12 rfl alive
  rw [pcall_eq]
  rw [aval_of Try.func9 body9 Try.results9 Try.ntmps9 ok9]
  by_cases h1 : S.length ≤ 2000
  · by_cases h2 : is.length ≤ 60
    · have cn : doCall md (aval Try.prog md fg) 33 [.val (.string (txt S))] [] = some (.ptr 0 0, [RO S false]) := doCall_keep (by rw [md33]; decide) (newReader (txt S) []) rfl
      have I0 : RQW S [RO S false, RO S false, .vars [.slc true []]] S false [] 0 := ⟨rfl, rfl, ⟨by simp, .inl ⟨rfl, rfl⟩⟩, by simp, h1, fun _ => rfl⟩
      obtain ⟨h', s', b', l', I, e⟩ := reads_loop S h1 is h2 hki is.length 0 _ _ _ _ (by omega) I0
      simp only [Int.natCast_zero] at e
      have cd := rDone_c I.r
      have cs := wS_c I.w
      have q := I.q
      have hfin : b' = false → s' = [] → txt l' = txt S := fun hb hs => by
        have := I.ok hb
        rw [hs, List.append_nil] at this; rw [this]
      cases b' with
      | true =>
        simp (implicitDefEqProofs := false) (disch := omega) only [go_sem, Nat.reduceAdd, Nat.reduceSub, Nat.reduceMul, Nat.reduceLT, Nat.reduceLeDiff, Nat.reduceEqDiff, List.drop_zero, List.take_succ_cons, List.take_zero, List.drop_succ_cons, Bool.and_true, Bool.true_and, Bool.and_false, Bool.false_and, BitVec.reduceOfInt, Nat.zero_add, Nat.mul_one, Nat.add_zero, Int.zero_add, Int.reduceToNat, Nat.reducePow, ↓reduceIte, reduceCtorEq, Int.reduceLE, Int.reduceLT, Int.reduceEq, Int.reduceNe, Int.reduceAdd, Int.reduceSub, Int.reduceMul, Int.reduceNeg, Nat.reduceBEq, show regOf Try.f9 0 = Code.region _ _ _ from rfl, show regOf Try.f9 1 = Code.region _ _ _ from rfl, show regOf Try.f9 3 = Code.region _ _ _ from rfl, show regOf Try.f9 4 = Code.region _ _ _ from rfl, show regOf Try.f9 5 = Code.region _ _ _ from rfl, show regOf Try.f9 6 = Code.region _ _ _ from rfl, show regOf Try.f9 27 = Code.region _ _ _ from rfl, show regOf Try.f9 29 = Code.region _ _ _ from rfl, abuild_struct _ _ tplaces_61, abuild_struct _ _ tplaces_46, List.length_map, cn, e, cd, q, ca, Bool.false_and, Bool.not_true, Bool.not_false]
        rw [pureRes_solid rfl]
      | false =>
        cases s' with
        | nil =>
          have hf := hfin rfl rfl
          have e0 : txt [] = ⟨#[]⟩ := rfl
          simp (implicitDefEqProofs := false) (disch := omega) only [go_sem, Nat.reduceAdd, Nat.reduceSub, Nat.reduceMul, Nat.reduceLT, Nat.reduceLeDiff, Nat.reduceEqDiff, List.drop_zero, List.take_succ_cons, List.take_zero, List.drop_succ_cons, Bool.and_true, Bool.true_and, Bool.and_false, Bool.false_and, BitVec.reduceOfInt, Nat.zero_add, Nat.mul_one, Nat.add_zero, Int.zero_add, Int.reduceToNat, Nat.reducePow, ↓reduceIte, reduceCtorEq, Int.reduceLE, Int.reduceLT, Int.reduceEq, Int.reduceNe, Int.reduceAdd, Int.reduceSub, Int.reduceMul, Int.reduceNeg, Nat.reduceBEq, show regOf Try.f9 0 = Code.region _ _ _ from rfl, show regOf Try.f9 1 = Code.region _ _ _ from rfl, show regOf Try.f9 3 = Code.region _ _ _ from rfl, show regOf Try.f9 4 = Code.region _ _ _ from rfl, show regOf Try.f9 5 = Code.region _ _ _ from rfl, show regOf Try.f9 6 = Code.region _ _ _ from rfl, show regOf Try.f9 27 = Code.region _ _ _ from rfl, show regOf Try.f9 29 = Code.region _ _ _ from rfl, abuild_struct _ _ tplaces_61, abuild_struct _ _ tplaces_46, List.length_map, cn, e, cd, q, cs, ca, hf, e0, List.isEmpty_nil]
          rw [pureRes_solid rfl]
        | cons c r =>
          have e0 : ¬ txt (c :: r) = ⟨#[]⟩ := by rw [txt_nil_iff]; simp
          simp (implicitDefEqProofs := false) (disch := omega) only [go_sem, Nat.reduceAdd, Nat.reduceSub, Nat.reduceMul, Nat.reduceLT, Nat.reduceLeDiff, Nat.reduceEqDiff, List.drop_zero, List.take_succ_cons, List.take_zero, List.drop_succ_cons, Bool.and_true, Bool.true_and, Bool.and_false, Bool.false_and, BitVec.reduceOfInt, Nat.zero_add, Nat.mul_one, Nat.add_zero, Int.zero_add, Int.reduceToNat, Nat.reducePow, ↓reduceIte, reduceCtorEq, Int.reduceLE, Int.reduceLT, Int.reduceEq, Int.reduceNe, Int.reduceAdd, Int.reduceSub, Int.reduceMul, Int.reduceNeg, Nat.reduceBEq, show regOf Try.f9 0 = Code.region _ _ _ from rfl, show regOf Try.f9 1 = Code.region _ _ _ from rfl, show regOf Try.f9 3 = Code.region _ _ _ from rfl, show regOf Try.f9 4 = Code.region _ _ _ from rfl, show regOf Try.f9 5 = Code.region _ _ _ from rfl, show regOf Try.f9 6 = Code.region _ _ _ from rfl, show regOf Try.f9 27 = Code.region _ _ _ from rfl, show regOf Try.f9 29 = Code.region _ _ _ from rfl, abuild_struct _ _ tplaces_61, abuild_struct _ _ tplaces_46, List.length_map, cn, e, cd, q, ca, e0, List.isEmpty_cons]
          rw [pureRes_solid rfl]
    · simp (implicitDefEqProofs := false) (disch := omega) only [go_sem, Nat.reduceAdd, Nat.reduceSub, Nat.reduceMul, Nat.reduceLT, Nat.reduceLeDiff, Nat.reduceEqDiff, List.drop_zero, List.take_succ_cons, List.take_zero, List.drop_succ_cons, Bool.and_true, Bool.true_and, Bool.and_false, Bool.false_and, BitVec.reduceOfInt, Nat.zero_add, Nat.mul_one, Nat.add_zero, Int.zero_add, Int.reduceToNat, Nat.reducePow, ↓reduceIte, reduceCtorEq, Int.reduceLE, Int.reduceLT, Int.reduceEq, Int.reduceNe, Int.reduceAdd, Int.reduceSub, Int.reduceMul, Int.reduceNeg, Nat.reduceBEq, show regOf Try.f9 0 = Code.region _ _ _ from rfl, show regOf Try.f9 1 = Code.region _ _ _ from rfl, show regOf Try.f9 2 = Code.region _ _ _ from rfl, ca, List.length_map]
      rw [pureRes_solid rfl]
  · simp (implicitDefEqProofs := false) (disch := omega) only [go_sem, Nat.reduceAdd, Nat.reduceSub, Nat.reduceMul, Nat.reduceLT, Nat.reduceLeDiff, Nat.reduceEqDiff, List.drop_zero, List.take_succ_cons, List.take_zero, List.drop_succ_cons, Bool.and_true, Bool.true_and, Bool.and_false, Bool.false_and, BitVec.reduceOfInt, Nat.zero_add, Nat.mul_one, Nat.add_zero, Int.zero_add, Int.reduceToNat, Nat.reducePow, ↓reduceIte, reduceCtorEq, Int.reduceLE, Int.reduceLT, Int.reduceEq, Int.reduceNe, Int.reduceAdd, Int.reduceSub, Int.reduceMul, Int.reduceNeg, Nat.reduceBEq, show regOf Try.f9 0 = Code.region _ _ _ from rfl, show regOf Try.f9 1 = Code.region _ _ _ from rfl, show regOf Try.f9 2 = Code.region _ _ _ from rfl, ca]
    rw [pureRes_solid rfl]
end Go.Proofs.Ytlpkfeplbcadbaa
