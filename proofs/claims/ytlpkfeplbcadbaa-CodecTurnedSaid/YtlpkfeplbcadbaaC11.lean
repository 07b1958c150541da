/- CodecTurned, by rounds: the walk. -/
import Derived.Test.YtlpkfeplbcadbaaC8
namespace Go.Proofs.Ytlpkfeplbcadbaa
open Go Go.Ab Go.Proofs
set_option maxRecDepth 100000
set_option linter.unusedSimpArgs false
theorem remS64 {P : Program} (t : TypeId) (a b : Int) (h0 : b ≠ 0) : abin P .rem t (.val (.int .i64 a)) (.val (.int .i64 b)) = some (.val (.int .i64 (a.tmod b))) := abin_rem _ _ _ _ h0
theorem sum1 (s : ByteArray) (h : AHeap) (hs : s.size < 2 ^ 62) : doCall md (aval Try.prog md fg) 13 [.slc true [.val (.string s)]] h = some (v32 (sumR s.data.toList), h) := by
  refine doCall_look md13 (as' := [.slc false ([s].map .str)]) (ids := []) ?_ rfl ((sum_p [s] (by show 1 < 2 ^ 62; decide) (fun x hx => by rw [List.mem_singleton.1 hx]; exact hs)).trans ?_) rfl
  · simp only [expL, expDepth, exp1_slc (h := h) (d := 3) (b := true) (es := [.val (.string s)]) rfl]
    rfl
  · rw [sumT_eq]; simp [catL]
theorem alive_c (h : AHeap) : doCall md (aval Try.prog md fg) 12 [] h = some (.val (.bool true), h) := doCall_pure md12 rfl alive
def turn1 (l : List UInt8) (p : Nat) (c : UInt8) : List UInt8 := match l[p]? with | some x => l.set p (x ^^^ c) | none => l
theorem tu_round (s : ByteArray) (l cs : List UInt8) (p k : Nat) (t : Bool) (c : UInt8) (hc : cs[k]? = some c) (hk : k < cs.length) (h4 : cs.length ≤ 4) (hp : p < 3000) (hl : l.length < 3000) :
    lrun Try.prog md fg (fg 4) (loopOf Try.f4 0) (fg 4 1) ([.str s, .int p, .unk, .unk, .unk, .unk, .unk, .arr 0 0 l.length 0 1, .bool t, .unk, .unk, .unk, .unk, .unk, .unk, .unk, .unk, .unk, .unk, .unk, .unk, .unk, .unk, .unk, .unk, .unk, .unk, .unk, .unk, .unk, .unk, .unk, .unk, .unk, .unk, .unk, .unk, .slc false (cs.map byteVal), .int cs.length, .int k, .unk, .unk, .unk, .unk, .unk, .unk, .unk, .unk, .unk, .unk, .unk, .unk, .unk, .unk, .unk, .unk, .unk, .unk, .unk, .unk, .unk, .unk, .unk, .unk, .unk, .unk, .unk, .unk, .unk, .unk, .unk, .unk, .unk, .unk, .unk, .unk, .unk, .unk, .unk, .unk, .unk, .unk]) [.arr 1 (l.map byteVal) 0] = lrun Try.prog md fg (fg 4) (loopOf Try.f4 0) (fg 4 1) ([.str s, .int p, .unk, .unk, .unk, .unk, .unk, .arr 0 0 (turn1 l (p + k) c).length 0 1, .bool (t || (decide (p + k < l.length) && c != 0)), .unk, .unk, .unk, .unk, .unk, .unk, .unk, .unk, .unk, .unk, .unk, .unk, .unk, .unk, .unk, .unk, .unk, .unk, .unk, .unk, .unk, .unk, .unk, .unk, .unk, .unk, .unk, .unk, .slc false (cs.map byteVal), .int cs.length, .int ((k + 1 : Nat) : Int), .unk, .unk, .unk, .unk, .unk, .unk, .unk, .unk, .unk, .unk, .unk, .unk, .unk, .unk, .unk, .unk, .unk, .unk, .unk, .unk, .unk, .unk, .unk, .unk, .unk, .unk, .unk, .unk, .unk, .unk, .unk, .unk, .unk, .unk, .unk, .unk, .unk, .unk, .unk, .unk, .unk, .unk]) [.arr 1 ((turn1 l (p + k) c).map byteVal) 0] := by
  rw [lrun_atC loop4_0]
  have hk2 : ((p : Int) + (k : Int)).toNat = p + k := by omega
  by_cases h : p + k < l.length
  · have e1 : turn1 l (p + k) c = l.set (p + k) (l[p + k] ^^^ c) := by unfold turn1; rw [List.getElem?_eq_getElem h]
    have e2 : l[p + k]? = some l[p + k] := List.getElem?_eq_getElem h
    have hs : septr true 1 (v8 (l[p + k].toBitVec ^^^ c.toBitVec)) 0 1 (p + k) 0 [.arr 1 (l.map byteVal) 0] 0 (.arr 1 (l.map byteVal) 0) = some [.arr 1 ((l.map byteVal).set (p + k) (v8 (l[p + k].toBitVec ^^^ c.toBitVec))) 0] :=
      septr_cell (e := byteVal l[p + k]) _ _ _ _ _ _ (by rw [List.getElem?_map, e2]; rfl) rfl rfl
    have e3 : (l.map byteVal).set (p + k) (v8 (l[p + k].toBitVec ^^^ c.toBitVec)) = (turn1 l (p + k) c).map byteVal := by
      rw [e1, List.map_set]; rfl
    rw [e3] at hs
    have e4 : (turn1 l (p + k) c).length = l.length := by rw [e1, List.length_set]
    have e5 : (c != 0) = ((c.toBitVec.toNat : Int) != 0) := by
      show (c != 0) = !((c.toBitVec.toNat : Int) == 0)
      rw [Bool.eq_iff_iff]
      simp only [bne_iff_ne, ne_eq, Bool.not_eq_true', beq_eq_false_iff_ne]
      constructor
      · intro h1 h2; exact h1 (UInt8.toNat_inj.1 (by show c.toBitVec.toNat = 0; omega))
      · intro h1 h2; rw [h2] at h1; exact h1 rfl
    rw [e4]
    cases t with
    | true =>
      simp (implicitDefEqProofs := false) (disch := omega) only [go_sem, Nat.reduceAdd, Nat.reduceSub, Nat.reduceMul, Nat.reduceLT, Nat.reduceLeDiff, Nat.reduceEqDiff, List.drop_zero, List.take_succ_cons, List.take_zero, List.drop_succ_cons, Bool.and_true, Bool.true_and, Bool.and_false, Bool.false_and, BitVec.reduceOfInt, Nat.zero_add, Nat.mul_one, Nat.add_zero, Int.zero_add, Int.reduceToNat, Nat.reducePow, ↓reduceIte, reduceCtorEq, Int.reduceLE, Int.reduceLT, Int.reduceEq, Int.reduceNe, Int.reduceAdd, Int.reduceSub, Int.reduceMul, Int.reduceNeg, Nat.reduceBEq, show regOf Try.f4 7 = Code.region _ _ _ from rfl, show regOf Try.f4 8 = Code.region _ _ _ from rfl, show regOf Try.f4 9 = Code.region _ _ _ from rfl, show regOf Try.f4 10 = Code.region _ _ _ from rfl, show regOf Try.f4 11 = Code.region _ _ _ from rfl, show regOf Try.f4 12 = Code.region _ _ _ from rfl, List.getElem?_map, List.length_map, hc, hk2, e2, hs, Bool.true_or]
      all_goals (congr 1 <;> simp only [List.cons.injEq, AV.val.injEq, Value.int.injEq, Value.bool.injEq, true_and, and_true] <;> omega)
    | false =>
      simp (implicitDefEqProofs := false) (disch := omega) only [go_sem, Nat.reduceAdd, Nat.reduceSub, Nat.reduceMul, Nat.reduceLT, Nat.reduceLeDiff, Nat.reduceEqDiff, List.drop_zero, List.take_succ_cons, List.take_zero, List.drop_succ_cons, Bool.and_true, Bool.true_and, Bool.and_false, Bool.false_and, BitVec.reduceOfInt, Nat.zero_add, Nat.mul_one, Nat.add_zero, Int.zero_add, Int.reduceToNat, Nat.reducePow, ↓reduceIte, reduceCtorEq, Int.reduceLE, Int.reduceLT, Int.reduceEq, Int.reduceNe, Int.reduceAdd, Int.reduceSub, Int.reduceMul, Int.reduceNeg, Nat.reduceBEq, show regOf Try.f4 7 = Code.region _ _ _ from rfl, show regOf Try.f4 8 = Code.region _ _ _ from rfl, show regOf Try.f4 9 = Code.region _ _ _ from rfl, show regOf Try.f4 10 = Code.region _ _ _ from rfl, show regOf Try.f4 11 = Code.region _ _ _ from rfl, show regOf Try.f4 12 = Code.region _ _ _ from rfl, List.getElem?_map, List.length_map, hc, hk2, e2, hs, Bool.false_or, e5]
      all_goals (congr 1 <;> simp only [List.cons.injEq, AV.val.injEq, Value.int.injEq, Value.bool.injEq, true_and, and_true] <;> omega)
  · have e1 : turn1 l (p + k) c = l := by unfold turn1; rw [List.getElem?_eq_none (by omega)]
    rw [e1]
    simp (implicitDefEqProofs := false) (disch := omega) only [go_sem, Nat.reduceAdd, Nat.reduceSub, Nat.reduceMul, Nat.reduceLT, Nat.reduceLeDiff, Nat.reduceEqDiff, List.drop_zero, List.take_succ_cons, List.take_zero, List.drop_succ_cons, Bool.and_true, Bool.true_and, Bool.and_false, Bool.false_and, BitVec.reduceOfInt, Nat.zero_add, Nat.mul_one, Nat.add_zero, Int.zero_add, Int.reduceToNat, Nat.reducePow, ↓reduceIte, reduceCtorEq, Int.reduceLE, Int.reduceLT, Int.reduceEq, Int.reduceNe, Int.reduceAdd, Int.reduceSub, Int.reduceMul, Int.reduceNeg, Nat.reduceBEq, show regOf Try.f4 7 = Code.region _ _ _ from rfl, show regOf Try.f4 8 = Code.region _ _ _ from rfl, show regOf Try.f4 9 = Code.region _ _ _ from rfl, show regOf Try.f4 10 = Code.region _ _ _ from rfl, show regOf Try.f4 11 = Code.region _ _ _ from rfl, show regOf Try.f4 12 = Code.region _ _ _ from rfl, List.getElem?_map, List.length_map, hc, hk2, Bool.or_false]
    all_goals (congr 1 <;> simp only [List.cons.injEq, AV.val.injEq, Value.int.injEq, Value.bool.injEq, true_and, and_true] <;> omega)
theorem tu_end (s : ByteArray) (l cs : List UInt8) (p : Nat) (t : Bool) :
    lrun Try.prog md fg (fg 4) (loopOf Try.f4 0) (fg 4 1) ([.str s, .int p, .unk, .unk, .unk, .unk, .unk, .arr 0 0 l.length 0 1, .bool t, .unk, .unk, .unk, .unk, .unk, .unk, .unk, .unk, .unk, .unk, .unk, .unk, .unk, .unk, .unk, .unk, .unk, .unk, .unk, .unk, .unk, .unk, .unk, .unk, .unk, .unk, .unk, .unk, .slc false (cs.map byteVal), .int cs.length, .int cs.length, .unk, .unk, .unk, .unk, .unk, .unk, .unk, .unk, .unk, .unk, .unk, .unk, .unk, .unk, .unk, .unk, .unk, .unk, .unk, .unk, .unk, .unk, .unk, .unk, .unk, .unk, .unk, .unk, .unk, .unk, .unk, .unk, .unk, .unk, .unk, .unk, .unk, .unk, .unk, .unk, .unk, .unk]) [.arr 1 (l.map byteVal) 0] = some (.exit 0, [.str s, .int p, .unk, .unk, .unk, .unk, .unk, .arr 0 0 l.length 0 1, .bool t, .unk, .unk, .unk, .unk, .unk, .unk, .unk, .unk, .unk, .unk, .unk, .unk, .unk, .unk, .unk, .unk, .unk, .unk, .unk, .unk, .unk, .unk, .unk, .unk, .unk, .unk, .unk, .unk, .slc false (cs.map byteVal), .int cs.length, .int cs.length, .unk, .unk, .unk, .unk, .unk, .unk, .unk, .unk, .unk, .unk, .unk, .unk, .unk, .unk, .unk, .unk, .unk, .unk, .unk, .unk, .unk, .unk, .unk, .unk, .unk, .unk, .unk, .unk, .unk, .unk, .unk, .unk, .unk, .unk, .unk, .unk, .unk, .unk, .unk, .unk, .unk, .unk], [.arr 1 (l.map byteVal) 0]) := by
  rw [lrun_atC loop4_0]
  simp (implicitDefEqProofs := false) (disch := omega) only [go_sem, Nat.reduceAdd, Nat.reduceSub, Nat.reduceMul, Nat.reduceLT, Nat.reduceLeDiff, Nat.reduceEqDiff, List.drop_zero, List.take_succ_cons, List.take_zero, List.drop_succ_cons, Bool.and_true, Bool.true_and, Bool.and_false, Bool.false_and, BitVec.reduceOfInt, Nat.zero_add, Nat.mul_one, Nat.add_zero, Int.zero_add, Int.reduceToNat, Nat.reducePow, ↓reduceIte, reduceCtorEq, Int.reduceLE, Int.reduceLT, Int.reduceEq, Int.reduceNe, Int.reduceAdd, Int.reduceSub, Int.reduceMul, Int.reduceNeg, Nat.reduceBEq, show regOf Try.f4 7 = Code.region _ _ _ from rfl, show regOf Try.f4 8 = Code.region _ _ _ from rfl, show regOf Try.f4 9 = Code.region _ _ _ from rfl, show regOf Try.f4 10 = Code.region _ _ _ from rfl, show regOf Try.f4 11 = Code.region _ _ _ from rfl, show regOf Try.f4 12 = Code.region _ _ _ from rfl]
theorem turn1_length (l : List UInt8) (p : Nat) (c : UInt8) : (turn1 l p c).length = l.length := by
  unfold turn1; split <;> simp
theorem tu_loop (s : ByteArray) (cs : List UInt8) (p : Nat) (h4 : cs.length ≤ 4) (hp : p < 3000) : ∀ (m k : Nat) (l : List UInt8) (t : Bool), k + m = cs.length → l.length < 3000 →
    lrun Try.prog md fg (fg 4) (loopOf Try.f4 0) (fg 4 1) ([.str s, .int p, .unk, .unk, .unk, .unk, .unk, .arr 0 0 l.length 0 1, .bool t, .unk, .unk, .unk, .unk, .unk, .unk, .unk, .unk, .unk, .unk, .unk, .unk, .unk, .unk, .unk, .unk, .unk, .unk, .unk, .unk, .unk, .unk, .unk, .unk, .unk, .unk, .unk, .unk, .slc false (cs.map byteVal), .int cs.length, .int k, .unk, .unk, .unk, .unk, .unk, .unk, .unk, .unk, .unk, .unk, .unk, .unk, .unk, .unk, .unk, .unk, .unk, .unk, .unk, .unk, .unk, .unk, .unk, .unk, .unk, .unk, .unk, .unk, .unk, .unk, .unk, .unk, .unk, .unk, .unk, .unk, .unk, .unk, .unk, .unk, .unk, .unk]) [.arr 1 (l.map byteVal) 0] = some (.exit 0, [.str s, .int p, .unk, .unk, .unk, .unk, .unk, .arr 0 0 (turnL l (p + k) (cs.drop k)).length 0 1, .bool (t || turnB l.length (p + k) (cs.drop k)), .unk, .unk, .unk, .unk, .unk, .unk, .unk, .unk, .unk, .unk, .unk, .unk, .unk, .unk, .unk, .unk, .unk, .unk, .unk, .unk, .unk, .unk, .unk, .unk, .unk, .unk, .unk, .unk, .slc false (cs.map byteVal), .int cs.length, .int cs.length, .unk, .unk, .unk, .unk, .unk, .unk, .unk, .unk, .unk, .unk, .unk, .unk, .unk, .unk, .unk, .unk, .unk, .unk, .unk, .unk, .unk, .unk, .unk, .unk, .unk, .unk, .unk, .unk, .unk, .unk, .unk, .unk, .unk, .unk, .unk, .unk, .unk, .unk, .unk, .unk, .unk, .unk], [.arr 1 ((turnL l (p + k) (cs.drop k)).map byteVal) 0])
  | 0, k, l, t, hm, hl => by
    obtain rfl : k = cs.length := by omega
    rw [tu_end, List.drop_length]
    simp only [turnL, turnB, Bool.or_false]
  | m + 1, k, l, t, hm, hl => by
    have hk : k < cs.length := by omega
    rw [tu_round s l cs p k t cs[k] (List.getElem?_eq_getElem hk) hk h4 hp hl, tu_loop s cs p h4 hp m (k + 1) _ _ (by omega) (by rw [turn1_length]; exact hl), List.drop_eq_getElem_cons hk, turn1_length]
    have e : ∀ l : List UInt8, turnL l (p + k) (cs[k] :: cs.drop (k + 1)) = turnL (turn1 l (p + k) cs[k]) (p + (k + 1)) (cs.drop (k + 1)) := fun _ => rfl
    have e2 : turnB l.length (p + k) (cs[k] :: cs.drop (k + 1)) = ((decide (p + k < l.length) && cs[k] != 0) || turnB l.length (p + (k + 1)) (cs.drop (k + 1))) := rfl
    rw [e, e2, Bool.or_assoc]
theorem turnL_length : ∀ (cs l : List UInt8) (p : Nat), (turnL l p cs).length = l.length
  | [], _, _ => rfl
  | c :: r, l, p => by
    show (turnL (turn1 l p c) (p + 1) r).length = _
    rw [turnL_length r, turn1_length]
theorem codecTurned (s : ByteArray) (x : Int) (cs : List UInt8) (x1 : -9223372036854775808 ≤ x) (x2 : x ≤ 9223372036854775807) : pcall Try.prog md fg 4 [.val (.string s), .int x, .slc false (cs.map byteVal)] = some (.bool true) := by
  obtain ⟨l, rfl⟩ := txt_of s
  have hz := txt_size l
  have ca := alive_c []
  rw [pcall_eq]
  rw [aval_of Try.func4 body4 Try.results4 Try.ntmps4 ok4]
  by_cases h1 : l.length ≤ 2000
  · by_cases h2 : l.length = 0
    · simp (implicitDefEqProofs := false) (disch := omega) only [go_sem, Nat.reduceAdd, Nat.reduceSub, Nat.reduceMul, Nat.reduceLT, Nat.reduceLeDiff, Nat.reduceEqDiff, List.drop_zero, List.take_succ_cons, List.take_zero, List.drop_succ_cons, Bool.and_true, Bool.true_and, Bool.and_false, Bool.false_and, BitVec.reduceOfInt, Nat.zero_add, Nat.mul_one, Nat.add_zero, Int.zero_add, Int.reduceToNat, Nat.reducePow, ↓reduceIte, reduceCtorEq, Int.reduceLE, Int.reduceLT, Int.reduceEq, Int.reduceNe, Int.reduceAdd, Int.reduceSub, Int.reduceMul, Int.reduceNeg, Nat.reduceBEq, show regOf Try.f4 0 = Code.region _ _ _ from rfl, show regOf Try.f4 1 = Code.region _ _ _ from rfl, show regOf Try.f4 2 = Code.region _ _ _ from rfl, ca, List.length_map]
      rw [pureRes_solid rfl]
    · by_cases h3 : cs.length ≤ 4
      · have hn : ((l.length : Nat) : Int) ≠ 0 := by omega
        obtain ⟨r, hr⟩ : ∃ r, x.tmod (l.length : Int) = r := ⟨_, rfl⟩
        have r1 : -(l.length : Int) < r := by rw [← hr]; have := Int.lt_tmod_of_pos x (b := (l.length : Int)) (by omega); omega
        have r2 : r < (l.length : Int) := by rw [← hr]; exact Int.tmod_lt_of_pos x (by omega)
        obtain ⟨p, hp⟩ : ∃ p : Nat, (r + (l.length : Int)).tmod (l.length : Int) = (p : Int) := ⟨((r + (l.length : Int)).tmod (l.length : Int)).toNat, by
          have := Int.tmod_nonneg (l.length : Int) (a := r + (l.length : Int)) (by omega); omega⟩
        have p2 : (p : Int) < (l.length : Int) := by rw [← hp]; exact Int.tmod_lt_of_pos _ (by omega)
        have e := tu_loop (txt l) cs p h3 (by omega) cs.length 0 l false (by omega) (by omega)
        simp only [List.drop_zero, Nat.add_zero, Bool.false_or, Int.natCast_zero] at e
        have hv : sview [.arr 1 ((turnL l p cs).map byteVal) 0] (.arr 0 0 (turnL l p cs).length 0 1) = some ((turnL l p cs).map byteVal) := sview_arr _ _ _ _ _ rfl (by simp)
        have c1 := sum1 (⟨(turnL l p cs).toArray⟩ : ByteArray) [.arr 1 ((turnL l p cs).map byteVal) 0] (by show (txt (turnL l p cs)).size < _; rw [txt_size, turnL_length]; omega)
        have c2 := sum1 (txt l) [.arr 1 ((turnL l p cs).map byteVal) 0] (by omega)
        have ca2 := alive_c [.arr 1 ((turnL l p cs).map byteVal) 0]
        have e1 : (⟨(turnL l p cs).toArray⟩ : ByteArray).data.toList = turnL l p cs := txt_list _
        rw [e1] at c1
        rw [txt_list] at c2
        have ht0 := turned l cs p (by omega) h3
        have ht : (((sumR (turnL l p cs)).toNat : Int) != ((sumR l).toNat : Int)) = turnB l.length p cs := by
          rw [← ht0, Bool.eq_iff_iff]
          simp only [bne_iff_ne, ne_eq, Bool.not_eq_true', decide_eq_false_iff_not]
          constructor
          · intro h1 h2; exact h1 (by rw [h2])
          · intro h1 h2; exact h1 (BitVec.eq_of_toNat_eq (by omega))
        simp (implicitDefEqProofs := false) (disch := omega) only [go_sem, Nat.reduceAdd, Nat.reduceSub, Nat.reduceMul, Nat.reduceLT, Nat.reduceLeDiff, Nat.reduceEqDiff, List.drop_zero, List.take_succ_cons, List.take_zero, List.drop_succ_cons, Bool.and_true, Bool.true_and, Bool.and_false, Bool.false_and, BitVec.reduceOfInt, Nat.zero_add, Nat.mul_one, Nat.add_zero, Int.zero_add, Int.reduceToNat, Nat.reducePow, ↓reduceIte, reduceCtorEq, Int.reduceLE, Int.reduceLT, Int.reduceEq, Int.reduceNe, Int.reduceAdd, Int.reduceSub, Int.reduceMul, Int.reduceNeg, Nat.reduceBEq, show regOf Try.f4 0 = Code.region _ _ _ from rfl, show regOf Try.f4 1 = Code.region _ _ _ from rfl, show regOf Try.f4 2 = Code.region _ _ _ from rfl, show regOf Try.f4 3 = Code.region _ _ _ from rfl, show regOf Try.f4 4 = Code.region _ _ _ from rfl, show regOf Try.f4 5 = Code.region _ _ _ from rfl, show regOf Try.f4 6 = Code.region _ _ _ from rfl, show regOf Try.f4 7 = Code.region _ _ _ from rfl, show regOf Try.f4 8 = Code.region _ _ _ from rfl, show regOf Try.f4 9 = Code.region _ _ _ from rfl, show regOf Try.f4 10 = Code.region _ _ _ from rfl, show regOf Try.f4 11 = Code.region _ _ _ from rfl, show regOf Try.f4 12 = Code.region _ _ _ from rfl, show regOf Try.f4 13 = Code.region _ _ _ from rfl, ca, ca2, List.length_map, txt_list, txt_size, remS64, hr, hp, e, hv, c1, c2, ht]
        rw [pureRes_solid rfl]
      · simp (implicitDefEqProofs := false) (disch := omega) only [go_sem, Nat.reduceAdd, Nat.reduceSub, Nat.reduceMul, Nat.reduceLT, Nat.reduceLeDiff, Nat.reduceEqDiff, List.drop_zero, List.take_succ_cons, List.take_zero, List.drop_succ_cons, Bool.and_true, Bool.true_and, Bool.and_false, Bool.false_and, BitVec.reduceOfInt, Nat.zero_add, Nat.mul_one, Nat.add_zero, Int.zero_add, Int.reduceToNat, Nat.reducePow, ↓reduceIte, reduceCtorEq, Int.reduceLE, Int.reduceLT, Int.reduceEq, Int.reduceNe, Int.reduceAdd, Int.reduceSub, Int.reduceMul, Int.reduceNeg, Nat.reduceBEq, show regOf Try.f4 0 = Code.region _ _ _ from rfl, show regOf Try.f4 1 = Code.region _ _ _ from rfl, show regOf Try.f4 2 = Code.region _ _ _ from rfl, ca, List.length_map]
        rw [pureRes_solid rfl]
  · simp (implicitDefEqProofs := false) (disch := omega) only [go_sem, Nat.reduceAdd, Nat.reduceSub, Nat.reduceMul, Nat.reduceLT, Nat.reduceLeDiff, Nat.reduceEqDiff, List.drop_zero, List.take_succ_cons, List.take_zero, List.drop_succ_cons, Bool.and_true, Bool.true_and, Bool.and_false, Bool.false_and, BitVec.reduceOfInt, Nat.zero_add, Nat.mul_one, Nat.add_zero, Int.zero_add, Int.reduceToNat, Nat.reducePow, ↓reduceIte, reduceCtorEq, Int.reduceLE, Int.reduceLT, Int.reduceEq, Int.reduceNe, Int.reduceAdd, Int.reduceSub, Int.reduceMul, Int.reduceNeg, Nat.reduceBEq, show regOf Try.f4 0 = Code.region _ _ _ from rfl, show regOf Try.f4 1 = Code.region _ _ _ from rfl, show regOf Try.f4 2 = Code.region _ _ _ from rfl, ca]
    rw [pureRes_solid rfl]
end Go.Proofs.Ytlpkfeplbcadbaa
